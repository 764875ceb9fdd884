import Derived.Test.YtjgmccbjffncaaaDoorPLexZc
import Derived.Test.YtjgmccbjffncaaaDoorMiniYOtoYS
import Derived.Test.YtjgmccbjffncaaaDoorPatBtoPatC
set_option maxHeartbeats 8000000
set_option maxRecDepth 100000
set_option linter.unusedSimpArgs false
namespace Go.Mini
open Nat (reduceLT reduceEqDiff)
open Go.Proofs Tryd
def setRow (s : List Int) : AObj := .row { vs := s.map (Value.int .u64), elem := 105 }
theorem agg103 : Program.agg prog 103 = some false := by kernel_rfl
theorem sz103 : (prog.info? 103).map (·.size) = some 1 := by kernel_rfl
theorem agg105 : Program.agg prog 105 = some true := by kernel_rfl
theorem sz105 : (prog.info? 105).map (·.size) = some 4 := by kernel_rfl
theorem alloc105 (h : Heap) : aalloc prog h 105 = some (h.new, h.alloc (setRow [0, 0, 0, 0])) := aalloc_eq (z := .agg #[.int .u64 0, .int .u64 0, .int .u64 0, .int .u64 0]) (by kernel_rfl) rfl
theorem set_at {j k : Nat} (hk : k < 4) (kd : IntKind) : aindexAddr prog 105 (.pointer (some ⟨j, 0, none⟩)) (.int kd (k : Nat)) = some (.pointer (some ⟨j, k, none⟩)) := by
 rw [aindexAddr_array underlying105 sz103 (by omega) (by omega)]
 simp
theorem set_ld {H : Heap} {j k : Nat} {s : List Int} (g : H.get j = some (setRow s)) (hs : s.length = 4) (hk : k < 4) : ∃ z, H.ld j k = some (.int .u64 z) :=
 ⟨s[k]'(by omega), Heap.lf g (by simp [List.getElem?_eq_getElem (show k < s.length by omega)])⟩
theorem set_put {H : Heap} {j k : Nat} {s : List Int} (g : H.get j = some (setRow s)) (hs : s.length = 4) (hk : k < 4) (z : Int) :
  ∃ s', astore prog H 103 (.pointer (some ⟨j, k, none⟩)) (.int .u64 z) = some (H.set j (setRow s')) ∧ s'.length = 4 := by
 refine ⟨s.set k z, ?_, by simp [hs]⟩
 rw [astore_cell sz103 rfl, Heap.sts_of g (by simp; omega) rfl rfl]
 unfold setRow
 have : splice (s.map (Value.int .u64)) k [Value.int .u64 z] = (s.set k z).map (Value.int .u64) := by
  unfold splice
  rw [List.map_set, List.set_eq_take_append_cons_drop, if_pos (by simp; omega)]
  simp
 simp only [this]
theorem set_all {H : Heap} {j : Nat} {s : List Int} (g : H.get j = some (setRow s)) (hs : s.length = 4) : ∃ s0 s1 s2 s3 : Int, aload prog H 105 (.pointer (some ⟨j, 0, none⟩)) = some (.agg #[.int .u64 s0, .int .u64 s1, .int .u64 s2, .int .u64 s3]) := by
 match s, hs with
 | [a, b, c, d], _ =>
  refine ⟨a, b, c, d, ?_⟩
  rw [aload_agg agg105 sz105, Heap.lds_of g (by simp)]
  rfl
structure Cls (h H : Heap) (i : Nat) (T : List UInt8) (a : Nat) : Prop where
 r : H.get i = some (regRow T a)
 n : H.get h.next = some (nodeRow zeroCells)
 s : ∃ s, H.get (h.next + 1) = some (setRow s) ∧ s.length = 4
 nx : H.next = h.next + 2
 lt : i < h.next
 but : h.but i H
theorem Cls.at {h H : Heap} {i : Nat} {T : List UInt8} {a : Nat} (c : Cls h H i T a) (b : Nat) : Cls h (regAt H i T b) i T b where
 r := regAt_get c.r b
 n := by unfold regAt; rw [Heap.gs (by have := c.lt; omega)]; exact c.n
 s := by obtain ⟨s, h1, h2⟩ := c.s; exact ⟨s, by unfold regAt; rw [Heap.gs (by have := c.lt; omega)]; exact h1, h2⟩
 nx := by unfold regAt; simpa using c.nx
 lt := c.lt
 but := but_set_at c.but _
theorem Cls.set {h H : Heap} {i : Nat} {T : List UInt8} {a : Nat} (c : Cls h H i T a) {s : List Int} (hs : s.length = 4) : Cls h (H.set (h.next + 1) (setRow s)) i T a where
 r := by rw [Heap.gs (by have := c.lt; omega)]; exact c.r
 n := by rw [Heap.gs (by omega)]; exact c.n
 s := by obtain ⟨s0, h1, _⟩ := c.s; exact ⟨s, Heap.gf h1, hs⟩
 nx := by simpa using c.nx
 lt := c.lt
 but := but_set_new c.but (by omega) _
theorem conv53' (n : Int) (h0 : 0 ≤ n) (h1 : n < 256) : aconv prog 5 3 (.int .u8 n) = some (.int .i64 n) := by
 have : aconv prog 5 3 (.int .u8 n) = some (.int .i64 (IntKind.i64.wrap n)) := by unfold aconv; rw [underlying3, underlying5]
 rw [this, wrap_in (by omega) (by omega)]
def NodeR (h : Heap) (i : Nat) (T : List UInt8) (R : Except Nat Nat) (r : Ending) (h' : Heap) : Prop := match R with
 | .ok b => ∃ nv, r = .returned nv ∧ NodeOk h'.next nv ∧ h.but i h' ∧ h'.get i = some (regRow T b)
 | .error p => r = .panicked (wrongP 125 p) ∧ h.but i h'
theorem u8_eq (c : UInt8) (n : Nat) (hn : n < 256) : ((c.toNat : Int) == (n : Int)) = decide (c = n.toUInt8) := by
 rw [Bool.eq_iff_iff, beq_iff_eq, decide_eq_true_iff, byte_eq c n hn]
 omega
theorem class_does {E : EXT} (G : Nat) (h : Heap) (i : Nat) (T : List UInt8) (a : Nat) (hg : h.get i = some (regRow T a)) (hT : T.length ≤ 100000) (ha : a ≤ T.length) :
  Does prog G E 100 [.pointer (some ⟨i, 0, none⟩)] h (NodeR h i T (classS T a)) := by
 have c65 : canEnter prog 65 = true := by kernel_rfl
 have c102 : canEnter prog 102 = true := by kernel_rfl
 have hi := Heap.lg hg
 refine Does.body func100 rfl ?_
 have hn : enterF Tryd.f100 [.pointer (some ⟨i, 0, none⟩)] = ⟨112, [(0, .pointer (some ⟨i, 0, none⟩))], []⟩ := rfl
 rw [hn]; clear hn
 repeat apply Wq
 refine Wp.r @alloc108' ?_
 repeat apply Wq
 refine Wp.r @alloc105 ?_
 dsimp only [after, leaving]
 have st : Cls h ((h.alloc (nodeRow zeroCells)).alloc (setRow [0, 0, 0, 0])) i T a := {
  r := by rw [Heap.go _ _ (by simp; omega), Heap.go _ _ hi]; exact hg
  n := by rw [Heap.go _ _ (by simp)]; exact Heap.gn _ _
  s := ⟨_, Heap.gn _ _, rfl⟩
  nx := rfl
  lt := hi
  but := but_alloc (but_alloc ((Heap.mr h).but i) _) _ }
 try simp only [Heap.na]
 generalize (h.alloc (nodeRow zeroCells)).alloc (setRow [0, 0, 0, 0]) = H0 at st ⊢
 repeat apply Wq
 refine Wp.rS ?_
 repeat apply Wq
 refine Wp.regionAs (is := List.range' 0 1 ++ (1 :: (List.range' 2 5 ++ []))) rfl ?_
 refine WpO.rS 1 ?_
 refine WpO.cR (nextR_does G H0 i T a st.r) c65 ?_
 rintro _ h9 ⟨rfl, hh9⟩
 obtain rfl := hh9.symm
 clear hh9
 refine pu ?_
 refine WpO.runS 5 (by simp only [bsd, bsg, reduceLT, reduceEqDiff, reduceCtorEq, nextV, List.getElem?_toArray] <;> exact rfl) (by decide) ?_
 refine WpO.nil ?_
 repeat apply Wq
 refine Wp.runS (by simp only [bsg, reduceLT, reduceEqDiff, reduceCtorEq, byteV, show ((((T[a]?).getD 0).toNat : Int) == 94) = decide ((T[a]?).getD 0 = 94) from u8_eq _ 94 (by omega)] <;> exact rfl) ?_
 repeat apply Wq
 refine Wp.cut (fun fr u h' => u = none ∧ Cls h h' i T (classFrom T a) ∧ ∃ o sl, fr = ⟨112, sl, []⟩ ∧ holds [(0, .pointer (some ⟨i, 0, none⟩)), (2, .pointer (some ⟨h.next, 0, none⟩)), (3, .pointer (some ⟨h.next + 1, 0, none⟩)), (4, .bool o)] sl) ?_ ?_
 rotate_left
 ·unfold classFrom
  by_cases h94 : (T[a]?).getD 0 = 94
  ·have h94' : T[a]? = some 94 := by
    cases hc : T[a]? with
    | none => rw [hc] at h94; exact absurd h94 (by decide)
    | some c => rw [hc] at h94; simpa using h94
   rw [decide_eq_true h94, if_pos h94']
   repeat apply Wq
   refine Wp.cT ?_
   repeat apply Wq
   refine Wp.rS ?_
   dsimp only [after, leaving]
   have l1 := Heap.lf st.r (k := 0 + 1) rfl
   repeat apply Wq
   refine Wp.r (Aq @g1 (Aq @lc3 (Aq l1 (Aq (wrapN (show a ≤ 1000000 by omega)) (reg_store st.r))))) ?_
   dsimp only [after, leaving]
   exact ⟨rfl, st.at (a + 1), true, _, rfl, rfl, rfl, rfl, rfl, trivial⟩
  ·rw [decide_eq_false h94, if_neg (fun q => h94 (by rw [q]; rfl))]
   repeat apply Wq
   refine Wp.cF ?_
   repeat apply Wq
   refine Wp.skip ?_
   dsimp only [after, leaving]
   exact ⟨rfl, st, false, _, rfl, rfl, rfl, rfl, rfl, trivial⟩
 rintro fr u H1 ⟨rfl, st1, oth, sl, rfl, hs1⟩
 refine Wp.weaken (Frm.le_of hs1) ?_
 clear hs1 sl st H0
 repeat apply Wq
 refine Wp.rS ?_
 dsimp only [after, leaving]
 have hfr : classFrom T a ≤ T.length := by
  unfold classFrom
  split
  ·rename_i q; have := (List.getElem?_eq_some_iff.1 q).1; omega
  ·exact ha
 unfold classS
 repeat apply Wq
 refine Wp.cut (fun fr u h' => u = none ∧ ∃ b, classL T (T.length + 1) true (classFrom T a) = .ok b ∧ Cls h h' i T b ∧ ∃ sl, fr = ⟨112, sl, []⟩ ∧ holds [(2, .pointer (some ⟨h.next, 0, none⟩)), (3, .pointer (some ⟨h.next + 1, 0, none⟩)), (4, .bool oth)] sl) ?_ ?_
 rotate_left
 ·repeat apply Wq
  refine Wp.block ?_
  refine Wp.loopI (X := Nat × Bool × Nat × Heap) (fun x => [(0, .pointer (some ⟨i, 0, none⟩)), (2, .pointer (some ⟨h.next, 0, none⟩)), (3, .pointer (some ⟨h.next + 1, 0, none⟩)), (4, .bool oth), (7, .bool x.2.1)]) (fun x => x.2.2.2)
   (fun x => classL T (T.length + 1) true (classFrom T a) = classL T x.1 x.2.1 x.2.2.1 ∧ x.2.2.1 ≤ T.length ∧ T.length - x.2.2.1 < x.1 ∧ Cls h x.2.2.2 i T x.2.2.1) (fun x => x.1) (T.length + 1, true, classFrom T a, H1) ⟨rfl, hfr, by simp only; omega, st1⟩ ⟨rfl, rfl, rfl, rfl, rfl, trivial⟩ rfl ?_
  clear st1 H1
  rintro ⟨f, first, p, H⟩ ⟨hR, hp, hf, st⟩
  simp only at hR hp hf st
  obtain ⟨f, rfl⟩ : ∃ g, f = g + 1 := ⟨f - 1, by omega⟩
  rw [hR]
  clear hR
  repeat apply Wq
  refine Wp.block ?_
  repeat apply Wq
  refine Wp.regionAs (is := List.range' 0 1 ++ (1 :: (List.range' 2 5 ++ []))) rfl ?_
  refine WpO.rS 1 ?_
  refine WpO.cR (nextR_does G H i T p st.r) c65 ?_
  rintro _ h9 ⟨rfl, hh9⟩
  obtain rfl := hh9.symm
  clear hh9
  refine pu ?_
  refine WpO.runS 5 (by simp only [bsd, bsg, reduceLT, reduceEqDiff, reduceCtorEq, nextV, List.getElem?_toArray] <;> exact rfl) (by decide) ?_
  refine WpO.nil ?_
  repeat apply Wq
  refine Wp.cut (fun fr u h' => u = none ∧ h' = H ∧ ∃ sl, fr = ⟨112, sl, []⟩ ∧ holds [(0, .pointer (some ⟨i, 0, none⟩)), (2, .pointer (some ⟨h.next, 0, none⟩)), (3, .pointer (some ⟨h.next + 1, 0, none⟩)), (4, .bool oth), (43, .bool (decide (T[p]? = some 93 ∧ first = false)))] sl) ?_ ?_
  rotate_left
  ·cases hc : T[p]? with
   | none =>
    repeat apply Wq
    refine Wp.runS (by simp only [bsg, reduceLT, reduceEqDiff, reduceCtorEq, Option.isSome] <;> exact rfl) ?_
    dsimp only [after, leaving]
    exact ⟨rfl, rfl, _, rfl, rfl, rfl, rfl, rfl, by rw [decide_eq_false (by simp)]; rfl, trivial⟩
   | some c =>
    have e93 : ((c.toNat : Int) == 93) = decide (c = 93) := u8_eq c 93 (by omega)
    by_cases h93 : c = 93
    ·rw [decide_eq_true h93] at e93
     cases first with
     | true =>
      repeat apply Wq
      refine Wp.runS (by simp only [bsg, reduceLT, reduceEqDiff, reduceCtorEq, Option.isSome, Option.getD, byteV, e93] <;> exact rfl) ?_
      dsimp only [after, leaving]
      exact ⟨rfl, rfl, _, rfl, rfl, rfl, rfl, rfl, by rw [decide_eq_false (by simp)]; rfl, trivial⟩
     | false =>
      repeat apply Wq
      refine Wp.runS (by simp only [bsg, reduceLT, reduceEqDiff, reduceCtorEq, Option.isSome, Option.getD, byteV, e93] <;> exact rfl) ?_
      dsimp only [after, leaving]
      exact ⟨rfl, rfl, _, rfl, rfl, rfl, rfl, rfl, by rw [decide_eq_true (by simp [h93])]; rfl, trivial⟩
    ·rw [decide_eq_false h93] at e93
     repeat apply Wq
     refine Wp.runS (by simp only [bsg, reduceLT, reduceEqDiff, reduceCtorEq, Option.isSome, Option.getD, byteV, e93] <;> exact rfl) ?_
     dsimp only [after, leaving]
     exact ⟨rfl, rfl, _, rfl, rfl, rfl, rfl, rfl, by rw [decide_eq_false (by simp [h93])]; rfl, trivial⟩
  rintro fr u h9 ⟨rfl, hH, sl, rfl, hs1⟩
  obtain rfl := hH.symm
  clear hH
  refine Wp.weaken (Frm.le_of hs1) ?_
  clear hs1 sl
  rw [classL]
  by_cases hend : T[p]? = some 93 ∧ first = false
  ·rw [decide_eq_true hend, if_pos hend]
   have l1 := Heap.lf st.r (k := 0 + 1) rfl
   repeat apply Wq
   refine Wp.cT ?_
   repeat apply Wq
   refine Wp.r (Aq @g1 (Aq @lc3 (Aq l1 (Aq (wrapN (show p ≤ 1000000 by omega)) (reg_store st.r))))) ?_
   repeat apply Wq
   refine Wp.exit ?_
   simp only [bx, Nat.reduceEqDiff]
   exact ⟨by trivial, p + 1, rfl, st.at (p + 1), _, rfl, rfl, rfl, rfl, trivial⟩
  rw [decide_eq_false hend, if_neg hend]
  repeat apply Wq
  refine Wp.cF ?_
  repeat apply Wq
  refine Wp.skip ?_
  repeat apply Wq
  refine Wp.regionAs (is := List.range' 0 1 ++ (1 :: (List.range' 2 1 ++ []))) rfl ?_
  refine WpO.rS 1 ?_
  refine WpO.cS c102 ((memberR_does G H i T p st.r (by omega)).mono ?_)
  intro x H2 hr
  have hm := memberS_le hp
  cases hmm : memberS T p with
  | error e =>
   rw [hmm] at hr
   obtain ⟨rfl, hb⟩ := hr
   exact ⟨rfl, rfl, rfl, st.but.trans hb⟩
  | ok lob =>
   obtain ⟨lo, b⟩ := lob
   rw [hmm] at hr hm
   simp only [okE_ok] at hm
   obtain ⟨rfl, rfl⟩ := hr
   refine pt ?_
   refine WpO.rS 1 ?_
   refine WpO.nil ?_
   dsimp only [after, leaving]
   have st2 := st.at b
   generalize regAt H i T b = H2 at st2 ⊢
   repeat apply Wq
   refine Wp.rS ?_
   repeat apply Wq
   refine Wp.regionAs (is := List.range' 0 1 ++ (1 :: (List.range' 2 5 ++ []))) rfl ?_
   refine WpO.rS 1 ?_
   refine WpO.cR (nextR_does G H2 i T b st2.r) c65 ?_
   rintro _ h9 ⟨rfl, hh9⟩
   obtain rfl := hh9.symm
   clear hh9
   refine pu ?_
   refine WpO.runS 5 (by simp only [bsd, bsg, reduceLT, reduceEqDiff, reduceCtorEq, nextV, List.getElem?_toArray] <;> exact rfl) (by decide) ?_
   refine WpO.nil ?_
   repeat apply Wq
   refine Wp.cut (fun fr u h' => u = none ∧ h' = H2 ∧ ∃ sl, fr = ⟨112, sl, []⟩ ∧ holds [(0, .pointer (some ⟨i, 0, none⟩)), (2, .pointer (some ⟨h.next, 0, none⟩)), (3, .pointer (some ⟨h.next + 1, 0, none⟩)), (4, .bool oth), (10, byteV lo), (11, byteV lo), (63, .bool (decide (T[b]? = some 45)))] sl) ?_ ?_
   rotate_left
   ·cases hc : T[b]? with
    | none =>
     repeat apply Wq
     refine Wp.runS (by simp only [bsg, reduceLT, reduceEqDiff, reduceCtorEq, Option.isSome] <;> exact rfl) ?_
     dsimp only [after, leaving]
     exact ⟨rfl, rfl, _, rfl, rfl, rfl, rfl, rfl, rfl, rfl, by rw [decide_eq_false (by simp)]; rfl, trivial⟩
    | some c =>
     have e45 : ((c.toNat : Int) == 45) = decide (c = 45) := u8_eq c 45 (by omega)
     repeat apply Wq
     refine Wp.runS (by simp only [bsg, reduceLT, reduceEqDiff, reduceCtorEq, Option.isSome, Option.getD, byteV, e45] <;> exact rfl) ?_
     dsimp only [after, leaving]
     exact ⟨rfl, rfl, _, rfl, rfl, rfl, rfl, rfl, rfl, rfl, by rw [show decide (some c = some 45) = decide (c = 45) from decide_eq_decide.2 (by simp)]; rfl, trivial⟩
   rintro fr u h9 ⟨rfl, hH, sl, rfl, hs1⟩
   obtain rfl := hH.symm
   clear hH
   refine Wp.weaken (Frm.le_of hs1) ?_
   clear hs1 sl
   generalize hR : (if T[b]? = some 45 then (match memberS T (b + 1) with
    | .error e => .error e
    | .ok (hi, c) => if hi < lo then .error (c - 1) else classL T f false c) else classL T f false b : Except Nat Nat) = R
   repeat apply Wq
   refine Wp.cut (fun fr u h' => u = none ∧ ∃ (hi' : UInt8) (q : Nat), R = classL T f false q ∧ p < q ∧ q ≤ T.length ∧ Cls h h' i T q ∧ ∃ sl, fr = ⟨112, sl, []⟩ ∧ holds [(0, .pointer (some ⟨i, 0, none⟩)), (2, .pointer (some ⟨h.next, 0, none⟩)), (3, .pointer (some ⟨h.next + 1, 0, none⟩)), (4, .bool oth), (10, byteV lo), (11, byteV hi')] sl) ?_ ?_
   rotate_left
   ·by_cases h45 : T[b]? = some 45
    ·rw [if_pos h45] at hR
     rw [decide_eq_true h45]
     have hbl := (List.getElem?_eq_some_iff.1 h45).1
     have l1 := Heap.lf st2.r (k := 0 + 1) rfl
     repeat apply Wq
     refine Wp.cT ?_
     repeat apply Wq
     refine Wp.r (Aq @g1 (Aq @lc3 (Aq l1 (Aq (wrapN (show b ≤ 1000000 by omega)) (reg_store st2.r))))) ?_
     dsimp only [after, leaving]
     have st3 := st2.at (b + 1)
     generalize hH3 : H2.set i (regRow T (b + 1)) = H3
     have st3' : Cls h H3 i T (b + 1) := by rw [← hH3]; exact st3
     clear st3
     repeat apply Wq
     refine Wp.regionAs (is := List.range' 0 1 ++ (1 :: (List.range' 2 1 ++ []))) rfl ?_
     refine WpO.rS 1 ?_
     refine WpO.cS c102 ((memberR_does G H3 i T (b + 1) st3'.r (by omega)).mono ?_)
     intro x H4 hr
     have hm2 := memberS_le (T := T) (a := b + 1) (by omega)
     cases hmm2 : memberS T (b + 1) with
     | error e =>
      rw [hmm2] at hr hR
      obtain ⟨rfl, hb⟩ := hr
      rw [← hR]
      exact ⟨rfl, rfl, rfl, st3'.but.trans hb⟩
     | ok hic =>
      obtain ⟨hi', c⟩ := hic
      rw [hmm2] at hr hm2 hR
      simp only [okE_ok] at hm2
      dsimp only at hR
      obtain ⟨rfl, rfl⟩ := hr
      refine pt ?_
      refine WpO.rS 1 ?_
      refine WpO.nil ?_
      dsimp only [after, leaving]
      have st4 := st3'.at c
      generalize regAt H3 i T c = H4 at st4 ⊢
      have l4 := Heap.lf st4.r (k := 0 + 1) rfl
      by_cases hlt : hi' < lo
      ·rw [if_pos hlt] at hR
       have hlt' : (hi'.toNat : Int) < (lo.toNat : Int) := by have := UInt8.lt_iff_toNat_lt.1 hlt; omega
       repeat apply Wq
       refine Wp.runS (by simp only [bsg, reduceLT, reduceEqDiff, reduceCtorEq, byteV, decide_eq_true hlt'] <;> exact rfl) ?_
       repeat apply Wq
       refine Wp.cT ?_
       have hc1 : c = (c - 1) + 1 := by omega
       repeat apply Wq
       refine Wp.regionAs (is := List.range' 0 6 ++ (6 :: [])) rfl ?_
       refine WpO.runS 6 (by simp only [bsd, bsg, reduceLT, reduceEqDiff, reduceCtorEq, g1, lc3, l4, show IntKind.i64.wrap ((c : Int) - 1) = ((c - 1 : Nat) : Int) by rw [wrap_in (by omega) (by omega)]; omega, underlying125] <;> exact rfl) (by decide) ?_
       refine WpO.panicS (by simp only [bsg, reduceLT, reduceEqDiff, reduceCtorEq] <;> exact rfl) rfl (by simp only [bsg, reduceLT, reduceEqDiff, reduceCtorEq]) ?_
       dsimp only [after, leaving]
       rw [← hR]
       exact ⟨rfl, rfl, rfl, st4.but⟩
      ·rw [if_neg hlt] at hR
       have hlt' : ¬ (hi'.toNat : Int) < (lo.toNat : Int) := fun q => hlt (UInt8.lt_iff_toNat_lt.2 (by omega))
       repeat apply Wq
       refine Wp.runS (by simp only [bsg, reduceLT, reduceEqDiff, reduceCtorEq, byteV, decide_eq_false hlt'] <;> exact rfl) ?_
       repeat apply Wq
       refine Wp.cF ?_
       repeat apply Wq
       refine Wp.skip ?_
       dsimp only [after, leaving]
       exact ⟨rfl, hi', c, hR.symm, by omega, hm2.2, st4, _, rfl, rfl, rfl, rfl, rfl, rfl, rfl, trivial⟩
    ·rw [if_neg h45] at hR
     rw [decide_eq_false h45]
     repeat apply Wq
     refine Wp.cF ?_
     repeat apply Wq
     refine Wp.skip ?_
     dsimp only [after, leaving]
     exact ⟨rfl, lo, b, hR.symm, hm.1, hm.2, st2, _, rfl, rfl, rfl, rfl, rfl, rfl, rfl, trivial⟩
   clear hR st2 hm hmm H2 b
   rintro fr u H2 ⟨rfl, hi', q, hR, hpq, hq, st2, sl, rfl, hs1⟩
   refine Wp.weaken (Frm.le_of hs1) ?_
   clear hs1 sl
   have hlo := lo.toNat_lt
   have hhi := hi'.toNat_lt
   repeat apply Wq
   refine Wp.runS (by simp only [bsg, reduceLT, reduceEqDiff, reduceCtorEq, byteV, conv53' (lo.toNat : Int) (by omega) (by omega)] <;> exact rfl) ?_
   repeat apply Wq
   refine Wp.cut (fun fr u h' => u = none ∧ Cls h h' i T q ∧ ∃ sl, fr = ⟨112, sl, []⟩ ∧ holds [(0, .pointer (some ⟨i, 0, none⟩)), (2, .pointer (some ⟨h.next, 0, none⟩)), (3, .pointer (some ⟨h.next + 1, 0, none⟩)), (4, .bool oth)] sl) ?_ ?_
   rotate_left
   ·repeat apply Wq
    refine Wp.block ?_
    refine Wp.loopI (X := Nat × Heap) (fun x => [(0, .pointer (some ⟨i, 0, none⟩)), (2, .pointer (some ⟨h.next, 0, none⟩)), (3, .pointer (some ⟨h.next + 1, 0, none⟩)), (4, .bool oth), (11, byteV hi'), (14, .int .i64 x.1)]) (fun x => x.2)
     (fun x => Cls h x.2 i T q) (fun x => 256 - x.1) (lo.toNat, H2) st2 ⟨rfl, rfl, rfl, rfl, rfl, rfl, trivial⟩ rfl ?_
    clear st2 H2
    rintro ⟨k, H⟩ st
    simp only at st
    by_cases hk : (k : Int) ≤ (hi'.toNat : Int)
    ·repeat apply Wq
     refine Wp.runS (by simp only [bsg, reduceLT, reduceEqDiff, reduceCtorEq, byteV, conv53' (hi'.toNat : Int) (by omega) (by omega), decide_eq_true hk] <;> exact rfl) ?_
     repeat apply Wq
     refine Wp.cT ?_
     repeat apply Wq
     refine Wp.skip ?_
     repeat apply Wq
     refine Wp.block ?_
     obtain ⟨s, hs1, hs2⟩ := st.s
     have hk4 : k / 64 < 4 := by omega
     obtain ⟨z, hz⟩ := set_ld hs1 hs2 hk4
     have hquo : abinI .quo .i64 (k : Int) .i64 64 = some (.int .i64 ((k / 64 : Nat) : Int)) := by
      have hd : (k : Int).tdiv 64 = ((k / 64 : Nat) : Int) := by rw [Int.tdiv_eq_ediv_of_nonneg (by omega)]; omega
      unfold abinI
      simp only []
      rw [if_pos ⟨by trivial, by decide⟩, hd, wrap_in (by omega) (by omega)]
     have hrem : abinI .rem .i64 (k : Int) .i64 64 = some (.int .i64 ((k : Int).tmod 64)) := ai_rem (by omega)
     obtain ⟨y, hy⟩ : ∃ y, abinI .shl .u64 1 .i64 ((k : Int).tmod 64) = some (.int .u64 y) := ⟨_, ai_shl (Int.tmod_nonneg _ (by omega))⟩
     obtain ⟨w, hw⟩ : ∃ w, abinI .or .u64 z .u64 y = some (.int .u64 w) := ⟨_, ai_or⟩
     obtain ⟨s', hp1, hp2⟩ := set_put hs1 hs2 hk4 w
     have hix : aindexAddr prog 105 (.pointer (some ⟨h.next + 1, 0, none⟩)) (.int .i64 ((k / 64 : Nat) : Int)) = some (.pointer (some ⟨h.next + 1, k / 64, none⟩)) := set_at hk4 .i64
     repeat apply Wq
     refine Wp.runSD mixed (by kernel_rfl) (by simp only [runSD, stepOD, stepWD, stepVD, isLoud, isPure, isReader, decide_true, bsb, bsg, reduceLT, reduceEqDiff, reduceCtorEq, hquo, hrem, hy, hw, hix, lc103, hz, hp1] <;> exact rfl) ?_
     dsimp only [after, leaving]
     have hwk : IntKind.i64.wrap ((k : Int) + 1) = ((k + 1 : Nat) : Int) := by rw [wrap_in (by omega) (by omega)]; omega
     repeat apply Wq
     refine Wp.r hwk ?_
     dsimp only [after, leaving]
     exact ⟨(k + 1, _), _, st.set hp2, by simp only; omega, rfl, ⟨rfl, rfl, rfl, rfl, rfl, rfl, trivial⟩, rfl, rfl⟩
    ·repeat apply Wq
     refine Wp.runS (by simp only [bsg, reduceLT, reduceEqDiff, reduceCtorEq, byteV, conv53' (hi'.toNat : Int) (by omega) (by omega), decide_eq_false hk] <;> exact rfl) ?_
     repeat apply Wq
     refine Wp.cF ?_
     repeat apply Wq
     refine Wp.exit ?_
     simp only [bx, Nat.reduceEqDiff]
     exact ⟨by trivial, st, _, rfl, rfl, rfl, rfl, rfl, trivial⟩
   clear st2 H2
   rintro fr u H2 ⟨rfl, st2, sl, rfl, hs1⟩
   refine Wp.weaken (Frm.le_of hs1) ?_
   clear hs1 sl
   repeat apply Wq
   refine Wp.rS ?_
   dsimp only [after, leaving]
   exact ⟨(f, false, q, H2), _, ⟨hR, hq, by simp only; omega, st2⟩, by simp only; omega, rfl, ⟨rfl, rfl, rfl, rfl, rfl, trivial⟩, rfl, rfl⟩
 clear st1 H1
 rintro fr u H1 ⟨rfl, b, hR, st1, sl, rfl, hs1⟩
 refine Wp.weaken (Frm.le_of hs1) ?_
 clear hs1 sl
 rw [hR]
 repeat apply Wq
 refine Wp.rS ?_
 repeat apply Wq
 refine Wp.cut (fun fr u h' => u = none ∧ Cls h h' i T b ∧ ∃ sl, fr = ⟨112, sl, []⟩ ∧ holds [(2, .pointer (some ⟨h.next, 0, none⟩)), (3, .pointer (some ⟨h.next + 1, 0, none⟩))] sl) ?_ ?_
 rotate_left
 ·repeat apply Wq
  refine Wp.block ?_
  refine Wp.loopI (X := Nat × Heap) (fun x => [(2, .pointer (some ⟨h.next, 0, none⟩)), (3, .pointer (some ⟨h.next + 1, 0, none⟩)), (4, .bool oth), (99, .int .i64 x.1)]) (fun x => x.2)
   (fun x => Cls h x.2 i T b) (fun x => 4 - x.1) (0, H1) st1 ⟨rfl, rfl, rfl, rfl, trivial⟩ rfl ?_
  clear st1 H1
  rintro ⟨k, H⟩ st
  simp only at st
  have hwk : k < 4 → IntKind.i64.wrap ((k : Int) + 1) = ((k + 1 : Nat) : Int) := fun _ => by rw [wrap_in (by omega) (by omega)]; omega
  by_cases hk : (k : Int) < 4
  ·repeat apply Wq
   refine Wp.r (decide_eq_true hk) ?_
   repeat apply Wq
   refine Wp.cT ?_
   repeat apply Wq
   refine Wp.skip ?_
   repeat apply Wq
   refine Wp.block ?_
   repeat apply Wq
   refine Wp.rS ?_
   repeat apply Wq
   refine Wp.rS ?_
   dsimp only [after, leaving]
   cases oth with
   | true =>
    repeat apply Wq
    refine Wp.cT ?_
    obtain ⟨s, hs1, hs2⟩ := st.s
    obtain ⟨z, hz⟩ := set_ld hs1 hs2 (show k < 4 by omega)
    obtain ⟨w, hw⟩ : ∃ w, aun .xor (.int .u64 z) = some (.int .u64 w) := ⟨_, rfl⟩
    obtain ⟨s', hp1, hp2⟩ := set_put hs1 hs2 (show k < 4 by omega) w
    have hix := set_at (j := h.next + 1) (show k < 4 by omega) .i64
    repeat apply Wq
    refine Wp.r (Aq hix (Aq @lc103 (Aq hz (Aq hw hp1)))) ?_
    repeat apply Wq
    refine Wp.r (hwk (by omega)) ?_
    dsimp only [after, leaving]
    exact ⟨(k + 1, _), _, st.set hp2, by simp only; omega, rfl, ⟨rfl, rfl, rfl, rfl, trivial⟩, rfl, rfl⟩
   | false =>
    repeat apply Wq
    refine Wp.cF ?_
    repeat apply Wq
    refine Wp.skip ?_
    repeat apply Wq
    refine Wp.r (hwk (by omega)) ?_
    dsimp only [after, leaving]
    exact ⟨(k + 1, H), _, st, by simp only; omega, rfl, ⟨rfl, rfl, rfl, rfl, trivial⟩, rfl, rfl⟩
  ·repeat apply Wq
   refine Wp.r (decide_eq_false hk) ?_
   repeat apply Wq
   refine Wp.cF ?_
   repeat apply Wq
   refine Wp.exit ?_
   simp only [bx, Nat.reduceEqDiff]
   exact ⟨by trivial, st, _, rfl, rfl, rfl, trivial⟩
 clear st1 H1
 rintro fr u H1 ⟨rfl, st1, sl, rfl, hs1⟩
 refine Wp.weaken (Frm.le_of hs1) ?_
 clear hs1 sl
 obtain ⟨s, hs1, hs2⟩ := st1.s
 obtain ⟨s0, s1, s2, s3, hall⟩ := set_all hs1 hs2
 obtain ⟨H', e1, e2, e3, e4, e5, _⟩ := node_fin (n := 0) (w := nodeV 2 s0 s1 s2 s3 (.slice none 0 0)) st1.n rfl ⟨⟨_, _, _, _, _, _, _, _, rfl⟩, sc_flat _ _ rfl⟩ (by omega)
 repeat apply Wq
 refine Wp.r (Aq hall (Aq @build108s e1)) ?_
 repeat apply Wq
 refine Wp.ret ?_
 dsimp only [after, leaving]
 refine ⟨rfl, rfl, _, ares_cellP rfl rfl e2, _, rfl, e5, ⟨by have := st1.but.1; omega, fun j hj hne => ?_⟩, ?_⟩
 ·rw [e4 j (by omega)]; exact st1.but.2 j hj hne
 ·rw [e4 i (by omega)]; exact st1.r
end Go.Mini
