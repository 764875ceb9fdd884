import Derived.Test.YtjgmccbjffncaaaDoorPLexZc
import Derived.Test.YtjgmccbjffncaaaDoorMiniYOtoYS
import Derived.Test.YtjgmccbjffncaaaDoorPtB
import Derived.Test.YtjgmccbjffncaaaDoorPjD
set_option maxHeartbeats 16000000
set_option maxRecDepth 100000
set_option linter.unusedSimpArgs false
namespace Go.Mini
open Nat (reduceLT reduceEqDiff)
open Go.Proofs Tryd
structure TS (h0 : Heap) (j3 : Nat) (all P : List (List (List UInt8))) (K : Heap) : Prop where
 w : Wrt h0.next K j3 (wr [] P)
 m : h0.more K
 p : ∃ q, P ++ q = all
def KeepP (j3 : Nat) (K K' : Heap) : Prop := ∀ j p, K.get j = some p → j ≠ j3 → p.plain = true → K'.get j = some p
theorem TS.more {h0 : Heap} {j3 : Nat} {all P : List (List (List UInt8))} {K K' : Heap} (st : TS h0 j3 all P K) (hm : K.more K') : TS h0 j3 all P K' := ⟨st.w.more hm, st.m.trans hm, st.p⟩
theorem TS.len {h0 : Heap} {j3 : Nat} {all P : List (List (List UInt8))} {K : Heap} (st : TS h0 j3 all P K) (hall : ∀ r ∈ all, wlen r ≤ 1000000) (hl : all.length ≤ 10000) : (wr [] P).length ≤ 100000000000 := by
 obtain ⟨q, rfl⟩ := st.p
 have := wr_len P [] fun r hr => hall r (List.mem_append_left _ hr)
 rw [List.length_append] at hl
 simp only [List.length_nil] at this
 have h2 : P.length * 1000001 ≤ 10000 * 1000001 := Nat.mul_le_mul_right _ (by omega)
 omega
theorem TS.call {h0 : Heap} {j3 : Nat} {all P : List (List (List UInt8))} {K : Heap} (st : TS h0 j3 all P K) {r : List (List UInt8)} {n : Nat} (hp : ∃ q, P ++ r :: q = all) (hall : ∀ r ∈ all, wlen r ≤ 1000000) (hl : all.length ≤ 10000) (hn : n = r.length) (h1 : n ≤ 1000) (hne : Lib.join r [32] ≠ []) :
  Does prog 0 (GoodE prog (baseM 0)) 29 [.pointer (some ⟨j3, 0, none⟩), .slice (some ⟨K.next, 0, none⟩) n n] (K.alloc (wordsRow r)) fun e K' => e = .returned (.tuple #[]) ∧ TS h0 j3 all (P ++ [r]) K' ∧ KeepP j3 K K' := by
 have hm := Heap.ma K (wordsRow r)
 have hj : K.next ≠ j3 := by
  obtain ⟨a, v, g, _⟩ := st.w
  have := Heap.lg g
  omega
 have hr : wlen r ≤ 1000000 := by
  obtain ⟨q, rfl⟩ := hp
  exact hall r (List.mem_append_right _ (List.mem_cons_self ..))
 have hjl := join_len r
 refine (row_spec (baseM 0) h0.next (K.alloc (wordsRow r)) j3 _ (st.w.more hm) (st.len hall hl) K.next n n r (Heap.gn K _) hj hn (Nat.le_refl _) h1 (by omega) hne).mono ?_
 rintro e K' ⟨rfl, w2, k2⟩
 refine ⟨rfl, ⟨by rw [wr_append, wr_one]; exact w2, ⟨Nat.le_trans (Nat.le_trans st.m.1 hm.1) k2.1, fun j hj => by rw [k2.2.1 j hj, hm.2 j (by have := st.m.1; omega)]; exact st.m.2 j hj⟩, ?_⟩, fun j p q h1 h2 => k2.2.2 j p (hm.get q) h1 h2⟩
 obtain ⟨q, hq⟩ := hp
 exact ⟨q, by rw [List.append_assoc]; exact hq⟩
theorem join_ne (w : List UInt8) (ws : List (List UInt8)) (h : w ≠ []) : Lib.join (w :: ws) [32] ≠ [] := by
 rw [← joinK_eq]
 cases ws with
 | nil => exact h
 | cons y l =>
  rw [joinK]
  intro q
  exact h (List.append_eq_nil_iff.1 q).1
theorem join_ne2 (w y : List UInt8) (ws : List (List UInt8)) : Lib.join (w :: y :: ws) [32] ≠ [] := by
 rw [← joinK_eq, joinK]
 intro q
 have := (List.append_eq_nil_iff.1 q).2
 simp at this
theorem bcell0 (K : Heap) (m : List UInt8) {lv : Value} (hv : one lv = true) : astore prog (K.alloc blockRow0) 42 (.pointer (some ⟨K.next, 0, none⟩)) (.agg #[.string (bs m), lv]) = some (K.alloc (blockRow m lv)) := by
 rw [block_put (Heap.gn K blockRow0) m hv, Heap.set_alloc]
def lineRow0 : AObj := lineRow (line0 0) (.slice none 0 0)
theorem alloc49' (h : Heap) : aalloc prog h 49 = some (h.new, h.alloc lineRow0) := alloc49 h
theorem lcell0 (K : Heap) (x : LineT) {av : Value} (hv : one av = true) : astore prog (K.alloc lineRow0) 49 (.pointer (some ⟨K.next, 0, none⟩)) (lineVal x av) = some (K.alloc (lineRow x av)) := by
 have := astore_agg (P := prog) (h := K.alloc lineRow0) (i := K.next) (k := 0) (cs := lineCells x av) sz49' rfl (line_all hv)
 rw [show lineVal x av = .agg (lineCells x av).toArray from rfl, this, Heap.sts_of (Heap.gn K lineRow0) (by simp [lineCells]) rfl rfl]
 show some ((K.alloc lineRow0).set K.next (lineRow x av)) = _
 rw [Heap.set_alloc]
def armRow (a : ArmT) : AObj := .row { vs := a.cells, elem := 54 }
def armRow0 : AObj := armRow ⟨0, [], []⟩
theorem alloc54' (h : Heap) : aalloc prog h 54 = some (h.new, h.alloc armRow0) := aalloc_eq (z := (⟨0, [], []⟩ : ArmT).val) (by kernel_rfl) rfl
theorem acell0 (K : Heap) (a : ArmT) : astore prog (K.alloc armRow0) 54 (.pointer (some ⟨K.next, 0, none⟩)) a.val = some (K.alloc (armRow a)) := by
 have := astore_agg (P := prog) (h := K.alloc armRow0) (i := K.next) (k := 0) (cs := a.cells) sz54 rfl rfl
 rw [show a.val = .agg a.cells.toArray from rfl, this, Heap.sts_of (Heap.gn K armRow0) (by simp [ArmT.cells]) rfl rfl]
 show some ((K.alloc armRow0).set K.next (armRow a)) = _
 rw [Heap.set_alloc]
theorem a0 (i k : Nat) : afieldAddr prog 54 (.pointer (some ⟨i, k, none⟩)) 0 = some (.pointer (some ⟨i, k, none⟩)) := afieldAddr_eq (f := 0) (o := 0) underlying54 (by rfl) (s := 1) (by kernel_rfl) i k
theorem a1 (i k : Nat) : afieldAddr prog 54 (.pointer (some ⟨i, k, none⟩)) 1 = some (.pointer (some ⟨i, k + 2, none⟩)) := afieldAddr_eq underlying54 (by rfl) (s := 0) (by kernel_rfl) i k
theorem arm_pat {H : Heap} {j : Nat} {a : ArmT} (g : H.get j = some (armRow a)) : aload prog H 52 (.pointer (some ⟨j, 0, none⟩)) = some (patVal a.kind a.text) := by
 rw [aload_agg agg52 sz52, Heap.lds_of g (by simp [ArmT.cells])]; rfl
theorem build78 : abuild prog 78 [] = some (.agg #[.pointer none, .slice none 0 0]) := by kernel_rfl
theorem hbox78 (Hx : Heap) : abox Hx 78 (.agg #[.pointer none, .slice none 0 0]) = (Hx.new, Hx.alloc (wrRow (.pointer none) (.slice none 0 0))) := rfl
theorem neq_emp (a : List UInt8) : abinS .neq (bs a) ⟨#[]⟩ = some (.bool (decide (a ≠ []))) := neq_txt a []
theorem text_spec (h : Heap) (bl : List BlockT) (v : Value) (hv : BlocksV h bl v) (hs : smallD bl) :
  Does prog 0 (GoodE prog (baseM 0)) 18 [.agg #[v]] h fun r h' => r = .returned (.string (bs (textS bl))) ∧ h.more h' := by
 have c29 : canEnter prog 29 = true := by kernel_rfl
 have c30 : canEnter prog 30 = true := by kernel_rfl
 have c31 : canEnter prog 31 = true := by kernel_rfl
 have c32 : canEnter prog 32 = true := by kernel_rfl
 have c33 : canEnter prog 33 = true := by kernel_rfl
 obtain ⟨hs1, hs2, hs3⟩ := hs
 obtain ⟨ha1, ha2⟩ := flat_blocks hs3
 have hal : (bl.flatMap rowsB).length ≤ 10000 := by
  have : linesOf bl * 11 ≤ 128 * 11 := Nat.mul_le_mul_right _ hs2
  omega
 have hall : ∃ all, all = bl.flatMap rowsB := ⟨_, rfl⟩
 obtain ⟨all, hall⟩ := hall
 rw [← hall] at ha1 ha2 hal
 refine Does.body func18 rfl ?_
 have hn : enterF Tryd.f18 [.agg #[v]] = ⟨127, [(0, .agg #[v])], []⟩ := rfl
 rw [hn]; clear hn
 repeat apply Wq
 refine Wp.r @hbox24 ?_
 have g1 : (h.alloc (scriptRow v)).get h.next = some (scriptRow v) := Heap.gn h _
 have m1 := Heap.ma h (scriptRow v)
 generalize h.alloc (scriptRow v) = H at g1 m1 ⊢
 repeat apply Wq
 refine Wp.r (Aq @build78 @hbox78) ?_
 have st0 : TS h H.next all [] (H.alloc (wrRow (.pointer none) (.slice none 0 0))) := ⟨⟨_, _, Heap.gn H _, .inl rfl, m1.1, OwnF.nil _ _ _⟩, m1.trans (Heap.ma H _), all, rfl⟩
 replace g1 := (Heap.ma H (wrRow (.pointer none) (.slice none 0 0))).get g1
 generalize H.alloc (wrRow (.pointer none) (.slice none 0 0)) = K0 at g1 st0 ⊢
 generalize H.next = j3 at st0 ⊢
 have hmax := SliceR.le hv
 repeat apply Wq
 refine Wp.r (Aq @sc0 (Aq @lc22 (Aq (Heap.lf g1 (k := 0) rfl) hv.len))) ?_
 repeat apply Wq
 refine Wp.block ?_
 refine Wp.loopI (X := Nat × Heap) (fun x => [(3, .pointer (some ⟨j3, 0, none⟩)), (13, v), (14, .int .i64 (bl.length : Nat)), (15, .int .i64 x.1)]) (fun x => x.2)
  (fun x => x.1 ≤ bl.length ∧ TS h j3 all ((bl.take x.1).flatMap rowsB) x.2) (fun x => bl.length - x.1) (0, K0) ⟨Nat.zero_le _, st0⟩ ⟨rfl, rfl, rfl, rfl, trivial⟩ rfl ?_
 rintro ⟨i, K⟩ ⟨hle, st⟩
 simp only at hle st ⊢
 by_cases hlt : (i : Int) < (bl.length : Int)
 ·repeat apply Wq
  refine Wp.r (decide_eq_true hlt) ?_
  repeat apply Wq
  refine Wp.cT ?_
  repeat apply Wq
  refine Wp.skip ?_
  repeat apply Wq
  refine Wp.block ?_
  obtain ⟨t, ht⟩ : ∃ t, bl[i]? = some t := ⟨_, List.getElem?_eq_getElem (by omega)⟩
  obtain ⟨b, k, lv, hb, hp, lt, ta, _⟩ := hv.at ht
  have hw1 := succ_in (i := i) (n := bl.length) (by omega) hmax
  have htk : bl.take (i + 1) = bl.take i ++ [t] := by rw [List.take_add_one, ht]; rfl
  have hcut : all = (bl.take i).flatMap rowsB ++ (rowsB t ++ (bl.drop (i + 1)).flatMap rowsB) := by
   rw [hall]
   conv => lhs; rw [← List.take_append_drop i bl, drop_at ht]
   rw [List.flatMap_append, List.flatMap_cons]
  obtain ⟨P, hP⟩ : ∃ P, P = (bl.take i).flatMap rowsB := ⟨_, rfl⟩
  have hPt : (bl.take (i + 1)).flatMap rowsB = P ++ rowsB t := by rw [htk, List.flatMap_append, hP]; simp
  rw [← hP] at st hcut
  have hsm := (hs3 t (List.mem_of_getElem? ht)).2
  repeat apply Wq
  refine Wp.r (Aq hp (Aq (ta K st.m) (Aq @alloc42' (bcell0 K t.name (SliceR.one lt))))) ?_
  have g5 : (K.alloc (blockRow t.name lv)).get K.next = some (blockRow t.name lv) := Heap.gn K _
  replace st := st.more (Heap.ma K (blockRow t.name lv))
  have hj5 : K.next ≠ j3 := by obtain ⟨_, _, g, _⟩ := st.w; intro q; rw [← q, g5] at g; cases g
  generalize K.alloc (blockRow t.name lv) = K1 at g5 st ⊢
  generalize K.next = j5 at g5 hj5 ⊢
  have hcol : abinS .add (bs t.name) ⟨#[58]⟩ = some (.string (bs (t.name ++ [58]))) := add_small t.name [58] (by have := (hs3 t (List.mem_of_getElem? ht)).1; simp only [List.length_cons, List.length_nil]; omega)
  repeat apply Wq
  refine Wp.regionAs (is := List.range' 0 5 ++ (5 :: [])) rfl ?_
  refine WpO.r 5 (Aq @bk0 (Aq @lc9 (Aq (Heap.lf g5 (k := 0) rfl) (Aq hcol (wb1 K1))))) ?_
  refine WpO.cS c29 ((st.call (r := [t.name ++ [58]]) ⟨t.lines.flatMap rowsL ++ (bl.drop (i + 1)).flatMap rowsB, hcut.symm⟩ ha2 hal rfl (by simp [armRowS]) (join_ne _ _ (by simp))).mono ?_)
  intro e K2 hr
  obtain ⟨rfl, st2, kp⟩ := hr
  refine pt ?_
  refine WpO.nil ?_
  replace g5 := kp _ _ g5 hj5 rfl
  have hlm := SliceR.le lt
  repeat apply Wq
  refine Wp.r (Aq @bk1 (Aq @lc40 (Aq (Heap.lf g5 (k := 1) rfl) lt.len))) ?_
  repeat apply Wq
  refine Wp.block ?_
  refine Wp.loopI (X := Nat × Heap) (fun x => [(3, .pointer (some ⟨j3, 0, none⟩)), (13, v), (14, .int .i64 (bl.length : Nat)), (15, .int .i64 i), (26, lv), (27, .int .i64 (t.lines.length : Nat)), (28, .int .i64 x.1)]) (fun x => x.2)
   (fun x => x.1 ≤ t.lines.length ∧ TS h j3 all (P ++ [[t.name ++ [58]]] ++ (t.lines.take x.1).flatMap rowsL) x.2) (fun x => t.lines.length - x.1) (0, K2) ⟨Nat.zero_le _, by rw [List.take_zero, List.flatMap_nil, List.append_nil]; exact st2⟩ ⟨rfl, rfl, rfl, rfl, rfl, rfl, rfl, trivial⟩ rfl ?_
  rintro ⟨n, L⟩ ⟨hle2, st3⟩
  simp only at hle2 st3 ⊢
  by_cases hlt2 : (n : Int) < (t.lines.length : Int)
  ·repeat apply Wq
   refine Wp.r (decide_eq_true hlt2) ?_
   repeat apply Wq
   refine Wp.cT ?_
   repeat apply Wq
   refine Wp.skip ?_
   repeat apply Wq
   refine Wp.block ?_
   obtain ⟨x, hx⟩ : ∃ x, t.lines[n]? = some x := ⟨_, List.getElem?_eq_getElem (by omega)⟩
   obtain ⟨b1, k1, av, _, hp1, aa, ta1⟩ := lt.at hx
   have hw2 := succ_in (i := n) (n := t.lines.length) (by omega) hlm
   have sx := hsm x (List.mem_of_getElem? hx)
   obtain ⟨Q, hQ⟩ : ∃ Q, Q = P ++ [[t.name ++ [58]]] ++ (t.lines.take n).flatMap rowsL := ⟨_, rfl⟩
   have hQt : P ++ [[t.name ++ [58]]] ++ (t.lines.take (n + 1)).flatMap rowsL = Q ++ rowsL x := by
    have : t.lines.take (n + 1) = t.lines.take n ++ [x] := by rw [List.take_add_one, hx]; rfl
    rw [this, List.flatMap_append, ← List.append_assoc, hQ]; simp
   have hcut2 : all = Q ++ (rowsL x ++ ((t.lines.drop (n + 1)).flatMap rowsL ++ (bl.drop (i + 1)).flatMap rowsB)) := by
    have e1 : t.lines.flatMap rowsL = (t.lines.take n).flatMap rowsL ++ (rowsL x ++ (t.lines.drop (n + 1)).flatMap rowsL) := by
     conv => lhs; rw [← List.take_append_drop n t.lines, drop_at hx]
     rw [List.flatMap_append, List.flatMap_cons]
    rw [hcut, hQ, rowsB, e1]
    simp [List.append_assoc]
   rw [← hQ] at st3
   repeat apply Wq
   refine Wp.r (Aq hp1 (Aq (ta1 L st3.m) (Aq @alloc49' (lcell0 L x (SliceR.one aa))))) ?_
   have g7 : (L.alloc (lineRow x av)).get L.next = some (lineRow x av) := Heap.gn L _
   replace st3 := st3.more (Heap.ma L (lineRow x av))
   have hj7 : L.next ≠ j3 := by obtain ⟨_, _, g, _⟩ := st3.w; intro q; rw [← q, g7] at g; cases g
   generalize L.alloc (lineRow x av) = L1 at g7 st3 ⊢
   generalize L.next = j7 at g7 hj7 ⊢
   refine Wp.weaken (Frm.le_of (l := [(3, .pointer (some ⟨j3, 0, none⟩)), (7, .pointer (some ⟨j7, 0, none⟩)), (13, v), (14, .int .i64 (bl.length : Nat)), (15, .int .i64 i), (26, lv), (27, .int .i64 (t.lines.length : Nat)), (28, .int .i64 n)]) ⟨rfl, rfl, rfl, rfl, rfl, rfl, rfl, rfl, trivial⟩) ?_
   repeat apply Wq
   refine Wp.r (Aq @ln0 (Aq @lc3 (Heap.lf g7 (k := 0) rfl))) ?_
   repeat apply Wq
   refine Wp.cut (fun fr u h' => u = none ∧ TS h j3 all (Q ++ rowsL x) h' ∧ ∃ sl, fr = ⟨127, sl, []⟩ ∧ holds [(3, .pointer (some ⟨j3, 0, none⟩)), (13, v), (14, .int .i64 (bl.length : Nat)), (15, .int .i64 i), (26, lv), (27, .int .i64 (t.lines.length : Nat)), (28, .int .i64 n)] sl) ?_ ?_
   rotate_left
   ·repeat apply Wq
    refine Wp.block ?_
    by_cases o1 : x.op = 1
    ·have hR : rowsL x = [[sendW, quoteS x.text]] := by unfold rowsL; rw [if_pos o1]
     repeat apply Wq
     refine Wp.runS (by simp only [bsg, reduceLT, reduceEqDiff, reduceCtorEq, (show (x.op == (1 : Int)) = true from by rw [o1]; rfl)] <;> exact rfl) ?_
     repeat apply Wq
     refine Wp.cT ?_
     repeat apply Wq
     refine Wp.regionAs (is := List.range' 0 3 ++ (3 :: (List.range' 4 1 ++ (5 :: [])))) rfl ?_
     refine WpO.r 3 (Aq @ln1 (Aq @lc9 (Heap.lf g7 (k := 1) rfl))) ?_
     refine WpO.cR (quote_does 0 (baseM 0) L1 x.text sx.text) c30 ?_
     rintro _ h9 ⟨rfl, hh9⟩
     obtain rfl := hh9.symm
     clear hh9
     refine pu ?_
     refine WpO.runS 1 (by simp only [bsd, bsg, reduceLT, reduceEqDiff, reduceCtorEq, wb2 L1 sendW (quoteS x.text), show (Value.string ⟨#[115, 101, 110, 100]⟩) = .string (bs sendW) from rfl] <;> exact rfl) (by decide) ?_
     refine WpO.cS c29 ((st3.call (r := [sendW, quoteS x.text]) ⟨_, by rw [hcut2, hR]; rfl⟩ ha2 hal rfl (by simp [armRowS]) (join_ne _ _ (by decide))).mono ?_)
     intro e K4 hr
     obtain ⟨rfl, st4, kp4⟩ := hr
     refine pt ?_
     refine WpO.nil ?_
     exact ⟨rfl, by rw [hR]; exact st4, _, rfl, ⟨rfl, rfl, rfl, rfl, rfl, rfl, rfl, trivial⟩⟩
    have n1 : (x.op == (1 : Int)) = false := by rw [beq_eq_false_iff_ne]; exact o1
    by_cases o2 : x.op = 2
    ·have hR : rowsL x = [[setW, x.name, Lib.itoa x.n]] := by unfold rowsL; rw [if_neg o1, if_pos o2]
     repeat apply Wq
     refine Wp.r n1 ?_
     repeat apply Wq
     refine Wp.cF ?_
     repeat apply Wq
     refine Wp.runS (by simp only [bsg, reduceLT, reduceEqDiff, reduceCtorEq, (show (x.op == (2 : Int)) = true from by rw [o2]; rfl)] <;> exact rfl) ?_
     repeat apply Wq
     refine Wp.cT ?_
     repeat apply Wq
     refine Wp.drawAs [] [49] 0 (fun _ => True) mixed (by kernel_rfl) trivial ?_
     refine DrT.run 5 (by simp only [bsd, bss, bsg, reduceLT, reduceEqDiff, reduceCtorEq, ln2, lc9, Heap.lf g7 (k := 2) rfl, ln3, lc3, Heap.lf g7 (k := 3) rfl] <;> exact rfl) rfl ?_
     try simp only [List.drop_succ_cons, List.drop_zero]
     refine DrT.callP (fun H => itoaN_does 0 H x.n sx.n.1 sx.n.2) (by simp only [bsg, reduceLT, reduceEqDiff, reduceCtorEq]) (fun H => by simp only [bsc, bsg, reduceLT, reduceEqDiff, reduceCtorEq, c31] <;> exact rfl) (by simp only [bsg, reduceLT, reduceEqDiff, reduceCtorEq] <;> exact rfl) ?_
     refine DrT.val (by simp only [bsg, reduceLT, reduceEqDiff, reduceCtorEq, show (Value.string ⟨#[115, 101, 116]⟩) = .string (bs setW) from rfl, wb3 L1 setW x.name (Lib.itoa x.n)] <;> exact rfl) rfl rfl (by simp only [bsg, reduceLT, reduceEqDiff, reduceCtorEq]) (by simp only [bsg, reduceLT, reduceEqDiff, reduceCtorEq] <;> exact rfl) (fun _ => trivial) ?_
     refine DrT.call (st3.call (r := [setW, x.name, Lib.itoa x.n]) ⟨_, by rw [hcut2, hR]; rfl⟩ ha2 hal rfl (by simp [armRowS]) (join_ne _ _ (by decide))) rfl rfl (by simp only [bsg, reduceLT, reduceEqDiff, reduceCtorEq]) (by simp only [bsc, bsg, reduceLT, reduceEqDiff, reduceCtorEq, c29] <;> exact rfl) ?_
     intro e K4 hr
     obtain ⟨rfl, st4, kp4⟩ := hr
     refine ⟨_, _, rfl, fun _ => trivial, by simp only [bsg, reduceLT, reduceEqDiff, reduceCtorEq]; exact rfl, ?_⟩
     refine DrT.nil ?_
     exact ⟨rfl, by rw [hR]; exact st4, _, rfl, ⟨rfl, rfl, rfl, rfl, rfl, rfl, rfl, trivial⟩⟩
    have n2 : (x.op == (2 : Int)) = false := by rw [beq_eq_false_iff_ne]; exact o2
    by_cases o3 : x.op = 3
    ·have hR : rowsL x = [[incW, x.name]] := by unfold rowsL; rw [if_neg o1, if_neg o2, if_pos o3]
     repeat apply Wq
     refine Wp.r n1 ?_
     repeat apply Wq
     refine Wp.cF ?_
     repeat apply Wq
     refine Wp.r n2 ?_
     repeat apply Wq
     refine Wp.cF ?_
     repeat apply Wq
     refine Wp.runS (by simp only [bsg, reduceLT, reduceEqDiff, reduceCtorEq, (show (x.op == (3 : Int)) = true from by rw [o3]; rfl)] <;> exact rfl) ?_
     repeat apply Wq
     refine Wp.cT ?_
     repeat apply Wq
     refine Wp.regionAs (is := List.range' 0 4 ++ (4 :: [])) rfl ?_
     refine WpO.runS 4 (by simp only [bsd, bsg, reduceLT, reduceEqDiff, reduceCtorEq, ln2, lc9, Heap.lf g7 (k := 2) rfl, show (Value.string ⟨#[105, 110, 99]⟩) = .string (bs incW) from rfl, wb2 L1 incW x.name] <;> exact rfl) (by decide) ?_
     refine WpO.cS c29 ((st3.call (r := [incW, x.name]) ⟨_, by rw [hcut2, hR]; rfl⟩ ha2 hal rfl (by simp [armRowS]) (join_ne _ _ (by decide))).mono ?_)
     intro e K4 hr
     obtain ⟨rfl, st4, kp4⟩ := hr
     refine pt ?_
     refine WpO.nil ?_
     exact ⟨rfl, by rw [hR]; exact st4, _, rfl, ⟨rfl, rfl, rfl, rfl, rfl, rfl, rfl, trivial⟩⟩
    have n3 : (x.op == (3 : Int)) = false := by rw [beq_eq_false_iff_ne]; exact o3
    by_cases o4 : x.op = 4
    ·have hR : rowsL x = [[ifW, x.name, lessW, Lib.itoa x.n, gotoB, x.to]] := by unfold rowsL; rw [if_neg o1, if_neg o2, if_neg o3, if_pos o4]
     repeat apply Wq
     refine Wp.r n1 ?_
     repeat apply Wq
     refine Wp.cF ?_
     repeat apply Wq
     refine Wp.r n2 ?_
     repeat apply Wq
     refine Wp.cF ?_
     repeat apply Wq
     refine Wp.r n3 ?_
     repeat apply Wq
     refine Wp.cF ?_
     repeat apply Wq
     refine Wp.runS (by simp only [bsg, reduceLT, reduceEqDiff, reduceCtorEq, (show (x.op == (4 : Int)) = true from by rw [o4]; rfl)] <;> exact rfl) ?_
     repeat apply Wq
     refine Wp.cT ?_
     repeat apply Wq
     refine Wp.drawAs [] [66] 0 (fun _ => True) mixed (by kernel_rfl) trivial ?_
     refine DrT.run 5 (by simp only [bsd, bss, bsg, reduceLT, reduceEqDiff, reduceCtorEq, ln2, lc9, Heap.lf g7 (k := 2) rfl, ln3, lc3, Heap.lf g7 (k := 3) rfl] <;> exact rfl) rfl ?_
     try simp only [List.drop_succ_cons, List.drop_zero]
     refine DrT.callP (fun H => itoaN_does 0 H x.n sx.n.1 sx.n.2) (by simp only [bsg, reduceLT, reduceEqDiff, reduceCtorEq]) (fun H => by simp only [bsc, bsg, reduceLT, reduceEqDiff, reduceCtorEq, c31] <;> exact rfl) (by simp only [bsg, reduceLT, reduceEqDiff, reduceCtorEq] <;> exact rfl) ?_
     refine DrT.run 2 (by simp only [bsd, bss, bsg, reduceLT, reduceEqDiff, reduceCtorEq, ln4, lc9, Heap.lf g7 (k := 4) rfl] <;> exact rfl) rfl ?_
     try simp only [List.drop_succ_cons, List.drop_zero]
     refine DrT.val (by simp only [bsg, reduceLT, reduceEqDiff, reduceCtorEq, show (Value.string ⟨#[105, 102]⟩) = .string (bs ifW) from rfl, show (Value.string ⟨#[60]⟩) = .string (bs lessW) from rfl, show (Value.string ⟨#[103, 111, 116, 111]⟩) = .string (bs gotoB) from rfl, wb6 L1 ifW x.name lessW (Lib.itoa x.n) gotoB x.to] <;> exact rfl) rfl rfl (by simp only [bsg, reduceLT, reduceEqDiff, reduceCtorEq]) (by simp only [bsg, reduceLT, reduceEqDiff, reduceCtorEq] <;> exact rfl) (fun _ => trivial) ?_
     refine DrT.call (st3.call (r := [ifW, x.name, lessW, Lib.itoa x.n, gotoB, x.to]) ⟨_, by rw [hcut2, hR]; rfl⟩ ha2 hal rfl (by simp [armRowS]) (join_ne _ _ (by decide))) rfl rfl (by simp only [bsg, reduceLT, reduceEqDiff, reduceCtorEq]) (by simp only [bsc, bsg, reduceLT, reduceEqDiff, reduceCtorEq, c29] <;> exact rfl) ?_
     intro e K4 hr
     obtain ⟨rfl, st4, kp4⟩ := hr
     refine ⟨_, _, rfl, fun _ => trivial, by simp only [bsg, reduceLT, reduceEqDiff, reduceCtorEq]; exact rfl, ?_⟩
     refine DrT.nil ?_
     exact ⟨rfl, by rw [hR]; exact st4, _, rfl, ⟨rfl, rfl, rfl, rfl, rfl, rfl, rfl, trivial⟩⟩
    have n4 : (x.op == (4 : Int)) = false := by rw [beq_eq_false_iff_ne]; exact o4
    by_cases o5 : x.op = 5
    ·have hR : rowsL x = [[gotoB, x.to]] := by unfold rowsL; rw [if_neg o1, if_neg o2, if_neg o3, if_neg o4, if_pos o5]
     repeat apply Wq
     refine Wp.r n1 ?_
     repeat apply Wq
     refine Wp.cF ?_
     repeat apply Wq
     refine Wp.r n2 ?_
     repeat apply Wq
     refine Wp.cF ?_
     repeat apply Wq
     refine Wp.r n3 ?_
     repeat apply Wq
     refine Wp.cF ?_
     repeat apply Wq
     refine Wp.r n4 ?_
     repeat apply Wq
     refine Wp.cF ?_
     repeat apply Wq
     refine Wp.runS (by simp only [bsg, reduceLT, reduceEqDiff, reduceCtorEq, (show (x.op == (5 : Int)) = true from by rw [o5]; rfl)] <;> exact rfl) ?_
     repeat apply Wq
     refine Wp.cT ?_
     repeat apply Wq
     refine Wp.regionAs (is := List.range' 0 4 ++ (4 :: [])) rfl ?_
     refine WpO.runS 4 (by simp only [bsd, bsg, reduceLT, reduceEqDiff, reduceCtorEq, ln4, lc9, Heap.lf g7 (k := 4) rfl, show (Value.string ⟨#[103, 111, 116, 111]⟩) = .string (bs gotoB) from rfl, wb2 L1 gotoB x.to] <;> exact rfl) (by decide) ?_
     refine WpO.cS c29 ((st3.call (r := [gotoB, x.to]) ⟨_, by rw [hcut2, hR]; rfl⟩ ha2 hal rfl (by simp [armRowS]) (join_ne _ _ (by decide))).mono ?_)
     intro e K4 hr
     obtain ⟨rfl, st4, kp4⟩ := hr
     refine pt ?_
     refine WpO.nil ?_
     exact ⟨rfl, by rw [hR]; exact st4, _, rfl, ⟨rfl, rfl, rfl, rfl, rfl, rfl, rfl, trivial⟩⟩
    have n5 : (x.op == (5 : Int)) = false := by rw [beq_eq_false_iff_ne]; exact o5
    by_cases o6 : x.op = 6
    ·have hR : rowsL x = [[exitW, Lib.itoa x.n]] := by unfold rowsL; rw [if_neg o1, if_neg o2, if_neg o3, if_neg o4, if_neg o5, if_pos o6]
     repeat apply Wq
     refine Wp.r n1 ?_
     repeat apply Wq
     refine Wp.cF ?_
     repeat apply Wq
     refine Wp.r n2 ?_
     repeat apply Wq
     refine Wp.cF ?_
     repeat apply Wq
     refine Wp.r n3 ?_
     repeat apply Wq
     refine Wp.cF ?_
     repeat apply Wq
     refine Wp.r n4 ?_
     repeat apply Wq
     refine Wp.cF ?_
     repeat apply Wq
     refine Wp.r n5 ?_
     repeat apply Wq
     refine Wp.cF ?_
     repeat apply Wq
     refine Wp.runS (by simp only [bsg, reduceLT, reduceEqDiff, reduceCtorEq, (show (x.op == (6 : Int)) = true from by rw [o6]; rfl)] <;> exact rfl) ?_
     repeat apply Wq
     refine Wp.cT ?_
     repeat apply Wq
     refine Wp.regionAs (is := List.range' 0 3 ++ (3 :: (List.range' 4 1 ++ (5 :: [])))) rfl ?_
     refine WpO.r 3 (Aq @ln3 (Aq @lc3 (Heap.lf g7 (k := 3) rfl))) ?_
     refine WpO.cR (itoaN_does 0 L1 x.n sx.n.1 sx.n.2) c31 ?_
     rintro _ h9 ⟨rfl, hh9⟩
     obtain rfl := hh9.symm
     clear hh9
     refine pu ?_
     refine WpO.runS 1 (by simp only [bsd, bsg, reduceLT, reduceEqDiff, reduceCtorEq, show (Value.string ⟨#[101, 120, 105, 116]⟩) = .string (bs exitW) from rfl, wb2 L1 exitW (Lib.itoa x.n)] <;> exact rfl) (by decide) ?_
     refine WpO.cS c29 ((st3.call (r := [exitW, Lib.itoa x.n]) ⟨_, by rw [hcut2, hR]; rfl⟩ ha2 hal rfl (by simp [armRowS]) (join_ne _ _ (by decide))).mono ?_)
     intro e K4 hr
     obtain ⟨rfl, st4, kp4⟩ := hr
     refine pt ?_
     refine WpO.nil ?_
     exact ⟨rfl, by rw [hR]; exact st4, _, rfl, ⟨rfl, rfl, rfl, rfl, rfl, rfl, rfl, trivial⟩⟩
    have n6 : (x.op == (6 : Int)) = false := by rw [beq_eq_false_iff_ne]; exact o6
    by_cases o7 : x.op = 7
    ·have hR : rowsL x = [[expectW, openW]] ++ x.arms.map armRowS ++ lateRowS x ++ [[shutW]] := by unfold rowsL; rw [if_neg o1, if_neg o2, if_neg o3, if_neg o4, if_neg o5, if_neg o6, if_pos o7]
     repeat apply Wq
     refine Wp.r n1 ?_
     repeat apply Wq
     refine Wp.cF ?_
     repeat apply Wq
     refine Wp.r n2 ?_
     repeat apply Wq
     refine Wp.cF ?_
     repeat apply Wq
     refine Wp.r n3 ?_
     repeat apply Wq
     refine Wp.cF ?_
     repeat apply Wq
     refine Wp.r n4 ?_
     repeat apply Wq
     refine Wp.cF ?_
     repeat apply Wq
     refine Wp.r n5 ?_
     repeat apply Wq
     refine Wp.cF ?_
     repeat apply Wq
     refine Wp.r n6 ?_
     repeat apply Wq
     refine Wp.cF ?_
     repeat apply Wq
     refine Wp.runS (by simp only [bsg, reduceLT, reduceEqDiff, reduceCtorEq, (show (x.op == (7 : Int)) = true from by rw [o7]; rfl)] <;> exact rfl) ?_
     repeat apply Wq
     refine Wp.cT ?_
     repeat apply Wq
     refine Wp.regionAs (is := List.range' 0 2 ++ (2 :: [])) rfl ?_
     refine WpO.runS 2 (by simp only [bsd, bsg, reduceLT, reduceEqDiff, reduceCtorEq, show (Value.string ⟨#[101, 120, 112, 101, 99, 116]⟩) = .string (bs expectW) from rfl, show (Value.string ⟨#[123]⟩) = .string (bs openW) from rfl, wb2 L1 expectW openW] <;> exact rfl) (by decide) ?_
     refine WpO.cS c29 ((st3.call (r := [expectW, openW]) ⟨_, by rw [hcut2, hR]; rfl⟩ ha2 hal rfl (by simp [armRowS]) (join_ne _ _ (by decide))).mono ?_)
     intro e KA hr
     obtain ⟨rfl, stA, kpA⟩ := hr
     refine pt ?_
     refine WpO.nil ?_
     replace g7 := kpA _ _ g7 hj7 rfl
     have ham := sx.arms.1
     repeat apply Wq
     refine Wp.r (Aq @ln5 (Aq @lc47 (Aq (Heap.lf g7 (k := 5) rfl) aa.len))) ?_
     repeat apply Wq
     refine Wp.cut (fun fr u h' => u = none ∧ TS h j3 all (Q ++ [[expectW, openW]] ++ x.arms.map armRowS) h' ∧ h'.get j7 = some (lineRow x av) ∧ ∃ sl, fr = ⟨127, sl, []⟩ ∧ holds [(3, .pointer (some ⟨j3, 0, none⟩)), (7, .pointer (some ⟨j7, 0, none⟩)), (13, v), (14, .int .i64 (bl.length : Nat)), (15, .int .i64 i), (26, lv), (27, .int .i64 (t.lines.length : Nat)), (28, .int .i64 n)] sl) ?_ ?_
     rotate_left
     ·repeat apply Wq
      refine Wp.block ?_
      refine Wp.loopI (X := Nat × Heap) (fun y => [(3, .pointer (some ⟨j3, 0, none⟩)), (7, .pointer (some ⟨j7, 0, none⟩)), (13, v), (14, .int .i64 (bl.length : Nat)), (15, .int .i64 i), (26, lv), (27, .int .i64 (t.lines.length : Nat)), (28, .int .i64 n), (92, av), (93, .int .i64 (x.arms.length : Nat)), (94, .int .i64 y.1)]) (fun y => y.2)
       (fun y => y.1 ≤ x.arms.length ∧ TS h j3 all (Q ++ [[expectW, openW]] ++ (x.arms.take y.1).map armRowS) y.2 ∧ y.2.get j7 = some (lineRow x av)) (fun y => x.arms.length - y.1) (0, KA) ⟨Nat.zero_le _, by rw [List.take_zero, List.map_nil, List.append_nil]; exact stA, g7⟩ ⟨rfl, rfl, rfl, rfl, rfl, rfl, rfl, rfl, rfl, rfl, rfl, trivial⟩ rfl ?_
      rintro ⟨m, M⟩ ⟨hlem, stm, gm⟩
      simp only at hlem stm gm ⊢
      by_cases hltm : (m : Int) < (x.arms.length : Int)
      ·repeat apply Wq
       refine Wp.r (decide_eq_true hltm) ?_
       repeat apply Wq
       refine Wp.cT ?_
       repeat apply Wq
       refine Wp.skip ?_
       repeat apply Wq
       refine Wp.block ?_
       obtain ⟨y, hy⟩ : ∃ y, x.arms[m]? = some y := ⟨_, List.getElem?_eq_getElem (by omega)⟩
       obtain ⟨b2, k2, _, hp2, ta2⟩ := aa.at hy
       have hw3 : IntKind.i64.wrap ((m : Int) + 1) = ((m + 1 : Nat) : Int) := by rw [wrap_in (by omega) (by omega)]; omega
       have hmt : (x.arms.take (m + 1)).map armRowS = (x.arms.take m).map armRowS ++ [armRowS y] := by
        have : x.arms.take (m + 1) = x.arms.take m ++ [y] := by rw [List.take_add_one, hy]; rfl
        rw [this, List.map_append]; rfl
       have hmc : x.arms.map armRowS = (x.arms.take m).map armRowS ++ (armRowS y :: (x.arms.drop (m + 1)).map armRowS) := by
        conv => lhs; rw [← List.take_append_drop m x.arms, drop_at hy]
        rw [List.map_append, List.map_cons]
       repeat apply Wq
       refine Wp.r (Aq hp2 (Aq (ta2 M stm.m) (Aq @alloc54' (acell0 M y)))) ?_
       have g9 : (M.alloc (armRow y)).get M.next = some (armRow y) := Heap.gn M _
       replace gm := (Heap.ma M (armRow y)).get gm
       replace stm := stm.more (Heap.ma M (armRow y))
       have hj9 : M.next ≠ j3 := by obtain ⟨_, _, g, _⟩ := stm.w; intro q; rw [← q, g9] at g; cases g
       generalize M.alloc (armRow y) = M1 at g9 gm stm ⊢
       generalize M.next = j9 at g9 hj9 ⊢
       repeat apply Wq
       refine Wp.drawAs [] [101] 0 (fun _ => True) mixed (by kernel_rfl) trivial ?_
       refine DrT.run 3 (by simp only [bsd, bss, bsg, reduceLT, reduceEqDiff, reduceCtorEq, a0, arm_pat g9] <;> exact rfl) rfl ?_
       try simp only [List.drop_succ_cons, List.drop_zero]
       refine DrT.callP (fun H => patPrint_does 0 H y.kind y.text) (by simp only [bsg, reduceLT, reduceEqDiff, reduceCtorEq]) (fun H => by simp only [bsc, bsg, reduceLT, reduceEqDiff, reduceCtorEq, c32] <;> exact rfl) (by simp only [bsg, reduceLT, reduceEqDiff, reduceCtorEq] <;> exact rfl) ?_
       refine DrT.run 2 (by simp only [bsd, bss, bsg, reduceLT, reduceEqDiff, reduceCtorEq, a1, lc9, Heap.lf g9 (k := 2) rfl] <;> exact rfl) rfl ?_
       try simp only [List.drop_succ_cons, List.drop_zero]
       refine DrT.val (by simp only [bsg, reduceLT, reduceEqDiff, reduceCtorEq, show (Value.string ⟨#[103, 111, 116, 111]⟩) = .string (bs gotoB) from rfl, wb3 M1 (patS y.kind y.text) gotoB y.to] <;> exact rfl) rfl rfl (by simp only [bsg, reduceLT, reduceEqDiff, reduceCtorEq]) (by simp only [bsg, reduceLT, reduceEqDiff, reduceCtorEq] <;> exact rfl) (fun _ => trivial) ?_
       refine DrT.call (stm.call (r := armRowS y) ⟨_, by rw [hcut2, hR, hmc]; simp only [List.append_assoc, List.cons_append]; rfl⟩ ha2 hal rfl (by simp [armRowS]) (join_ne2 _ _ _)) rfl rfl (by simp only [bsg, reduceLT, reduceEqDiff, reduceCtorEq]) (by simp only [bsc, bsg, reduceLT, reduceEqDiff, reduceCtorEq, c29] <;> exact rfl) ?_
       intro e M2 hr
       obtain ⟨rfl, st5, kp5⟩ := hr
       refine ⟨_, _, rfl, fun _ => trivial, by simp only [bsg, reduceLT, reduceEqDiff, reduceCtorEq]; exact rfl, ?_⟩
       refine DrT.nil ?_
       repeat apply Wq
       refine Wp.r hw3 ?_
       refine ⟨(m + 1, M2), _, ⟨by simp only; omega, by simp only; rw [hmt, ← List.append_assoc]; exact st5, kp5 _ _ gm hj7 rfl⟩, by simp only; omega, rfl, ⟨rfl, rfl, rfl, rfl, rfl, rfl, rfl, rfl, rfl, rfl, rfl, trivial⟩, rfl, rfl⟩
      ·repeat apply Wq
       refine Wp.r (decide_eq_false hltm) ?_
       repeat apply Wq
       refine Wp.cF ?_
       repeat apply Wq
       refine Wp.exit ?_
       simp only [bx, Nat.reduceEqDiff]
       rw [List.take_of_length_le (by omega)] at stm
       exact ⟨by trivial, stm, gm, _, rfl, ⟨rfl, rfl, rfl, rfl, rfl, rfl, rfl, rfl, trivial⟩⟩
     rintro fr u h8 ⟨rfl, stB, gB, sl, rfl, hs8⟩
     refine Wp.weaken (Frm.le_of hs8) ?_
     clear hs8 sl
     by_cases hlate : x.late = []
     ·have hlr : lateRowS x = [] := by unfold lateRowS; rw [if_pos hlate]
      repeat apply Wq
      refine Wp.r (Aq @ln7 (Aq @lc9 (Aq (Heap.lf gB (k := 7) rfl) (Aq @neq_emp (decide_eq_false (not_not_intro hlate)))))) ?_
      repeat apply Wq
      refine Wp.cF ?_
      repeat apply Wq
      refine Wp.skip ?_
      repeat apply Wq
      refine Wp.regionAs (is := List.range' 0 2 ++ (2 :: [])) rfl ?_
      refine WpO.runS 2 (by simp only [bsd, bsg, reduceLT, reduceEqDiff, reduceCtorEq, show (Value.string ⟨#[125]⟩) = .string (bs shutW) from rfl, wb1 h8 shutW] <;> exact rfl) (by decide) ?_
      refine WpO.cS c29 ((stB.call (r := [shutW]) ⟨_, by rw [hcut2, hR, hlr]; simp only [List.append_assoc, List.cons_append, List.nil_append]; rfl⟩ ha2 hal rfl (by simp [armRowS]) (join_ne _ _ (by decide))).mono ?_)
      intro e K4 hr
      obtain ⟨rfl, st4, kp4⟩ := hr
      refine pt ?_
      refine WpO.nil ?_
      rw [hlr, List.append_nil] at hR
      exact ⟨rfl, by rw [hR]; simp only [List.append_assoc] at st4 ⊢; exact st4, _, rfl, ⟨rfl, rfl, rfl, rfl, rfl, rfl, rfl, trivial⟩⟩
     have hlr : lateRowS x = [[timeoutB, Lib.itoa x.wait, gotoB, x.late]] := by unfold lateRowS; rw [if_neg hlate]
     repeat apply Wq
     refine Wp.r (Aq @ln7 (Aq @lc9 (Aq (Heap.lf gB (k := 7) rfl) (Aq @neq_emp (decide_eq_true (show x.late ≠ [] from hlate)))))) ?_
     repeat apply Wq
     refine Wp.cT ?_
     repeat apply Wq
     refine Wp.drawAs [] [113] 0 (fun _ => True) mixed (by kernel_rfl) trivial ?_
     refine DrT.run 3 (by simp only [bsd, bss, bsg, reduceLT, reduceEqDiff, reduceCtorEq, ln6, lc3, Heap.lf gB (k := 6) rfl] <;> exact rfl) rfl ?_
     try simp only [List.drop_succ_cons, List.drop_zero]
     refine DrT.callP (fun H => itoaN_does 0 H x.wait sx.wait.1 sx.wait.2) (by simp only [bsg, reduceLT, reduceEqDiff, reduceCtorEq]) (fun H => by simp only [bsc, bsg, reduceLT, reduceEqDiff, reduceCtorEq, c31] <;> exact rfl) (by simp only [bsg, reduceLT, reduceEqDiff, reduceCtorEq] <;> exact rfl) ?_
     refine DrT.run 2 (by simp only [bsd, bss, bsg, reduceLT, reduceEqDiff, reduceCtorEq, ln7, lc9, Heap.lf gB (k := 7) rfl] <;> exact rfl) rfl ?_
     try simp only [List.drop_succ_cons, List.drop_zero]
     refine DrT.val (by simp only [bsg, reduceLT, reduceEqDiff, reduceCtorEq, show (Value.string ⟨#[116, 105, 109, 101, 111, 117, 116]⟩) = .string (bs timeoutB) from rfl, show (Value.string ⟨#[103, 111, 116, 111]⟩) = .string (bs gotoB) from rfl, wb4 h8 timeoutB (Lib.itoa x.wait) gotoB x.late] <;> exact rfl) rfl rfl (by simp only [bsg, reduceLT, reduceEqDiff, reduceCtorEq]) (by simp only [bsg, reduceLT, reduceEqDiff, reduceCtorEq] <;> exact rfl) (fun _ => trivial) ?_
     refine DrT.call (stB.call (r := [timeoutB, Lib.itoa x.wait, gotoB, x.late]) ⟨_, by rw [hcut2, hR, hlr]; simp only [List.append_assoc, List.cons_append, List.nil_append]; rfl⟩ ha2 hal rfl (by simp [armRowS]) (join_ne _ _ (by decide))) rfl rfl (by simp only [bsg, reduceLT, reduceEqDiff, reduceCtorEq]) (by simp only [bsc, bsg, reduceLT, reduceEqDiff, reduceCtorEq, c29] <;> exact rfl) ?_
     intro e K6 hr
     obtain ⟨rfl, st6, kp6⟩ := hr
     refine ⟨_, _, rfl, fun _ => trivial, by simp only [bsg, reduceLT, reduceEqDiff, reduceCtorEq]; exact rfl, ?_⟩
     refine DrT.nil ?_
     repeat apply Wq
     refine Wp.regionAs (is := List.range' 0 2 ++ (2 :: [])) rfl ?_
     refine WpO.runS 2 (by simp only [bsd, bsg, reduceLT, reduceEqDiff, reduceCtorEq, show (Value.string ⟨#[125]⟩) = .string (bs shutW) from rfl, wb1 K6 shutW] <;> exact rfl) (by decide) ?_
     refine WpO.cS c29 ((st6.call (r := [shutW]) ⟨_, by rw [hcut2, hR, hlr]; simp only [List.append_assoc, List.cons_append, List.nil_append]; rfl⟩ ha2 hal rfl (by simp [armRowS]) (join_ne _ _ (by decide))).mono ?_)
     intro e K4 hr
     obtain ⟨rfl, st4, kp4⟩ := hr
     refine pt ?_
     refine WpO.nil ?_
     rw [hlr] at hR
     exact ⟨rfl, by rw [hR]; simp only [List.append_assoc] at st4 ⊢; exact st4, _, rfl, ⟨rfl, rfl, rfl, rfl, rfl, rfl, rfl, trivial⟩⟩
    have n7 : (x.op == (7 : Int)) = false := by rw [beq_eq_false_iff_ne]; exact o7
    have hR : rowsL x = [] := by unfold rowsL; rw [if_neg o1, if_neg o2, if_neg o3, if_neg o4, if_neg o5, if_neg o6, if_neg o7]
    repeat apply Wq
    refine Wp.r n1 ?_
    repeat apply Wq
    refine Wp.cF ?_
    repeat apply Wq
    refine Wp.r n2 ?_
    repeat apply Wq
    refine Wp.cF ?_
    repeat apply Wq
    refine Wp.r n3 ?_
    repeat apply Wq
    refine Wp.cF ?_
    repeat apply Wq
    refine Wp.r n4 ?_
    repeat apply Wq
    refine Wp.cF ?_
    repeat apply Wq
    refine Wp.r n5 ?_
    repeat apply Wq
    refine Wp.cF ?_
    repeat apply Wq
    refine Wp.r n6 ?_
    repeat apply Wq
    refine Wp.cF ?_
    repeat apply Wq
    refine Wp.r n7 ?_
    repeat apply Wq
    refine Wp.cF ?_
    repeat apply Wq
    refine Wp.skip ?_
    exact ⟨rfl, by rw [hR, List.append_nil]; exact st3, _, rfl, ⟨rfl, rfl, rfl, rfl, rfl, rfl, rfl, trivial⟩⟩
   rintro fr u h9 ⟨rfl, st9, sl, rfl, hs9⟩
   refine Wp.weaken (Frm.le_of hs9) ?_
   clear hs9 sl
   repeat apply Wq
   refine Wp.r hw2 ?_
   refine ⟨(n + 1, h9), _, ⟨by simp only; omega, by simp only; rw [hQt]; exact st9⟩, by simp only; omega, rfl, ⟨rfl, rfl, rfl, rfl, rfl, rfl, rfl, trivial⟩, rfl, rfl⟩
  ·repeat apply Wq
   refine Wp.r (decide_eq_false hlt2) ?_
   repeat apply Wq
   refine Wp.cF ?_
   repeat apply Wq
   refine Wp.exit ?_
   simp only [bx, Nat.reduceEqDiff]
   repeat apply Wq
   refine Wp.r hw1 ?_
   refine ⟨(i + 1, L), _, ⟨by simp only; omega, ?_⟩, by simp only; omega, rfl, ⟨rfl, rfl, rfl, rfl, trivial⟩, rfl, rfl⟩
   simp only
   rw [hPt]
   rw [List.take_of_length_le (by omega), List.append_assoc] at st3
   exact st3
 ·repeat apply Wq
  refine Wp.r (decide_eq_false hlt) ?_
  repeat apply Wq
  refine Wp.cF ?_
  repeat apply Wq
  refine Wp.exit ?_
  simp only [bx, Nat.reduceEqDiff]
  rw [List.take_of_length_le (by omega), ← hall] at st
  repeat apply Wq
  refine Wp.regionAs (is := List.range' 0 3 ++ (3 :: (List.range' 4 1 ++ []))) rfl ?_
  refine WpO.r 3 @w0 ?_
  refine WpO.cS c33 ((wrEnd_spec 0 h.next K j3 (wr [] all) st.w (by have := st.len ha2 hal; omega)).mono ?_)
  intro e K2 hr
  obtain ⟨rfl, n2, o2⟩ := hr
  refine pt ?_
  refine WpO.rS 1 ?_
  refine WpO.nil ?_
  repeat apply Wq
  refine Wp.ret ?_
  refine ⟨rfl, rfl, _, rfl, by rw [hall]; rfl, Nat.le_trans st.m.1 n2, fun j hj => by rw [o2 j hj]; exact st.m.2 j hj⟩
end Go.Mini
