import Derived.Test.YtjgmccbjffncaaaDoorPLexZc
import Derived.Test.YtjgmccbjffncaaaDoorMiniYOtoYS
import Derived.Test.YtjgmccbjffncaaaDoorPatD
set_option maxHeartbeats 8000000
set_option maxRecDepth 100000
set_option linter.unusedSimpArgs false
namespace Go.Mini
open Nat (reduceLT reduceEqDiff)
open Go.Proofs Tryd
structure ReSt (h H : Heap) (i : Nat) (T : List UInt8) (p : Nat) : Prop where
 r : H.get i = some (regRow T p)
 n : H.get h.next = some (nodeRow zeroCells)
 lt : i < h.next
 lo : h.next + 1 ≤ H.next
 but : h.but i H
section
variable {h H : Heap} {i : Nat} {T : List UInt8} {p : Nat} (st : ReSt h H i T p)
include st
theorem ReSt.at (b : Nat) : ReSt h (regAt H i T b) i T b where
 r := regAt_get st.r b
 n := by unfold regAt; rw [Heap.gs (by have := st.lt; omega)]; exact st.n
 lt := st.lt
 lo := by unfold regAt; simpa using st.lo
 but := but_set_at st.but _
theorem ReSt.call {H2 : Heap} {b : Nat} (hb : H.but i H2) (hg : H2.get i = some (regRow T b)) : ReSt h H2 i T b where
 r := hg
 n := by rw [hb.2 _ (by have := st.lo; omega) (by have := st.lt; omega)]; exact st.n
 lt := st.lt
 lo := Nat.le_trans st.lo hb.1
 but := st.but.trans hb
theorem ReSt.more {H2 : Heap} (hm : H.more H2) : ReSt h H2 i T p := st.call (hm.but i) (hm.get st.r)
theorem ReSt.setNew {j : Nat} (hj : h.next + 1 ≤ j) (o : AObj) : ReSt h (H.set j o) i T p where
 r := by rw [Heap.gs (by have := st.lt; omega)]; exact st.r
 n := by rw [Heap.gs (by omega)]; exact st.n
 lt := st.lt
 lo := by simpa using st.lo
 but := but_set_new st.but (by omega) _
theorem ReSt.plain {H2 : Heap} (h1 : H.next ≤ H2.next) (h2 : ∀ j o, H.get j = some o → o.plain = true → H2.get j = some o) (h3 : ∀ j, j < h.next + 1 → H2.get j = H.get j) : ReSt h H2 i T p where
 r := h2 _ _ st.r rfl
 n := h2 _ _ st.n rfl
 lt := st.lt
 lo := Nat.le_trans st.lo h1
 but := ⟨Nat.le_trans st.but.1 h1, fun j hj hne => by rw [h3 j (by omega)]; exact st.but.2 j hj hne⟩
end
theorem Parts.but {lo i : Nat} {H H2 : Heap} {T : List UInt8} {p : Nat} {v : Value} {ns : List Value} (hp : Parts lo H v ns) (hr : H.get i = some (regRow T p)) (hb : H.but i H2) : Parts lo H2 v ns :=
 hp.keep hb.1 fun j q hq hpl => by rw [hb.2 j (Heap.lg hq) (by rintro rfl; rw [hr] at hq; cases hq; cases hpl)]; exact hq
theorem Parts.setNew {lo j : Nat} {H : Heap} {cs cs' : List Value} {v : Value} {ns : List Value} (hp : Parts lo H v ns) (hj : H.get j = some (nodeRow cs)) : Parts lo (H.set j (nodeRow cs')) v ns :=
 hp.keep (by simp) fun k q hq hpl => by rw [Heap.gs (by rintro rfl; rw [hj] at hq; cases hq; cases hpl)]; exact hq
theorem PartsP.but {lo i : Nat} {H H2 : Heap} {v : Value} {ns : List Value} (hp : PartsP lo H v ns) (hi : i < lo) (hb : H.but i H2) : PartsP lo H2 v ns := by
 obtain ⟨h1, b, h2, h3, h4, h5⟩ := hp
 exact ⟨fun x hx => (h1 x hx).mono hb.1, b, h2, h3, h4, by rw [hb.2 b (Heap.lg h5) (by omega)]; exact h5⟩
theorem bslice_node {H : Heap} {w : Value} {n : Nat} (hw : NodeOk n w) : abuildSlice prog H 106 1 [(0, w)] = some (.slice (some ⟨H.next, 0, none⟩) 1 1, H.alloc (nodeRow w.cells.toList)) := by
 obtain ⟨c1, c2, _⟩ := node_cells hw
 exact (own_push (n := 0) (cs := []) underlying106 elem108 (by omega) (Own.nil H 108) (by simp) c1 c2 (by omega) (by omega)).1
structure CellOk (H : Heap) (j : Nat) (w : Value) : Prop where
 ex : ∃ cs, H.get j = some (nodeRow cs) ∧ cs.length = 6 ∧ w = .agg cs.toArray
 ok : NodeOk H.next w
theorem CellOk.load {H : Heap} {j : Nat} {w : Value} (c : CellOk H j w) : aload prog H 108 (.pointer (some ⟨j, 0, none⟩)) = some w := by
 obtain ⟨cs, h1, h2, h3⟩ := c.ex
 rw [node_load h1 h2, h3]
theorem CellOk.but {H H2 : Heap} {i j : Nat} {w : Value} (c : CellOk H j w) (hb : H.but i H2) (hne : j ≠ i) : CellOk H2 j w := by
 obtain ⟨cs, h1, h2, h3⟩ := c.ex
 exact ⟨⟨cs, by rw [hb.2 j (Heap.lg h1) hne]; exact h1, h2, h3⟩, c.ok.mono hb.1⟩
theorem cell_new {H : Heap} {w : Value} (hw : NodeOk H.next w) : ∃ H', astore prog (H.alloc (nodeRow zeroCells)) 108 (.pointer (some ⟨H.next, 0, none⟩)) w = some H' ∧ H.more H' ∧ CellOk H' H.next w ∧ H'.next = H.next + 1 := by
 have gz : (H.alloc (nodeRow zeroCells)).get H.next = some (nodeRow zeroCells) := Heap.gn _ _
 obtain ⟨H', e1, e2, e3, e4, e5, cs, e6, e7, e8⟩ := node_fin gz rfl hw (by simp)
 exact ⟨H', e1, ⟨by rw [e3]; simp, fun j hj => by rw [e4 j (by omega), Heap.go _ _ hj]⟩, ⟨⟨cs, e6, e7, e8⟩, e5⟩, by rw [e3]; rfl⟩
theorem cell_set {H : Heap} {j n : Nat} {w w' : Value} (c : CellOk H j w) (hw : NodeOk n w') (hn : n ≤ H.next) : ∃ cs', astore prog H 108 (.pointer (some ⟨j, 0, none⟩)) w' = some (H.set j (nodeRow cs')) ∧ CellOk (H.set j (nodeRow cs')) j w' := by
 obtain ⟨cs, h1, h2, h3⟩ := c.ex
 obtain ⟨cs', e1, e2, e3⟩ := node_put h1 h2 hw
 exact ⟨cs', e1, ⟨cs', Heap.gf h1, e3, e2⟩, by simpa using hw.mono hn⟩
theorem reS_end {T : List UInt8} {f p : Nat} (h : T[p]? = none ∨ T[p]? = some 124 ∨ T[p]? = some 41) : reS T (f + 1) 1 p = .ok p := by
 rw [reS]
 rcases h with q | q | q <;> rw [q]
 ·exact if_pos (.inl rfl)
 ·exact if_pos (.inr rfl)
theorem reS_go {T : List UInt8} {f p : Nat} (h : ¬ (T[p]? = none ∨ T[p]? = some 124 ∨ T[p]? = some 41)) : reS T (f + 1) 1 p = (match reS T f 2 p with | .error e => .error e | .ok b => reS T f 1 (if postB T b then b + 1 else b)) := by
 rw [reS]
 cases hc : T[p]? with
 | none => exact absurd (.inl hc) h
 | some c =>
  have : ¬ (c = 124 ∨ c = 41) := by
   rintro (q | q)
   ·exact h (.inr (.inl (by rw [hc, q])))
   ·exact h (.inr (.inr (by rw [hc, q])))
  simp only [if_neg this]
  cases reS T f 2 p <;> rfl
def reId : Nat → FuncId
 | 0 => 64
 | 1 => 79
 | _ => 93
theorem nodeV_ok {H : Heap} {op : Int} {b l c : Nat} (hb : b < H.next) : NodeOk H.next (nodeV op 0 0 0 0 (.slice (some ⟨b, 0, none⟩) l c)) := ⟨⟨_, _, _, _, _, _, _, _, rfl⟩, by simp [nodeV, sc, scA, scL, hb]⟩
theorem row_step (G : Nat) (B : Base prog G) (T : List UInt8) (hT : T.length ≤ 100000) (F : Nat)
  (IH : ∀ f, f < F → ∀ k a h i, k ≤ 2 → h.get i = some (regRow T a) → a ≤ T.length → 3 * (T.length - a) + (3 - k) ≤ f → Does prog G (GoodE prog B) (reId k) [.pointer (some ⟨i, 0, none⟩)] h (NodeR h i T (reS T f k a)))
  (a : Nat) (h : Heap) (i : Nat) (hg : h.get i = some (regRow T a)) (ha : a ≤ T.length) (hf : 3 * (T.length - a) + 2 ≤ F) :
  Does prog G (GoodE prog B) 79 [.pointer (some ⟨i, 0, none⟩)] h (NodeR h i T (reS T F 1 a)) := by
 have c65 : canEnter prog 65 = true := by kernel_rfl
 have c67 : canEnter prog 67 = true := by kernel_rfl
 have c93 : canEnter prog 93 = true := by kernel_rfl
 have hi := Heap.lg hg
 refine Does.body func79 rfl ?_
 have hn : enterF Tryd.f79 [.pointer (some ⟨i, 0, none⟩)] = ⟨74, [(0, .pointer (some ⟨i, 0, none⟩))], []⟩ := rfl
 rw [hn]; clear hn
 repeat apply Wq
 refine Wp.r @alloc108' ?_
 dsimp only [after, leaving]
 have st : ReSt h (h.alloc (nodeRow zeroCells)) i T a := {
  r := by rw [Heap.go _ _ hi]; exact hg
  n := Heap.gn _ _
  lt := hi
  lo := by simp
  but := but_alloc ((Heap.mr h).but i) _ }
 generalize h.alloc (nodeRow zeroCells) = H0 at st ⊢
 repeat apply Wq
 refine Wp.rS ?_
 repeat apply Wq
 refine Wp.block ?_
 refine Wp.loopI (X := Nat × Nat × Value × List Value × Heap) (fun x => [(0, .pointer (some ⟨i, 0, none⟩)), (2, .pointer (some ⟨h.next, 0, none⟩)), (3, x.2.2.1)]) (fun x => x.2.2.2.2)
  (fun x => reS T F 1 a = reS T x.1 1 x.2.1 ∧ x.2.1 ≤ T.length ∧ x.1 ≤ F ∧ 3 * (T.length - x.2.1) + 2 ≤ x.1 ∧ ReSt h x.2.2.2.2 i T x.2.1 ∧ Parts (h.next + 1) x.2.2.2.2 x.2.2.1 x.2.2.2.1 ∧ x.2.2.2.1.length ≤ x.2.1) (fun x => x.1)
  (F, a, .slice none 0 0, [], H0) ⟨rfl, ha, Nat.le_refl _, hf, st, Parts.nil _ _, Nat.zero_le _⟩ ⟨rfl, rfl, rfl, trivial⟩ rfl ?_
 clear st H0
 rintro ⟨f, p, v, ns, H⟩ ⟨hR, hp, hfF, hfe, st, ps, hl⟩
 simp only at hR hp hfF hfe st ps hl
 obtain ⟨f, rfl⟩ : ∃ g, f = g + 1 := ⟨f - 1, by omega⟩
 rw [hR]
 clear hR
 repeat apply Wq
 refine Wp.block ?_
 repeat apply Wq
 refine Wp.regionAs (is := List.range' 0 1 ++ (1 :: (List.range' 2 5 ++ []))) rfl ?_
 refine WpO.rS 1 ?_
 refine WpO.cR (nextR_does G H i T p st.r) c65 ?_
 rintro _ h9 ⟨rfl, hh9⟩
 obtain rfl := hh9.symm
 clear hh9
 refine pu ?_
 refine WpO.runS 5 (by simp only [bsd, bsg, reduceLT, reduceEqDiff, reduceCtorEq, nextV, List.getElem?_toArray] <;> exact rfl) (by decide) ?_
 refine WpO.nil ?_
 repeat apply Wq
 refine Wp.cut (fun fr u h' => u = none ∧ h' = H ∧ ∃ sl, fr = ⟨74, sl, []⟩ ∧ holds [(0, .pointer (some ⟨i, 0, none⟩)), (2, .pointer (some ⟨h.next, 0, none⟩)), (3, v), (23, .bool (decide (T[p]? = none ∨ T[p]? = some 124 ∨ T[p]? = some 41)))] sl) ?_ ?_
 rotate_left
 ·cases hc : T[p]? with
  | none =>
   repeat apply Wq
   refine Wp.runS (by simp only [bsg, reduceLT, reduceEqDiff, reduceCtorEq, Option.isSome] <;> exact rfl) ?_
   dsimp only [after, leaving]
   exact ⟨rfl, rfl, _, rfl, rfl, rfl, rfl, by rw [decide_eq_true (by simp)]; rfl, trivial⟩
  | some c =>
   have e1 : ((c.toNat : Int) == 124) = decide (c = 124) := u8_eq c 124 (by omega)
   have e2 : ((c.toNat : Int) == 41) = decide (c = 41) := u8_eq c 41 (by omega)
   by_cases h1 : c = 124
   ·rw [decide_eq_true h1] at e1
    repeat apply Wq
    refine Wp.runS (by simp only [bsg, reduceLT, reduceEqDiff, reduceCtorEq, Option.isSome, Option.getD, byteV, e1] <;> exact rfl) ?_
    dsimp only [after, leaving]
    exact ⟨rfl, rfl, _, rfl, rfl, rfl, rfl, by rw [decide_eq_true (by simp [h1])]; rfl, trivial⟩
   ·rw [decide_eq_false h1] at e1
    repeat apply Wq
    refine Wp.runS (by simp only [bsg, reduceLT, reduceEqDiff, reduceCtorEq, Option.isSome, Option.getD, byteV, e1, e2] <;> exact rfl) ?_
    dsimp only [after, leaving]
    refine ⟨rfl, rfl, _, rfl, rfl, rfl, rfl, ?_, trivial⟩
    rw [show decide (some c = none ∨ some c = some 124 ∨ some c = some 41) = decide (c = 41) from decide_eq_decide.2 (by simp [h1])]; rfl
 rintro fr u h9 ⟨rfl, hH, sl, rfl, hs1⟩
 obtain rfl := hH.symm
 clear hH
 refine Wp.weaken (Frm.le_of hs1) ?_
 clear hs1 sl
 by_cases hend : T[p]? = none ∨ T[p]? = some 124 ∨ T[p]? = some 41
 ·rw [decide_eq_true hend]
  rw [reS_end hend]
  repeat apply Wq
  refine Wp.cT ?_
  repeat apply Wq
  refine Wp.regionAs (is := List.range' 0 1 ++ (1 :: (List.range' 2 1 ++ []))) rfl ?_
  refine WpO.rS 1 ?_
  refine WpO.cS c67 ((joined_spec G H 3 v ns ps.read).mono ?_)
  rintro x H2 ⟨nv, rfl, hm, hn⟩
  have st2 := st.more hm
  obtain ⟨H', e1, e2, e3, e4, e5, _⟩ := node_fin (n := H2.next) st2.n rfl hn (Nat.le_refl _)
  refine pt ?_
  refine WpO.r 1 e1 ?_
  refine WpO.nil ?_
  repeat apply Wq
  refine Wp.ret ?_
  dsimp only [after, leaving]
  refine ⟨rfl, rfl, _, ares_cellP rfl rfl e2, _, rfl, e5, ⟨by have := st2.but.1; omega, fun j hj hne => ?_⟩, ?_⟩
  ·rw [e4 j (by omega)]; exact st2.but.2 j hj hne
  ·rw [e4 i (by have := st2.lt; omega)]; exact st2.r
 rw [decide_eq_false hend, reS_go hend]
 obtain ⟨c, hc⟩ : ∃ c, T[p]? = some c := by
  cases hc : T[p]? with
  | none => exact absurd (.inl hc) hend
  | some c => exact ⟨c, rfl⟩
 have hpl := (List.getElem?_eq_some_iff.1 hc).1
 repeat apply Wq
 refine Wp.cF ?_
 repeat apply Wq
 refine Wp.skip ?_
 repeat apply Wq
 refine Wp.regionAs (is := List.range' 0 1 ++ (1 :: (List.range' 2 2 ++ []))) rfl ?_
 refine WpO.rS 1 ?_
 refine WpO.cS c93 ((IH f (by omega) 2 p H i (Nat.le_refl _) st.r hp (by omega)).mono ?_)
 intro x H2 hr
 have hle := reS_le (T := T) f 2 p hp
 cases hre : reS T f 2 p with
 | error e =>
  rw [hre] at hr
  obtain ⟨rfl, hb⟩ := hr
  exact ⟨rfl, rfl, rfl, st.but.trans hb⟩
 | ok b =>
  rw [hre] at hr hle
  simp only [okE_ok] at hle
  obtain ⟨nv, rfl, hn, hb, hgb⟩ := hr
  refine pt ?_
  have st2 := st.call hb hgb
  have ps2 := ps.but st.r hb
  obtain ⟨H3, e1, hm3, ce, hn3⟩ := cell_new hn
  refine WpO.r 2 (Aq @alloc108' e1) ?_
  refine WpO.nil ?_
  dsimp only [after, leaving]
  have st3 := st2.more hm3
  have ps3 := ps2.but st2.r (hm3.but i)
  have j6 : h.next + 1 ≤ H2.next := st2.lo
  have j6i : H2.next ≠ i := by have := st2.lt; omega
  generalize H2.next = j at e1 ce hn3 j6 j6i ⊢
  clear e1 hm3 st2 ps2 hb hgb hn st ps
  repeat apply Wq
  refine Wp.regionAs (is := List.range' 0 1 ++ (1 :: (List.range' 2 5 ++ []))) rfl ?_
  refine WpO.rS 1 ?_
  refine WpO.cR (nextR_does G H3 i T b st3.r) c65 ?_
  rintro _ h9 ⟨rfl, hh9⟩
  obtain rfl := hh9.symm
  clear hh9
  refine pu ?_
  refine WpO.runS 5 (by simp only [bsd, bsg, reduceLT, reduceEqDiff, reduceCtorEq, nextV, List.getElem?_toArray] <;> exact rfl) (by decide) ?_
  refine WpO.nil ?_
  repeat apply Wq
  refine Wp.rS ?_
  repeat apply Wq
  refine Wp.cut (fun fr u h' => u = none ∧ ∃ w, ReSt h h' i T (if postB T b then b + 1 else b) ∧ Parts (h.next + 1) h' v ns ∧ CellOk h' j w ∧ ∃ sl, fr = ⟨74, sl, []⟩ ∧ holds [(0, .pointer (some ⟨i, 0, none⟩)), (2, .pointer (some ⟨h.next, 0, none⟩)), (3, v), (6, .pointer (some ⟨j, 0, none⟩))] sl) ?_ ?_
  rotate_left
  ·have pb : postB T b = (decide ((T[b]?).getD 0 = 42) || decide ((T[b]?).getD 0 = 43) || decide ((T[b]?).getD 0 = 63)) := by
    unfold postB
    cases T[b]? with
    | none => rfl
    | some c => simp [Bool.beq_eq_decide_eq]
   generalize (T[b]?).getD 0 = d at pb ⊢
   have e42 : ((d.toNat : Int) == 42) = decide (d = 42) := u8_eq d 42 (by omega)
   have e43 : ((d.toNat : Int) == 43) = decide (d = 43) := u8_eq d 43 (by omega)
   have e63 : ((d.toNat : Int) == 63) = decide (d = 63) := u8_eq d 63 (by omega)
   have hbl : postB T b = true → b ≤ 1000000 := fun _ => by omega
   repeat apply Wq
   refine Wp.block ?_
   by_cases h42 : d = 42
   ·rw [decide_eq_true h42] at e42
    have hpb : postB T b = true := by rw [pb, h42]; decide
    rw [if_pos hpb]
    repeat apply Wq
    refine Wp.runS (by simp only [bsg, reduceLT, reduceEqDiff, reduceCtorEq, byteV, e42] <;> exact rfl) ?_
    repeat apply Wq
    refine Wp.cT ?_
    have hb1 := bslice_node (H := H3) ce.ok
    obtain ⟨w0, hw0⟩ : ∃ w0, w0 = nodeV 5 0 0 0 0 (.slice (some ⟨H3.next, 0, none⟩) 1 1) := ⟨_, rfl⟩
    have hbl2 : abuild prog 108 [(0, .int .i64 5), (2, .slice (some ⟨H3.next, 0, none⟩) 1 1)] = some w0 := by rw [hw0]; exact build108k _ _ _ _
    have st4 := st3.more (Heap.ma H3 (nodeRow (nv.cells.toList)))
    have ps4 := ps3.but st3.r ((Heap.ma H3 (nodeRow (nv.cells.toList))).but i)
    have ce4 := ce.but ((Heap.ma H3 (nodeRow (nv.cells.toList))).but i) j6i
    obtain ⟨cs', e5, ce5⟩ := cell_set (w' := w0) (n := H3.next + 1) ce4 (by rw [hw0]; exact nodeV_ok (H := H3.alloc (nodeRow (nv.cells.toList))) (by simp)) (by simp)
    repeat apply Wq
    refine Wp.r (Aq ce.load (Aq hb1 (Aq hbl2 e5))) ?_
    dsimp only [after, leaving]
    have st5 := st4.setNew j6 (nodeRow cs')
    have ps5 : Parts (h.next + 1) ((H3.alloc (nodeRow (nv.cells.toList))).set j (nodeRow cs')) v ns := by obtain ⟨cs0, q1, _, _⟩ := ce4.ex; exact ps4.setNew q1
    generalize (H3.alloc (nodeRow (nv.cells.toList))).set j (nodeRow cs') = H5 at st5 ps5 ce5 ⊢
    have l5 := Heap.lf st5.r (k := 0 + 1) rfl
    repeat apply Wq
    refine Wp.r (Aq @g1 (Aq @lc3 (Aq l5 (Aq (wrapN (hbl hpb)) (reg_store st5.r))))) ?_
    dsimp only [after, leaving]
    exact ⟨rfl, w0, st5.at (b + 1), ps5.but st5.r (but_set_at ((Heap.mr H5).but i) _), ce5.but (but_set_at ((Heap.mr H5).but i) _) j6i, _, rfl, rfl, rfl, rfl, rfl, trivial⟩
   rw [decide_eq_false h42] at e42
   repeat apply Wq
   refine Wp.runS (by simp only [bsg, reduceLT, reduceEqDiff, reduceCtorEq, byteV, e42] <;> exact rfl) ?_
   repeat apply Wq
   refine Wp.cF ?_
   by_cases h43 : d = 43
   ·rw [decide_eq_true h43] at e43
    have hpb : postB T b = true := by rw [pb, h43]; decide
    rw [if_pos hpb]
    repeat apply Wq
    refine Wp.runS (by simp only [bsg, reduceLT, reduceEqDiff, reduceCtorEq, byteV, e43] <;> exact rfl) ?_
    repeat apply Wq
    refine Wp.cT ?_
    have hb1 := bslice_node (H := H3) ce.ok
    obtain ⟨w0, hw0⟩ : ∃ w0, w0 = nodeV 6 0 0 0 0 (.slice (some ⟨H3.next, 0, none⟩) 1 1) := ⟨_, rfl⟩
    have hbl2 : abuild prog 108 [(0, .int .i64 6), (2, .slice (some ⟨H3.next, 0, none⟩) 1 1)] = some w0 := by rw [hw0]; exact build108k _ _ _ _
    have st4 := st3.more (Heap.ma H3 (nodeRow (nv.cells.toList)))
    have ps4 := ps3.but st3.r ((Heap.ma H3 (nodeRow (nv.cells.toList))).but i)
    have ce4 := ce.but ((Heap.ma H3 (nodeRow (nv.cells.toList))).but i) j6i
    obtain ⟨cs', e5, ce5⟩ := cell_set (w' := w0) (n := H3.next + 1) ce4 (by rw [hw0]; exact nodeV_ok (H := H3.alloc (nodeRow (nv.cells.toList))) (by simp)) (by simp)
    repeat apply Wq
    refine Wp.r (Aq ce.load (Aq hb1 (Aq hbl2 e5))) ?_
    dsimp only [after, leaving]
    have st5 := st4.setNew j6 (nodeRow cs')
    have ps5 : Parts (h.next + 1) ((H3.alloc (nodeRow (nv.cells.toList))).set j (nodeRow cs')) v ns := by obtain ⟨cs0, q1, _, _⟩ := ce4.ex; exact ps4.setNew q1
    generalize (H3.alloc (nodeRow (nv.cells.toList))).set j (nodeRow cs') = H5 at st5 ps5 ce5 ⊢
    have l5 := Heap.lf st5.r (k := 0 + 1) rfl
    repeat apply Wq
    refine Wp.r (Aq @g1 (Aq @lc3 (Aq l5 (Aq (wrapN (hbl hpb)) (reg_store st5.r))))) ?_
    dsimp only [after, leaving]
    exact ⟨rfl, w0, st5.at (b + 1), ps5.but st5.r (but_set_at ((Heap.mr H5).but i) _), ce5.but (but_set_at ((Heap.mr H5).but i) _) j6i, _, rfl, rfl, rfl, rfl, rfl, trivial⟩
   rw [decide_eq_false h43] at e43
   repeat apply Wq
   refine Wp.runS (by simp only [bsg, reduceLT, reduceEqDiff, reduceCtorEq, byteV, e43] <;> exact rfl) ?_
   repeat apply Wq
   refine Wp.cF ?_
   by_cases h63 : d = 63
   ·rw [decide_eq_true h63] at e63
    have hpb : postB T b = true := by rw [pb, h63]; decide
    rw [if_pos hpb]
    repeat apply Wq
    refine Wp.runS (by simp only [bsg, reduceLT, reduceEqDiff, reduceCtorEq, byteV, e63] <;> exact rfl) ?_
    repeat apply Wq
    refine Wp.cT ?_
    have hb1 := bslice_node (H := H3) ce.ok
    obtain ⟨w0, hw0⟩ : ∃ w0, w0 = nodeV 7 0 0 0 0 (.slice (some ⟨H3.next, 0, none⟩) 1 1) := ⟨_, rfl⟩
    have hbl2 : abuild prog 108 [(0, .int .i64 7), (2, .slice (some ⟨H3.next, 0, none⟩) 1 1)] = some w0 := by rw [hw0]; exact build108k _ _ _ _
    have st4 := st3.more (Heap.ma H3 (nodeRow (nv.cells.toList)))
    have ps4 := ps3.but st3.r ((Heap.ma H3 (nodeRow (nv.cells.toList))).but i)
    have ce4 := ce.but ((Heap.ma H3 (nodeRow (nv.cells.toList))).but i) j6i
    obtain ⟨cs', e5, ce5⟩ := cell_set (w' := w0) (n := H3.next + 1) ce4 (by rw [hw0]; exact nodeV_ok (H := H3.alloc (nodeRow (nv.cells.toList))) (by simp)) (by simp)
    repeat apply Wq
    refine Wp.r (Aq ce.load (Aq hb1 (Aq hbl2 e5))) ?_
    dsimp only [after, leaving]
    have st5 := st4.setNew j6 (nodeRow cs')
    have ps5 : Parts (h.next + 1) ((H3.alloc (nodeRow (nv.cells.toList))).set j (nodeRow cs')) v ns := by obtain ⟨cs0, q1, _, _⟩ := ce4.ex; exact ps4.setNew q1
    generalize (H3.alloc (nodeRow (nv.cells.toList))).set j (nodeRow cs') = H5 at st5 ps5 ce5 ⊢
    have l5 := Heap.lf st5.r (k := 0 + 1) rfl
    repeat apply Wq
    refine Wp.r (Aq @g1 (Aq @lc3 (Aq l5 (Aq (wrapN (hbl hpb)) (reg_store st5.r))))) ?_
    dsimp only [after, leaving]
    exact ⟨rfl, w0, st5.at (b + 1), ps5.but st5.r (but_set_at ((Heap.mr H5).but i) _), ce5.but (but_set_at ((Heap.mr H5).but i) _) j6i, _, rfl, rfl, rfl, rfl, rfl, trivial⟩
   rw [decide_eq_false h63] at e63
   repeat apply Wq
   refine Wp.runS (by simp only [bsg, reduceLT, reduceEqDiff, reduceCtorEq, byteV, e63] <;> exact rfl) ?_
   repeat apply Wq
   refine Wp.cF ?_
   have hpb : postB T b = false := by rw [pb, decide_eq_false h42, decide_eq_false h43, decide_eq_false h63]; rfl
   rw [hpb]
   simp only [Bool.false_eq_true, if_false]
   repeat apply Wq
   refine Wp.skip ?_
   dsimp only [after, leaving]
   exact ⟨rfl, nv, st3, ps3, ce, _, rfl, rfl, rfl, rfl, rfl, trivial⟩
  clear hn3 ce ps3 st3 H3
  rintro fr u H3 ⟨rfl, w, st3, ps3, ce, sl, rfl, hs1⟩
  refine Wp.weaken (Frm.le_of hs1) ?_
  clear hs1 sl
  have hb2 : (if postB T b then b + 1 else b) ≤ T.length ∧ p < (if postB T b then b + 1 else b) := by
   split
   ·rename_i q; have := postB_lt q; omega
   ·omega
  obtain ⟨q1, v', H4, q2, q3, q4, q5, q6⟩ := ps3.push ce.ok st3.lo (by omega)
  repeat apply Wq
  refine Wp.r (Aq ce.load (Aq @q1 @q2)) ?_
  dsimp only [after, leaving]
  exact ⟨(f, (if postB T b then b + 1 else b), v', ns ++ [w], H4), _, ⟨rfl, hb2.1, by simp only; omega, by simp only; omega, st3.plain q4 q5 q6, q3, by simp only [List.length_append, List.length_singleton]; omega⟩, by simp only; omega, rfl, ⟨rfl, rfl, rfl, trivial⟩, rfl, rfl⟩
theorem atom_step (G : Nat) (B : Base prog G) (T : List UInt8) (hT : T.length ≤ 100000) (F : Nat)
  (IH : ∀ f, f < F → ∀ k a h i, k ≤ 2 → h.get i = some (regRow T a) → a ≤ T.length → 3 * (T.length - a) + (3 - k) ≤ f → Does prog G (GoodE prog B) (reId k) [.pointer (some ⟨i, 0, none⟩)] h (NodeR h i T (reS T f k a)))
  (a : Nat) (h : Heap) (i : Nat) (hg : h.get i = some (regRow T a)) (ha : a ≤ T.length) (hf : 3 * (T.length - a) + 1 ≤ F) :
  Does prog G (GoodE prog B) 93 [.pointer (some ⟨i, 0, none⟩)] h (NodeR h i T (reS T F 2 a)) := by
 have c64 : canEnter prog 64 = true := by kernel_rfl
 have c65 : canEnter prog 65 = true := by kernel_rfl
 have c66 : canEnter prog 66 = true := by kernel_rfl
 have c78 : canEnter prog 78 = true := by kernel_rfl
 have c99 : canEnter prog 99 = true := by kernel_rfl
 have c100 : canEnter prog 100 = true := by kernel_rfl
 have hi := Heap.lg hg
 obtain ⟨F, rfl⟩ : ∃ g, F = g + 1 := ⟨F - 1, by omega⟩
 refine Does.body func93 rfl ?_
 have hn : enterF Tryd.f93 [.pointer (some ⟨i, 0, none⟩)] = ⟨63, [(0, .pointer (some ⟨i, 0, none⟩))], []⟩ := rfl
 rw [hn]; clear hn
 repeat apply Wq
 refine Wp.r @alloc108' ?_
 dsimp only [after, leaving]
 have st : ReSt h (h.alloc (nodeRow zeroCells)) i T a := {
  r := by rw [Heap.go _ _ hi]; exact hg
  n := Heap.gn _ _
  lt := hi
  lo := by simp
  but := but_alloc ((Heap.mr h).but i) _ }
 generalize h.alloc (nodeRow zeroCells) = H0 at st ⊢
 repeat apply Wq
 refine Wp.regionAs (is := List.range' 0 1 ++ (1 :: (List.range' 2 1 ++ []))) rfl ?_
 refine WpO.rS 1 ?_
 refine WpO.cS c99 ((takeR_does G H0 i T a st.r (by omega)).mono ?_)
 intro x H1 hr
 unfold takeR at hr
 rw [reS]
 cases hc : T[a]? with
 | none =>
  rw [hc] at hr
  obtain ⟨rfl, hb⟩ := hr
  exact ⟨rfl, rfl, rfl, st.but.trans hb⟩
 | some c =>
 rw [hc] at hr
 obtain ⟨rfl, rfl⟩ := hr
 have hal := (List.getElem?_eq_some_iff.1 hc).1
 refine pt ?_
 refine WpO.rS 1 ?_
 refine WpO.nil ?_
 dsimp only [after, leaving]
 replace st := st.at (a + 1)
 generalize regAt H0 i T (a + 1) = H at st ⊢
 clear H0
 repeat apply Wq
 refine Wp.rS ?_
 repeat apply Wq
 refine Wp.block ?_
 -- what is read is put into the result's cell
 have fin : ∀ (H2 : Heap) (b : Nat) (nv : Value), ReSt h H2 i T b → NodeOk H2.next nv → ∃ H', astore prog H2 108 (.pointer (some ⟨h.next, 0, none⟩)) nv = some H' ∧ aload prog H' 108 (.pointer (some ⟨h.next, 0, none⟩)) = some nv ∧ NodeR h i T (.ok b) (.returned nv) H' := by
  intro H2 b nv st2 hn
  obtain ⟨H', e1, e2, e3, e4, e5, _⟩ := node_fin (n := H2.next) st2.n rfl hn (Nat.le_refl _)
  refine ⟨H', e1, e2, nv, rfl, e5, ⟨by have := st2.but.1; omega, fun j hj hne => ?_⟩, ?_⟩
  ·rw [e4 j (by omega)]; exact st2.but.2 j hj hne
  ·rw [e4 i (by have := st2.lt; omega)]; exact st2.r
 have en : ∀ n : Nat, n < 256 → ((c.toNat : Int) == (n : Int)) = decide (c = n.toUInt8) := u8_eq c
 by_cases h40 : c = 40
 ·subst h40
  simp only [if_true]
  repeat apply Wq
  refine Wp.runS (by simp only [bsg, reduceLT, reduceEqDiff, reduceCtorEq, byteV, show (((40 : UInt8).toNat : Int) == 40) = true from rfl] <;> exact rfl) ?_
  repeat apply Wq
  refine Wp.cT ?_
  repeat apply Wq
  refine Wp.regionAs (is := List.range' 0 1 ++ (1 :: (List.range' 2 2 ++ []))) rfl ?_
  refine WpO.rS 1 ?_
  refine WpO.cS c64 ((IH F (by omega) 0 (a + 1) H i (by omega) st.r (by omega) (by omega)).mono ?_)
  intro x H2 hr
  have hle := reS_le (T := T) F 0 (a + 1) (by omega)
  cases hre : reS T F 0 (a + 1) with
  | error e =>
   rw [hre] at hr
   obtain ⟨rfl, hb⟩ := hr
   exact ⟨rfl, rfl, rfl, st.but.trans hb⟩
  | ok b =>
   rw [hre] at hr hle
   simp only [okE_ok] at hle
   obtain ⟨nv, rfl, hn, hb, hgb⟩ := hr
   refine pt ?_
   have st2 := st.call hb hgb
   obtain ⟨H3, e1, hm3, ce, hn3⟩ := cell_new hn
   refine WpO.r 2 (Aq @alloc108' e1) ?_
   refine WpO.nil ?_
   dsimp only [after, leaving]
   have st3 := st2.more hm3
   have j6 : h.next + 1 ≤ H2.next := st2.lo
   have j6i : H2.next ≠ i := by have := st2.lt; omega
   generalize H2.next = j at e1 ce hn3 j6 j6i ⊢
   clear hn3 e1 hm3 st2 hb hgb hn
   repeat apply Wq
   refine Wp.regionAs (is := List.range' 0 1 ++ (1 :: (List.range' 2 5 ++ []))) rfl ?_
   refine WpO.rS 1 ?_
   refine WpO.cR (nextR_does G H3 i T b st3.r) c65 ?_
   rintro _ h9 ⟨rfl, hh9⟩
   obtain rfl := hh9.symm
   clear hh9
   refine pu ?_
   refine WpO.runS 5 (by simp only [bsd, bsg, reduceLT, reduceEqDiff, reduceCtorEq, nextV, List.getElem?_toArray] <;> exact rfl) (by decide) ?_
   refine WpO.nil ?_
   dsimp only [after, leaving]
   have l3 := Heap.lf st3.r (k := 0 + 1) rfl
   cases hcb : T[b]? with
   | none =>
    repeat apply Wq
    refine Wp.runS (by simp only [bsg, reduceLT, reduceEqDiff, reduceCtorEq, Option.isSome] <;> exact rfl) ?_
    repeat apply Wq
    refine Wp.cT ?_
    repeat apply Wq
    refine Wp.regionAs (is := List.range' 0 5 ++ (5 :: [])) rfl ?_
    refine WpO.runS 5 (by simp only [bsd, bsg, reduceLT, reduceEqDiff, reduceCtorEq, g1, lc3, l3, underlying125] <;> exact rfl) (by decide) ?_
    refine WpO.panicS (by simp only [bsg, reduceLT, reduceEqDiff, reduceCtorEq] <;> exact rfl) rfl (by simp only [bsg, reduceLT, reduceEqDiff, reduceCtorEq]) ?_
    dsimp only [after, leaving]
    exact ⟨rfl, rfl, rfl, st3.but⟩
   | some d =>
    have e41 : ((d.toNat : Int) != 41) = !decide (d = 41) := congrArg (fun x => !x) (u8_eq d 41 (by omega))
    by_cases h41 : d = 41
    ·rw [decide_eq_true h41] at e41
     rw [if_pos (by rw [h41])]
     repeat apply Wq
     refine Wp.runS (by simp only [bsg, reduceLT, reduceEqDiff, reduceCtorEq, Option.isSome, Option.getD, byteV, e41] <;> exact rfl) ?_
     repeat apply Wq
     refine Wp.cF ?_
     repeat apply Wq
     refine Wp.skip ?_
     repeat apply Wq
     refine Wp.r (Aq @g1 (Aq @lc3 (Aq l3 (Aq (wrapN (show b ≤ 1000000 by omega)) (reg_store st3.r))))) ?_
     dsimp only [after, leaving]
     have st4 := st3.at (b + 1)
     have ce4 := ce.but (but_set_at ((Heap.mr H3).but i) (regRow T (b + 1))) j6i
     obtain ⟨H', e5, e6, e7⟩ := fin _ (b + 1) nv st4 ce4.ok
     repeat apply Wq
     refine Wp.runS (by simp only [bsg, reduceLT, reduceEqDiff, reduceCtorEq, show aload prog (H3.set i (regRow T (b + 1))) 108 (.pointer (some ⟨j, 0, none⟩)) = some nv from ce4.load, show astore prog (H3.set i (regRow T (b + 1))) 108 (.pointer (some ⟨h.next, 0, none⟩)) nv = some H' from e5] <;> exact rfl) ?_
     repeat apply Wq
     refine Wp.ret ?_
     dsimp only [after, leaving]
     exact ⟨rfl, rfl, _, ares_cellP rfl rfl e6, e7⟩
    ·rw [decide_eq_false h41] at e41
     rw [if_neg (by simpa using h41)]
     repeat apply Wq
     refine Wp.runS (by simp only [bsg, reduceLT, reduceEqDiff, reduceCtorEq, Option.isSome, Option.getD, byteV, e41] <;> exact rfl) ?_
     repeat apply Wq
     refine Wp.cT ?_
     repeat apply Wq
     refine Wp.regionAs (is := List.range' 0 5 ++ (5 :: [])) rfl ?_
     refine WpO.runS 5 (by simp only [bsd, bsg, reduceLT, reduceEqDiff, reduceCtorEq, g1, lc3, l3, underlying125] <;> exact rfl) (by decide) ?_
     refine WpO.panicS (by simp only [bsg, reduceLT, reduceEqDiff, reduceCtorEq] <;> exact rfl) rfl (by simp only [bsg, reduceLT, reduceEqDiff, reduceCtorEq]) ?_
     dsimp only [after, leaving]
     exact ⟨rfl, rfl, rfl, st3.but⟩
 rw [if_neg h40]
 repeat apply Wq
 refine Wp.runS (by simp only [bsg, reduceLT, reduceEqDiff, reduceCtorEq, byteV, show ((c.toNat : Int) == 40) = false by have := en 40 (by omega); simpa [h40] using this] <;> exact rfl) ?_
 repeat apply Wq
 refine Wp.cF ?_
 by_cases h91 : c = 91
 ·rw [if_pos h91]
  repeat apply Wq
  refine Wp.runS (by simp only [bsg, reduceLT, reduceEqDiff, reduceCtorEq, byteV, show ((c.toNat : Int) == 91) = true by rw [h91]; rfl] <;> exact rfl) ?_
  repeat apply Wq
  refine Wp.cT ?_
  repeat apply Wq
  refine Wp.regionAs (is := List.range' 0 1 ++ (1 :: (List.range' 2 1 ++ []))) rfl ?_
  refine WpO.rS 1 ?_
  refine WpO.cS c100 ((class_does G H i T (a + 1) st.r hT (by omega)).mono ?_)
  intro x H2 hr
  cases hre : classS T (a + 1) with
  | error e =>
   rw [hre] at hr
   obtain ⟨rfl, hb⟩ := hr
   exact ⟨rfl, rfl, rfl, st.but.trans hb⟩
  | ok b =>
   rw [hre] at hr
   obtain ⟨nv, rfl, hn, hb, hgb⟩ := hr
   refine pt ?_
   obtain ⟨H', e5, e6, e7⟩ := fin H2 b nv (st.call hb hgb) hn
   refine WpO.r 1 e5 ?_
   refine WpO.nil ?_
   repeat apply Wq
   refine Wp.ret ?_
   dsimp only [after, leaving]
   exact ⟨rfl, rfl, _, ares_cellP rfl rfl e6, e7⟩
 rw [if_neg h91]
 repeat apply Wq
 refine Wp.runS (by simp only [bsg, reduceLT, reduceEqDiff, reduceCtorEq, byteV, show ((c.toNat : Int) == 91) = false by have := en 91 (by omega); simpa [h91] using this] <;> exact rfl) ?_
 repeat apply Wq
 refine Wp.cF ?_
 by_cases h46 : c = 46
 ·repeat apply Wq
  refine Wp.runS (by simp only [bsg, reduceLT, reduceEqDiff, reduceCtorEq, byteV, show ((c.toNat : Int) == 46) = true by rw [h46]; rfl] <;> exact rfl) ?_
  repeat apply Wq
  refine Wp.cT ?_
  repeat apply Wq
  refine Wp.regionAs (is := 0 :: (List.range' 1 1 ++ [])) rfl ?_
  refine WpO.cR (every_does B H) c78 ?_
  rintro _ h9 ⟨rfl, hh9⟩
  obtain rfl := hh9.symm
  clear hh9
  refine pu ?_
  obtain ⟨H', e5, e6, e7⟩ := fin H (a + 1) everyV st (everyV_node _)
  refine WpO.r 1 e5 ?_
  refine WpO.nil ?_
  repeat apply Wq
  refine Wp.ret ?_
  dsimp only [after, leaving]
  rw [if_neg (by rw [h46]; decide), if_neg (by rw [h46]; decide)]
  exact ⟨rfl, rfl, _, ares_cellP rfl rfl e6, e7⟩
 repeat apply Wq
 refine Wp.runS (by simp only [bsg, reduceLT, reduceEqDiff, reduceCtorEq, byteV, show ((c.toNat : Int) == 46) = false by have := en 46 (by omega); simpa [h46] using this] <;> exact rfl) ?_
 repeat apply Wq
 refine Wp.cF ?_
 by_cases h92 : c = 92
 ·rw [if_pos h92]
  repeat apply Wq
  refine Wp.runS (by simp only [bsg, reduceLT, reduceEqDiff, reduceCtorEq, byteV, show ((c.toNat : Int) == 92) = true by rw [h92]; rfl] <;> exact rfl) ?_
  repeat apply Wq
  refine Wp.cT ?_
  repeat apply Wq
  refine Wp.regionAs (is := List.range' 0 1 ++ (1 :: (2 :: (List.range' 3 1 ++ [])))) rfl ?_
  refine WpO.rS 1 ?_
  refine WpO.cS c99 ((takeR_does G H i T (a + 1) st.r (by omega)).mono ?_)
  intro x H2 hr
  unfold takeR at hr
  cases hd : T[a + 1]? with
  | none =>
   rw [hd] at hr
   obtain ⟨rfl, hb⟩ := hr
   exact ⟨rfl, rfl, rfl, st.but.trans hb⟩
  | some d =>
   rw [hd] at hr
   obtain ⟨rfl, rfl⟩ := hr
   refine pt ?_
   refine WpO.cR (one_does B d (regAt H i T (a + 1 + 1))) c66 ?_
   rintro _ h9 ⟨rfl, hh9⟩
   obtain rfl := hh9.symm
   clear hh9
   refine pu ?_
   obtain ⟨H', e5, e6, e7⟩ := fin _ (a + 2) (oneV d) (st.at (a + 1 + 1)) (oneV_node _ _)
   refine WpO.r 1 e5 ?_
   refine WpO.nil ?_
   repeat apply Wq
   refine Wp.ret ?_
   dsimp only [after, leaving]
   exact ⟨rfl, rfl, _, ares_cellP rfl rfl e6, e7⟩
 rw [if_neg h92]
 repeat apply Wq
 refine Wp.runS (by simp only [bsg, reduceLT, reduceEqDiff, reduceCtorEq, byteV, show ((c.toNat : Int) == 92) = false by have := en 92 (by omega); simpa [h92] using this] <;> exact rfl) ?_
 repeat apply Wq
 refine Wp.cF ?_
 repeat apply Wq
 refine Wp.runS (by simp only [bsg, reduceLT, reduceEqDiff, reduceCtorEq, byteV, show ((c.toNat : Int) == 42) = decide (c = 42) from en 42 (by omega)] <;> exact rfl) ?_
 repeat apply Wq
 refine Wp.cut (fun fr u h' => u = none ∧ h' = H ∧ ∃ sl, fr = ⟨63, sl, []⟩ ∧ holds [(0, .pointer (some ⟨i, 0, none⟩)), (2, .pointer (some ⟨h.next, 0, none⟩)), (3, byteV c), (52, .bool (decide (c = 42 ∨ c = 43 ∨ c = 63 ∨ c = 93)))] sl) ?_ ?_
 rotate_left
 ·by_cases h42 : c = 42
  ·rw [decide_eq_true h42, decide_eq_true (show c = 42 ∨ c = 43 ∨ c = 63 ∨ c = 93 from .inl h42)]
   repeat apply Wq
   refine Wp.cT ?_
   repeat apply Wq
   refine Wp.skip ?_
   dsimp only [after, leaving]
   exact ⟨rfl, rfl, _, rfl, rfl, rfl, rfl, rfl, trivial⟩
  rw [decide_eq_false h42]
  repeat apply Wq
  refine Wp.cF ?_
  repeat apply Wq
  refine Wp.runS (by simp only [bsg, reduceLT, reduceEqDiff, reduceCtorEq, byteV, show ((c.toNat : Int) == 43) = decide (c = 43) from en 43 (by omega)] <;> exact rfl) ?_
  dsimp only [after, leaving]
  by_cases h43 : c = 43
  ·rw [decide_eq_true h43, decide_eq_true (show c = 42 ∨ c = 43 ∨ c = 63 ∨ c = 93 from .inr (.inl h43))]
   repeat apply Wq
   refine Wp.cT ?_
   repeat apply Wq
   refine Wp.skip ?_
   dsimp only [after, leaving]
   exact ⟨rfl, rfl, _, rfl, rfl, rfl, rfl, rfl, trivial⟩
  rw [decide_eq_false h43]
  repeat apply Wq
  refine Wp.cF ?_
  repeat apply Wq
  refine Wp.runS (by simp only [bsg, reduceLT, reduceEqDiff, reduceCtorEq, byteV, show ((c.toNat : Int) == 63) = decide (c = 63) from en 63 (by omega)] <;> exact rfl) ?_
  dsimp only [after, leaving]
  by_cases h63 : c = 63
  ·rw [decide_eq_true h63, decide_eq_true (show c = 42 ∨ c = 43 ∨ c = 63 ∨ c = 93 from .inr (.inr (.inl h63)))]
   repeat apply Wq
   refine Wp.cT ?_
   repeat apply Wq
   refine Wp.skip ?_
   dsimp only [after, leaving]
   exact ⟨rfl, rfl, _, rfl, rfl, rfl, rfl, rfl, trivial⟩
  rw [decide_eq_false h63]
  repeat apply Wq
  refine Wp.cF ?_
  repeat apply Wq
  refine Wp.runS (by simp only [bsg, reduceLT, reduceEqDiff, reduceCtorEq, byteV, show ((c.toNat : Int) == 93) = decide (c = 93) from en 93 (by omega)] <;> exact rfl) ?_
  dsimp only [after, leaving]
  refine ⟨rfl, rfl, _, rfl, rfl, rfl, rfl, ?_, trivial⟩
  have : decide (c = 42 ∨ c = 43 ∨ c = 63 ∨ c = 93) = decide (c = 93) := decide_eq_decide.2 ⟨fun q => by rcases q with q | q | q | q; exact absurd q h42; exact absurd q h43; exact absurd q h63; exact q, fun q => .inr (.inr (.inr q))⟩
  rw [this]; rfl
 rintro fr u h9 ⟨rfl, hH, sl, rfl, hs1⟩
 obtain rfl := hH.symm
 clear hH
 refine Wp.weaken (Frm.le_of hs1) ?_
 clear hs1 sl
 by_cases hbad : c = 42 ∨ c = 43 ∨ c = 63 ∨ c = 93
 ·rw [decide_eq_true hbad, if_pos hbad]
  have l1 := Heap.lf st.r (k := 0 + 1) rfl
  repeat apply Wq
  refine Wp.cT ?_
  repeat apply Wq
  refine Wp.regionAs (is := List.range' 0 6 ++ (6 :: [])) rfl ?_
  refine WpO.runS 6 (by simp only [bsd, bsg, reduceLT, reduceEqDiff, reduceCtorEq, g1, lc3, l1, wrapM (show a ≤ 1000000 by omega), underlying125] <;> exact rfl) (by decide) ?_
  refine WpO.panicS (by simp only [bsg, reduceLT, reduceEqDiff, reduceCtorEq] <;> exact rfl) rfl (by simp only [bsg, reduceLT, reduceEqDiff, reduceCtorEq]) ?_
  dsimp only [after, leaving]
  exact ⟨rfl, rfl, rfl, st.but⟩
 ·rw [decide_eq_false hbad, if_neg hbad]
  repeat apply Wq
  refine Wp.cF ?_
  repeat apply Wq
  refine Wp.regionAs (is := List.range' 0 1 ++ (1 :: (List.range' 2 1 ++ []))) rfl ?_
  refine WpO.rS 1 ?_
  refine WpO.cR (one_does B c H) c66 ?_
  rintro _ h9 ⟨rfl, hh9⟩
  obtain rfl := hh9.symm
  clear hh9
  refine pu ?_
  obtain ⟨H', e5, e6, e7⟩ := fin H (a + 1) (oneV c) st (oneV_node _ _)
  refine WpO.r 1 e5 ?_
  refine WpO.nil ?_
  repeat apply Wq
  refine Wp.ret ?_
  dsimp only [after, leaving]
  exact ⟨rfl, rfl, _, ares_cellP rfl rfl e6, e7⟩
def altS (T : List UInt8) (f p : Nat) : Except Nat Nat := if T[p]? = some 124 then reS T f 0 (p + 1) else .ok p
theorem either_step (G : Nat) (B : Base prog G) (T : List UInt8) (hT : T.length ≤ 100000) (F : Nat)
  (IH : ∀ f, f < F → ∀ k a h i, k ≤ 2 → h.get i = some (regRow T a) → a ≤ T.length → 3 * (T.length - a) + (3 - k) ≤ f → Does prog G (GoodE prog B) (reId k) [.pointer (some ⟨i, 0, none⟩)] h (NodeR h i T (reS T f k a)))
  (a : Nat) (h : Heap) (i : Nat) (hg : h.get i = some (regRow T a)) (ha : a ≤ T.length) (hf : 3 * (T.length - a) + 3 ≤ F) :
  Does prog G (GoodE prog B) 64 [.pointer (some ⟨i, 0, none⟩)] h (NodeR h i T (reS T F 0 a)) := by
 have c65 : canEnter prog 65 = true := by kernel_rfl
 have c67 : canEnter prog 67 = true := by kernel_rfl
 have c79 : canEnter prog 79 = true := by kernel_rfl
 have hi := Heap.lg hg
 obtain ⟨F, rfl⟩ : ∃ g, F = g + 1 := ⟨F - 1, by omega⟩
 refine Does.body func64 rfl ?_
 have hn : enterF Tryd.f64 [.pointer (some ⟨i, 0, none⟩)] = ⟨34, [(0, .pointer (some ⟨i, 0, none⟩))], []⟩ := rfl
 rw [hn]; clear hn
 repeat apply Wq
 refine Wp.r @alloc108' ?_
 dsimp only [after, leaving]
 have st : ReSt h (h.alloc (nodeRow zeroCells)) i T a := {
  r := by rw [Heap.go _ _ hi]; exact hg
  n := Heap.gn _ _
  lt := hi
  lo := by simp
  but := but_alloc ((Heap.mr h).but i) _ }
 generalize h.alloc (nodeRow zeroCells) = H0 at st ⊢
 repeat apply Wq
 refine Wp.regionAs (is := List.range' 0 1 ++ (1 :: (List.range' 2 2 ++ []))) rfl ?_
 refine WpO.rS 1 ?_
 refine WpO.cS c79 ((IH F (by omega) 1 a H0 i (by omega) st.r ha (by omega)).mono ?_)
 intro x H2 hr
 have hle := reS_le (T := T) F 1 a ha
 rw [reS]
 cases hre : reS T F 1 a with
 | error e =>
  rw [hre] at hr
  obtain ⟨rfl, hb⟩ := hr
  exact ⟨rfl, rfl, rfl, st.but.trans hb⟩
 | ok b =>
 rw [hre] at hr hle
 simp only [okE_ok] at hle
 obtain ⟨nv, rfl, hn, hb, hgb⟩ := hr
 refine pt ?_
 replace st := st.call hb hgb
 refine WpO.runS 2 (by simp only [bsd, bsg, reduceLT, reduceEqDiff, reduceCtorEq, bslice_node hn] <;> exact rfl) (by decide) ?_
 refine WpO.nil ?_
 dsimp only [after, leaving]
 have ps : PartsP (h.next + 1) (H2.alloc (nodeRow nv.cells.toList)) (.slice (some ⟨H2.next, 0, none⟩) 1 1) [nv] := by
  refine ⟨fun x hx => by rw [List.mem_singleton.1 hx]; exact hn.mono (by simp), H2.next, st.lo, by simp, rfl, ?_⟩
  simp
 replace st := st.more (Heap.ma H2 (nodeRow nv.cells.toList))
 generalize H2.alloc (nodeRow nv.cells.toList) = H3 at st ps ⊢
 generalize (Value.slice (some ⟨H2.next, 0, none⟩) 1 1) = v0 at ps ⊢
 clear hb hgb hn
 show Wp _ _ _ _ _ _ _ _
 repeat apply Wq
 refine Wp.block ?_
 refine Wp.loopI (X := Nat × Nat × Value × List Value × Heap) (fun x => [(0, .pointer (some ⟨i, 0, none⟩)), (2, .pointer (some ⟨h.next, 0, none⟩)), (3, x.2.2.1)]) (fun x => x.2.2.2.2)
  (fun x => altS T F b = altS T x.1 x.2.1 ∧ x.2.1 ≤ T.length ∧ x.1 ≤ F ∧ 3 * (T.length - x.2.1) ≤ x.1 ∧ ReSt h x.2.2.2.2 i T x.2.1 ∧ (PartsP (h.next + 1) x.2.2.2.2 x.2.2.1 x.2.2.2.1 ∨ Parts (h.next + 1) x.2.2.2.2 x.2.2.1 x.2.2.2.1) ∧ x.2.2.2.1.length ≤ x.2.1 + 1) (fun x => x.1)
  (F, b, v0, [nv], H3) ⟨rfl, hle.2.1, Nat.le_refl _, by simp only; omega, st, .inl ps, by simp⟩ ⟨rfl, rfl, rfl, trivial⟩ rfl ?_
 clear st ps H3 H2
 rintro ⟨f, p, v, ns, H⟩ ⟨hR, hp, hfF, hfe, st, ps, hl⟩
 simp only at hR hp hfF hfe st ps hl
 have hR2 : (if T[b]? = some 124 then reS T F 0 (b + 1) else .ok b : Except Nat Nat) = altS T f p := hR
 rw [hR2]
 clear hR2
 repeat apply Wq
 refine Wp.block ?_
 repeat apply Wq
 refine Wp.regionAs (is := List.range' 0 1 ++ (1 :: (List.range' 2 5 ++ []))) rfl ?_
 refine WpO.rS 1 ?_
 refine WpO.cR (nextR_does G H i T p st.r) c65 ?_
 rintro _ h9 ⟨rfl, hh9⟩
 obtain rfl := hh9.symm
 clear hh9
 refine pu ?_
 refine WpO.runS 5 (by simp only [bsd, bsg, reduceLT, reduceEqDiff, reduceCtorEq, nextV, List.getElem?_toArray] <;> exact rfl) (by decide) ?_
 refine WpO.nil ?_
 repeat apply Wq
 refine Wp.cut (fun fr u h' => u = none ∧ h' = H ∧ ∃ sl, fr = ⟨34, sl, []⟩ ∧ holds [(0, .pointer (some ⟨i, 0, none⟩)), (2, .pointer (some ⟨h.next, 0, none⟩)), (3, v), (19, .bool (!decide (T[p]? = some 124)))] sl) ?_ ?_
 rotate_left
 ·cases hc : T[p]? with
  | none =>
   repeat apply Wq
   refine Wp.runS (by simp only [bsg, reduceLT, reduceEqDiff, reduceCtorEq, Option.isSome] <;> exact rfl) ?_
   dsimp only [after, leaving]
   exact ⟨rfl, rfl, _, rfl, rfl, rfl, rfl, by rw [decide_eq_false (by simp)]; rfl, trivial⟩
  | some c =>
   have e1 : ((c.toNat : Int) != 124) = !decide (c = 124) := congrArg (fun x => !x) (u8_eq c 124 (by omega))
   repeat apply Wq
   refine Wp.runS (by simp only [bsg, reduceLT, reduceEqDiff, reduceCtorEq, Option.isSome, Option.getD, byteV, e1] <;> exact rfl) ?_
   dsimp only [after, leaving]
   refine ⟨rfl, rfl, _, rfl, rfl, rfl, rfl, ?_, trivial⟩
   rw [show decide (some c = some 124) = decide (c = 124) from decide_eq_decide.2 (by simp)]; rfl
 rintro fr u h9 ⟨rfl, hH, sl, rfl, hs1⟩
 obtain rfl := hH.symm
 clear hH
 refine Wp.weaken (Frm.le_of hs1) ?_
 clear hs1 sl
 unfold altS
 by_cases h124 : T[p]? = some 124
 ·rw [decide_eq_true h124, if_pos h124]
  have hpl := (List.getElem?_eq_some_iff.1 h124).1
  have l1 := Heap.lf st.r (k := 0 + 1) rfl
  obtain ⟨f, rfl⟩ : ∃ g, f = g + 1 := ⟨f - 1, by omega⟩
  rw [reS]
  repeat apply Wq
  refine Wp.cF ?_
  repeat apply Wq
  refine Wp.skip ?_
  repeat apply Wq
  refine Wp.r (Aq @g1 (Aq @lc3 (Aq l1 (Aq (wrapN (show p ≤ 1000000 by omega)) (reg_store st.r))))) ?_
  dsimp only [after, leaving]
  have st2 := st.at (p + 1)
  have hbut : H.but i (H.set i (regRow T (p + 1))) := but_set_at ((Heap.mr H).but i) _
  have ps2 : PartsP (h.next + 1) (H.set i (regRow T (p + 1))) v ns ∨ Parts (h.next + 1) (H.set i (regRow T (p + 1))) v ns := by
   rcases ps with ps | ps
   ·exact .inl (ps.but (by have := st.lt; omega) hbut)
   ·exact .inr (ps.but st.r hbut)
  have st2' : ReSt h (H.set i (regRow T (p + 1))) i T (p + 1) := st2
  generalize H.set i (regRow T (p + 1)) = H2 at st2' ps2 ⊢
  clear st2 hbut ps l1
  repeat apply Wq
  refine Wp.regionAs (is := List.range' 0 2 ++ (2 :: (List.range' 3 3 ++ []))) rfl ?_
  refine WpO.rS 2 ?_
  refine WpO.cS c79 ((IH f (by omega) 1 (p + 1) H2 i (by omega) st2'.r (by omega) (by omega)).mono ?_)
  intro x H3 hr
  have hle2 := reS_le (T := T) f 1 (p + 1) (by omega)
  cases hre2 : reS T f 1 (p + 1) with
  | error e =>
   rw [hre2] at hr
   obtain ⟨rfl, hb⟩ := hr
   exact ⟨rfl, rfl, rfl, st2'.but.trans hb⟩
  | ok q =>
   rw [hre2] at hr hle2
   simp only [okE_ok] at hle2
   obtain ⟨nw, rfl, hn, hb, hgb⟩ := hr
   refine pt ?_
   have st3 := st2'.call hb hgb
   have key : ∃ v' H4, aappend prog (H3.alloc (nodeRow nw.cells.toList)) 106 106 v (.slice (some ⟨H3.next, 0, none⟩) 1 1) = some (v', H4) ∧ Parts (h.next + 1) H4 v' (ns ++ [nw]) ∧ H3.next ≤ H4.next ∧
     (∀ j o, H3.get j = some o → o.plain = true → H4.get j = some o) ∧ ∀ j, j < h.next + 1 → H4.get j = H3.get j := by
    rcases ps2 with ps2 | ps2
    ·obtain ⟨_, v', H4, q2, q3, q4, q5, q6⟩ := (ps2.but (by have := st2'.lt; omega) hb).push hn st3.lo (by omega)
     exact ⟨v', H4, q2, q3, q4, fun j o hj _ => q5 j o hj, q6⟩
    ·obtain ⟨_, v', H4, q2, q3, q4, q5, q6⟩ := (ps2.but st2'.r hb).push hn st3.lo (by omega)
     exact ⟨v', H4, q2, q3, q4, q5, q6⟩
   obtain ⟨v', H4, q2, q3, q4, q5, q6⟩ := key
   refine WpO.runS 3 (by simp only [bsd, bsg, reduceLT, reduceEqDiff, reduceCtorEq, bslice_node hn, q2] <;> exact rfl) (by decide) ?_
   refine WpO.nil ?_
   dsimp only [after, leaving]
   have hR' : altS T F b = altS T f q := by
    rw [hR]
    unfold altS
    rw [if_pos h124, reS, hre2]
   exact ⟨(f, q, v', ns ++ [nw], H4), _, ⟨hR', hle2.2.1, by simp only; omega, by simp only; omega, st3.plain q4 q5 q6, .inr q3, by simp only [List.length_append, List.length_singleton]; omega⟩, by simp only; omega, rfl, ⟨rfl, rfl, rfl, trivial⟩, rfl, rfl⟩
 ·rw [decide_eq_false h124, if_neg h124]
  repeat apply Wq
  refine Wp.cT ?_
  have psr : PartsR H v ns := by rcases ps with ps | ps; exact ps.read; exact ps.read
  repeat apply Wq
  refine Wp.regionAs (is := List.range' 0 1 ++ (1 :: (List.range' 2 1 ++ []))) rfl ?_
  refine WpO.rS 1 ?_
  refine WpO.cS c67 ((joined_spec G H 4 v ns psr).mono ?_)
  rintro x H2 ⟨nv, rfl, hm, hn⟩
  have st2 := st.more hm
  obtain ⟨H', e1, e2, e3, e4, e5, _⟩ := node_fin (n := H2.next) st2.n rfl hn (Nat.le_refl _)
  refine pt ?_
  refine WpO.r 1 e1 ?_
  refine WpO.nil ?_
  repeat apply Wq
  refine Wp.ret ?_
  dsimp only [after, leaving]
  refine ⟨rfl, rfl, _, ares_cellP rfl rfl e2, _, rfl, e5, ⟨by have := st2.but.1; omega, fun j hj hne => ?_⟩, ?_⟩
  ·rw [e4 j (by omega)]; exact st2.but.2 j hj hne
  ·rw [e4 i (by have := st2.lt; omega)]; exact st2.r
theorem re_does (G : Nat) (B : Base prog G) (T : List UInt8) (hT : T.length ≤ 100000) : ∀ f k a h i, k ≤ 2 → h.get i = some (regRow T a) → a ≤ T.length → 3 * (T.length - a) + (3 - k) ≤ f → Does prog G (GoodE prog B) (reId k) [.pointer (some ⟨i, 0, none⟩)] h (NodeR h i T (reS T f k a)) := by
 intro f
 induction f using Nat.strongRecOn with
 | _ f IH =>
  intro k a h i hk hg ha hf
  match k, hk with
  | 0, _ => exact either_step G B T hT f IH a h i hg ha (by omega)
  | 1, _ => exact row_step G B T hT f IH a h i hg ha (by omega)
  | 2, _ => exact atom_step G B T hT f IH a h i hg ha (by omega)
end Go.Mini
