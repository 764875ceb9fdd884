import Derived.Test.YtjgmccbjffncaaaDoorPLexZc
import Derived.Test.YtjgmccbjffncaaaDoorMiniYOtoYS
import Derived.Test.YtjgmccbjffncaaaDoorPjBtoPjA
import Derived.Test.YtjgmccbjffncaaaDoorPjC
set_option maxHeartbeats 8000000
set_option maxRecDepth 100000
set_option linter.unusedSimpArgs false
namespace Go.Mini
open Nat (reduceLT reduceEqDiff)
open Go.Proofs
theorem block_put {H : Heap} {j : Nat} {m0 : List UInt8} {lv0 : Value} (g : H.get j = some (blockRow m0 lv0)) (m : List UInt8) {lv : Value} (hv : one lv = true) : astore Tryd.prog H 42 (.pointer (some ⟨j, 0, none⟩)) (.agg #[.string (bs m), lv]) = some (H.set j (blockRow m lv)) := by
 have := astore_agg (P := Tryd.prog) (h := H) (i := j) (k := 0) (cs := [.string (bs m), lv]) sz42 rfl (by simp [hv]; rfl)
 rw [this, Heap.sts_of g (by simp) rfl rfl]; rfl
def blockRow0 : AObj := blockRow [] (.slice none 0 0)
theorem bcell1 (K : Heap) (m : List UInt8) {lv : Value} (hv : one lv = true) : astore Tryd.prog ((K.alloc blockRow0).alloc blockRow0) 42 (.pointer (some ⟨K.next, 0, none⟩)) (.agg #[.string (bs m), lv]) = some ((K.alloc (blockRow m lv)).alloc blockRow0) := by
 have g : ((K.alloc blockRow0).alloc blockRow0).get K.next = some blockRow0 := by rw [Heap.go _ _ (by simp)]; exact Heap.gn K _
 rw [block_put g m hv, Heap.as _ _ _ (by simp), Heap.set_alloc]
theorem bcell2 (K : Heap) (m : List UInt8) {lv : Value} (hv : one lv = true) (r : AObj) : astore Tryd.prog ((K.alloc r).alloc blockRow0) 42 (.pointer (some ⟨K.next + 1, 0, none⟩)) (.agg #[.string (bs m), lv]) = some ((K.alloc r).alloc (blockRow m lv)) := by
 have g : ((K.alloc r).alloc blockRow0).get (K.next + 1) = some blockRow0 := Heap.gn (K.alloc r) _
 rw [block_put g m hv]
 have := Heap.set_alloc (K.alloc r) blockRow0 (blockRow m lv)
 rw [Heap.na] at this
 rw [this]
theorem alloc42' (h : Heap) : aalloc Tryd.prog h 42 = some (h.new, h.alloc blockRow0) := alloc42 h
theorem SliceR.one {α : Type} {n : Nat} {R : Heap → α → List Value → Prop} {h : Heap} {xs : List α} {v : Value} (s : SliceR n R h xs v) : Mini.one v = true := by
 obtain ⟨l, _, _, _, h3⟩ := s
 rcases h3 with ⟨_, ⟨a, c, rfl⟩ | ⟨r, rfl⟩⟩ | ⟨b, k, sp, c, _, rfl, _⟩ <;> rfl
theorem drop_at {α : Type} {l : List α} {i : Nat} {t : α} (ht : l[i]? = some t) : l.drop i = t :: l.drop (i + 1) := by
 have hi := (List.getElem?_eq_some_iff.1 ht).1
 rw [List.drop_eq_getElem_cons hi]
 congr 1
 rw [List.getElem?_eq_getElem hi] at ht
 exact Option.some.inj ht
theorem succ_in {i n : Nat} (h : i < n) (hm : n ≤ maxLen) : IntKind.i64.wrap ((i : Int) + 1) = ((i + 1 : Nat) : Int) := by
 unfold maxLen at hm
 rw [wrap_in (by omega) (by omega)]; omega
theorem block_eq (x y : BlockT) : x = y ↔ x.name = y.name ∧ x.lines = y.lines := by
 cases x; cases y; simp
theorem neq_len (a b : Nat) : ((a : Int) != (b : Int)) = decide (a ≠ b) := neq_nat a b
theorem hbox24 (Hx : Heap) (v : Value) : abox Hx 24 (.agg #[v]) = (Hx.new, Hx.alloc (scriptRow v)) := rfl
theorem same14_spec {E : EXT} (G : Nat) (h : Heap) (bl bl' : List BlockT) (v v' : Value) (hv : BlocksV h bl v) (hv' : BlocksV h bl' v') :
  Does Tryd.prog G E 14 [.agg #[v], .agg #[v']] h fun r h' => r = .returned (.bool (decide (bl = bl'))) ∧ h.more h' := by
 have c28 : canEnter Tryd.prog 28 = true := by kernel_rfl
 refine Does.body Tryd.func14 rfl ?_
 have hn : enterF Tryd.f14 [.agg #[v], .agg #[v']] = ⟨66, [(0, .agg #[v]), (1, .agg #[v'])], []⟩ := rfl
 rw [hn]; clear hn
 repeat apply Wq
 refine Wp.r (Aq @hbox24 @Heap.na) ?_
 have m1 := (Heap.ma h (scriptRow v)).trans (Heap.ma (h.alloc (scriptRow v)) (scriptRow v'))
 have g2 : ((h.alloc (scriptRow v)).alloc (scriptRow v')).get h.next = some (scriptRow v) := by rw [Heap.go _ _ (by simp)]; exact Heap.gn h _
 have g3 : ((h.alloc (scriptRow v)).alloc (scriptRow v')).get (h.next + 1) = some (scriptRow v') := Heap.gn (h.alloc (scriptRow v)) _
 generalize (h.alloc (scriptRow v)).alloc (scriptRow v') = H at m1 g2 g3 ⊢
 replace hv := hv.more m1
 replace hv' := hv'.more m1
 obtain ⟨j2, hj2⟩ : ∃ j, j = h.next := ⟨_, rfl⟩
 have hw2 : (.pointer (some ⟨h.next, 0, none⟩) : Value) = .pointer (some ⟨j2, 0, none⟩) := by rw [hj2]
 obtain ⟨j3, hj3⟩ : ∃ j, j = h.next + 1 := ⟨_, rfl⟩
 have hw3 : (.pointer (some ⟨h.next + 1, 0, none⟩) : Value) = .pointer (some ⟨j3, 0, none⟩) := by rw [hj3]
 simp only [hw2, hw3]
 rw [← hj2] at g2
 rw [← hj3] at g3
 clear hw2 hw3 hj2 hj3
 have hmax := SliceR.le hv
 by_cases hlen : bl.length ≠ bl'.length
 ·repeat apply Wq
  refine Wp.r (Aq @sc0 (Aq @lc22 (Aq (Heap.lf g2 (k := 0) rfl) (Aq (Heap.lf g3 (k := 0) rfl) (Aq hv.len (Aq hv'.len (Aq @neq_len (decide_eq_true hlen)))))))) ?_
  repeat apply Wq
  refine Wp.cT ?_
  repeat apply Wq
  refine Wp.rS ?_
  repeat apply Wq
  refine Wp.ret ?_
  refine ⟨rfl, rfl, _, rfl, ?_, m1⟩
  rw [decide_eq_false (fun q => hlen (by rw [q]))]
 repeat apply Wq
 refine Wp.r (Aq @sc0 (Aq @lc22 (Aq (Heap.lf g2 (k := 0) rfl) (Aq (Heap.lf g3 (k := 0) rfl) (Aq hv.len (Aq hv'.len (Aq @neq_len (decide_eq_false hlen)))))))) ?_
 repeat apply Wq
 refine Wp.cF ?_
 repeat apply Wq
 refine Wp.skip ?_
 replace hlen := Classical.not_not.1 hlen
 repeat apply Wq
 refine Wp.rS ?_
 repeat apply Wq
 refine Wp.block ?_
 refine Wp.loopI (X := Nat × Heap) (fun x => [(2, .pointer (some ⟨j2, 0, none⟩)), (3, .pointer (some ⟨j3, 0, none⟩)), (5, .int .i64 x.1)]) (fun x => x.2)
  (fun x => x.1 ≤ bl.length ∧ decide (bl = bl') = decide (bl.drop x.1 = bl'.drop x.1) ∧ H.more x.2) (fun x => bl.length - x.1) (0, H) ⟨Nat.zero_le _, rfl, Heap.mr _⟩ ⟨rfl, rfl, rfl, trivial⟩ rfl ?_
 rintro ⟨i, K⟩ ⟨hle, hi, hm⟩
 simp only at hle hi hm ⊢
 have k2 := hm.get g2
 have k3 := hm.get g3
 replace hv := hv.more hm
 replace hv' := hv'.more hm
 by_cases hlt : (i : Int) < (bl.length : Int)
 ·repeat apply Wq
  refine Wp.r (Aq @sc0 (Aq @lc22 (Aq (Heap.lf k2 (k := 0) rfl) (Aq hv.len (decide_eq_true hlt))))) ?_
  repeat apply Wq
  refine Wp.cT ?_
  repeat apply Wq
  refine Wp.skip ?_
  repeat apply Wq
  refine Wp.block ?_
  obtain ⟨t, ht⟩ : ∃ t, bl[i]? = some t := ⟨_, List.getElem?_eq_getElem (by omega)⟩
  obtain ⟨u, hu⟩ : ∃ t, bl'[i]? = some t := ⟨_, List.getElem?_eq_getElem (by omega)⟩
  obtain ⟨b, k, lv, hb, hp, lt, ta, _⟩ := hv.at ht
  obtain ⟨c, j, lu, hc, hq, lw, tb, _⟩ := hv'.at hu
  rw [drop_at ht, drop_at hu] at hi
  have hw1 := succ_in (i := i) (n := bl.length) (by omega) hmax
  have l2 := Heap.lg k2
  have l3 := Heap.lg k3
  repeat apply Wq
  refine Wp.runSF [24, 27, 29, 32] mixed (by kernel_rfl) (by simp only [runSF, stepOF, stepWF, stepVF, okF, isFill, isLoud, isPure, isReader, exempt, loadOk, below, notBelow, lenOk, List.contains_cons, List.contains_nil, Nat.reduceBEq, Option.isNone_none, decide_true, Bool.or_true, Bool.true_or, Bool.or_self, Bool.or_false, Bool.false_or, Bool.and_self, Bool.and_true, Bool.true_and, Bool.and_false, Bool.false_and, Heap.ns, Heap.na, bsg, reduceLT, reduceEqDiff, reduceCtorEq, sc0, lc22, Heap.lf k2 (k := 0) rfl, Heap.lf k3 (k := 0) rfl, hp, hq, ta K (Heap.mr K), tb K (Heap.mr K), decide_eq_true l2, decide_eq_true l3, decide_eq_true hb, decide_eq_true hc, alloc42', bcell1 K t.name (SliceR.one lt), bcell2 K u.name (SliceR.one lw), Nat.le_refl, decide_eq_true (Nat.le_succ K.next)] <;> exact rfl) ?_
  have m2 := (Heap.ma K (blockRow t.name lv)).trans (Heap.ma (K.alloc (blockRow t.name lv)) (blockRow u.name lu))
  have g6 : ((K.alloc (blockRow t.name lv)).alloc (blockRow u.name lu)).get K.next = some (blockRow t.name lv) := by rw [Heap.go _ _ (by simp)]; exact Heap.gn K _
  have g7 : ((K.alloc (blockRow t.name lv)).alloc (blockRow u.name lu)).get (K.next + 1) = some (blockRow u.name lu) := Heap.gn (K.alloc (blockRow t.name lv)) _
  refine Wp.weaken (Frm.le_of (l := [(2, .pointer (some ⟨j2, 0, none⟩)), (3, .pointer (some ⟨j3, 0, none⟩)), (5, .int .i64 i), (6, .pointer (some ⟨K.next, 0, none⟩)), (7, .pointer (some ⟨K.next + 1, 0, none⟩))]) ⟨rfl, rfl, rfl, rfl, rfl, trivial⟩) ?_
  generalize (K.alloc (blockRow t.name lv)).alloc (blockRow u.name lu) = K2 at m2 g6 g7 ⊢
  obtain ⟨j6, hj6⟩ : ∃ j, j = K.next := ⟨_, rfl⟩
  have hw6 : (.pointer (some ⟨K.next, 0, none⟩) : Value) = .pointer (some ⟨j6, 0, none⟩) := by rw [hj6]
  obtain ⟨j7, hj7⟩ : ∃ j, j = K.next + 1 := ⟨_, rfl⟩
  have hw7 : (.pointer (some ⟨K.next + 1, 0, none⟩) : Value) = .pointer (some ⟨j7, 0, none⟩) := by rw [hj7]
  simp only [hw6, hw7]
  rw [← hj6] at g6
  rw [← hj7] at g7
  clear hw6 hw7 hj6 hj7
  replace lt := lt.more m2
  replace lw := lw.more m2
  by_cases hn : t.name ≠ u.name
  ·repeat apply Wq
   refine Wp.r (Aq @bk0 (Aq @bk1 (Aq @lc9 (Aq @lc40 (Aq (Heap.lf g6 (k := 0) rfl) (Aq (Heap.lf g7 (k := 0) rfl) (Aq @neq_txt (decide_eq_true hn)))))))) ?_
   repeat apply Wq
   refine Wp.cT ?_
   repeat apply Wq
   refine Wp.rS ?_
   repeat apply Wq
   refine Wp.ret ?_
   refine ⟨rfl, rfl, _, rfl, ?_, (m1.trans hm).trans m2⟩
   rw [hi, decide_eq_false]
   intro q
   exact hn (by rw [(List.cons.inj q).1])
  by_cases hl : t.lines.length ≠ u.lines.length
  ·repeat apply Wq
   refine Wp.r (Aq @bk0 (Aq @bk1 (Aq @lc9 (Aq @lc40 (Aq (Heap.lf g6 (k := 0) rfl) (Aq (Heap.lf g7 (k := 0) rfl) (Aq (Heap.lf g6 (k := 1) rfl) (Aq (Heap.lf g7 (k := 1) rfl) (Aq lt.len (Aq lw.len (Aq @neq_len (Aq @neq_txt (Aq (decide_eq_false hn) (decide_eq_true hl)))))))))))))) ?_
   repeat apply Wq
   refine Wp.cT ?_
   repeat apply Wq
   refine Wp.rS ?_
   repeat apply Wq
   refine Wp.ret ?_
   refine ⟨rfl, rfl, _, rfl, ?_, (m1.trans hm).trans m2⟩
   rw [hi, decide_eq_false]
   intro q
   exact hl (by rw [(List.cons.inj q).1])
  repeat apply Wq
  refine Wp.r (Aq @bk0 (Aq @bk1 (Aq @lc9 (Aq @lc40 (Aq (Heap.lf g6 (k := 0) rfl) (Aq (Heap.lf g7 (k := 0) rfl) (Aq (Heap.lf g6 (k := 1) rfl) (Aq (Heap.lf g7 (k := 1) rfl) (Aq lt.len (Aq lw.len (Aq @neq_len (Aq @neq_txt (Aq (decide_eq_false hn) (decide_eq_false hl)))))))))))))) ?_
  repeat apply Wq
  refine Wp.cF ?_
  repeat apply Wq
  refine Wp.skip ?_
  replace hn := Classical.not_not.1 hn
  replace hl := Classical.not_not.1 hl
  have hlm := SliceR.le lt
  repeat apply Wq
  refine Wp.rS ?_
  repeat apply Wq
  refine Wp.block ?_
  refine Wp.loopI (X := Nat × Heap) (fun x => [(2, .pointer (some ⟨j2, 0, none⟩)), (3, .pointer (some ⟨j3, 0, none⟩)), (5, .int .i64 i), (6, .pointer (some ⟨j6, 0, none⟩)), (7, .pointer (some ⟨j7, 0, none⟩)), (8, .int .i64 x.1)]) (fun x => x.2)
   (fun x => x.1 ≤ t.lines.length ∧ decide (bl = bl') = decide (t.lines.drop x.1 = u.lines.drop x.1 ∧ bl.drop (i + 1) = bl'.drop (i + 1)) ∧ K2.more x.2) (fun x => t.lines.length - x.1) (0, K2) ⟨Nat.zero_le _, ?_, Heap.mr _⟩ ⟨rfl, rfl, rfl, rfl, rfl, rfl, trivial⟩ rfl ?_
  ·rw [hi]
   refine decide_eq_decide.2 ?_
   rw [List.cons.injEq, block_eq]
   simp [hn]
  rintro ⟨n, L⟩ ⟨hle2, hi2, hm2⟩
  simp only at hle2 hi2 hm2 ⊢
  have l6 := hm2.get g6
  have l7 := hm2.get g7
  replace lt := lt.more hm2
  replace lw := lw.more hm2
  by_cases hlt2 : (n : Int) < (t.lines.length : Int)
  ·repeat apply Wq
   refine Wp.r (Aq @bk1 (Aq @lc40 (Aq (Heap.lf l6 (k := 1) rfl) (Aq lt.len (decide_eq_true hlt2))))) ?_
   repeat apply Wq
   refine Wp.cT ?_
   repeat apply Wq
   refine Wp.skip ?_
   repeat apply Wq
   refine Wp.block ?_
   obtain ⟨x, hx⟩ : ∃ x, t.lines[n]? = some x := ⟨_, List.getElem?_eq_getElem (by omega)⟩
   obtain ⟨y, hy⟩ : ∃ y, u.lines[n]? = some y := ⟨_, List.getElem?_eq_getElem (by omega)⟩
   obtain ⟨b1, k1, av, _, hp1, aa, ta1⟩ := lt.at hx
   obtain ⟨b2, k2', bv, _, hp2, ab, tb1⟩ := lw.at hy
   rw [drop_at hx, drop_at hy] at hi2
   have hw2 := succ_in (i := n) (n := t.lines.length) (by omega) hlm
   repeat apply Wq
   refine Wp.drawAs [] [] 0 (fun _ => True) mixed (by kernel_rfl) trivial ?_
   refine DrT.run 10 (by simp only [bsd, bss, bsg, reduceLT, reduceEqDiff, reduceCtorEq, bk1, lc40, Heap.lf l6 (k := 1) rfl, Heap.lf l7 (k := 1) rfl, hp1, hp2, ta1 L (Heap.mr L), tb1 L (Heap.mr L)] <;> exact rfl) rfl ?_
   try simp only [List.drop_succ_cons, List.drop_zero]
   refine DrT.call (sameLine_spec G L x y av bv aa ab) rfl rfl (by simp only [bsg, reduceLT, reduceEqDiff, reduceCtorEq]) (by simp only [bsc, bsg, reduceLT, reduceEqDiff, reduceCtorEq, c28] <;> exact rfl) ?_
   intro r L2 hr
   obtain ⟨rfl, hm3⟩ := hr
   refine ⟨_, _, rfl, fun _ => trivial, by simp only [bsg, reduceLT, reduceEqDiff, reduceCtorEq]; exact rfl, ?_⟩
   by_cases hxy : x = y
   ·refine DrT.run 1 (by simp only [bsd, bss, bsg, reduceLT, reduceEqDiff, reduceCtorEq, decide_eq_true hxy] <;> exact rfl) rfl ?_
    try simp only [List.drop_succ_cons, List.drop_zero]
    refine DrT.nil ?_
    repeat apply Wq
    refine Wp.cF ?_
    repeat apply Wq
    refine Wp.skip ?_
    repeat apply Wq
    refine Wp.r hw2 ?_
    refine ⟨(n + 1, L2), _, ⟨by simp only; omega, ?_, hm2.trans hm3⟩, by simp only; omega, rfl, ⟨rfl, rfl, rfl, rfl, rfl, rfl, trivial⟩, rfl, rfl⟩
    rw [hi2]
    exact decide_eq_decide.2 (by simp [hxy])
   ·refine DrT.run 1 (by simp only [bsd, bss, bsg, reduceLT, reduceEqDiff, reduceCtorEq, decide_eq_false hxy] <;> exact rfl) rfl ?_
    try simp only [List.drop_succ_cons, List.drop_zero]
    refine DrT.nil ?_
    repeat apply Wq
    refine Wp.cT ?_
    repeat apply Wq
    refine Wp.rS ?_
    repeat apply Wq
    refine Wp.ret ?_
    refine ⟨rfl, rfl, _, rfl, ?_, (((m1.trans hm).trans m2).trans hm2).trans hm3⟩
    rw [hi2, decide_eq_false (by simp [hxy])]
  ·repeat apply Wq
   refine Wp.r (Aq @bk1 (Aq @lc40 (Aq (Heap.lf l6 (k := 1) rfl) (Aq lt.len (decide_eq_false hlt2))))) ?_
   repeat apply Wq
   refine Wp.cF ?_
   repeat apply Wq
   refine Wp.exit ?_
   simp only [bx, Nat.reduceEqDiff]
   repeat apply Wq
   refine Wp.r hw1 ?_
   refine ⟨(i + 1, L), _, ⟨by simp only; omega, ?_, (hm.trans m2).trans hm2⟩, by simp only; omega, rfl, ⟨rfl, rfl, rfl, trivial⟩, rfl, rfl⟩
   rw [hi2, List.drop_eq_nil_of_le (by omega), List.drop_eq_nil_of_le (by omega)]
   exact decide_eq_decide.2 (by simp)
 ·repeat apply Wq
  refine Wp.r (Aq @sc0 (Aq @lc22 (Aq (Heap.lf k2 (k := 0) rfl) (Aq hv.len (decide_eq_false hlt))))) ?_
  repeat apply Wq
  refine Wp.cF ?_
  repeat apply Wq
  refine Wp.exit ?_
  simp only [bx, Nat.reduceEqDiff]
  repeat apply Wq
  refine Wp.rS ?_
  repeat apply Wq
  refine Wp.ret ?_
  refine ⟨rfl, rfl, _, rfl, ?_, m1.trans hm⟩
  rw [hi, List.drop_eq_nil_of_le (by omega), List.drop_eq_nil_of_le (by omega)]
  rfl
theorem linesOf_take {bl : List BlockT} {i : Nat} {t : BlockT} (ht : bl[i]? = some t) : linesOf (bl.take (i + 1)) = linesOf (bl.take i) + t.lines.length := by
 rw [List.take_add_one, ht, linesOf_append]
 exact congrArg _ (linesOf_one t)
theorem linesOf_take_le (bl : List BlockT) (i : Nat) : linesOf (bl.take i) ≤ linesOf bl := by
 have := linesOf_append (bl.take i) (bl.drop i)
 rw [List.take_append_drop] at this
 omega
end Go.Mini
