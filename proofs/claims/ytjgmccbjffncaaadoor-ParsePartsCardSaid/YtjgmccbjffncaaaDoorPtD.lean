import Derived.Test.YtjgmccbjffncaaaDoorPLexZc
import Derived.Test.YtjgmccbjffncaaaDoorMiniYOtoYS
import Derived.Test.YtjgmccbjffncaaaDoorPtC
import Derived.Test.YtjgmccbjffncaaaDoorPjE
set_option maxHeartbeats 16000000
set_option maxRecDepth 100000
set_option linter.unusedSimpArgs false
namespace Go.Mini
open Nat (reduceLT reduceEqDiff)
open Go.Proofs Tryd
theorem same20_spec {E : EXT} (G : Nat) (h : Heap) (x y : LineT) (av bv : Value) (ha : ArmsV h x.arms av) (hb : ArmsV h y.arms bv) :
  Does prog G E 20 [lineVal x av, lineVal y bv] h fun r h' => r = .returned (.bool (decide (x = y))) ∧ h.more h' := by
 have hbox : ∀ (Hx : Heap) (z : LineT) (zv : Value), abox Hx 49 (lineVal z zv) = (Hx.new, Hx.alloc (lineRow z zv)) := fun _ _ _ => rfl
 refine Does.body func20 rfl ?_
 have hn : enterF Tryd.f20 [lineVal x av, lineVal y bv] = ⟨80, [(0, lineVal x av), (1, lineVal y bv)], []⟩ := rfl
 rw [hn]; clear hn
 repeat apply Wq
 refine Wp.r (Aq hbox @Heap.na) ?_
 have m1 := (Heap.ma h (lineRow x av)).trans (Heap.ma (h.alloc (lineRow x av)) (lineRow y bv))
 have g2 : ((h.alloc (lineRow x av)).alloc (lineRow y bv)).get h.next = some (lineRow x av) := by rw [Heap.go _ _ (by simp)]; exact Heap.gn h _
 have g3 : ((h.alloc (lineRow x av)).alloc (lineRow y bv)).get (h.next + 1) = some (lineRow y bv) := Heap.gn (h.alloc (lineRow x av)) _
 generalize (h.alloc (lineRow x av)).alloc (lineRow y bv) = H at m1 g2 g3 ⊢
 replace ha := ha.more m1
 replace hb := hb.more m1
 have lb := And.intro ln0 (And.intro ln1 (And.intro ln2 (And.intro ln3 (And.intro ln4 (And.intro ln5 (And.intro ln6 (And.intro ln7 (And.intro neq_int neq_txt))))))))
 have lz := And.intro (Heap.lf g2 (k := 0) rfl) (And.intro (Heap.lf g3 (k := 0) rfl) (And.intro (Heap.lf g2 (k := 1) rfl) (And.intro (Heap.lf g3 (k := 1) rfl) (And.intro (Heap.lf g2 (k := 2) rfl) (And.intro (Heap.lf g3 (k := 2) rfl) (And.intro (Heap.lf g2 (k := 3) rfl) (And.intro (Heap.lf g3 (k := 3) rfl) (And.intro (Heap.lf g2 (k := 4) rfl) (And.intro (Heap.lf g3 (k := 4) rfl) (And.intro (Heap.lf g2 (k := 5) rfl) (And.intro (Heap.lf g3 (k := 5) rfl) (And.intro (Heap.lf g2 (k := 6) rfl) (And.intro (Heap.lf g3 (k := 6) rfl) (And.intro (Heap.lf g2 (k := 7) rfl) (Heap.lf g3 (k := 7) rfl)))))))))))))))
 by_cases h0 : x.op ≠ y.op
 ·repeat apply Wq
  refine Wp.r (Aq lb (Aq lz (Aq @lc3 (Aq @lc9 (Aq @lc47 (decide_eq_true h0)))))) ?_
  repeat apply Wq
  refine Wp.cT ?_
  repeat apply Wq
  refine Wp.rS ?_
  repeat apply Wq
  refine Wp.ret ?_
  refine ⟨rfl, rfl, _, rfl, ?_, m1⟩
  rw [decide_eq_false (fun q => h0 (by rw [q]))]
 replace h0 := Classical.not_not.1 h0
 by_cases h1 : x.text ≠ y.text
 ·repeat apply Wq
  refine Wp.r (Aq lb (Aq lz (Aq @lc3 (Aq @lc9 (Aq @lc47 (Aq (decide_eq_false (not_not_intro h0)) (decide_eq_true h1))))))) ?_
  repeat apply Wq
  refine Wp.cT ?_
  repeat apply Wq
  refine Wp.rS ?_
  repeat apply Wq
  refine Wp.ret ?_
  refine ⟨rfl, rfl, _, rfl, ?_, m1⟩
  rw [decide_eq_false (fun q => h1 (by rw [q]))]
 replace h1 := Classical.not_not.1 h1
 by_cases h2 : x.name ≠ y.name
 ·repeat apply Wq
  refine Wp.r (Aq lb (Aq lz (Aq @lc3 (Aq @lc9 (Aq @lc47 (Aq (decide_eq_false (not_not_intro h0)) (Aq (decide_eq_false (not_not_intro h1)) (decide_eq_true h2)))))))) ?_
  repeat apply Wq
  refine Wp.cT ?_
  repeat apply Wq
  refine Wp.rS ?_
  repeat apply Wq
  refine Wp.ret ?_
  refine ⟨rfl, rfl, _, rfl, ?_, m1⟩
  rw [decide_eq_false (fun q => h2 (by rw [q]))]
 replace h2 := Classical.not_not.1 h2
 by_cases h3 : x.n ≠ y.n
 ·repeat apply Wq
  refine Wp.r (Aq lb (Aq lz (Aq @lc3 (Aq @lc9 (Aq @lc47 (Aq (decide_eq_false (not_not_intro h0)) (Aq (decide_eq_false (not_not_intro h1)) (Aq (decide_eq_false (not_not_intro h2)) (decide_eq_true h3))))))))) ?_
  repeat apply Wq
  refine Wp.cT ?_
  repeat apply Wq
  refine Wp.rS ?_
  repeat apply Wq
  refine Wp.ret ?_
  refine ⟨rfl, rfl, _, rfl, ?_, m1⟩
  rw [decide_eq_false (fun q => h3 (by rw [q]))]
 replace h3 := Classical.not_not.1 h3
 by_cases h4 : x.to ≠ y.to
 ·repeat apply Wq
  refine Wp.r (Aq lb (Aq lz (Aq @lc3 (Aq @lc9 (Aq @lc47 (Aq (decide_eq_false (not_not_intro h0)) (Aq (decide_eq_false (not_not_intro h1)) (Aq (decide_eq_false (not_not_intro h2)) (Aq (decide_eq_false (not_not_intro h3)) (decide_eq_true h4)))))))))) ?_
  repeat apply Wq
  refine Wp.cT ?_
  repeat apply Wq
  refine Wp.rS ?_
  repeat apply Wq
  refine Wp.ret ?_
  refine ⟨rfl, rfl, _, rfl, ?_, m1⟩
  rw [decide_eq_false (fun q => h4 (by rw [q]))]
 replace h4 := Classical.not_not.1 h4
 by_cases h5 : x.wait ≠ y.wait
 ·repeat apply Wq
  refine Wp.r (Aq lb (Aq lz (Aq @lc3 (Aq @lc9 (Aq @lc47 (Aq (decide_eq_false (not_not_intro h0)) (Aq (decide_eq_false (not_not_intro h1)) (Aq (decide_eq_false (not_not_intro h2)) (Aq (decide_eq_false (not_not_intro h3)) (Aq (decide_eq_false (not_not_intro h4)) (decide_eq_true h5))))))))))) ?_
  repeat apply Wq
  refine Wp.cT ?_
  repeat apply Wq
  refine Wp.rS ?_
  repeat apply Wq
  refine Wp.ret ?_
  refine ⟨rfl, rfl, _, rfl, ?_, m1⟩
  rw [decide_eq_false (fun q => h5 (by rw [q]))]
 replace h5 := Classical.not_not.1 h5
 by_cases h6 : x.late ≠ y.late
 ·repeat apply Wq
  refine Wp.r (Aq lb (Aq lz (Aq @lc3 (Aq @lc9 (Aq @lc47 (Aq (decide_eq_false (not_not_intro h0)) (Aq (decide_eq_false (not_not_intro h1)) (Aq (decide_eq_false (not_not_intro h2)) (Aq (decide_eq_false (not_not_intro h3)) (Aq (decide_eq_false (not_not_intro h4)) (Aq (decide_eq_false (not_not_intro h5)) (decide_eq_true h6)))))))))))) ?_
  repeat apply Wq
  refine Wp.cT ?_
  repeat apply Wq
  refine Wp.rS ?_
  repeat apply Wq
  refine Wp.ret ?_
  refine ⟨rfl, rfl, _, rfl, ?_, m1⟩
  rw [decide_eq_false (fun q => h6 (by rw [q]))]
 replace h6 := Classical.not_not.1 h6
 by_cases h7 : (x.arms.length : Int) ≠ (y.arms.length : Int)
 ·repeat apply Wq
  refine Wp.r (Aq lb (Aq lz (Aq @lc3 (Aq @lc9 (Aq @lc47 (Aq (decide_eq_false (not_not_intro h0)) (Aq (decide_eq_false (not_not_intro h1)) (Aq (decide_eq_false (not_not_intro h2)) (Aq (decide_eq_false (not_not_intro h3)) (Aq (decide_eq_false (not_not_intro h4)) (Aq (decide_eq_false (not_not_intro h5)) (Aq (decide_eq_false (not_not_intro h6)) (Aq ha.len (Aq hb.len (decide_eq_true h7))))))))))))))) ?_
  repeat apply Wq
  refine Wp.cT ?_
  repeat apply Wq
  refine Wp.rS ?_
  repeat apply Wq
  refine Wp.ret ?_
  refine ⟨rfl, rfl, _, rfl, ?_, m1⟩
  rw [decide_eq_false (fun q => h7 (by rw [q]))]
 replace h7 := Classical.not_not.1 h7
 repeat apply Wq
 refine Wp.r (Aq lb (Aq lz (Aq @lc3 (Aq @lc9 (Aq @lc47 (Aq (decide_eq_false (not_not_intro h0)) (Aq (decide_eq_false (not_not_intro h1)) (Aq (decide_eq_false (not_not_intro h2)) (Aq (decide_eq_false (not_not_intro h3)) (Aq (decide_eq_false (not_not_intro h4)) (Aq (decide_eq_false (not_not_intro h5)) (Aq (decide_eq_false (not_not_intro h6)) (Aq ha.len (Aq hb.len (decide_eq_false (not_not_intro h7)))))))))))))))) ?_
 repeat apply Wq
 refine Wp.cF ?_
 repeat apply Wq
 refine Wp.skip ?_
 replace h7 : x.arms.length = y.arms.length := by omega
 have hh : x.heads = y.heads := by unfold LineT.heads; rw [h0, h1, h2, h3, h4, h5, h6, h7]
 have hmax := SliceR.le ha
 repeat apply Wq
 refine Wp.r (Aq @ln5 (Aq @lc47 (Aq (Heap.lf g2 (k := 5) rfl) ha.len))) ?_
 repeat apply Wq
 refine Wp.block ?_
 refine Wp.loopI (X := Nat) (fun i => [(2, .pointer (some ⟨h.next, 0, none⟩)), (3, .pointer (some ⟨h.next + 1, 0, none⟩)), (64, .int .i64 (x.arms.length : Nat)), (65, .int .i64 i)]) (fun _ => H)
  (fun i => i ≤ x.arms.length ∧ decide (x = y) = decide (x.arms.drop i = y.arms.drop i)) (fun i => x.arms.length - i) 0 ⟨Nat.zero_le _, by rw [List.drop_zero, List.drop_zero]; exact decide_eq_decide.2 ((line_eq x y).trans ⟨fun q => q.2, fun q => ⟨hh, q⟩⟩)⟩ ⟨rfl, rfl, rfl, rfl, trivial⟩ rfl ?_
 rintro i ⟨hle, hi⟩
 by_cases hlt : (i : Int) < (x.arms.length : Int)
 ·repeat apply Wq
  refine Wp.r (decide_eq_true hlt) ?_
  repeat apply Wq
  refine Wp.cT ?_
  repeat apply Wq
  refine Wp.skip ?_
  repeat apply Wq
  refine Wp.block ?_
  obtain ⟨t, ht⟩ : ∃ t, x.arms[i]? = some t := ⟨_, List.getElem?_eq_getElem (by omega)⟩
  obtain ⟨u, hu⟩ : ∃ t, y.arms[i]? = some t := ⟨_, List.getElem?_eq_getElem (by omega)⟩
  obtain ⟨b, k, _, hp, ta⟩ := ha.at ht
  obtain ⟨c, j, _, hq, tb⟩ := hb.at hu
  rw [drop_at ht, drop_at hu] at hi
  have hw1 := succ_in (i := i) (n := x.arms.length) (by omega) hmax
  repeat apply Wq
  refine Wp.rS ?_
  by_cases htu : t = u
  ·repeat apply Wq
   refine Wp.runSD mixed (by kernel_rfl) (by simp only [runSD, stepOD, stepWD, stepVD, isLoud, isPure, isReader, decide_true, bsb, bsg, reduceLT, reduceEqDiff, reduceCtorEq, ln5, lc47, Heap.lf g2 (k := 5) rfl, Heap.lf g3 (k := 5) rfl, hp, hq, ta H (Heap.mr H), tb H (Heap.mr H), arm_neq, decide_eq_false (not_not_intro htu)] <;> exact rfl) ?_
   repeat apply Wq
   refine Wp.cF ?_
   repeat apply Wq
   refine Wp.skip ?_
   repeat apply Wq
   refine Wp.r hw1 ?_
   refine ⟨i + 1, _, ⟨by omega, ?_⟩, by omega, rfl, ⟨rfl, rfl, rfl, rfl, trivial⟩, rfl, rfl⟩
   rw [hi]
   exact decide_eq_decide.2 (by simp [htu])
  ·repeat apply Wq
   refine Wp.runSD mixed (by kernel_rfl) (by simp only [runSD, stepOD, stepWD, stepVD, isLoud, isPure, isReader, decide_true, bsb, bsg, reduceLT, reduceEqDiff, reduceCtorEq, ln5, lc47, Heap.lf g2 (k := 5) rfl, Heap.lf g3 (k := 5) rfl, hp, hq, ta H (Heap.mr H), tb H (Heap.mr H), arm_neq, decide_eq_true (show t ≠ u from htu)] <;> exact rfl) ?_
   repeat apply Wq
   refine Wp.cT ?_
   repeat apply Wq
   refine Wp.rS ?_
   repeat apply Wq
   refine Wp.ret ?_
   refine ⟨rfl, rfl, _, rfl, ?_, m1⟩
   rw [hi, decide_eq_false (by simp [htu])]
 ·repeat apply Wq
  refine Wp.r (decide_eq_false hlt) ?_
  repeat apply Wq
  refine Wp.cF ?_
  repeat apply Wq
  refine Wp.exit ?_
  simp only [bx, Nat.reduceEqDiff]
  repeat apply Wq
  refine Wp.rS ?_
  repeat apply Wq
  refine Wp.ret ?_
  refine ⟨rfl, rfl, _, rfl, ?_, m1⟩
  rw [hi, List.drop_eq_nil_of_le (by omega), List.drop_eq_nil_of_le (by omega)]
  rfl
def fewX (x : LineT) : Bool := decide (x.arms.length ≤ 8) && decide (x.text.length ≤ 64)
def fewF (bl : List BlockT) : Bool := bl.all (fun b => b.lines.all fewX) && (decide (bl.length ≤ 32) && decide (linesOf bl ≤ 128))
theorem few_spec {E : EXT} (G : Nat) (h : Heap) (bl : List BlockT) (v : Value) (hv : BlocksV h bl v) (hb : linesOf bl ≤ 1000000) :
  Does prog G E 19 [.agg #[v]] h fun r h' => r = .returned (.bool (fewF bl)) ∧ h.more h' := by
 refine Does.body func19 rfl ?_
 have hn : enterF Tryd.f19 [.agg #[v]] = ⟨47, [(0, .agg #[v])], []⟩ := rfl
 rw [hn]; clear hn
 repeat apply Wq
 refine Wp.r @hbox24 ?_
 have g1 : (h.alloc (scriptRow v)).get h.next = some (scriptRow v) := Heap.gn h _
 have m1 := Heap.ma h (scriptRow v)
 generalize h.alloc (scriptRow v) = H at g1 m1 ⊢
 generalize h.next = j1 at g1 ⊢
 have hmax := SliceR.le hv
 repeat apply Wq
 refine Wp.rS ?_
 repeat apply Wq
 refine Wp.r (Aq @sc0 (Aq @lc22 (Aq (Heap.lf g1 (k := 0) rfl) hv.len))) ?_
 repeat apply Wq
 refine Wp.block ?_
 refine Wp.loopI (X := Nat × Heap) (fun x => [(1, .pointer (some ⟨j1, 0, none⟩)), (3, .int .i64 (linesOf (bl.take x.1) : Nat)), (9, v), (10, .int .i64 (bl.length : Nat)), (11, .int .i64 x.1)]) (fun x => x.2)
  (fun x => x.1 ≤ bl.length ∧ H.more x.2 ∧ bl.all (fun b => b.lines.all fewX) = (bl.drop x.1).all (fun b => b.lines.all fewX)) (fun x => bl.length - x.1) (0, H) ⟨Nat.zero_le _, Heap.mr _, rfl⟩ ⟨rfl, rfl, rfl, rfl, rfl, trivial⟩ rfl ?_
 rintro ⟨i, K⟩ ⟨hle, hm, hal⟩
 simp only at hle hm hal ⊢
 by_cases hlt : (i : Int) < (bl.length : Int)
 ·repeat apply Wq
  refine Wp.r (decide_eq_true hlt) ?_
  repeat apply Wq
  refine Wp.cT ?_
  repeat apply Wq
  refine Wp.skip ?_
  repeat apply Wq
  refine Wp.block ?_
  obtain ⟨t, ht⟩ : ∃ t, bl[i]? = some t := ⟨_, List.getElem?_eq_getElem (by omega)⟩
  obtain ⟨b, k, lv, hb2, hp, lt, ta, _⟩ := hv.at ht
  have hw1 := succ_in (i := i) (n := bl.length) (by omega) hmax
  rw [drop_at ht, List.all_cons] at hal
  have hle2 := linesOf_take_le bl (i + 1)
  have hw2 : IntKind.i64.wrap ((linesOf (bl.take i) : Int) + (t.lines.length : Int)) = ((linesOf (bl.take (i + 1)) : Nat) : Int) := by
   rw [linesOf_take ht] at hle2 ⊢
   rw [wrap_in (by omega) (by omega)]; omega
  repeat apply Wq
  refine Wp.r (Aq hp (Aq (ta K (m1.trans hm)) (Aq @alloc42' (bcell0 K t.name (SliceR.one lt))))) ?_
  have g5 : (K.alloc (blockRow t.name lv)).get K.next = some (blockRow t.name lv) := Heap.gn K _
  have m2 := hm.trans (Heap.ma K (blockRow t.name lv))
  generalize K.alloc (blockRow t.name lv) = K1 at g5 m2 ⊢
  generalize K.next = j5 at g5 ⊢
  repeat apply Wq
  refine Wp.r (Aq @bk1 (Aq @lc40 (Aq (Heap.lf g5 (k := 1) rfl) (Aq lt.len hw2)))) ?_
  repeat apply Wq
  refine Wp.r (Aq @bk1 (Aq @lc40 (Aq (Heap.lf g5 (k := 1) rfl) lt.len))) ?_
  have hlm := SliceR.le lt
  repeat apply Wq
  refine Wp.block ?_
  refine Wp.loopI (X := Nat × Heap) (fun x => [(1, .pointer (some ⟨j1, 0, none⟩)), (3, .int .i64 (linesOf (bl.take (i + 1)) : Nat)), (9, v), (10, .int .i64 (bl.length : Nat)), (11, .int .i64 i), (21, lv), (22, .int .i64 (t.lines.length : Nat)), (23, .int .i64 x.1)]) (fun x => x.2)
   (fun x => x.1 ≤ t.lines.length ∧ H.more x.2 ∧ t.lines.all fewX = (t.lines.drop x.1).all fewX) (fun x => t.lines.length - x.1) (0, K1) ⟨Nat.zero_le _, m2, rfl⟩ ⟨rfl, rfl, rfl, rfl, rfl, rfl, rfl, rfl, trivial⟩ rfl ?_
  rintro ⟨n, L⟩ ⟨hle3, m3, hal3⟩
  simp only at hle3 m3 hal3 ⊢
  by_cases hlt3 : (n : Int) < (t.lines.length : Int)
  ·repeat apply Wq
   refine Wp.r (decide_eq_true hlt3) ?_
   repeat apply Wq
   refine Wp.cT ?_
   repeat apply Wq
   refine Wp.skip ?_
   repeat apply Wq
   refine Wp.block ?_
   obtain ⟨x, hx⟩ : ∃ x, t.lines[n]? = some x := ⟨_, List.getElem?_eq_getElem (by omega)⟩
   obtain ⟨b3, k3, av, _, hp3, aa, ta3⟩ := lt.at hx
   have hw3 := succ_in (i := n) (n := t.lines.length) (by omega) hlm
   rw [drop_at hx, List.all_cons] at hal3
   repeat apply Wq
   refine Wp.r (Aq hp3 (Aq (ta3 L (m1.trans m3)) (Aq @alloc49' (lcell0 L x (SliceR.one aa))))) ?_
   have g7 : (L.alloc (lineRow x av)).get L.next = some (lineRow x av) := Heap.gn L _
   have m4 := m3.trans (Heap.ma L (lineRow x av))
   generalize L.alloc (lineRow x av) = L1 at g7 m4 ⊢
   generalize L.next = j7 at g7 ⊢
   by_cases o1 : (8 : Int) < (x.arms.length : Int)
   ·repeat apply Wq
    refine Wp.r (Aq @ln5 (Aq @lc47 (Aq (Heap.lf g7 (k := 5) rfl) (Aq aa.len (decide_eq_true o1))))) ?_
    repeat apply Wq
    refine Wp.cT ?_
    repeat apply Wq
    refine Wp.rS ?_
    repeat apply Wq
    refine Wp.ret ?_
    refine ⟨rfl, rfl, _, rfl, ?_, m1.trans m4⟩
    have hf : fewX x = false := by unfold fewX; rw [decide_eq_false (by omega)]; rfl
    unfold fewF
    rw [hal, hal3, hf]; rfl
   by_cases o2 : (64 : Int) < (x.text.length : Int)
   ·repeat apply Wq
    refine Wp.r (Aq @ln5 (Aq @ln1 (Aq @lc47 (Aq @lc9 (Aq (Heap.lf g7 (k := 5) rfl) (Aq (Heap.lf g7 (k := 1) rfl) (Aq aa.len (Aq @ls9 (Aq (decide_eq_false o1) (decide_eq_true o2)))))))))) ?_
    repeat apply Wq
    refine Wp.cT ?_
    repeat apply Wq
    refine Wp.rS ?_
    repeat apply Wq
    refine Wp.ret ?_
    refine ⟨rfl, rfl, _, rfl, ?_, m1.trans m4⟩
    have hf : fewX x = false := by unfold fewX; rw [decide_eq_false (show ¬ x.text.length ≤ 64 by omega), Bool.and_false]
    unfold fewF
    rw [hal, hal3, hf]; rfl
   repeat apply Wq
   refine Wp.r (Aq @ln5 (Aq @ln1 (Aq @lc47 (Aq @lc9 (Aq (Heap.lf g7 (k := 5) rfl) (Aq (Heap.lf g7 (k := 1) rfl) (Aq aa.len (Aq @ls9 (Aq (decide_eq_false o1) (decide_eq_false o2)))))))))) ?_
   repeat apply Wq
   refine Wp.cF ?_
   repeat apply Wq
   refine Wp.skip ?_
   have hf : fewX x = true := by unfold fewX; rw [decide_eq_true (show x.arms.length ≤ 8 by omega), decide_eq_true (show x.text.length ≤ 64 by omega)]; rfl
   rw [hf, Bool.true_and] at hal3
   repeat apply Wq
   refine Wp.r hw3 ?_
   exact ⟨(n + 1, L1), _, ⟨by simp only; omega, m4, hal3⟩, by simp only; omega, rfl, ⟨rfl, rfl, rfl, rfl, rfl, rfl, rfl, rfl, trivial⟩, rfl, rfl⟩
  ·repeat apply Wq
   refine Wp.r (decide_eq_false hlt3) ?_
   repeat apply Wq
   refine Wp.cF ?_
   repeat apply Wq
   refine Wp.exit ?_
   simp only [bx, Nat.reduceEqDiff]
   rw [List.drop_eq_nil_of_le (by omega)] at hal3
   rw [hal3] at hal
   repeat apply Wq
   refine Wp.r hw1 ?_
   exact ⟨(i + 1, L), _, ⟨by simp only; omega, m3, by simpa using hal⟩, by simp only; omega, rfl, ⟨rfl, rfl, rfl, rfl, rfl, trivial⟩, rfl, rfl⟩
 ·repeat apply Wq
  refine Wp.r (decide_eq_false hlt) ?_
  repeat apply Wq
  refine Wp.cF ?_
  repeat apply Wq
  refine Wp.exit ?_
  simp only [bx, Nat.reduceEqDiff]
  have hi : bl.take i = bl := List.take_of_length_le (by omega)
  rw [hi]
  rw [List.drop_eq_nil_of_le (by omega)] at hal
  have k1 := hm.get g1
  by_cases o1 : (bl.length : Int) ≤ 32
  ·by_cases o2 : (linesOf bl : Int) ≤ 128
   ·repeat apply Wq
    refine Wp.r (Aq @sc0 (Aq @lc22 (Aq (Heap.lf k1 (k := 0) rfl) (Aq hv.len (Aq (decide_eq_true o1) (decide_eq_true o2)))))) ?_
    repeat apply Wq
    refine Wp.ret ?_
    refine ⟨rfl, rfl, _, rfl, ?_, m1.trans hm⟩
    unfold fewF
    rw [hal, decide_eq_true (show bl.length ≤ 32 by omega), decide_eq_true (show linesOf bl ≤ 128 by omega)]; rfl
   ·repeat apply Wq
    refine Wp.r (Aq @sc0 (Aq @lc22 (Aq (Heap.lf k1 (k := 0) rfl) (Aq hv.len (Aq (decide_eq_true o1) (decide_eq_false o2)))))) ?_
    repeat apply Wq
    refine Wp.ret ?_
    refine ⟨rfl, rfl, _, rfl, ?_, m1.trans hm⟩
    unfold fewF
    rw [decide_eq_false (show ¬ linesOf bl ≤ 128 by omega), Bool.and_false, Bool.and_false]
  ·repeat apply Wq
   refine Wp.r (Aq @sc0 (Aq @lc22 (Aq (Heap.lf k1 (k := 0) rfl) (Aq hv.len (decide_eq_false o1))))) ?_
   repeat apply Wq
   refine Wp.ret ?_
   refine ⟨rfl, rfl, _, rfl, ?_, m1.trans hm⟩
   unfold fewF
   rw [decide_eq_false (show ¬ bl.length ≤ 32 by omega), Bool.false_and, Bool.and_false]
def mayS (bl : List BlockT) : Bool := fewF bl && (match progS (textS bl) with | .ok t => decide (t = bl) | .error _ => false)
def roomy (bl : List BlockT) : Prop := linesOf bl ≤ 1000000 ∧ ∀ b ∈ bl, b.name.length ≤ 100000 ∧ ∀ x ∈ b.lines,
 x.text.length ≤ 100000 ∧ x.name.length ≤ 100000 ∧ x.to.length ≤ 100000 ∧ x.late.length ≤ 100000 ∧ (-9223372036854775808 ≤ x.n ∧ x.n ≤ 9223372036854775807) ∧ (-9223372036854775808 ≤ x.wait ∧ x.wait ≤ 9223372036854775807) ∧ ∀ a ∈ x.arms, a.to.length ≤ 100000
theorem roomy.small {bl : List BlockT} (h : roomy bl) (hf : fewF bl = true) : smallD bl := by
 unfold fewF at hf
 simp only [Bool.and_eq_true, decide_eq_true_eq] at hf
 obtain ⟨h1, h2, h3⟩ := hf
 refine ⟨h2, h3, fun b hb => ⟨(h.2 b hb).1, fun x hx => ?_⟩⟩
 obtain ⟨q1, q2, q3, q4, q5, q6, q7⟩ := (h.2 b hb).2 x hx
 have hx2 := List.all_eq_true.1 (List.all_eq_true.1 h1 b hb) x hx
 unfold fewX at hx2
 simp only [Bool.and_eq_true, decide_eq_true_eq] at hx2
 exact ⟨q1, q2, q3, q4, q5, q6, hx2.1, q7⟩
theorem textS_len {bl : List BlockT} (h : smallD bl) : (textS bl).length ≤ 281474976710656 := by
 obtain ⟨h1, h2, h3⟩ := h
 obtain ⟨q1, q2⟩ := flat_blocks h3
 have := wr_len _ [] q2
 have e : linesOf bl * 11 ≤ 128 * 11 := Nat.mul_le_mul_right _ h2
 have e2 : (bl.flatMap rowsB).length * 1000001 ≤ 1440 * 1000001 := Nat.mul_le_mul_right _ (by omega)
 unfold textS
 simp only [List.length_nil] at this
 omega
theorem lds_cells {H : Heap} {b k : Nat} {m : List UInt8} {lv : Value} (h : aload prog H 42 (.pointer (some ⟨b, k, none⟩)) = some (.agg #[.string (bs m), lv])) : aload prog H 9 (.pointer (some ⟨b, k, none⟩)) = some (.string (bs m)) := by
 rw [aload_agg agg42 sz42] at h
 obtain ⟨l, h1, h2⟩ := om h
 have hl : l = [.string (bs m), lv] := by
  have := congrArg (fun v => match v with | .agg a => a.toList | _ => []) h2
  simpa using this
 subst hl
 obtain ⟨r, hr, h7⟩ := ob h1
 rw [lc9]
 split at h7
 case isFalse => cases h7
 have h8 := congrArg (fun l => l[0]?) (Option.some.inj h7)
 simp only [List.getElem?_take, List.getElem?_drop, Nat.add_zero] at h8
 exact Heap.lf (Heap.row_some.1 hr) h8
theorem may_spec (h : Heap) (bl : List BlockT) (v : Value) (hv : BlocksV h bl v) (hs : roomy bl) :
  Does prog 0 (GoodE prog (baseM 0)) 12 [.agg #[v]] h fun r h' => r = .returned (.bool (mayS bl)) ∧ h.more h' := by
 have c19 : canEnter prog 19 = true := by kernel_rfl
 have c18 : canEnter prog 18 = true := by kernel_rfl
 have c13 : canEnter prog 13 = true := by kernel_rfl
 have c20 : canEnter prog 20 = true := by kernel_rfl
 refine Does.body func12 rfl ?_
 have hn : enterF Tryd.f12 [.agg #[v]] = ⟨82, [(0, .agg #[v])], []⟩ := rfl
 rw [hn]; clear hn
 repeat apply Wq
 refine Wp.r @hbox24 ?_
 have g1 : (h.alloc (scriptRow v)).get h.next = some (scriptRow v) := Heap.gn h _
 have m1 := Heap.ma h (scriptRow v)
 generalize h.alloc (scriptRow v) = H at g1 m1 ⊢
 generalize h.next = j1 at g1 ⊢
 have hmax := SliceR.le hv
 repeat apply Wq
 refine Wp.regionAs (is := List.range' 0 1 ++ (1 :: (List.range' 2 1 ++ []))) rfl ?_
 refine WpO.r 1 (script_load g1) ?_
 refine WpO.cS c19 ((few_spec 0 H bl v (hv.more m1) hs.1).mono ?_)
 intro r H2 hr
 obtain ⟨rfl, m2⟩ := hr
 refine pt ?_
 cases hfew : fewF bl with
 | false =>
  have hR : mayS bl = false := by unfold mayS; rw [hfew]; rfl
  refine WpO.rS 1 ?_
  refine WpO.nil ?_
  repeat apply Wq
  refine Wp.cT ?_
  repeat apply Wq
  refine Wp.rS ?_
  repeat apply Wq
  refine Wp.ret ?_
  exact ⟨rfl, rfl, _, rfl, by rw [hR], m1.trans m2⟩
 | true =>
 have hsm := hs.small hfew
 have hR0 : mayS bl = (match progS (textS bl) with | .ok t => decide (t = bl) | .error _ => false) := by unfold mayS; rw [hfew, Bool.true_and]
 refine WpO.rS 1 ?_
 refine WpO.nil ?_
 repeat apply Wq
 refine Wp.cF ?_
 repeat apply Wq
 refine Wp.skip ?_
 replace g1 := m2.get g1
 replace m1 := m1.trans m2
 clear m2
 generalize H2 = H at g1 m1 ⊢
 repeat apply Wq
 refine Wp.regionAs (is := List.range' 0 1 ++ (1 :: (2 :: (List.range' 3 7 ++ [])))) rfl ?_
 refine WpO.r 1 (script_load g1) ?_
 refine WpO.cS c18 ((text_spec H bl v (hv.more m1) hsm).mono ?_)
 intro r H3 hr
 obtain ⟨rfl, m3⟩ := hr
 refine pt ?_
 refine WpO.cS c13 ((prog_any H3 (textS bl) (textS_len hsm)).mono ?_)
 intro r H4 hr
 obtain ⟨bw, d, q, rfl, honew, m4, ht⟩ := hr
 refine pt ?_
 refine WpO.runS 7 (by simp only [bsd, bsg, reduceLT, reduceEqDiff, reduceCtorEq, List.getElem?_toArray, alloc24, alloc27, Heap.na, jcells1 H4 honew, jcells2] <;> exact rfl) (by decide) ?_
 refine WpO.nil ?_
 have m5 := (Heap.ma H4 (scriptRow bw)).trans (Heap.ma (H4.alloc (scriptRow bw)) (spotRow d q))
 have g3 : ((H4.alloc (scriptRow bw)).alloc (spotRow d q)).get H4.next = some (scriptRow bw) := by rw [Heap.go _ _ (by simp)]; exact Heap.gn H4 _
 have g4 : ((H4.alloc (scriptRow bw)).alloc (spotRow d q)).get (H4.next + 1) = some (spotRow d q) := Heap.gn (H4.alloc (scriptRow bw)) _
 replace g1 := ((m3.trans m4).trans m5).get g1
 replace m1 := ((m1.trans m3).trans m4).trans m5
 refine Wp.weaken (Frm.le_of (l := [(1, .pointer (some ⟨j1, 0, none⟩)), (3, .pointer (some ⟨H4.next, 0, none⟩)), (4, .pointer (some ⟨H4.next + 1, 0, none⟩))]) ⟨rfl, rfl, rfl, trivial⟩) ?_
 generalize (H4.alloc (scriptRow bw)).alloc (spotRow d q) = K at m1 m5 g1 g3 g4 ⊢
 generalize H4.next + 1 = j4 at g4 ⊢
 generalize H4.next = j3 at g3 ⊢
 cases hT : progS (textS bl) with
 | error z =>
  rw [hT] at ht hR0
  obtain ⟨hc, _⟩ := ht
  have nz : ((d : Int) != 0) = true := by rw [bne_iff_ne]; omega
  repeat apply Wq
  refine Wp.r (Aq @s0 (Aq @lc29 (Aq (Heap.lf g4 (k := 0) rfl) nz))) ?_
  repeat apply Wq
  refine Wp.cT ?_
  repeat apply Wq
  refine Wp.rS ?_
  repeat apply Wq
  refine Wp.ret ?_
  exact ⟨rfl, rfl, _, rfl, by rw [hR0], m1⟩
 | ok t =>
 rw [hT] at ht hR0
 obtain ⟨rfl, rfl, ht⟩ := ht
 simp only at hR0
 replace ht := ht.more m5
 replace hv := hv.more m1
 have z0 : (((0 : Nat) : Int) != 0) = false := rfl
 by_cases hlen : t.length ≠ bl.length
 ·repeat apply Wq
  refine Wp.r (Aq @s0 (Aq @sc0 (Aq @lc29 (Aq @lc22 (Aq (Heap.lf g4 (k := 0) rfl) (Aq (Heap.lf g3 (k := 0) rfl) (Aq (Heap.lf g1 (k := 0) rfl) (Aq hv.len (Aq ht.len (Aq z0 (Aq @neq_len (decide_eq_true hlen)))))))))))) ?_
  repeat apply Wq
  refine Wp.cT ?_
  repeat apply Wq
  refine Wp.rS ?_
  repeat apply Wq
  refine Wp.ret ?_
  refine ⟨rfl, rfl, _, rfl, ?_, m1⟩
  rw [hR0, decide_eq_false (fun q => hlen (by rw [q]))]
 repeat apply Wq
 refine Wp.r (Aq @s0 (Aq @sc0 (Aq @lc29 (Aq @lc22 (Aq (Heap.lf g4 (k := 0) rfl) (Aq (Heap.lf g3 (k := 0) rfl) (Aq (Heap.lf g1 (k := 0) rfl) (Aq hv.len (Aq ht.len (Aq z0 (Aq @neq_len (decide_eq_false hlen)))))))))))) ?_
 repeat apply Wq
 refine Wp.cF ?_
 repeat apply Wq
 refine Wp.skip ?_
 replace hlen := Classical.not_not.1 hlen
 repeat apply Wq
 refine Wp.r (Aq @sc0 (Aq @lc22 (Aq (Heap.lf g1 (k := 0) rfl) hv.len))) ?_
 repeat apply Wq
 refine Wp.block ?_
 refine Wp.loopI (X := Nat × Heap) (fun x => [(1, .pointer (some ⟨j1, 0, none⟩)), (3, .pointer (some ⟨j3, 0, none⟩)), (31, v), (32, .int .i64 (bl.length : Nat)), (33, .int .i64 x.1)]) (fun x => x.2)
  (fun x => x.1 ≤ bl.length ∧ K.more x.2 ∧ decide (t = bl) = decide (t.drop x.1 = bl.drop x.1)) (fun x => bl.length - x.1) (0, K) ⟨Nat.zero_le _, Heap.mr _, rfl⟩ ⟨rfl, rfl, rfl, rfl, rfl, trivial⟩ rfl ?_
 rintro ⟨i, L⟩ ⟨hle, hm, hi⟩
 simp only at hle hm hi ⊢
 have k3 := hm.get g3
 by_cases hlt : (i : Int) < (bl.length : Int)
 ·repeat apply Wq
  refine Wp.r (decide_eq_true hlt) ?_
  repeat apply Wq
  refine Wp.cT ?_
  repeat apply Wq
  refine Wp.skip ?_
  repeat apply Wq
  refine Wp.block ?_
  obtain ⟨x, hx⟩ : ∃ x, bl[i]? = some x := ⟨_, List.getElem?_eq_getElem (by omega)⟩
  obtain ⟨y, hy⟩ : ∃ y, t[i]? = some y := ⟨_, List.getElem?_eq_getElem (by omega)⟩
  obtain ⟨b, k, lv, hb, hp, lt, ta, _⟩ := hv.at hx
  obtain ⟨c, j, lu, hc, hq, lw, tb, tb2⟩ := ht.at hy
  have hw1 := succ_in (i := i) (n := bl.length) (by omega) hmax
  rw [drop_at hx, drop_at hy] at hi
  repeat apply Wq
  refine Wp.r (Aq hp (Aq (ta L hm) (Aq @alloc42' (bcell0 L x.name (SliceR.one lt))))) ?_
  have g6 : (L.alloc (blockRow x.name lv)).get L.next = some (blockRow x.name lv) := Heap.gn L _
  replace k3 := (Heap.ma L (blockRow x.name lv)).get k3
  replace hm := hm.trans (Heap.ma L (blockRow x.name lv))
  generalize L.alloc (blockRow x.name lv) = L1 at g6 k3 hm ⊢
  generalize L.next = j6 at g6 ⊢
  refine Wp.weaken (Frm.le_of (l := [(1, .pointer (some ⟨j1, 0, none⟩)), (3, .pointer (some ⟨j3, 0, none⟩)), (5, .int .i64 i), (6, .pointer (some ⟨j6, 0, none⟩)), (31, v), (32, .int .i64 (bl.length : Nat)), (33, .int .i64 i)]) ⟨rfl, rfl, rfl, rfl, rfl, rfl, rfl, trivial⟩) ?_
  have tn := lds_cells (tb L1 hm)
  by_cases hn : x.name ≠ y.name
  ·repeat apply Wq
   refine Wp.runSD mixed (by kernel_rfl) (by simp only [runSD, stepOD, stepWD, stepVD, isLoud, isPure, isReader, decide_true, bsb, bsg, reduceLT, reduceEqDiff, reduceCtorEq, bk0, sc0, lc22, Heap.lf k3 (k := 0) rfl, hq, tn, lc9, Heap.lf g6 (k := 0) rfl, neq_txt, decide_eq_true hn] <;> exact rfl) ?_
   repeat apply Wq
   refine Wp.cT ?_
   repeat apply Wq
   refine Wp.rS ?_
   repeat apply Wq
   refine Wp.ret ?_
   refine ⟨rfl, rfl, _, rfl, ?_, m1.trans hm⟩
   rw [hR0, hi, decide_eq_false]
   intro q
   exact hn (by rw [(List.cons.inj q).1])
  have tl := tb2 L1 hm
  by_cases hl : x.lines.length ≠ y.lines.length
  ·repeat apply Wq
   refine Wp.runSD mixed (by kernel_rfl) (by simp only [runSD, stepOD, stepWD, stepVD, isLoud, isPure, isReader, decide_true, bsb, bsg, reduceLT, reduceEqDiff, reduceCtorEq, bk0, bk1, sc0, lc22, Heap.lf k3 (k := 0) rfl, hq, tn, tl, lc9, lc40, Heap.lf g6 (k := 0) rfl, Heap.lf g6 (k := 1) rfl, lt.len, lw.len, neq_txt, neq_len, decide_eq_false hn, decide_eq_true hl] <;> exact rfl) ?_
   repeat apply Wq
   refine Wp.cT ?_
   repeat apply Wq
   refine Wp.rS ?_
   repeat apply Wq
   refine Wp.ret ?_
   refine ⟨rfl, rfl, _, rfl, ?_, m1.trans hm⟩
   rw [hR0, hi, decide_eq_false]
   intro q
   exact hl (by rw [(List.cons.inj q).1])
  repeat apply Wq
  refine Wp.runSD mixed (by kernel_rfl) (by simp only [runSD, stepOD, stepWD, stepVD, isLoud, isPure, isReader, decide_true, bsb, bsg, reduceLT, reduceEqDiff, reduceCtorEq, bk0, bk1, sc0, lc22, Heap.lf k3 (k := 0) rfl, hq, tn, tl, lc9, lc40, Heap.lf g6 (k := 0) rfl, Heap.lf g6 (k := 1) rfl, lt.len, lw.len, neq_txt, neq_len, decide_eq_false hn, decide_eq_false hl] <;> exact rfl) ?_
  repeat apply Wq
  refine Wp.cF ?_
  repeat apply Wq
  refine Wp.skip ?_
  replace hn := Classical.not_not.1 hn
  replace hl := Classical.not_not.1 hl
  have hlm := SliceR.le lt
  repeat apply Wq
  refine Wp.r (Aq @bk1 (Aq @lc40 (Aq (Heap.lf g6 (k := 1) rfl) lt.len))) ?_
  repeat apply Wq
  refine Wp.block ?_
  refine Wp.loopI (X := Nat × Heap) (fun z => [(1, .pointer (some ⟨j1, 0, none⟩)), (3, .pointer (some ⟨j3, 0, none⟩)), (5, .int .i64 i), (31, v), (32, .int .i64 (bl.length : Nat)), (33, .int .i64 i), (61, lv), (62, .int .i64 (x.lines.length : Nat)), (63, .int .i64 z.1)]) (fun z => z.2)
   (fun z => z.1 ≤ x.lines.length ∧ L1.more z.2 ∧ decide (t = bl) = decide (y.lines.drop z.1 = x.lines.drop z.1 ∧ t.drop (i + 1) = bl.drop (i + 1))) (fun z => x.lines.length - z.1) (0, L1) ⟨Nat.zero_le _, Heap.mr _, ?_⟩ ⟨rfl, rfl, rfl, rfl, rfl, rfl, rfl, rfl, rfl, trivial⟩ rfl ?_
  ·rw [hi]
   refine decide_eq_decide.2 ?_
   rw [List.cons.injEq, block_eq]
   simp [hn]
  rintro ⟨n, M⟩ ⟨hle2, hm2, hi2⟩
  simp only at hle2 hm2 hi2 ⊢
  have l3 := hm2.get k3
  by_cases hlt2 : (n : Int) < (x.lines.length : Int)
  ·repeat apply Wq
   refine Wp.r (decide_eq_true hlt2) ?_
   repeat apply Wq
   refine Wp.cT ?_
   repeat apply Wq
   refine Wp.skip ?_
   repeat apply Wq
   refine Wp.block ?_
   obtain ⟨p, hpn⟩ : ∃ p, x.lines[n]? = some p := ⟨_, List.getElem?_eq_getElem (by omega)⟩
   obtain ⟨r, hrn⟩ : ∃ r, y.lines[n]? = some r := ⟨_, List.getElem?_eq_getElem (by omega)⟩
   obtain ⟨b1, k1, av, _, hp1, aa, ta1⟩ := lt.at hpn
   obtain ⟨b2, k2', bv, _, hp2, ab, tb1⟩ := lw.at hrn
   have hw2 := succ_in (i := n) (n := x.lines.length) (by omega) hlm
   rw [drop_at hpn, drop_at hrn] at hi2
   repeat apply Wq
   refine Wp.r (Aq hp1 (Aq (ta1 M (hm.trans hm2)) (Aq @alloc49' (lcell0 M p (SliceR.one aa))))) ?_
   have g8 : (M.alloc (lineRow p av)).get M.next = some (lineRow p av) := Heap.gn M _
   have hm3 := hm2.trans (Heap.ma M (lineRow p av))
   replace l3 := (Heap.ma M (lineRow p av)).get l3
   generalize M.alloc (lineRow p av) = M1 at g8 hm3 l3 ⊢
   generalize M.next = j8 at g8 ⊢
   have mm := hm.trans hm3
   have ld8 : aload prog M1 49 (.pointer (some ⟨j8, 0, none⟩)) = some (lineVal p av) := by rw [aload_agg agg49' sz49', Heap.lds_of g8 (by simp [lineCells])]; rfl
   repeat apply Wq
   refine Wp.drawAs [] [] 0 (fun _ => True) mixed (by kernel_rfl) trivial ?_
   refine DrT.run 10 (by simp only [bsd, bss, bsg, reduceLT, reduceEqDiff, reduceCtorEq, ld8, sc0, bk1, lc22, Heap.lf l3 (k := 0) rfl, hq, tb2 M1 mm, hp2, tb1 M1 mm] <;> exact rfl) rfl ?_
   try simp only [List.drop_succ_cons, List.drop_zero]
   refine DrT.call (same20_spec 0 M1 p r av bv (aa.more mm) (ab.more mm)) rfl rfl (by simp only [bsg, reduceLT, reduceEqDiff, reduceCtorEq]) (by simp only [bsc, bsg, reduceLT, reduceEqDiff, reduceCtorEq, c20] <;> exact rfl) ?_
   intro e M2 hr
   obtain ⟨rfl, hm4⟩ := hr
   refine ⟨_, _, rfl, fun _ => trivial, by simp only [bsg, reduceLT, reduceEqDiff, reduceCtorEq]; exact rfl, ?_⟩
   by_cases hpr : p = r
   ·refine DrT.run 1 (by simp only [bsd, bss, bsg, reduceLT, reduceEqDiff, reduceCtorEq, decide_eq_true hpr] <;> exact rfl) rfl ?_
    try simp only [List.drop_succ_cons, List.drop_zero]
    refine DrT.nil ?_
    repeat apply Wq
    refine Wp.cF ?_
    repeat apply Wq
    refine Wp.skip ?_
    repeat apply Wq
    refine Wp.r hw2 ?_
    refine ⟨(n + 1, M2), _, ⟨by simp only; omega, hm3.trans hm4, ?_⟩, by simp only; omega, rfl, ⟨rfl, rfl, rfl, rfl, rfl, rfl, rfl, rfl, rfl, trivial⟩, rfl, rfl⟩
    rw [hi2]
    exact decide_eq_decide.2 (by simp [hpr])
   ·refine DrT.run 1 (by simp only [bsd, bss, bsg, reduceLT, reduceEqDiff, reduceCtorEq, decide_eq_false hpr] <;> exact rfl) rfl ?_
    try simp only [List.drop_succ_cons, List.drop_zero]
    refine DrT.nil ?_
    repeat apply Wq
    refine Wp.cT ?_
    repeat apply Wq
    refine Wp.rS ?_
    repeat apply Wq
    refine Wp.ret ?_
    refine ⟨rfl, rfl, _, rfl, ?_, m1.trans (mm.trans hm4)⟩
    rw [hR0, hi2, decide_eq_false]
    rintro ⟨q1, _⟩
    exact hpr (List.cons.inj q1).1.symm
  ·repeat apply Wq
   refine Wp.r (decide_eq_false hlt2) ?_
   repeat apply Wq
   refine Wp.cF ?_
   repeat apply Wq
   refine Wp.exit ?_
   simp only [bx, Nat.reduceEqDiff]
   repeat apply Wq
   refine Wp.r hw1 ?_
   refine ⟨(i + 1, M), _, ⟨by simp only; omega, hm.trans hm2, ?_⟩, by simp only; omega, rfl, ⟨rfl, rfl, rfl, rfl, rfl, trivial⟩, rfl, rfl⟩
   rw [hi2, List.drop_eq_nil_of_le (by omega), List.drop_eq_nil_of_le (by omega)]
   exact decide_eq_decide.2 (by simp)
 ·repeat apply Wq
  refine Wp.r (decide_eq_false hlt) ?_
  repeat apply Wq
  refine Wp.cF ?_
  repeat apply Wq
  refine Wp.exit ?_
  simp only [bx, Nat.reduceEqDiff]
  repeat apply Wq
  refine Wp.rS ?_
  repeat apply Wq
  refine Wp.ret ?_
  refine ⟨rfl, rfl, _, rfl, ?_, m1.trans hm⟩
  rw [hR0, hi, List.drop_eq_nil_of_le (by omega), List.drop_eq_nil_of_le (by omega)]
  rfl
def printS (bl : List BlockT) : List UInt8 := if mayS bl then textS bl else []
theorem print_spec (h : Heap) (bl : List BlockT) (v : Value) (hv : BlocksV h bl v) (hs : roomy bl) :
  Does prog 0 (GoodE prog (baseM 0)) 11 [.agg #[v]] h fun r h' => r = .returned (.string (bs (printS bl))) ∧ h.more h' := by
 have c12 : canEnter prog 12 = true := by kernel_rfl
 have c18 : canEnter prog 18 = true := by kernel_rfl
 refine Does.body func11 rfl ?_
 have hn : enterF Tryd.f11 [.agg #[v]] = ⟨8, [(0, .agg #[v])], []⟩ := rfl
 rw [hn]; clear hn
 repeat apply Wq
 refine Wp.r @hbox24 ?_
 have g1 : (h.alloc (scriptRow v)).get h.next = some (scriptRow v) := Heap.gn h _
 have m1 := Heap.ma h (scriptRow v)
 generalize h.alloc (scriptRow v) = H at g1 m1 ⊢
 generalize h.next = j1 at g1 ⊢
 repeat apply Wq
 refine Wp.regionAs (is := List.range' 0 1 ++ (1 :: (List.range' 2 1 ++ []))) rfl ?_
 refine WpO.r 1 (script_load g1) ?_
 refine WpO.cS c12 ((may_spec H bl v (hv.more m1) hs).mono ?_)
 intro r H2 hr
 obtain ⟨rfl, m2⟩ := hr
 refine pt ?_
 cases hmay : mayS bl with
 | false =>
  have hR : printS bl = [] := by unfold printS; rw [hmay]; rfl
  refine WpO.rS 1 ?_
  refine WpO.nil ?_
  repeat apply Wq
  refine Wp.cT ?_
  repeat apply Wq
  refine Wp.rS ?_
  repeat apply Wq
  refine Wp.ret ?_
  exact ⟨rfl, rfl, _, rfl, by rw [hR]; rfl, m1.trans m2⟩
 | true =>
  have hR : printS bl = textS bl := by unfold printS; rw [hmay]; rfl
  have hfew : fewF bl = true := by
   unfold mayS at hmay
   rw [Bool.and_eq_true] at hmay
   exact hmay.1
  refine WpO.rS 1 ?_
  refine WpO.nil ?_
  repeat apply Wq
  refine Wp.cF ?_
  repeat apply Wq
  refine Wp.skip ?_
  repeat apply Wq
  refine Wp.regionAs (is := List.range' 0 1 ++ (1 :: (List.range' 2 1 ++ []))) rfl ?_
  refine WpO.r 1 (script_load (m2.get g1)) ?_
  refine WpO.cS c18 ((text_spec H2 bl v (hv.more (m1.trans m2)) (hs.small hfew)).mono ?_)
  intro r H3 hr
  obtain ⟨rfl, m3⟩ := hr
  refine pt ?_
  refine WpO.rS 1 ?_
  refine WpO.nil ?_
  repeat apply Wq
  refine Wp.ret ?_
  exact ⟨rfl, rfl, _, rfl, by rw [hR], (m1.trans m2).trans m3⟩
end Go.Mini
