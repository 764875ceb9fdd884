import Derived.Test.YtjgmccbjffncaaaDoorPLexZc
import Derived.Test.YtjgmccbjffncaaaDoorMiniYOtoYS
import Derived.Test.YtjgmccbjffncaaaDoorPtEtoPtG
import Derived.Test.YtjgmccbjffncaaaDoorPtFtoPtI
set_option maxHeartbeats 16000000
set_option maxRecDepth 100000
set_option linter.unusedSimpArgs false
namespace Go.Mini
open Nat (reduceLT reduceEqDiff)
open Go.Proofs
theorem mem_sum {α : Type} (f : α → Nat) : ∀ {l : List α} {x : α}, x ∈ l → f x ≤ (l.map f).sum
 | [], _, h => by cases h
 | y :: l, x, h => by
  rw [List.map_cons, List.sum_cons]
  rcases List.mem_cons.1 h with rfl | q
  ·omega
  ·have := mem_sum f q; omega
theorem len_sum {α : Type} (f : α → Nat) (hf : ∀ x, 1 ≤ f x) : ∀ l : List α, l.length ≤ (l.map f).sum
 | [] => by simp
 | y :: l => by rw [List.map_cons, List.sum_cons, List.length_cons]; have := len_sum f hf l; have := hf y; omega
theorem roomy_of {bl : List BlockT} (hf : fineD bl) (hs : sizeS bl ≤ 65536) : roomy bl := by
 refine ⟨?_, fun b hb => ?_⟩
 ·have : linesOf bl ≤ sizeS bl := by
   clear hf hs
   induction bl with
   | nil => simp [linesOf, sizeS]
   | cons b bl ih =>
    have h1 := len_sum sizeL (fun x => by simp only [sizeL, sizeX]; omega) b.lines
    simp only [linesOf, sizeS, List.map_cons, List.sum_cons, sizeB, linesSz] at ih ⊢
    omega
  omega
 ·have h1 : sizeB b ≤ sizeS bl := mem_sum sizeB hb
  have h2 : sizeB b = 1 + b.name.length + linesSz b.lines := rfl
  refine ⟨by omega, fun x hx => ?_⟩
  have h3 : sizeL x ≤ linesSz b.lines := mem_sum sizeL hx
  have h4 : sizeL x = 1 + x.text.length + x.name.length + x.to.length + x.late.length + armsSz x.arms := rfl
  obtain ⟨_, _, _, _, q5, q6, _⟩ := (hf b hb).2 x hx
  refine ⟨by omega, by omega, by omega, by omega, q5, q6, fun a ha => ?_⟩
  have h5 : sizeA a ≤ armsSz x.arms := mem_sum sizeA ha
  have h6 : sizeA a = 1 + a.text.length + a.to.length := rfl
  omega
theorem nameS_len {s : List UInt8} (h : nameS s = true) : s.length ≤ 16 := by
 cases s with
 | nil => simp
 | cons b r =>
  rw [nameS_cons] at h
  simp only [Bool.and_eq_true, decide_eq_true_eq] at h
  exact h.1.1.1.1
theorem roomy_read {T : List UInt8} {t : List BlockT} (h : progS T = .ok t) : roomy t := by
 obtain ⟨o, _, _, _, g⟩ := progS_toks h
 have hf := progS_few h
 refine ⟨by have := hf.2.1; omega, fun b hb => ?_⟩
 obtain ⟨g1, g2⟩ := g b hb
 refine ⟨by have := nameS_len g1; omega, fun x hx => ?_⟩
 have gx := g2 x hx
 have nl : ∀ {s : List UInt8}, s = [] ∨ nameS s = true → s.length ≤ 100000 := by
  intro s hs
  rcases hs with rfl | q
  ·simp
  ·have := nameS_len q; omega
 refine ⟨by have := gx.text; omega, nl gx.name, nl gx.to, nl gx.late, by have := gx.n; omega, by have := gx.wait; omega, fun a ha => ?_⟩
 exact nl (.inr (gx.arms a ha).2)
theorem few_read {T : List UInt8} {t : List BlockT} (h : progS T = .ok t) : fewF t = true := by
 obtain ⟨o, _, _, _, g⟩ := progS_toks h
 have hf := progS_few h
 unfold fewF
 rw [decide_eq_true hf.1, decide_eq_true hf.2.1]
 simp only [Bool.and_true, List.all_eq_true]
 intro b hb x hx
 have gx := (g b hb).2 x hx
 unfold fewX
 rw [decide_eq_true gx.few, decide_eq_true gx.text]
 rfl
theorem may_read {T : List UInt8} {t : List BlockT} (h : progS T = .ok t) : mayS t = true ∧ printS t = textS t := by
 have hm : mayS t = true := by
  unfold mayS
  rw [few_read h, (progS_back h).2]
  simp
 exact ⟨hm, by unfold printS; rw [if_pos hm]⟩
theorem prog_nil : progS [] = .error (6, 0) := by kernel_rfl
theorem prog_ne {T : List UInt8} {t : List BlockT} (h : progS T = .ok t) : T ≠ [] := by
 rintro rfl
 rw [prog_nil] at h
 cases h
theorem prog_len {T : List UInt8} {t : List BlockT} (h : progS T = .ok t) : T.length ≤ 2048 := by
 obtain ⟨o, h1, _⟩ := progS_toks h
 exact (lexS_bound T).2 o h1
theorem may_ok {bl : List BlockT} (h : mayS bl = true) : progS (textS bl) = .ok bl ∧ printS bl = textS bl := by
 refine ⟨?_, by unfold printS; rw [if_pos h]⟩
 unfold mayS at h
 rw [Bool.and_eq_true] at h
 have h2 := h.2
 cases hp : progS (textS bl) with
 | error z => rw [hp] at h2; cases h2
 | ok t =>
  rw [hp] at h2
  simp only [decide_eq_true_eq] at h2
  rw [h2]
theorem may_print (bl : List BlockT) : mayS bl = decide (printS bl ≠ []) := by
 cases hm : mayS bl with
 | false =>
  have : printS bl = [] := by unfold printS; rw [hm]; rfl
  rw [this]; rfl
 | true =>
  obtain ⟨h1, h2⟩ := may_ok hm
  rw [h2]
  exact (decide_eq_true (prog_ne h1)).symm
theorem bneq_self (b : Bool) : abin Tryd.prog .neq 4 (.bool b) (.bool b) = some (.bool false) := by cases b <;> kernel_rfl
theorem eq_txt (a b : List UInt8) : abinS .eql (bs a) (bs b) = some (.bool (decide (a = b))) := by unfold abinS; simp only [strEq_bs]
theorem bneq_t : abin Tryd.prog .neq 4 (.bool true) (.bool true) = some (.bool false) := by kernel_rfl
theorem bneq_f : abin Tryd.prog .neq 4 (.bool false) (.bool false) = some (.bool false) := by kernel_rfl
theorem jneq0 : abin Tryd.prog .neq 31 (.agg #[.int .i64 0, .int .i64 0]) (.agg #[.int .i64 0, .int .i64 0]) = some (.bool false) := by kernel_rfl
theorem parseBack_does (h : Heap) (bl : List BlockT) (v : Value) (hv : BlocksV h bl v) (hf : fineD bl) (T : List UInt8) (hT : T.length ≤ 281474976710656) :
  Does Tryd.prog 0 (GoodE Tryd.prog (baseM 0)) 3 [.agg #[v], .string (bs T)] h fun e _ => e = .returned (.bool true) := by
 have c8 : canEnter Tryd.prog 8 = true := by kernel_rfl
 have c9 : canEnter Tryd.prog 9 = true := by kernel_rfl
 have c10 : canEnter Tryd.prog 10 = true := by kernel_rfl
 have c11 : canEnter Tryd.prog 11 = true := by kernel_rfl
 have c12 : canEnter Tryd.prog 12 = true := by kernel_rfl
 have c13 : canEnter Tryd.prog 13 = true := by kernel_rfl
 have c14 : canEnter Tryd.prog 14 = true := by kernel_rfl
 refine Does.body Tryd.func3 rfl ?_
 have hn : enterF Tryd.f3 [.agg #[v], .string (bs T)] = ⟨105, [(0, .agg #[v]), (1, .string (bs T))], []⟩ := rfl
 rw [hn]; clear hn
 repeat apply Wq
 refine Wp.r @hbox24 ?_
 have g2 : (h.alloc (scriptRow v)).get h.next = some (scriptRow v) := Heap.gn h _
 have m1 := Heap.ma h (scriptRow v)
 generalize h.alloc (scriptRow v) = H at g2 m1 ⊢
 generalize h.next = j2 at g2 ⊢
 replace hv := hv.more m1
 repeat apply Wq
 refine Wp.regionAs (is := 0 :: (List.range' 1 1 ++ [])) rfl ?_
 refine WpO.callR (works_does H) rfl (by simp only [bsg, reduceLT, reduceEqDiff, reduceCtorEq, c8]) (by simp only [bsc, bsg, reduceLT, reduceEqDiff, reduceCtorEq, c8] <;> exact rfl) ?_
 rintro _ h9 ⟨rfl, hh9⟩
 obtain rfl := hh9.symm
 clear hh9
 refine pu ?_
 refine WpO.runS 1 (by simp only [bsd, bsg, reduceLT, reduceEqDiff, reduceCtorEq, Bool.not_true] <;> exact rfl) (by decide) ?_
 refine WpO.nil ?_
 repeat apply Wq
 refine Wp.cF ?_
 repeat apply Wq
 refine Wp.skip ?_
 repeat apply Wq
 refine Wp.regionAs (is := List.range' 0 6 ++ []) rfl ?_
 refine WpO.r 1 (script_load g2) ?_
 refine WpO.callS rfl (by simp only [bsg, reduceLT, reduceEqDiff, reduceCtorEq, c9]) (by simp only [bsc, bsg, reduceLT, reduceEqDiff, reduceCtorEq, c9] <;> exact rfl) ((huge_spec 0 H bl v hv hf).mono ?_)
 intro r H2 hr
 obtain ⟨⟨c, rfl, hc⟩, m2⟩ := hr
 refine pt ?_
 cases c with
 | true =>
  refine WpO.rS 4 ?_
  refine WpO.nil ?_
  repeat apply Wq
  refine Wp.cT ?_
  repeat apply Wq
  refine Wp.rS ?_
  repeat apply Wq
  refine Wp.ret ?_
  exact ⟨rfl, rfl, _, rfl, rfl⟩
 | false =>
 have hro := roomy_of hf (hc rfl)
 clear hc
 refine WpO.rS 2 ?_
 refine WpO.callR (great_spec 0 H2 T) rfl (by simp only [bsg, reduceLT, reduceEqDiff, reduceCtorEq, c10]) (by simp only [bsc, bsg, reduceLT, reduceEqDiff, reduceCtorEq, c10] <;> exact rfl) ?_
 rintro _ h9 ⟨rfl, hh9⟩
 obtain rfl := hh9.symm
 clear hh9
 refine pu ?_
 by_cases hgr : 65536 < T.length
 ·refine WpO.r 1 (decide_eq_true hgr) ?_
  refine WpO.nil ?_
  repeat apply Wq
  refine Wp.cT ?_
  repeat apply Wq
  refine Wp.rS ?_
  repeat apply Wq
  refine Wp.ret ?_
  exact ⟨rfl, rfl, _, rfl, rfl⟩
 refine WpO.r 1 (decide_eq_false hgr) ?_
 refine WpO.nil ?_
 repeat apply Wq
 refine Wp.cF ?_
 repeat apply Wq
 refine Wp.skip ?_
 replace g2 := m2.get g2
 replace hv := hv.more m2
 refine Wp.weaken (Frm.le_of (l := [(1, .string (bs T)), (2, .pointer (some ⟨j2, 0, none⟩))]) ⟨rfl, rfl, trivial⟩) ?_
 repeat apply Wq
 refine Wp.regionAs (is := List.range' 0 3 ++ []) rfl ?_
 refine WpO.r 1 (script_load g2) ?_
 refine WpO.callS rfl (by simp only [bsg, reduceLT, reduceEqDiff, reduceCtorEq, c11]) (by simp only [bsc, bsg, reduceLT, reduceEqDiff, reduceCtorEq, c11] <;> exact rfl) ((print_spec H2 bl v hv hro).mono ?_)
 intro r H3 hr
 obtain ⟨rfl, m3⟩ := hr
 refine pt ?_
 refine WpO.rS 1 ?_
 refine WpO.nil ?_
 replace g2 := m3.get g2
 replace hv := hv.more m3
 repeat apply Wq
 refine Wp.regionAs (is := List.range' 0 5 ++ []) rfl ?_
 refine WpO.r 1 (script_load g2) ?_
 refine WpO.callS rfl (by simp only [bsg, reduceLT, reduceEqDiff, reduceCtorEq, c12]) (by simp only [bsc, bsg, reduceLT, reduceEqDiff, reduceCtorEq, c12] <;> exact rfl) ((may_spec H3 bl v hv hro).mono ?_)
 intro r H4 hr
 obtain ⟨rfl, m4⟩ := hr
 refine pt ?_
 replace g2 := m4.get g2
 replace hv := hv.more m4
 rw [may_print]
 refine WpO.r 3 (Aq @neq_emp @bneq_self) ?_
 refine WpO.nil ?_
 repeat apply Wq
 refine Wp.cF ?_
 repeat apply Wq
 refine Wp.skip ?_
 repeat apply Wq
 refine Wp.r @neq_emp ?_
 repeat apply Wq
 refine Wp.cut (fun fr u h' => u = none ∧ ∃ sl, fr = ⟨105, sl, []⟩ ∧ holds [(1, .string (bs T))] sl) ?_ ?_
 rotate_left
 ·by_cases hpe : printS bl = []
  ·repeat apply Wq
   refine Wp.condF (by simp only [bsg, reduceLT, reduceEqDiff, reduceCtorEq, decide_eq_false (not_not_intro hpe)]) ?_
   repeat apply Wq
   refine Wp.skip ?_
   exact ⟨rfl, _, rfl, ⟨rfl, trivial⟩⟩
  have hmay : mayS bl = true := by rw [may_print]; exact decide_eq_true hpe
  obtain ⟨hpr, hps⟩ := may_ok hmay
  have hne := prog_ne hpr
  rw [hps]
  repeat apply Wq
  refine Wp.condT (by simp only [bsg, reduceLT, reduceEqDiff, reduceCtorEq, decide_eq_true hne]) ?_
  repeat apply Wq
  refine Wp.regionAs (is := List.range' 0 9 ++ []) rfl ?_
  refine WpO.rS 1 ?_
  refine WpO.callS rfl (by simp only [bsg, reduceLT, reduceEqDiff, reduceCtorEq, c13]) (by simp only [bsc, bsg, reduceLT, reduceEqDiff, reduceCtorEq, c13] <;> exact rfl) ((prog_any H4 (textS bl) (by have := prog_len hpr; omega)).mono ?_)
  intro r H5 hr
  obtain ⟨bw, d, q, rfl, honew, m5, ht⟩ := hr
  rw [hpr] at ht
  obtain ⟨rfl, rfl, ht⟩ := ht
  refine pt ?_
  refine WpO.runS 7 (by simp only [bsd, bsg, reduceLT, reduceEqDiff, reduceCtorEq, List.getElem?_toArray, alloc24, alloc27, Heap.na, jcells1 H5 honew, jcells2] <;> exact rfl) (by decide) ?_
  refine WpO.nil ?_
  have m6 := (Heap.ma H5 (scriptRow bw)).trans (Heap.ma (H5.alloc (scriptRow bw)) (spotRow ((0 : Nat) : Int) ((0 : Nat) : Int)))
  have g6 : ((H5.alloc (scriptRow bw)).alloc (spotRow ((0 : Nat) : Int) ((0 : Nat) : Int))).get H5.next = some (scriptRow bw) := by rw [Heap.go _ _ (by simp)]; exact Heap.gn H5 _
  have g7 : ((H5.alloc (scriptRow bw)).alloc (spotRow ((0 : Nat) : Int) ((0 : Nat) : Int))).get (H5.next + 1) = some (spotRow 0 0) := Heap.gn (H5.alloc (scriptRow bw)) _
  replace g2 := (m5.trans m6).get g2
  replace hv := hv.more (m5.trans m6)
  replace ht := ht.more m6
  generalize (H5.alloc (scriptRow bw)).alloc (spotRow ((0 : Nat) : Int) ((0 : Nat) : Int)) = K at m6 g6 g7 g2 hv ht ⊢
  have hl : ¬ (2048 : Int) < ((textS bl).length : Int) := by have := prog_len hpr; omega
  repeat apply Wq
  refine Wp.regionAs (is := List.range' 0 14 ++ []) rfl ?_
  refine WpO.r 6 (Aq (spot_load g7) (Aq @build31y (Aq @jneq0 (Aq (script_load g6) (script_load g2))))) ?_
  refine WpO.callS rfl (by simp only [bsg, reduceLT, reduceEqDiff, reduceCtorEq, c14]) (by simp only [bsc, bsg, reduceLT, reduceEqDiff, reduceCtorEq, c14] <;> exact rfl) ((same14_spec 0 K bl bl bw v ht hv).mono ?_)
  intro r K2 hr
  obtain ⟨rfl, _⟩ := hr
  refine pt ?_
  refine WpO.r 7 (Aq decide_true (Aq @ls9 (decide_eq_false hl))) ?_
  refine WpO.nil ?_
  repeat apply Wq
  refine Wp.cF ?_
  repeat apply Wq
  refine Wp.skip ?_
  exact ⟨rfl, _, rfl, ⟨rfl, trivial⟩⟩
 rintro fr u h9 ⟨rfl, sl, rfl, hs9⟩
 refine Wp.weaken (Frm.le_of hs9) ?_
 clear hs9 sl
 repeat apply Wq
 refine Wp.regionAs (is := List.range' 0 9 ++ []) rfl ?_
 refine WpO.rS 1 ?_
 refine WpO.callS rfl (by simp only [bsg, reduceLT, reduceEqDiff, reduceCtorEq, c13]) (by simp only [bsc, bsg, reduceLT, reduceEqDiff, reduceCtorEq, c13] <;> exact rfl) ((prog_any h9 T hT).mono ?_)
 intro r H5 hr
 obtain ⟨bw, d, q, rfl, honew, m5, ht⟩ := hr
 refine pt ?_
 refine WpO.runS 7 (by simp only [bsd, bsg, reduceLT, reduceEqDiff, reduceCtorEq, List.getElem?_toArray, alloc24, alloc27, Heap.na, jcells1 H5 honew, jcells2] <;> exact rfl) (by decide) ?_
 refine WpO.nil ?_
 have m6 := (Heap.ma H5 (scriptRow bw)).trans (Heap.ma (H5.alloc (scriptRow bw)) (spotRow d q))
 have g8 : ((H5.alloc (scriptRow bw)).alloc (spotRow d q)).get H5.next = some (scriptRow bw) := by rw [Heap.go _ _ (by simp)]; exact Heap.gn H5 _
 have g9 : ((H5.alloc (scriptRow bw)).alloc (spotRow d q)).get (H5.next + 1) = some (spotRow d q) := Heap.gn (H5.alloc (scriptRow bw)) _
 generalize (H5.alloc (scriptRow bw)).alloc (spotRow d q) = K at m6 g8 g9 ⊢
 generalize H5.next + 1 = j9 at g9 ⊢
 generalize H5.next = j8 at g8 ⊢
 cases hP : progS T with
 | error z =>
  obtain ⟨c, p⟩ := z
  rw [hP] at ht
  obtain ⟨hc, rfl, rfl, rfl⟩ := ht
  have hpl := progS_place hP
  have nz : ((d : Int) != 0) = true := by rw [bne_iff_ne]; omega
  repeat apply Wq
  refine Wp.r (Aq @s0 (Aq @lc29 (Aq (Heap.lf g9 (k := 0) rfl) nz))) ?_
  repeat apply Wq
  refine Wp.cT ?_
  have e0 : ((((0 : Nat) : Nat) : Int) == 0) = true := rfl
  repeat apply Wq
  refine Wp.r (Aq @sc0 (Aq @s1 (Aq @lc22 (Aq @lc3 (Aq (Heap.lf g8 (k := 0) rfl) (Aq (Heap.lf g9 (k := 1) rfl) (Aq @lv22 (Aq @ls9 (Aq e0 (Aq (decide_eq_true (show (0 : Int) ≤ (q : Int) by omega)) (decide_eq_true (show (q : Int) ≤ (T.length : Int) by omega)))))))))))) ?_
  repeat apply Wq
  refine Wp.ret ?_
  exact ⟨rfl, rfl, _, rfl, rfl⟩
 | ok t =>
  rw [hP] at ht
  obtain ⟨rfl, rfl, ht⟩ := ht
  replace ht := ht.more m6
  obtain ⟨hb1, hb2⟩ := progS_back hP
  obtain ⟨hm, hps2⟩ := may_read hP
  have hro2 := roomy_read hP
  have hne2 := prog_ne hb2
  have z0 : (((0 : Nat) : Int) != 0) = false := rfl
  repeat apply Wq
  refine Wp.r (Aq @s0 (Aq @lc29 (Aq (Heap.lf g9 (k := 0) rfl) z0))) ?_
  repeat apply Wq
  refine Wp.cF ?_
  repeat apply Wq
  refine Wp.skip ?_
  repeat apply Wq
  refine Wp.regionAs (is := List.range' 0 3 ++ []) rfl ?_
  refine WpO.r 1 (script_load g8) ?_
  refine WpO.callS rfl (by simp only [bsg, reduceLT, reduceEqDiff, reduceCtorEq, c11]) (by simp only [bsc, bsg, reduceLT, reduceEqDiff, reduceCtorEq, c11] <;> exact rfl) ((print_spec K t bw ht hro2).mono ?_)
  intro r K2 hr
  obtain ⟨rfl, k2⟩ := hr
  rw [hps2]
  refine pt ?_
  refine WpO.rS 1 ?_
  refine WpO.nil ?_
  replace g8 := k2.get g8
  replace ht := ht.more k2
  repeat apply Wq
  refine Wp.regionAs (is := List.range' 0 9 ++ []) rfl ?_
  refine WpO.rS 1 ?_
  refine WpO.callS rfl (by simp only [bsg, reduceLT, reduceEqDiff, reduceCtorEq, c13]) (by simp only [bsc, bsg, reduceLT, reduceEqDiff, reduceCtorEq, c13] <;> exact rfl) ((prog_any K2 (textS t) (by have := prog_len hb2; omega)).mono ?_)
  intro r K3 hr
  obtain ⟨bu, d2, q2, rfl, honeu, m7, hu⟩ := hr
  rw [hb2] at hu
  obtain ⟨rfl, rfl, hu⟩ := hu
  refine pt ?_
  refine WpO.runS 7 (by simp only [bsd, bsg, reduceLT, reduceEqDiff, reduceCtorEq, List.getElem?_toArray, alloc24, alloc27, Heap.na, jcells1 K3 honeu, jcells2] <;> exact rfl) (by decide) ?_
  refine WpO.nil ?_
  have m8 := (Heap.ma K3 (scriptRow bu)).trans (Heap.ma (K3.alloc (scriptRow bu)) (spotRow ((0 : Nat) : Int) ((0 : Nat) : Int)))
  have g11 : ((K3.alloc (scriptRow bu)).alloc (spotRow ((0 : Nat) : Int) ((0 : Nat) : Int))).get K3.next = some (scriptRow bu) := by rw [Heap.go _ _ (by simp)]; exact Heap.gn K3 _
  have g12 : ((K3.alloc (scriptRow bu)).alloc (spotRow ((0 : Nat) : Int) ((0 : Nat) : Int))).get (K3.next + 1) = some (spotRow 0 0) := Heap.gn (K3.alloc (scriptRow bu)) _
  replace g8 := (m7.trans m8).get g8
  replace ht := ht.more (m7.trans m8)
  replace hu := hu.more m8
  generalize (K3.alloc (scriptRow bu)).alloc (spotRow ((0 : Nat) : Int) ((0 : Nat) : Int)) = L at m8 g11 g12 g8 ht hu ⊢
  repeat apply Wq
  refine Wp.regionAs (is := List.range' 0 26 ++ []) rfl ?_
  refine WpO.r 17 (Aq @neq_emp (Aq (decide_eq_true hne2) (Aq @ls9 (Aq (decide_eq_true (show ((textS t).length : Int) ≤ (T.length : Int) by omega)) (Aq (spot_load g12) (Aq @build31y (Aq @jeq0 (Aq (script_load g11) (script_load g8))))))))) ?_
  refine WpO.callS rfl (by simp only [bsg, reduceLT, reduceEqDiff, reduceCtorEq, c14]) (by simp only [bsc, bsg, reduceLT, reduceEqDiff, reduceCtorEq, c14] <;> exact rfl) ((same14_spec 0 L t t bu bw hu ht).mono ?_)
  intro r L2 hr
  obtain ⟨rfl, l2⟩ := hr
  refine pt ?_
  refine WpO.r 3 (Aq decide_true (script_load (l2.get g11))) ?_
  refine WpO.callS rfl (by simp only [bsg, reduceLT, reduceEqDiff, reduceCtorEq, c11]) (by simp only [bsc, bsg, reduceLT, reduceEqDiff, reduceCtorEq, c11] <;> exact rfl) ((print_spec L2 t bu (hu.more l2) hro2).mono ?_)
  intro r L3 hr
  obtain ⟨rfl, l3⟩ := hr
  rw [hps2]
  refine pt ?_
  refine WpO.r 4 (Aq @eq_txt decide_true) ?_
  refine WpO.nil ?_
  repeat apply Wq
  refine Wp.ret ?_
  exact ⟨rfl, rfl, _, rfl, rfl⟩
theorem parseBack_law (h : Heap) (bl : List BlockT) (v : Value) (T : List UInt8) (hv : BlocksV h bl v) (hf : fineD bl) (hT : T.length ≤ 281474976710656) :
  Does Tryd.prog 0 (GoodE Tryd.prog (baseM 0)) 3 [.agg #[v], .string (bs T)] h fun e _ => e = .returned (.bool true) := parseBack_does h bl v hv hf T hT
end Go.Mini
