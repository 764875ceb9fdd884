import Derived.Test.YtjgmccbjffncaaaDoorPLexZc
import Derived.Test.YtjgmccbjffncaaaDoorMiniYOtoYS
import Derived.Test.YtjgmccbjffncaaaDoorPaFtoPaG
set_option maxHeartbeats 8000000
set_option maxRecDepth 100000
set_option linter.unusedSimpArgs false
namespace Go.Mini
section
open Nat (reduceLT reduceEqDiff)
open Go.Proofs Tryd
theorem strEq_nil' (T : List UInt8) : strEq (bs T) ⟨#[]⟩ = decide (T = []) := by cases T <;> simp [strEq, bs]
theorem eql_nil (T : List UInt8) : abinS .eql (bs T) ⟨#[]⟩ = some (.bool (decide (T = []))) := by unfold abinS; simp only [strEq_nil']
theorem neq_nil (T : List UInt8) : abinS .neq (bs T) ⟨#[]⟩ = some (.bool (!decide (T = []))) := by unfold abinS; simp only [strEq_nil']
theorem neq_bs (a b : List UInt8) : abinS .neq (bs a) (bs b) = some (.bool (!decide (a = b))) := by unfold abinS; simp only [strEq_bs]
theorem build54 (k : Int) (s l : List UInt8) : abuild prog 54 [(0, patVal k s), (1, .string (bs l))] = some (.agg #[.int .i64 k, .string (bs s), .string (bs l)]) := by kernel_rfl
theorem As.armsLen {h H : Heap} {i ix : Nat} {v : Value} {o : List Tok} {a e r : Nat} {x : LineT} {av : Value} (st : As h H i ix v o a e r x av) : ∃ s, av = .slice s x.arms.length x.arms.length := st.ow.form
theorem As.ldArms {h H : Heap} {i ix : Nat} {v : Value} {o : List Tok} {a e r : Nat} {x : LineT} {av : Value} (st : As h H i ix v o a e r x av) : H.ld ix (0 + 5) = some av ∧ H.ld ix (0 + 7) = some (.string (bs x.late)) := ⟨Heap.lf st.gx rfl, Heap.lf st.gx rfl⟩
theorem nameS_ne {s : List UInt8} (h : nameS s = true) : s ≠ [] := by
 rintro rfl
 exact absurd h (by decide)
theorem nameRS_ne {o : List Tok} {e k a a' : Nat} {s : List UInt8} (h : nameRS o e k a = .ok (s, a')) : s ≠ [] := by
 unfold nameRS at h
 cases ht : takeS o e k a with
 | error x => rw [ht] at h; cases h
 | ok ta =>
  obtain ⟨t, b⟩ := ta
  rw [ht] at h
  simp only [] at h
  split at h
  ·rename_i q; cases h; exact nameS_ne q
  ·cases h
theorem leadsS_ne {o : List Tok} {e a a' : Nat} {s : List UInt8} (h : leadsS o e a = .ok (s, a')) : s ≠ [] := by
 unfold leadsS at h
 cases ht : mustS o e 1 gotoB a with
 | error x => rw [ht] at h; cases h
 | ok ta =>
  obtain ⟨u, b⟩ := ta
  rw [ht] at h
  exact nameRS_ne h
theorem neq_glob (T : List UInt8) : abinS .neq (bs T) ⟨#[103, 108, 111, 98]⟩ = some (.bool (!decide (T = globB))) := neq_bs T globB
theorem neq_re (T : List UInt8) : abinS .neq (bs T) ⟨#[114, 101]⟩ = some (.bool (!decide (T = reB))) := neq_bs T reB
theorem arms_len (l : List ArmT) : (l.flatMap ArmT.cells).length = l.length * 3 := by
 induction l with
 | nil => rfl
 | cons x l ih => rw [List.flatMap_cons, List.length_append, ih, List.length_cons]; simp only [ArmT.cells, List.length_cons, List.length_nil]; omega
theorem As.pushX {h H H2 : Heap} {i ix : Nat} {v : Value} {o : List Tok} {a e r : Nat} {x x' : LineT} {av av' : Value} (st : As h H i ix v o a e r x av) (h1 : H.next ≤ H2.next) (h2 : ∀ j q, H.get j = some q → q.plain = true → H2.get j = some q) (h3 : ∀ j, j < h.next → H2.get j = H.get j)
  (how : OwnF h.next H2 av' 54 x'.arms.length (x'.arms.flatMap ArmT.cells)) : As h (H2.set ix (lineRow x' av')) i ix v o a e r x' av' := by
 obtain ⟨r1, r2, r3, r4⟩ := st.push h1 h2 h3
 refine ⟨⟨by rw [Heap.gs (Ne.symm st.ne)]; exact r1.g, ?_, st.rd.ne⟩, Heap.gf r2, how.keep fun j p hq hp => ?_, by simpa using r3, fun j hj h1 h2 => by rw [Heap.gs h2]; exact r4 j hj h1 h2, st.vb, st.li, st.lx, st.ne⟩
 ·rcases r1.t with h1 | ⟨b, r2, hb, hr, hv⟩
  ·exact .inl h1
  ·exact .inr ⟨b, r2, by rw [Heap.gs (st.vb b _ _ hv).1]; exact hb, hr, hv⟩
 ·rw [Heap.gs (by rintro rfl; rw [r2] at hq; cases hq; cases hp)]; exact hq
theorem arms_does (G : Nat) (h : Heap) (i ix : Nat) (v : Value) (o : List Tok) (a e r : Nat) (x : LineT) (av : Value) (st0 : As h h i ix v o a e r x av) (hx : x.arms = [] ∧ x.late = []) (hlen : o.length ≤ 100000) (ha : a ≤ o.length) (hl : ∀ t ∈ o, t.text.length ≤ 1000000) :
  Does prog G (GoodE prog (baseM G)) 41 [.pointer (some ⟨i, 0, none⟩), .pointer (some ⟨ix, 0, none⟩)] h (ArmsR h i ix v o e r (armsS o e x a)) := by
 have c23 : canEnter prog 23 = true := by kernel_rfl
 have c25 : canEnter prog 25 = true := by kernel_rfl
 have c26 : canEnter prog 26 = true := by kernel_rfl
 have c38 : canEnter prog 38 = true := by kernel_rfl
 have c39 : canEnter prog 39 = true := by kernel_rfl
 have c40 : canEnter prog 40 = true := by kernel_rfl
 have c55 : canEnter prog 55 = true := by kernel_rfl
 have c56 : canEnter prog 56 = true := by kernel_rfl
 refine Does.body func41 rfl ?_
 have hn : enterF Tryd.f41 [.pointer (some ⟨i, 0, none⟩), .pointer (some ⟨ix, 0, none⟩)] = ⟨104, [(0, .pointer (some ⟨i, 0, none⟩)), (1, .pointer (some ⟨ix, 0, none⟩))], []⟩ := rfl
 rw [hn]; clear hn
 unfold armsS
 repeat apply Wq
 refine Wp.regionAs (is := List.range' 0 1 ++ (1 :: [])) rfl ?_
 refine WpO.rS 1 ?_
 refine WpO.cS c39 ((must_does G (baseM G) h i v o a e r 5 [123] st0.rd (by omega)).mono ?_)
 intro x1 h2 hr
 cases hm : mustS o e 5 [123] a with
 | error c =>
  obtain ⟨c, p⟩ := c
  rw [hm] at hr
  obtain ⟨rfl, hb⟩ := hr
  exact ⟨rfl, rfl, rfl, st0.err hb⟩
 | ok ua =>
 obtain ⟨u, a1⟩ := ua
 rw [hm] at hr
 obtain ⟨rfl, rfl⟩ := hr
 obtain ⟨rfl, hal⟩ := mustS_le hm (by decide)
 refine pt ?_
 refine WpO.nil ?_
 dsimp only [after, leaving]
 have st1 := st0.at (a + 1)
 generalize rdAt h i v e r (a + 1) = H1 at st1 ⊢
 repeat apply Wq
 refine Wp.regionAs (is := List.range' 0 1 ++ (1 :: [])) rfl ?_
 refine WpO.rS 1 ?_
 refine WpO.cS c26 ((take_does G (baseM G) H1 i v o (a + 1) e r 6 st1.rd.g st1.rd.t (by omega)).mono ?_)
 intro x1 h2 hr
 cases ht : takeS o e 6 (a + 1) with
 | error c =>
  obtain ⟨c, p⟩ := c
  rw [ht] at hr
  obtain ⟨rfl, hb⟩ := hr
  exact ⟨rfl, rfl, rfl, st1.err hb⟩
 | ok ta =>
 obtain ⟨t6, a2⟩ := ta
 rw [ht] at hr
 obtain ⟨rfl, rfl⟩ := hr
 obtain ⟨rfl, hal2⟩ := takeS_le ht (by decide)
 refine pt ?_
 refine WpO.nil ?_
 dsimp only [after, leaving]
 have st2 := st1.at (a + 1 + 1)
 generalize rdAt H1 i v e r (a + 1 + 1) = H2 at st2 ⊢
 try dsimp only
 generalize hR : armsL o e 11 x (a + 1 + 1) = R
 repeat apply Wq
 refine Wp.block ?_
 refine Wp.loopI (X := Nat × LineT × Nat × Value × Heap) (fun y => [(0, .pointer (some ⟨i, 0, none⟩)), (1, .pointer (some ⟨ix, 0, none⟩))]) (fun y => y.2.2.2.2)
  (fun y => R = armsL o e y.1 y.2.1 y.2.2.1 ∧ y.2.2.1 ≤ o.length ∧ y.2.1.arms.length ≤ 8 ∧ y.1 + y.2.1.arms.length + (if y.2.1.late = [] then 0 else 1) = 11 ∧ As h y.2.2.2.2 i ix v o y.2.2.1 e r y.2.1 y.2.2.2.1) (fun y => y.1)
  (11, x, a + 1 + 1, av, H2) ⟨hR.symm, by simp only; omega, by simp [hx.1], by simp [hx.1, hx.2], st2⟩ ⟨rfl, rfl, trivial⟩ rfl ?_
 clear st2 H2 hR ht hal2 t6 st1 H1 hm hal st0
 rintro ⟨f, y, p, yv, H⟩ ⟨hR, hp, h8, hf, st⟩
 simp only at hR hp h8 hf st
 obtain ⟨f, rfl⟩ : ∃ g, f = g + 1 := ⟨f - 1, by split at hf <;> omega⟩
 rw [armsL] at hR
 repeat apply Wq
 refine Wp.block ?_
 repeat apply Wq
 refine Wp.regionAs (is := List.range' 0 1 ++ (1 :: (List.range' 2 2 ++ []))) rfl ?_
 refine WpO.rS 1 ?_
 refine WpO.cR (next_does G (baseM G) H i v o p e r st.rd.g st.rd.t) c23 ?_
 rintro _ h9 ⟨rfl, hh9⟩
 obtain rfl := hh9.symm
 clear hh9
 refine pu ?_
 refine WpO.r 2 (Aq @alloc31 @tok_put) ?_
 refine WpO.nil ?_
 dsimp only [after, leaving]
 have gt : (H.alloc (nextS o e p).row).get H.next = some (nextS o e p).row := Heap.gn _ _
 have hj4 : h.next ≤ H.next := st.lo
 replace st := st.more (Heap.ma H (nextS o e p).row)
 generalize H.alloc (nextS o e p).row = H3 at gt st ⊢
 generalize H.next = j4 at gt hj4 ⊢
 obtain ⟨lA, lL⟩ := st.ldArms
 obtain ⟨sA, hsA⟩ := st.armsLen
 have hlenA : alen prog H3 47 yv = some (.int .i64 (y.arms.length : Nat)) := by rw [hsA]; exact alen_slice underlying47 _ _ _
 -- 'timeout'
 generalize hcT : (decide (y.late = []) && isS o e 1 timeoutB p) = cT
 repeat apply Wq
 refine Wp.cut (fun fr u h' => u = none ∧ h' = (if cT then rdAt H3 i v e r (p + 1) else H3) ∧ ∃ sl, fr = ⟨104, sl, []⟩ ∧ holds [(0, .pointer (some ⟨i, 0, none⟩)), (1, .pointer (some ⟨ix, 0, none⟩)), (4, .pointer (some ⟨j4, 0, none⟩)), (20, .bool cT)] sl) ?_ ?_
 rotate_left
 ·by_cases hlate : y.late = []
  ·rw [decide_eq_true hlate, Bool.true_and] at hcT
   repeat apply Wq
   refine Wp.regionAs (is := List.range' 0 7 ++ (7 :: (List.range' 8 1 ++ []))) rfl ?_
   refine WpO.r 7 (Aq @ln7 (Aq @lc9 (Aq lL (Aq @eql_nil (decide_eq_true hlate))))) ?_
   refine WpO.cR (is_does G (baseM G) H3 i v o p e r 1 timeoutB st.rd (by omega)) c55 ?_
   rintro _ h9 ⟨rfl, hh9⟩
   obtain rfl := hh9.symm
   clear hh9
   refine pu ?_
   rw [hcT]
   refine WpO.rS 1 ?_
   refine WpO.nil ?_
   dsimp only [after, leaving]
   exact ⟨rfl, rfl, _, rfl, rfl, rfl, rfl, rfl, trivial⟩
  ·rw [decide_eq_false hlate, Bool.false_and] at hcT
   subst hcT
   repeat apply Wq
   refine Wp.r (Aq @ln7 (Aq @lc9 (Aq lL (Aq @eql_nil (decide_eq_false hlate))))) ?_
   dsimp only [after, leaving]
   exact ⟨rfl, rfl, _, rfl, rfl, rfl, rfl, rfl, trivial⟩
 rintro fr u h9 ⟨rfl, hH, sl, rfl, hs1⟩
 refine Wp.weaken (Frm.le_of hs1) ?_
 clear hs1 sl
 cases cT with
 | true =>
  rw [if_pos rfl] at hH
  subst hH
  simp only [Bool.and_eq_true, decide_eq_true_eq] at hcT
  rw [if_pos ⟨hcT.1, hcT.2⟩] at hR
  have hpl := isS_le hcT.2 (by decide)
  have s1 := st.at (p + 1)
  generalize rdAt H3 i v e r (p + 1) = H4 at s1 ⊢
  repeat apply Wq
  refine Wp.cT ?_
  repeat apply Wq
  refine Wp.regionAs (is := List.range' 0 2 ++ (2 :: (List.range' 3 3 ++ []))) rfl ?_
  refine WpO.rS 2 ?_
  refine WpO.cS c38 ((number_does G (baseM G) H4 i v o (p + 1) e r 1 1000 s1.rd (by omega)).mono ?_)
  intro x1 h2 hr
  cases hn : numberS o e 1 1000 (p + 1) with
  | error c =>
   obtain ⟨c, q⟩ := c
   rw [hn] at hr hR
   obtain ⟨rfl, hb⟩ := hr
   rw [hR]
   exact ⟨rfl, rfl, rfl, s1.err hb⟩
  | ok na =>
  obtain ⟨n, a1⟩ := na
  rw [hn] at hr hR
  obtain ⟨rfl, rfl⟩ := hr
  dsimp only at hR
  obtain ⟨rfl, hnl⟩ := numberS_le hn
  refine pt ?_
  have s2 := s1.at (p + 1 + 1)
  generalize rdAt H4 i v e r (p + 1 + 1) = H5 at s2 ⊢
  unfold natV
  refine WpO.r 3 (Aq @ln6 (ln_wait s2.gx)) ?_
  refine WpO.nil ?_
  dsimp only [after, leaving]
  have s3 := s2.setX (x' := { y with wait := n }) (av' := yv) s2.ow
  generalize H5.set ix (lineRow { y with wait := (n : Int) } yv) = H6 at s3 ⊢
  repeat apply Wq
  refine Wp.regionAs (is := List.range' 0 2 ++ (2 :: (List.range' 3 3 ++ []))) rfl ?_
  refine WpO.rS 2 ?_
  refine WpO.cS c40 ((leads_does G H6 i v o (p + 1 + 1) e r s3.rd (by omega) hl).mono ?_)
  intro x1 h2 hr
  cases hn2 : leadsS o e (p + 1 + 1) with
  | error c =>
   obtain ⟨c, q⟩ := c
   rw [hn2] at hr hR
   obtain ⟨rfl, hb⟩ := hr
   rw [hR]
   exact ⟨rfl, rfl, rfl, s3.err hb⟩
  | ok na =>
  obtain ⟨lt, a1⟩ := na
  rw [hn2] at hr hR
  obtain ⟨rfl, rfl⟩ := hr
  dsimp only at hR
  obtain ⟨rfl, hnl2⟩ := leadsS_le hn2
  refine pt ?_
  have s4 := s3.at (p + 1 + 1 + 2)
  generalize rdAt H6 i v e r (p + 1 + 1 + 2) = H7 at s4 ⊢
  unfold strV
  refine WpO.r 3 (Aq @ln7 (ln_late s4.gx)) ?_
  refine WpO.nil ?_
  dsimp only [after, leaving]
  have s5 := s4.setX (x' := { y with wait := n, late := lt }) (av' := yv) s4.ow
  have s5' : As h (H7.set ix (lineRow { op := y.op, text := y.text, name := y.name, n := y.n, to := y.to, arms := y.arms, wait := (n : Int), late := lt } yv)) i ix v o (p + 1 + 1 + 2) e r { y with wait := n, late := lt } yv := s5
  generalize H7.set ix (lineRow { op := y.op, text := y.text, name := y.name, n := y.n, to := y.to, arms := y.arms, wait := (n : Int), late := lt } yv) = H8 at s5' ⊢
  repeat apply Wq
  refine Wp.regionAs (is := List.range' 0 1 ++ (1 :: [])) rfl ?_
  refine WpO.rS 1 ?_
  refine WpO.cS c26 ((take_does G (baseM G) H8 i v o (p + 1 + 1 + 2) e r 6 s5'.rd.g s5'.rd.t (by omega)).mono ?_)
  intro x1 h2 hr
  cases hn3 : takeS o e 6 (p + 1 + 1 + 2) with
  | error c =>
   obtain ⟨c, q⟩ := c
   rw [hn3] at hr hR
   obtain ⟨rfl, hb⟩ := hr
   rw [hR]
   exact ⟨rfl, rfl, rfl, s5'.err hb⟩
  | ok na =>
  obtain ⟨t6, a1⟩ := na
  rw [hn3] at hr hR
  obtain ⟨rfl, rfl⟩ := hr
  dsimp only at hR
  obtain ⟨rfl, hnl3⟩ := takeS_le hn3 (by decide)
  refine pt ?_
  refine WpO.nil ?_
  repeat apply Wq
  refine Wp.exit ?_
  simp only [bx, Nat.reduceEqDiff]
  have hlt0 : lt ≠ [] := leadsS_ne hn2
  rw [if_pos hcT.1] at hf
  exact ⟨(f, { y with wait := n, late := lt }, p + 1 + 1 + 2 + 1, yv, rdAt H8 i v e r (p + 1 + 1 + 2 + 1)), _, ⟨hR, by simp only; omega, h8, by simp only; rw [if_neg hlt0]; omega, s5'.at _⟩, by simp only; omega, rfl, ⟨rfl, rfl, trivial⟩, by trivial, rfl⟩
 | false =>
 rw [if_neg (by decide)] at hH
 subst hH
 have hT : ¬ (y.late = [] ∧ isS o e 1 timeoutB p = true) := by
  rintro ⟨q1, q2⟩
  rw [q2, decide_eq_true q1] at hcT
  cases hcT
 rw [if_neg hT] at hR
 clear hT hcT
 repeat apply Wq
 refine Wp.cF ?_
 repeat apply Wq
 refine Wp.skip ?_
 dsimp only [after, leaving]
 -- the closing bracket
 generalize hcB : ((!decide (y.arms = []) || !decide (y.late = [])) && isS o e 5 [125] p) = cB
 repeat apply Wq
 refine Wp.cut (fun fr u h' => u = none ∧ h' = (if cB then rdAt h9 i v e r (p + 1) else h9) ∧ ∃ sl, fr = ⟨104, sl, []⟩ ∧ holds [(0, .pointer (some ⟨i, 0, none⟩)), (1, .pointer (some ⟨ix, 0, none⟩)), (4, .pointer (some ⟨j4, 0, none⟩)), (49, .bool cB)] sl) ?_ ?_
 rotate_left
 ·by_cases harm : y.arms = []
  ·have hg0 : decide ((0 : Int) < (y.arms.length : Int)) = false := by rw [harm]; rfl
   by_cases hlate : y.late = []
   ·rw [decide_eq_true harm, decide_eq_true hlate] at hcB
    simp only [Bool.not_true, Bool.or_self, Bool.false_and] at hcB
    subst hcB
    repeat apply Wq
    refine Wp.r (Aq @ln5 (Aq @ln7 (Aq @lc47 (Aq @lc9 (Aq lA (Aq lL (Aq hlenA (Aq hg0 (Aq @neq_nil (decide_eq_true hlate)))))))))) ?_
    dsimp only [after, leaving]
    exact ⟨rfl, rfl, _, rfl, rfl, rfl, rfl, rfl, trivial⟩
   ·rw [decide_eq_true harm, decide_eq_false hlate] at hcB
    simp only [Bool.not_true, Bool.not_false, Bool.false_or, Bool.true_and] at hcB
    repeat apply Wq
    refine Wp.regionAs (is := List.range' 0 15 ++ (15 :: (List.range' 16 1 ++ []))) rfl ?_
    refine WpO.r 15 (Aq @ln5 (Aq @ln7 (Aq @lc47 (Aq @lc9 (Aq lA (Aq lL (Aq hlenA (Aq hg0 (Aq @neq_nil (decide_eq_false hlate)))))))))) ?_
    refine WpO.cR (is_does G (baseM G) h9 i v o p e r 5 [125] st.rd (by omega)) c55 ?_
    rintro _ h9 ⟨rfl, hh9⟩
    obtain rfl := hh9.symm
    clear hh9
    refine pu ?_
    rw [hcB]
    refine WpO.rS 1 ?_
    refine WpO.nil ?_
    dsimp only [after, leaving]
    exact ⟨rfl, rfl, _, rfl, rfl, rfl, rfl, rfl, trivial⟩
  ·have hg0 : decide ((0 : Int) < (y.arms.length : Int)) = true := by have := List.length_pos_iff.2 harm; exact decide_eq_true (by omega)
   rw [decide_eq_false harm] at hcB
   simp only [Bool.not_false, Bool.true_or, Bool.true_and] at hcB
   repeat apply Wq
   refine Wp.regionAs (is := List.range' 0 15 ++ (15 :: (List.range' 16 1 ++ []))) rfl ?_
   refine WpO.r 15 (Aq @ln5 (Aq @ln7 (Aq @lc47 (Aq @lc9 (Aq lA (Aq lL (Aq hlenA hg0))))))) ?_
   refine WpO.cR (is_does G (baseM G) h9 i v o p e r 5 [125] st.rd (by omega)) c55 ?_
   rintro _ h9 ⟨rfl, hh9⟩
   obtain rfl := hh9.symm
   clear hh9
   refine pu ?_
   rw [hcB]
   refine WpO.rS 1 ?_
   refine WpO.nil ?_
   dsimp only [after, leaving]
   exact ⟨rfl, rfl, _, rfl, rfl, rfl, rfl, rfl, trivial⟩
 rintro fr u H4 ⟨rfl, hH, sl, rfl, hs1⟩
 refine Wp.weaken (Frm.le_of hs1) ?_
 clear hs1 sl
 have hB : cB = true ↔ ((y.arms ≠ [] ∨ y.late ≠ []) ∧ isS o e 5 [125] p = true) := by
  rw [← hcB]
  simp
 cases cB with
 | true =>
  rw [if_pos rfl] at hH
  subst hH
  have hB' := hB.1 rfl
  rw [if_pos hB'] at hR
  repeat apply Wq
  refine Wp.cT ?_
  repeat apply Wq
  refine Wp.ret ?_
  dsimp only [after, leaving]
  rw [hR]
  exact ⟨rfl, rfl, _, rfl, yv, rfl, st.at (p + 1)⟩
 | false =>
 rw [if_neg (by decide)] at hH
 subst hH
 rw [if_neg (fun q => by have := hB.2 q; cases this)] at hR
 clear hB hcB
 repeat apply Wq
 refine Wp.cF ?_
 repeat apply Wq
 refine Wp.skip ?_
 dsimp only [after, leaving]
 clear hlenA
 have hlenA : alen prog H4 47 yv = some (.int .i64 (y.arms.length : Nat)) := by rw [hsA]; exact alen_slice underlying47 _ _ _
 have lk := Heap.lf gt (k := 0) rfl
 have lt := Heap.lf gt (k := 1) rfl
 -- a pattern, or nothing
 generalize hcN : (!decide (y.late = []) || !begins (nextS o e p)) = cN
 repeat apply Wq
 refine Wp.cut (fun fr u h' => u = none ∧ h' = H4 ∧ ∃ sl, fr = ⟨104, sl, []⟩ ∧ holds [(0, .pointer (some ⟨i, 0, none⟩)), (1, .pointer (some ⟨ix, 0, none⟩)), (4, .pointer (some ⟨j4, 0, none⟩)), (74, .bool cN)] sl) ?_ ?_
 rotate_left
 ·by_cases hlate : y.late = []
  ·rw [decide_eq_true hlate, Bool.not_true, Bool.false_or] at hcN
   unfold begins at hcN
   by_cases k4 : (nextS o e p).kind = 4
   ·have k4' : (((nextS o e p).kind : Int) != 4) = false := by rw [k4]; rfl
    rw [decide_eq_true k4] at hcN
    simp only [Bool.true_or, Bool.not_true] at hcN
    subst hcN
    repeat apply Wq
    refine Wp.r (Aq @ln7 (Aq @t0 (Aq @lc9 (Aq @lc3 (Aq lL (Aq lk (Aq @neq_nil (Aq (decide_eq_true hlate) k4')))))))) ?_
    dsimp only [after, leaving]
    exact ⟨rfl, rfl, _, rfl, rfl, rfl, rfl, rfl, trivial⟩
   ·have k4' : (((nextS o e p).kind : Int) != 4) = true := by rw [bne_iff_ne]; omega
    rw [decide_eq_false k4, Bool.false_or] at hcN
    by_cases k1 : (nextS o e p).kind = 1
    ·have k1' : (((nextS o e p).kind : Int) != 1) = false := by rw [k1]; rfl
     rw [decide_eq_true k1, Bool.true_and] at hcN
     by_cases g1 : (nextS o e p).text = globB
     ·rw [decide_eq_true g1, Bool.true_or, Bool.not_true] at hcN
      subst hcN
      repeat apply Wq
      refine Wp.r (Aq @ln7 (Aq @t0 (Aq @t1 (Aq @lc9 (Aq @lc3 (Aq lL (Aq lk (Aq lt (Aq @neq_nil (Aq @neq_glob (Aq @neq_re (Aq (decide_eq_true hlate) (Aq k4' (Aq k1' (decide_eq_true g1))))))))))))))) ?_
      dsimp only [after, leaving]
      exact ⟨rfl, rfl, _, rfl, rfl, rfl, rfl, rfl, trivial⟩
     ·rw [decide_eq_false g1, Bool.false_or] at hcN
      repeat apply Wq
      refine Wp.r (Aq @ln7 (Aq @t0 (Aq @t1 (Aq @lc9 (Aq @lc3 (Aq lL (Aq lk (Aq lt (Aq @neq_nil (Aq @neq_glob (Aq @neq_re (Aq (decide_eq_true hlate) (Aq k4' (Aq k1' (Aq (decide_eq_false g1) hcN))))))))))))))) ?_
      dsimp only [after, leaving]
      exact ⟨rfl, rfl, _, rfl, rfl, rfl, rfl, rfl, trivial⟩
    ·have k1' : (((nextS o e p).kind : Int) != 1) = true := by rw [bne_iff_ne]; omega
     rw [decide_eq_false k1, Bool.false_and, Bool.not_false] at hcN
     subst hcN
     repeat apply Wq
     refine Wp.r (Aq @ln7 (Aq @t0 (Aq @t1 (Aq @lc9 (Aq @lc3 (Aq lL (Aq lk (Aq lt (Aq @neq_nil (Aq (decide_eq_true hlate) (Aq k4' k1'))))))))))) ?_
     dsimp only [after, leaving]
     exact ⟨rfl, rfl, _, rfl, rfl, rfl, rfl, rfl, trivial⟩
  ·rw [decide_eq_false hlate, Bool.not_false, Bool.true_or] at hcN
   subst hcN
   repeat apply Wq
   refine Wp.r (Aq @ln7 (Aq @lc9 (Aq lL (Aq @neq_nil (decide_eq_false hlate))))) ?_
   dsimp only [after, leaving]
   exact ⟨rfl, rfl, _, rfl, rfl, rfl, rfl, rfl, trivial⟩
 rintro fr u h9 ⟨rfl, rfl, sl, rfl, hs1⟩
 refine Wp.weaken (Frm.le_of hs1) ?_
 clear hs1 sl
 have hN : cN = true ↔ (y.late ≠ [] ∨ begins (nextS o e p) = false) := by
  rw [← hcN]
  simp
 cases cN with
 | true =>
  rw [if_pos (hN.1 rfl)] at hR
  repeat apply Wq
  refine Wp.cT ?_
  repeat apply Wq
  refine Wp.regionAs (is := List.range' 0 2 ++ (2 :: [])) rfl ?_
  refine WpO.r 2 (Aq @t3 (Aq @lc3 (Heap.lf gt (k := 3) rfl))) ?_
  refine WpO.cS c25 ((fail_spec G h9 6 (nextS o e p).at').mono ?_)
  intro x1 h2 hr
  obtain ⟨rfl, rfl⟩ := hr
  rw [hR]
  exact ⟨rfl, rfl, rfl, st.lo, st.old⟩
 | false =>
 rw [if_neg (fun q => by have := hN.2 q; cases this)] at hR
 have hlate : y.late = [] := by
  refine Classical.byContradiction fun q => ?_
  have := hN.2 (.inl q)
  cases this
 clear hN hcN
 repeat apply Wq
 refine Wp.cF ?_
 repeat apply Wq
 refine Wp.skip ?_
 dsimp only [after, leaving]
 by_cases h88 : y.arms.length = 8
 ·have he : (((y.arms.length : Nat) : Int) == 8) = true := by rw [h88]; rfl
  rw [if_pos h88] at hR
  repeat apply Wq
  refine Wp.r (Aq @ln5 (Aq @lc47 (Aq lA (Aq hlenA he)))) ?_
  repeat apply Wq
  refine Wp.cT ?_
  repeat apply Wq
  refine Wp.regionAs (is := List.range' 0 2 ++ (2 :: [])) rfl ?_
  refine WpO.r 2 (Aq @t3 (Aq @lc3 (Heap.lf gt (k := 3) rfl))) ?_
  refine WpO.cS c25 ((fail_spec G h9 8 (nextS o e p).at').mono ?_)
  intro x1 h2 hr
  obtain ⟨rfl, rfl⟩ := hr
  rw [hR]
  exact ⟨rfl, rfl, rfl, st.lo, st.old⟩
 have he : (((y.arms.length : Nat) : Int) == 8) = false := by rw [beq_eq_false_iff_ne]; omega
 rw [if_neg h88] at hR
 repeat apply Wq
 refine Wp.r (Aq @ln5 (Aq @lc47 (Aq lA (Aq hlenA he)))) ?_
 repeat apply Wq
 refine Wp.cF ?_
 repeat apply Wq
 refine Wp.skip ?_
 dsimp only [after, leaving]
 clear he
 refine Wp.weaken (Frm.le_of (l := [(0, .pointer (some ⟨i, 0, none⟩)), (1, .pointer (some ⟨ix, 0, none⟩))]) ⟨rfl, rfl, trivial⟩) ?_
 clear lk lt gt hlenA lA lL
 repeat apply Wq
 refine Wp.regionAs (is := List.range' 0 1 ++ (1 :: (List.range' 2 2 ++ []))) rfl ?_
 refine WpO.rS 1 ?_
 refine WpO.cS c56 ((pattern_does G (baseM G) h9 i v o p e r st.rd (by omega)).mono ?_)
 intro x1 h2 hr
 cases hn : patternS o e p with
 | error c =>
  obtain ⟨c, q⟩ := c
  rw [hn] at hr hR
  obtain ⟨rfl, hb⟩ := hr
  rw [hR]
  exact ⟨rfl, rfl, rfl, st.err hb⟩
 | ok na =>
 obtain ⟨⟨k, s⟩, a1⟩ := na
 rw [hn] at hr hR
 obtain ⟨rfl, rfl⟩ := hr
 dsimp only at hR
 have hpl := patternS_le hn
 refine pt ?_
 have s1 := st.at a1
 generalize rdAt h9 i v e r a1 = H5 at s1 ⊢
 unfold patPV
 refine WpO.r 2 (Aq @alloc52 @pat_new) ?_
 refine WpO.nil ?_
 dsimp only [after, leaving]
 have gp : (H5.alloc (patRow k s)).get H5.next = some (patRow k s) := Heap.gn _ _
 have s2 := s1.more (Heap.ma H5 (patRow k s))
 generalize H5.alloc (patRow k s) = H6 at gp s2 ⊢
 generalize H5.next = j5 at gp ⊢
 clear s1 st H5
 obtain ⟨lA, lL⟩ := s2.ldArms
 cases hn2 : leadsS o e a1 with
 | error c =>
  obtain ⟨c, q⟩ := c
  rw [hn2] at hR
  repeat apply Wq
  refine Wp.drawPanic (fr0 := ⟨104, [], []⟩) 7 mixed (by kernel_rfl) rfl (by simp only [bsd, bss, bsg, reduceLT, reduceEqDiff, reduceCtorEq, c40, ln5, lc47, lA, pat_load gp] <;> exact rfl) (by rfl) (by simp only [bsg, reduceLT, reduceEqDiff, reduceCtorEq]) (by simp only [bsc, bsg, reduceLT, reduceEqDiff, reduceCtorEq, c40, ln5, lc47, lA, pat_load gp] <;> exact rfl) (Frm.le_of (by repeat (first | exact trivial | refine ⟨rfl, ?_⟩))) (by rfl) (leads_does G H6 i v o a1 e r s2.rd (by omega) hl) ?_
  intro x1 h2 hr
  rw [hn2] at hr
  obtain ⟨rfl, hb⟩ := hr
  rw [hR]
  exact ⟨_, rfl, rfl, rfl, rfl, s2.err hb⟩
 | ok na =>
 obtain ⟨l, a2⟩ := na
 rw [hn2] at hR
 dsimp only at hR
 obtain ⟨rfl, hal⟩ := leadsS_le hn2
 repeat apply Wq
 refine Wp.drawAs [93, 94] [] 4 (fun H => H.ld ix (0 + 5) = some yv ∧ H.get j5 = some (patRow k s)) mixed (by kernel_rfl) ⟨lA, gp⟩ ?_
 refine DrT.run 4 (by simp only [bsd, bss, bsg, reduceLT, reduceEqDiff, reduceCtorEq, ln5] <;> exact rfl) rfl ?_
 try simp only [List.drop_succ_cons, List.drop_zero]
 refine DrT.read rfl rfl (by simp only [bsg, reduceLT, reduceEqDiff, reduceCtorEq]) (by simp only [bsg, reduceLT, reduceEqDiff, reduceCtorEq, lc47, lA] <;> exact rfl) (fun H hK2 => by simp only [bsg, reduceLT, reduceEqDiff, reduceCtorEq, lc47, hK2.1] <;> exact rfl) (by simp only [bsg, reduceLT, reduceEqDiff, reduceCtorEq] <;> exact rfl) ?_
 refine DrT.read rfl rfl (by simp only [bsg, reduceLT, reduceEqDiff, reduceCtorEq]) (by simp only [bsg, reduceLT, reduceEqDiff, reduceCtorEq, pat_load gp] <;> exact rfl) (fun H hK2 => by simp only [bsg, reduceLT, reduceEqDiff, reduceCtorEq, pat_load hK2.2] <;> exact rfl) (by simp only [bsg, reduceLT, reduceEqDiff, reduceCtorEq] <;> exact rfl) ?_
 refine DrT.run 1 (by simp only [bsd, bss, bsg, reduceLT, reduceEqDiff, reduceCtorEq] <;> exact rfl) rfl ?_
 try simp only [List.drop_succ_cons, List.drop_zero]
 refine DrT.call (leads_does G H6 i v o a1 e r s2.rd (by omega) hl) rfl rfl (by simp only [bsg, reduceLT, reduceEqDiff, reduceCtorEq]) (by simp only [bsc, bsg, reduceLT, reduceEqDiff, reduceCtorEq, c40] <;> exact rfl) ?_
 intro x1 h2 hr
 rw [hn2] at hr
 obtain ⟨rfl, rfl⟩ := hr
 have s3 := s2.at (a1 + 2)
 have gp3 : (rdAt H6 i v e r (a1 + 2)).get j5 = some (patRow k s) := by
  unfold rdAt
  rw [Heap.gs (by rintro rfl; rw [s2.rd.g] at gp; cases gp)]
  exact gp
 generalize rdAt H6 i v e r (a1 + 2) = H7 at s3 gp3 ⊢
 obtain ⟨q1, v', H8, q2, q3, q4, q5, q6⟩ := own_pushF (w := .agg #[.int .i64 k, .string (bs s), .string (bs l)]) underlying47 elem54 (by omega) s3.ow s3.lo (arms_len _) rfl rfl (by omega) (by omega)
 obtain ⟨lA3, _⟩ := s3.ldArms
 have mo : H7.more (H7.alloc (.row { vs := Array.toList (Value.cells (.agg #[.int .i64 (k : Int), .string (bs s), .string (bs l)])), elem := 54 })) := Heap.ma _ _
 refine ⟨_, _, rfl, (fun _ => ⟨lA3, gp3⟩), by simp only [bsg, reduceLT, reduceEqDiff, reduceCtorEq]; exact rfl, ?_⟩
 unfold strV
 refine DrT.run 1 (by simp only [bsd, bss, bsg, reduceLT, reduceEqDiff, reduceCtorEq, build54] <;> exact rfl) rfl ?_
 try simp only [List.drop_succ_cons, List.drop_zero]
 refine DrT.val (by simp only [bsg, reduceLT, reduceEqDiff, reduceCtorEq, q1] <;> exact rfl) rfl rfl (by simp only [bsg, reduceLT, reduceEqDiff, reduceCtorEq]) (by simp only [bsg, reduceLT, reduceEqDiff, reduceCtorEq] <;> exact rfl) (fun _ => ⟨(s3.more mo).ldArms.1, mo.get gp3⟩) ?_
 refine DrT.val (by simp only [bsg, reduceLT, reduceEqDiff, reduceCtorEq, q2] <;> exact rfl) rfl rfl (by simp only [bsg, reduceLT, reduceEqDiff, reduceCtorEq]) (by simp only [bsg, reduceLT, reduceEqDiff, reduceCtorEq] <;> exact rfl) (fun q => absurd q (by decide)) ?_
 obtain ⟨s', rfl⟩ := q3.form
 obtain ⟨_, gx4, _, _⟩ := s3.push q4 q5 q6
 refine DrT.run 2 (by simp only [bsd, bss, bsg, reduceLT, reduceEqDiff, reduceCtorEq, ln5] <;> exact rfl) rfl ?_
 try simp only [List.drop_succ_cons, List.drop_zero]
 refine DrT.skip (by simp only [bsg, reduceLT, reduceEqDiff, reduceCtorEq, ln_arms gx4 s' (y.arms.length + 1) (y.arms.length + 1) (y.arms ++ [⟨k, s, l⟩])] <;> exact rfl) rfl rfl (by simp only [bsg, reduceLT, reduceEqDiff, reduceCtorEq]) (by simp only [bsg, reduceLT, reduceEqDiff, reduceCtorEq] <;> exact rfl) (fun q => absurd q (by decide)) ?_
 refine DrT.nil ?_
 dsimp only [after, leaving]
 have s4 := s3.pushX (x' := { y with arms := y.arms ++ [⟨k, s, l⟩] }) q4 q5 q6 (by simp only [List.length_append, List.length_singleton, List.flatMap_append]; exact q3)
 generalize H8.set ix (lineRow { y with arms := y.arms ++ [⟨k, s, l⟩] } (.slice s' (y.arms.length + 1) (y.arms.length + 1))) = H9 at s4 ⊢
 repeat apply Wq
 refine Wp.regionAs (is := List.range' 0 1 ++ (1 :: [])) rfl ?_
 refine WpO.rS 1 ?_
 refine WpO.cS c26 ((take_does G (baseM G) H9 i v o (a1 + 2) e r 6 s4.rd.g s4.rd.t (by omega)).mono ?_)
 intro x1 h2 hr
 cases hn3 : takeS o e 6 (a1 + 2) with
 | error c =>
  obtain ⟨c, q⟩ := c
  rw [hn3] at hr hR
  obtain ⟨rfl, hb⟩ := hr
  rw [hR]
  exact ⟨rfl, rfl, rfl, s4.err hb⟩
 | ok na =>
 obtain ⟨t6, a3⟩ := na
 rw [hn3] at hr hR
 obtain ⟨rfl, rfl⟩ := hr
 dsimp only at hR
 obtain ⟨rfl, hnl3⟩ := takeS_le hn3 (by decide)
 refine pt ?_
 refine WpO.nil ?_
 dsimp only [after, leaving]
 exact ⟨(f, { y with arms := y.arms ++ [⟨k, s, l⟩] }, a1 + 2 + 1, _, rdAt H9 i v e r (a1 + 2 + 1)), _, ⟨hR, by simp only; omega, by simp only [List.length_append, List.length_singleton]; omega, by simp only [List.length_append, List.length_singleton]; omega, s4.at _⟩, by simp only; omega, rfl, ⟨rfl, rfl, trivial⟩, by trivial, rfl⟩
end
section
open Go.Proofs Tryd
def wordsL : List (List UInt8) := [] :: opsL
def wordK (k : Nat) : List UInt8 := (wordsL[k]?).getD []
def opTo (t : Tok) : Nat → Nat
 | 0 => 0
 | k + 1 => if 0 < k ∧ t.kind = 1 ∧ t.text = wordK k then k else opTo t k
theorem opTo_8 (t : Tok) : opTo t 8 = opOf t := by
 unfold opOf
 by_cases hk : t.kind = 1
 ·by_cases hm : t.text ∈ opsL
  ·rw [if_pos ⟨hk, hm⟩]
   unfold opsL at hm
   simp only [List.mem_cons, List.not_mem_nil, or_false] at hm
   rcases hm with h | h | h | h | h | h | h <;> simp only [opTo, hk, h] <;> decide
  ·rw [if_neg (fun q => hm q.2)]
   have : ∀ k, 0 < k → k < 8 → t.text ≠ wordK k := by
    intro k h1 h2 h3
    rw [h3] at hm
    refine hm ?_
    clear h3 hm
    match k, h1, h2 with
    | 1, _, _ => decide
    | 2, _, _ => decide
    | 3, _, _ => decide
    | 4, _, _ => decide
    | 5, _, _ => decide
    | 6, _, _ => decide
    | 7, _, _ => decide
   have key : ∀ k, k ≤ 8 → opTo t k = 0 := by
    intro k
    induction k with
    | zero => intro _; rfl
    | succ k ih =>
     intro hk8
     unfold opTo
     rw [if_neg (fun q => this k q.1 (by omega) q.2.2)]
     exact ih (by omega)
   exact key 8 (Nat.le_refl _)
 ·rw [if_neg (fun q => hk q.1)]
  have key : ∀ k, opTo t k = 0 := by
   intro k
   induction k with
   | zero => rfl
   | succ k ih =>
    unfold opTo
    rw [if_neg (fun q => hk q.2.1)]
    exact ih
  exact key 8
theorem opOf_le (t : Tok) : opOf t ≤ 7 := by
 unfold opOf
 split
 ·rename_i q
  have : opsL.idxOf t.text < opsL.length := List.idxOf_lt_length_of_mem q.2
  have h7 : opsL.length = 7 := rfl
  omega
 ·omega
def opsC : List Value := [.string ⟨#[]⟩, .string ⟨#[115, 101, 110, 100]⟩, .string ⟨#[115, 101, 116]⟩, .string ⟨#[105, 110, 99]⟩, .string ⟨#[105, 102]⟩, .string ⟨#[103, 111, 116, 111]⟩, .string ⟨#[101, 120, 105, 116]⟩, .string ⟨#[101, 120, 112, 101, 99, 116]⟩]
def opsV : Value := .agg opsC.toArray
def opsRow : AObj := .row { vs := opsC, elem := 90 }
def ops0 : AObj := .row { vs := [.string ⟨#[]⟩, .string ⟨#[]⟩, .string ⟨#[]⟩, .string ⟨#[]⟩, .string ⟨#[]⟩, .string ⟨#[]⟩, .string ⟨#[]⟩, .string ⟨#[]⟩], elem := 90 }
theorem aindex_ops0 : aindex prog 90 opsV (.int .i64 0) = some (.string (bs (wordK 0))) := by kernel_rfl
theorem aindex_ops1 : aindex prog 90 opsV (.int .i64 1) = some (.string (bs (wordK 1))) := by kernel_rfl
theorem aindex_ops2 : aindex prog 90 opsV (.int .i64 2) = some (.string (bs (wordK 2))) := by kernel_rfl
theorem aindex_ops3 : aindex prog 90 opsV (.int .i64 3) = some (.string (bs (wordK 3))) := by kernel_rfl
theorem aindex_ops4 : aindex prog 90 opsV (.int .i64 4) = some (.string (bs (wordK 4))) := by kernel_rfl
theorem aindex_ops5 : aindex prog 90 opsV (.int .i64 5) = some (.string (bs (wordK 5))) := by kernel_rfl
theorem aindex_ops6 : aindex prog 90 opsV (.int .i64 6) = some (.string (bs (wordK 6))) := by kernel_rfl
theorem aindex_ops7 : aindex prog 90 opsV (.int .i64 7) = some (.string (bs (wordK 7))) := by kernel_rfl
theorem aindex_ops (k : Nat) (hk : k < 8) : aindex prog 90 opsV (.int .i64 k) = some (.string (bs (wordK k))) := by
 match k, hk with
 | 0, _ => exact aindex_ops0
 | 1, _ => exact aindex_ops1
 | 2, _ => exact aindex_ops2
 | 3, _ => exact aindex_ops3
 | 4, _ => exact aindex_ops4
 | 5, _ => exact aindex_ops5
 | 6, _ => exact aindex_ops6
 | 7, _ => exact aindex_ops7
theorem sz90 : (prog.info? 90).map (·.size) = some 8 := by kernel_rfl
theorem agg90 : Program.agg prog 90 = some true := by kernel_rfl
theorem sz49 : (prog.info? 49).map (·.size) = some 8 := by kernel_rfl
theorem agg49 : Program.agg prog 49 = some true := by kernel_rfl
theorem build90 : abuild prog 90 [(0, .string ⟨#[]⟩), (1, .string ⟨#[115, 101, 110, 100]⟩), (2, .string ⟨#[115, 101, 116]⟩), (3, .string ⟨#[105, 110, 99]⟩), (4, .string ⟨#[105, 102]⟩), (5, .string ⟨#[103, 111, 116, 111]⟩), (6, .string ⟨#[101, 120, 105, 116]⟩), (7, .string ⟨#[101, 120, 112, 101, 99, 116]⟩)] = some opsV := by kernel_rfl
theorem alloc90 (h : Heap) : aalloc prog h 90 = some (h.new, h.alloc ops0) := aalloc_eq (z := .agg #[.string ⟨#[]⟩, .string ⟨#[]⟩, .string ⟨#[]⟩, .string ⟨#[]⟩, .string ⟨#[]⟩, .string ⟨#[]⟩, .string ⟨#[]⟩, .string ⟨#[]⟩]) (by kernel_rfl) rfl
theorem put90 (H : Heap) : astore prog (H.alloc ops0) 90 (.pointer (some ⟨H.next, 0, none⟩)) opsV = some (H.alloc opsRow) := by
 have := astore_agg (P := prog) (h := H.alloc ops0) (i := H.next) (k := 0) (cs := opsC) sz90 rfl rfl
 unfold opsV
 rw [this, Heap.sts_of (Heap.gn H ops0) (by simp [opsC]) rfl rfl]
 show some ((H.alloc ops0).set H.next opsRow) = _
 rw [Heap.set_alloc]
theorem load90 {H : Heap} {j : Nat} (g : H.get j = some opsRow) : aload prog H 90 (.pointer (some ⟨j, 0, none⟩)) = some opsV := by
 rw [aload_agg agg90 sz90, Heap.lds_of g (by simp [opsC])]; rfl
def lineVal (x : LineT) (av : Value) : Value := .agg (lineCells x av).toArray
theorem alloc49 (h : Heap) : aalloc prog h 49 = some (h.new, h.alloc (lineRow (line0 0) (.slice none 0 0))) := aalloc_eq (z := lineVal (line0 0) (.slice none 0 0)) (by kernel_rfl) rfl
theorem build49 : abuild prog 49 [] = some (lineVal (line0 0) (.slice none 0 0)) := by kernel_rfl
theorem line_all {x : LineT} {av : Value} (hav : one av = true) : (lineCells x av).all one = true := by
 simp only [lineCells, List.all_cons, hav, List.all_nil, Bool.and_true]
 rfl
theorem line_put {H : Heap} {j : Nat} {x0 : LineT} {av0 : Value} (g : H.get j = some (lineRow x0 av0)) (x : LineT) {av : Value} (hav : one av = true) : astore prog H 49 (.pointer (some ⟨j, 0, none⟩)) (lineVal x av) = some (H.set j (lineRow x av)) := by
 have := astore_agg (P := prog) (h := H) (i := j) (k := 0) (cs := lineCells x av) sz49 rfl (line_all hav)
 unfold lineVal
 rw [this, Heap.sts_of g (by simp [lineCells]) rfl rfl]; rfl
theorem line_new (H : Heap) : astore prog (H.alloc (lineRow (line0 0) (.slice none 0 0))) 49 (.pointer (some ⟨H.next, 0, none⟩)) (lineVal (line0 0) (.slice none 0 0)) = some (H.alloc (lineRow (line0 0) (.slice none 0 0))) := by
 rw [line_put (Heap.gn H _) _ rfl, Heap.set_alloc]
theorem line_load {H : Heap} {j : Nat} {x : LineT} {av : Value} (g : H.get j = some (lineRow x av)) : aload prog H 49 (.pointer (some ⟨j, 0, none⟩)) = some (lineVal x av) := by
 rw [aload_agg agg49 sz49, Heap.lds_of g (by simp [lineCells])]; rfl
theorem ares27 {s : List (Nat × Value)} {d : List Deferred} {h : Heap} {j : Nat} {x : LineT} {av : Value} {b : Bool} (s2 : look 2 s = some (.pointer (some ⟨j, 0, none⟩))) (s3 : look 3 s = some (.bool b)) (g : h.get j = some (lineRow x av)) : ares prog Tryd.f27 ⟨114, s, d⟩ h = some (.tuple #[lineVal x av, .bool b]) := by
 have hr : Tryd.f27.results.toList = [.cell 2 49, .tmp 3] := rfl
 unfold ares
 rw [hr]
 simp only [aresults, aresult, s2, s3, Option.bind_some, line_load g]
theorem rd_rows {H : Heap} {i : Nat} {v : Value} {a e r : Nat} (g : H.get i = some (rdRow v a e r)) : astore prog H 3 (.pointer (some ⟨i, 0 + 3, none⟩)) (.int .i64 ((r : Int) + 1)) = some (rdAt H i v e (r + 1) a) := by
 rw [astore_cell sz3 rfl, Heap.sts_of g (by simp) rfl rfl]; rfl
theorem Rs.atR {h H : Heap} {i : Nat} {v : Value} {o : List Tok} {a e r : Nat} (st : Rs h H i v o a e r) (a' r' : Nat) : Rs h (rdAt H i v e r' a') i v o a' e r' := by
 refine ⟨⟨Heap.gf st.rd.g, ?_, st.rd.ne⟩, but_set_at st.but _, st.vb, st.lt⟩
 rcases st.rd.t with h1 | ⟨b, r2, hb, hr, hv⟩
 ·exact .inl h1
 ·exact .inr ⟨b, r2, by unfold rdAt; rw [Heap.gs (st.rd.ne b _ _ hv)]; exact hb, hr, hv⟩
def LineR (h : Heap) (i : Nat) (v : Value) (o : List Tok) (e r : Nat) (R : RdR LineT) (x : Ending) (h' : Heap) : Prop := match R with
 | .ok (x', a') => ∃ av, x = .returned (.tuple #[lineVal x' av, .bool (decide (5 ≤ x'.op))]) ∧ Rd h' i v o a' e (r + 1) ∧ OwnF h.next h' av 54 x'.arms.length (x'.arms.flatMap ArmT.cells) ∧ h.next ≤ h'.next ∧ ∀ j, j < h.next → j ≠ i → h'.get j = h.get j
 | .error (c, p) => x = .panicked (wrongQ c p) ∧ h.next ≤ h'.next ∧ ∀ j, j < h.next → j ≠ i → h'.get j = h.get j
theorem eql_bs (a b : List UInt8) : abinS .eql (bs a) (bs b) = some (.bool (decide (a = b))) := by unfold abinS; simp only [strEq_bs]
structure Ls (h H : Heap) (i : Nat) (v : Value) (o : List Tok) (a e r : Nat) (j2 j5 j6 : Nat) (op : Int) (t : Tok) : Prop where
 st : Rs h H i v o a e r
 g2 : H.get j2 = some (lineRow (line0 0) (.slice none 0 0))
 g5 : H.get j5 = some (lineRow (line0 op) (.slice none 0 0))
 g6 : H.get j6 = some t.row
 l2 : h.next ≤ j2
 l5 : h.next ≤ j5
 l6 : h.next ≤ j6
 n1 : j2 ≠ j5
theorem Ls.op {h H : Heap} {i : Nat} {v : Value} {o : List Tok} {a e r j2 j5 j6 : Nat} {op : Int} {t : Tok} (s : Ls h H i v o a e r j2 j5 j6 op t) (n : Int) : Ls h (H.set j5 (lineRow (line0 n) (.slice none 0 0))) i v o a e r j2 j5 j6 n t :=
 ⟨s.st.set s.l5 _, by rw [Heap.gs s.n1]; exact s.g2, Heap.gf s.g5, by rw [Heap.gs (by rintro rfl; have := s.g5; rw [s.g6] at this; have q := congrArg (fun (o : Option AObj) => match o with | some (.row r) => r.elem | _ => 0) this; exact absurd q (by show ¬ ((65 : Nat) = 49); decide))]; exact s.g6, s.l2, s.l5, s.l6, s.n1⟩
theorem Ls.atR {h H : Heap} {i : Nat} {v : Value} {o : List Tok} {a e r j2 j5 j6 : Nat} {op : Int} {t : Tok} (s : Ls h H i v o a e r j2 j5 j6 op t) (a' r' : Nat) : Ls h (rdAt H i v e r' a') i v o a' e r' j2 j5 j6 op t := by
 have hi := s.st.lt
 have k : ∀ j x, h.next ≤ j → H.get j = some x → (rdAt H i v e r' a').get j = some x := fun j x hj hg => by unfold rdAt; rw [Heap.gs (by omega)]; exact hg
 exact ⟨s.st.atR a' r', k _ _ s.l2 s.g2, k _ _ s.l5 s.g5, k _ _ s.l6 s.g6, s.l2, s.l5, s.l6, s.n1⟩
end
end Go.Mini
