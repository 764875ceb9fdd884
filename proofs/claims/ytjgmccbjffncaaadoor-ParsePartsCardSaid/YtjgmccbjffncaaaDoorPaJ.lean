import Derived.Test.YtjgmccbjffncaaaDoorPLexZc
import Derived.Test.YtjgmccbjffncaaaDoorMiniYOtoYS
import Derived.Test.YtjgmccbjffncaaaDoorPaHtoPaI
set_option maxHeartbeats 8000000
set_option maxRecDepth 100000
set_option linter.unusedSimpArgs false
namespace Go.Mini
open Nat (reduceLT reduceEqDiff)
open Go.Proofs Tryd
theorem OwnF.mono {lo lo' : Nat} {h : Heap} {v : Value} {e : TypeId} {n : Nat} {cs : List Value} (o : OwnF lo h v e n cs) (hl : lo' ≤ lo) : OwnF lo' h v e n cs := by
 rcases o with o | ⟨b, hb, hn, o, hg⟩
 ·exact .inl o
 ·exact .inr ⟨b, by omega, hn, o, hg⟩
theorem armsL_le {o : List Tok} {e : Nat} : ∀ (f : Nat) {x x' : LineT} {a a' : Nat}, armsL o e f x a = .ok (x', a') → a ≤ o.length → a' ≤ o.length
 | 0, _, _, _, _, h, _ => by cases h
 | f + 1, x, x', a, a', h, ha => by
  unfold armsL at h
  split at h
  ·split at h
   ·cases h
   ·rename_i e1
    split at h
    ·cases h
    ·rename_i e2
     split at h
     ·cases h
     ·rename_i e3
      exact armsL_le f h (by have := takeS_le e3 (by decide); omega)
  ·split at h
   ·rename_i q
    cases h
    exact isS_le q.2 (by decide)
   ·split at h
    ·cases h
    ·split at h
     ·cases h
     ·split at h
      ·cases h
      ·split at h
       ·cases h
       ·split at h
        ·cases h
        ·rename_i e3
         exact armsL_le f h (by have := takeS_le e3 (by decide); omega)
theorem armsS_le {o : List Tok} {e : Nat} {x x' : LineT} {a a' : Nat} (h : armsS o e x a = .ok (x', a')) : a' ≤ o.length := by
 unfold armsS at h
 split at h
 ·cases h
 ·split at h
  ·cases h
  ·rename_i e3
   exact armsL_le 11 h (by have := takeS_le e3 (by decide); omega)
theorem line_does (G : Nat) (h : Heap) (i : Nat) (v : Value) (o : List Tok) (a e r : Nat) (d : Rd h i v o a e r) (hlen : o.length ≤ 100000) (hr : r ≤ 100000) (hl : ∀ t ∈ o, t.text.length ≤ 1000000) :
    Does prog G (GoodE prog (baseM G)) 27 [.pointer (some ⟨i, 0, none⟩)] h (LineR h i v o e r (lineS o e r a)) := by
  have c23 : canEnter prog 23 = true := by kernel_rfl
  have c24 : canEnter prog 24 = true := by kernel_rfl
  have c25 : canEnter prog 25 = true := by kernel_rfl
  have c26 : canEnter prog 26 = true := by kernel_rfl
  have c38 : canEnter prog 38 = true := by kernel_rfl
  have c39 : canEnter prog 39 = true := by kernel_rfl
  have c40 : canEnter prog 40 = true := by kernel_rfl
  have c41 : canEnter prog 41 = true := by kernel_rfl
  have hal0 : opOf (nextS o e a) ≠ 0 → a < o.length := by
    intro hq
    rcases Nat.lt_or_ge a o.length with q | q
    · exact q
    · refine absurd ?_ hq
      unfold nextS
      rw [List.getElem?_eq_none q]
      rfl
  generalize hS : lineS o e r a = R
  unfold lineS at hS
  refine Does.body func27 rfl ?_
  have hn : enterF Tryd.f27 [.pointer (some ⟨i, 0, none⟩)] = ⟨114, [(0, .pointer (some ⟨i, 0, none⟩))], []⟩ := rfl
  rw [hn]; clear hn
  repeat apply Wq
  refine Wp.r @alloc49 ?_
  repeat apply Wq
  refine Wp.r (Aq @build90 (Aq @alloc90 @put90)) ?_
  repeat apply Wq
  refine Wp.r (Aq @build49 (Aq @alloc49 @line_new)) ?_
  have st := ((d.rs.alloc (lineRow (line0 0) (.slice none 0 0))).alloc opsRow).alloc (lineRow (line0 0) (.slice none 0 0))
  have g5 : (((h.alloc (lineRow (line0 0) (.slice none 0 0))).alloc opsRow).alloc (lineRow (line0 0) (.slice none 0 0))).get (h.next + 1 + 1) = some (lineRow (line0 0) (.slice none 0 0)) := Heap.gn ((h.alloc (lineRow (line0 0) (.slice none 0 0))).alloc opsRow) _
  have g4 : (((h.alloc (lineRow (line0 0) (.slice none 0 0))).alloc opsRow).alloc (lineRow (line0 0) (.slice none 0 0))).get (h.next + 1) = some opsRow := by
    rw [Heap.go _ _ (by simp)]; exact Heap.gn (h.alloc (lineRow (line0 0) (.slice none 0 0))) _
  have g2 : (((h.alloc (lineRow (line0 0) (.slice none 0 0))).alloc opsRow).alloc (lineRow (line0 0) (.slice none 0 0))).get h.next = some (lineRow (line0 0) (.slice none 0 0)) := by
    rw [Heap.go _ _ (by simp only [Heap.na]; omega), Heap.go _ _ (by simp only [Heap.na]; omega)]; exact Heap.gn h _
  try simp only [Heap.na]
  generalize ((h.alloc (lineRow (line0 0) (.slice none 0 0))).alloc opsRow).alloc (lineRow (line0 0) (.slice none 0 0)) = H at st g5 g4 g2 ⊢
  obtain ⟨j2, hj2⟩ : ∃ j, j = h.next := ⟨_, rfl⟩
  obtain ⟨j4, hj4⟩ : ∃ j, j = h.next + 1 := ⟨_, rfl⟩
  obtain ⟨j5, hj5⟩ : ∃ j, j = h.next + 1 + 1 := ⟨_, rfl⟩
  simp only [← hj5] at g5 ⊢
  simp only [← hj4] at g4 ⊢
  rw [← hj2] at g2
  have hw2 : (.pointer (some ⟨h.next, 0, none⟩) : Value) = .pointer (some ⟨j2, 0, none⟩) := by rw [hj2]
  simp only [hw2]
  repeat apply Wq
  refine Wp.regionAs (is := List.range' 0 1 ++ (1 :: (List.range' 2 2 ++ []))) rfl ?_
  refine WpO.rS 1 ?_
  refine WpO.cR (next_does G (baseM G) H i v o a e r st.rd.g st.rd.t) c23 ?_
  rintro _ h9 ⟨rfl, hh9⟩
  obtain rfl := hh9.symm
  clear hh9
  refine pu ?_
  refine WpO.r 2 (Aq @alloc31 @tok_put) ?_
  refine WpO.nil ?_
  have g6 : (H.alloc (nextS o e a).row).get H.next = some (nextS o e a).row := Heap.gn _ _
  have hj6 : h.next ≤ H.next := st.lo
  have m1 := Heap.ma H (nextS o e a).row
  replace st := st.more m1
  replace g2 := m1.get g2
  replace g4 := m1.get g4
  replace g5 := m1.get g5
  generalize H.alloc (nextS o e a).row = H3 at g6 st g2 g4 g5 ⊢
  generalize H.next = j6 at g6 hj6 ⊢
  clear m1 H
  generalize nextS o e a = t at g6 hS hal0 ⊢
  repeat apply Wq
  refine Wp.r (load90 g4) ?_
  have hL : Ls h H3 i v o a e r j2 j5 j6 ((opTo t 0 : Nat) : Int) t := ⟨st, g2, g5, g6, by omega, by omega, hj6, by omega⟩
  clear st g2 g4 g5 g6 hw2
  repeat apply Wq
  refine Wp.cut (fun fr u h' => u = none ∧ Ls h h' i v o a e r j2 j5 j6 ((opOf t : Nat) : Int) t ∧ ∃ sl, fr = ⟨114, sl, []⟩ ∧ holds [(0, .pointer (some ⟨i, 0, none⟩)), (2, .pointer (some ⟨j2, 0, none⟩)), (3, .bool false), (5, .pointer (some ⟨j5, 0, none⟩)), (6, .pointer (some ⟨j6, 0, none⟩))] sl) ?_ ?_
  rotate_left
  · repeat apply Wq
    refine Wp.block ?_
    refine Wp.loopI (X := Nat × Heap) (fun y => [(0, .pointer (some ⟨i, 0, none⟩)), (2, .pointer (some ⟨j2, 0, none⟩)), (3, .bool false), (5, .pointer (some ⟨j5, 0, none⟩)), (6, .pointer (some ⟨j6, 0, none⟩)), (13, opsV), (14, .int .i64 (y.1 : Int))]) (fun y => y.2)
      (fun y => y.1 ≤ 8 ∧ Ls h y.2 i v o a e r j2 j5 j6 ((opTo t y.1 : Nat) : Int) t) (fun y => 8 - y.1) (0, H3) ⟨Nat.zero_le 8, hL⟩ ⟨rfl, rfl, rfl, rfl, rfl, rfl, rfl, trivial⟩ rfl ?_
    clear hL hS H3
    rintro ⟨k, H⟩ ⟨hk8, hL⟩
    simp only at hk8 hL ⊢
    by_cases hk : k < 8
    · repeat apply Wq
      refine Wp.r (decide_eq_true (show (k : Int) < 8 by omega)) ?_
      repeat apply Wq
      refine Wp.cT ?_
      repeat apply Wq
      refine Wp.skip ?_
      repeat apply Wq
      refine Wp.block ?_
      repeat apply Wq
      refine Wp.r (aindex_ops k hk) ?_
      generalize hc : decide (0 < k ∧ t.kind = 1 ∧ t.text = wordK k) = cc
      have lk := Heap.lf hL.g6 (k := 0) rfl
      have lt := Heap.lf hL.g6 (k := 1) rfl
      repeat apply Wq
      refine Wp.cut (fun fr u h' => u = none ∧ h' = H ∧ ∃ sl, fr = ⟨114, sl, []⟩ ∧ holds [(0, .pointer (some ⟨i, 0, none⟩)), (2, .pointer (some ⟨j2, 0, none⟩)), (3, .bool false), (5, .pointer (some ⟨j5, 0, none⟩)), (6, .pointer (some ⟨j6, 0, none⟩)), (7, .int .i64 (k : Int)), (13, opsV), (14, .int .i64 (k : Int)), (30, .bool cc)] sl) ?_ ?_
      rotate_left
      · by_cases k0 : 0 < k
        · by_cases k1 : t.kind = 1
          · have k1' : ((t.kind : Int) == 1) = true := by rw [k1]; rfl
            have hc2 : decide (t.text = wordK k) = cc := by rw [← hc]; simp [k0, k1]
            repeat apply Wq
            refine Wp.r (Aq @t0 (Aq @t1 (Aq @lc3 (Aq @lc9 (Aq lk (Aq lt (Aq (decide_eq_true (show (0 : Int) < (k : Int) by omega)) (Aq k1' (Aq @eql_bs hc2))))))))) ?_
            exact ⟨rfl, rfl, _, rfl, rfl, rfl, rfl, rfl, rfl, rfl, rfl, rfl, rfl, trivial⟩
          · have k1' : ((t.kind : Int) == 1) = false := by rw [beq_eq_false_iff_ne]; omega
            obtain rfl : cc = false := by rw [← hc]; simp [k1]
            repeat apply Wq
            refine Wp.r (Aq @t0 (Aq @t1 (Aq @lc3 (Aq @lc9 (Aq lk (Aq lt (Aq (decide_eq_true (show (0 : Int) < (k : Int) by omega)) k1'))))))) ?_
            exact ⟨rfl, rfl, _, rfl, rfl, rfl, rfl, rfl, rfl, rfl, rfl, rfl, rfl, trivial⟩
        · obtain rfl : cc = false := by rw [← hc]; simp [k0]
          repeat apply Wq
          refine Wp.r (decide_eq_false (show ¬ (0 : Int) < (k : Int) by omega)) ?_
          exact ⟨rfl, rfl, _, rfl, rfl, rfl, rfl, rfl, rfl, rfl, rfl, rfl, rfl, trivial⟩
      rintro fr u h9 ⟨rfl, rfl, sl, rfl, hs1⟩
      refine Wp.weaken (Frm.le_of hs1) ?_
      clear hs1 sl lk lt
      have w1 : IntKind.i64.wrap ((k : Int) + 1) = ((k + 1 : Nat) : Int) := by rw [wrap_in (by omega) (by omega)]; rfl
      cases cc with
      | true =>
        have hto : opTo t (k + 1) = k := by unfold opTo; rw [if_pos (of_decide_eq_true hc)]
        repeat apply Wq
        refine Wp.cT ?_
        repeat apply Wq
        refine Wp.r (Aq @ln0 (ln_op hL.g5)) ?_
        repeat apply Wq
        refine Wp.r w1 ?_
        exact ⟨(k + 1, _), _, ⟨by simp only; omega, by simp only [hto]; exact hL.op k⟩, by simp only; omega, rfl, ⟨rfl, rfl, rfl, rfl, rfl, rfl, rfl, trivial⟩, rfl, rfl⟩
      | false =>
        have hto : opTo t (k + 1) = opTo t k := by conv => lhs; unfold opTo
                                                   rw [if_neg (of_decide_eq_false hc)]
        repeat apply Wq
        refine Wp.cF ?_
        repeat apply Wq
        refine Wp.skip ?_
        repeat apply Wq
        refine Wp.r w1 ?_
        exact ⟨(k + 1, h9), _, ⟨by simp only; omega, by simp only [hto]; exact hL⟩, by simp only; omega, rfl, ⟨rfl, rfl, rfl, rfl, rfl, rfl, rfl, trivial⟩, rfl, rfl⟩
    · obtain rfl : k = 8 := by omega
      repeat apply Wq
      refine Wp.r (decide_eq_false (show ¬ (((8 : Nat) : Int) < 8) by decide)) ?_
      repeat apply Wq
      refine Wp.cF ?_
      repeat apply Wq
      refine Wp.exit ?_
      simp only [bx, Nat.reduceEqDiff]
      exact ⟨trivial, by rw [← opTo_8]; exact hL, _, rfl, rfl, rfl, rfl, rfl, rfl, trivial⟩
  clear hL H3
  rintro fr u H ⟨rfl, hL, sl, rfl, hs1⟩
  refine Wp.weaken (Frm.le_of hs1) ?_
  clear hs1 sl
  have hn7 := opOf_le t
  generalize opOf t = n at hL hS hn7 hal0 ⊢
  have gt := Heap.lf hL.g6 (k := 3) rfl
  by_cases h0 : n = 0
  · rw [if_pos h0] at hS
    subst hS h0
    repeat apply Wq
    refine Wp.runS (by simp only [bsg, reduceLT, reduceEqDiff, reduceCtorEq, ln0, lc3, Heap.lf hL.g5 (k := 0) rfl, line0, (show (((0 : Nat) : Int) == 0) = true from rfl)] <;> exact rfl) ?_
    repeat apply Wq
    refine Wp.cT ?_
    repeat apply Wq
    refine Wp.regionAs (is := List.range' 0 2 ++ (2 :: [])) rfl ?_
    refine WpO.r 2 (Aq @t3 (Aq @lc3 gt)) ?_
    refine WpO.cS c25 ((fail_spec G H 6 t.at').mono ?_)
    intro x1 h2 hr
    obtain ⟨rfl, rfl⟩ := hr
    exact ⟨rfl, rfl, rfl, hL.st.but⟩
  have h0' : ((n : Int) == 0) = false := by rw [beq_eq_false_iff_ne]; omega
  rw [if_neg h0] at hS
  repeat apply Wq
  refine Wp.runS (by simp only [bsg, reduceLT, reduceEqDiff, reduceCtorEq, ln0, lc3, Heap.lf hL.g5 (k := 0) rfl, line0, h0'] <;> exact rfl) ?_
  repeat apply Wq
  refine Wp.cF ?_
  repeat apply Wq
  refine Wp.skip ?_
  clear h0'
  have wr : IntKind.i64.wrap ((r : Int) + 1) = (r : Int) + 1 := wrap_in (by omega) (by omega)
  repeat apply Wq
  refine Wp.runS (by simp only [bsg, reduceLT, reduceEqDiff, reduceCtorEq, q3, lc3, Heap.lf hL.st.rd.g (k := 3) rfl, wr, rd_rows hL.st.rd.g] <;> exact rfl) ?_
  replace hL := hL.atR a (r + 1)
  replace gt := Heap.lf hL.g6 (k := 3) rfl
  generalize rdAt H i v e (r + 1) a = H4 at hL gt ⊢
  clear H
  by_cases h128 : 128 < r + 1
  · rw [if_pos h128] at hS
    subst hS
    repeat apply Wq
    refine Wp.r (Aq @q3 (Aq @lc3 (Aq (Heap.lf hL.st.rd.g (k := 3) rfl) (decide_eq_true (show (128 : Int) < ((r + 1 : Nat) : Int) by omega))))) ?_
    repeat apply Wq
    refine Wp.cT ?_
    repeat apply Wq
    refine Wp.regionAs (is := List.range' 0 2 ++ (2 :: [])) rfl ?_
    refine WpO.r 2 (Aq @t3 (Aq @lc3 gt)) ?_
    refine WpO.cS c25 ((fail_spec G H4 8 t.at').mono ?_)
    intro x1 h2 hr
    obtain ⟨rfl, rfl⟩ := hr
    exact ⟨rfl, rfl, rfl, hL.st.but⟩
  rw [if_neg h128] at hS
  repeat apply Wq
  refine Wp.r (Aq @q3 (Aq @lc3 (Aq (Heap.lf hL.st.rd.g (k := 3) rfl) (decide_eq_false (show ¬ (128 : Int) < ((r + 1 : Nat) : Int) by omega))))) ?_
  repeat apply Wq
  refine Wp.cF ?_
  repeat apply Wq
  refine Wp.skip ?_
  have hal := hal0 h0
  repeat apply Wq
  refine Wp.r (Aq @q1 (Aq @lc3 (Aq (Heap.lf hL.st.rd.g (k := 1) rfl) (Aq (wrap1 (show a ≤ 1000000 by omega)) (rd_store hL.st.rd.g))))) ?_
  have st1 := hL.st.atR (a + 1) (r + 1)
  have g5 := (hL.atR (a + 1) (r + 1)).g5
  have g2 := (hL.atR (a + 1) (r + 1)).g2
  have hl5 := hL.l5
  have hl2 := hL.l2
  have n25 := hL.n1
  clear hL gt
  unfold rdAt at st1 g5 g2
  generalize H4.set i (rdRow v (a + 1) e (r + 1)) = H5 at st1 g5 g2 ⊢
  clear H4
  have s0 : As H5 H5 i j5 v o (a + 1) e (r + 1) (line0 (n : Int)) (.slice none 0 0) := ⟨st1.rd, g5, OwnF.nil _ _ _, Nat.le_refl _, fun _ _ _ _ => rfl, fun b l c hv => ⟨by have := st1.vb b l c hv; omega, by have := st1.vb b l c hv; have := st1.lo; omega⟩, st1.rd.lt, Heap.lg g5, by have := st1.lt; omega⟩
  have hlo5 := st1.lo
  have fin : ∀ H2 : Heap, (H5.next ≤ H2.next ∧ ∀ j, j < H5.next → j ≠ i → j ≠ j5 → H2.get j = H5.get j) → h.next ≤ H2.next ∧ ∀ j, j < h.next → j ≠ i → H2.get j = h.get j := by
    rintro H2 ⟨q1, q2⟩
    exact ⟨by omega, fun j hj hji => by rw [q2 j (by omega) hji (by omega)]; exact st1.but.2 j hj hji⟩
  have hj2n : j2 < H5.next := Heap.lg g2
  have hi2 : j2 ≠ i := by have := st1.lt; omega
  have hvb := st1.vb
  have hih := st1.lt
  clear st1
  repeat apply Wq
  refine Wp.runS (by simp only [bsg, reduceLT, reduceEqDiff, reduceCtorEq, ln0, lc3, Heap.lf g5 (k := 0) rfl, line0] <;> exact rfl) ?_
  clear g5
  repeat apply Wq
  refine Wp.cut (fun fr u h' => u = none ∧ ∃ x1 a1 av, bodyS o e n (a + 1) = .ok (x1, a1) ∧ a1 ≤ o.length ∧ As H5 h' i j5 v o a1 e (r + 1) x1 av ∧ ∃ sl, fr = ⟨114, sl, []⟩ ∧ holds [(0, .pointer (some ⟨i, 0, none⟩)), (2, .pointer (some ⟨j2, 0, none⟩)), (3, .bool false), (5, .pointer (some ⟨j5, 0, none⟩))] sl) ?_ ?_
  rotate_left
  · repeat apply Wq
    refine Wp.block ?_
    refine Wp.weaken (Frm.le_of (l := [(0, .pointer (some ⟨i, 0, none⟩)), (2, .pointer (some ⟨j2, 0, none⟩)), (3, .bool false), (5, .pointer (some ⟨j5, 0, none⟩)), (63, .int .i64 (n : Int))]) ⟨rfl, rfl, rfl, rfl, rfl, trivial⟩) ?_
    have hn : n = 1 ∨ n = 2 ∨ n = 3 ∨ n = 4 ∨ n = 5 ∨ n = 6 ∨ n = 7 := by omega
    clear hal0 hn7 h0
    rcases hn with rfl | rfl | rfl | rfl | rfl | rfl | rfl
    · repeat apply Wq
      refine Wp.runS (by simp only [bsg, reduceLT, reduceEqDiff, reduceCtorEq, (show (((1 : Nat) : Int) == 1) = true from rfl)] <;> exact rfl) ?_
      repeat apply Wq
      refine Wp.cT ?_
      repeat apply Wq
      refine Wp.regionAs (is := List.range' 0 1 ++ (1 :: (List.range' 2 3 ++ []))) rfl ?_
      refine WpO.rS 1 ?_
      refine WpO.cS c26 ((take_does G (baseM G) _ i v o (a + 1) e (r + 1) 4 s0.rd.g s0.rd.t (by omega)).mono ?_)
      intro x1 h2 hr
      cases e1 : takeS o e 4 (a + 1) with
      | error c =>
        obtain ⟨c, q⟩ := c
        rw [e1] at hr
        obtain ⟨rfl, hb⟩ := hr
        simp only [bodyS, e1] at hS
        subst hS
        exact ⟨rfl, rfl, rfl, fin _ (s0.err hb)⟩
      | ok na =>
      obtain ⟨m1, b1⟩ := na
      rw [e1] at hr
      obtain ⟨rfl, rfl⟩ := hr
      obtain ⟨rfl, l1⟩ := takeS_le e1 (by decide)
      refine pt ?_
      have t1' := s0.at (a + 1 + 1)
      generalize rdAt _ i v e (r + 1) (a + 1 + 1) = H1 at t1' ⊢
      refine WpO.r 3 (Aq @afield_tok1 (Aq @ln1 (ln_text t1'.gx))) ?_
      refine WpO.nil ?_
      have s1 := t1'.setX (x' := { line0 1 with text := m1.text }) (av' := (.slice none 0 0)) (OwnF.nil _ _ _)
      exact ⟨rfl, { line0 1 with text := m1.text }, a + 1 + 1, (.slice none 0 0), by simp only [bodyS, e1], by omega, s1, _, rfl, rfl, rfl, rfl, rfl, trivial⟩
    · repeat apply Wq
      refine Wp.runS (by simp only [bsg, reduceLT, reduceEqDiff, reduceCtorEq, (show (((2 : Nat) : Int) == 1) = false from rfl)] <;> exact rfl) ?_
      repeat apply Wq
      refine Wp.cF ?_
      repeat apply Wq
      refine Wp.runS (by simp only [bsg, reduceLT, reduceEqDiff, reduceCtorEq, (show (((2 : Nat) : Int) == 2) = true from rfl)] <;> exact rfl) ?_
      repeat apply Wq
      refine Wp.cT ?_
      repeat apply Wq
      refine Wp.regionAs (is := List.range' 0 1 ++ (1 :: (List.range' 2 2 ++ []))) rfl ?_
      refine WpO.rS 1 ?_
      refine WpO.cS c24 ((name_does' G _ i v o (a + 1) e (r + 1) 1 s0.rd (by omega) hl).mono ?_)
      intro x1 h2 hr
      cases e1 : nameRS o e 1 (a + 1) with
      | error c =>
        obtain ⟨c, q⟩ := c
        rw [e1] at hr
        obtain ⟨rfl, hb⟩ := hr
        simp only [bodyS, e1] at hS
        subst hS
        exact ⟨rfl, rfl, rfl, fin _ (s0.err hb)⟩
      | ok na =>
      obtain ⟨m1, b1⟩ := na
      rw [e1] at hr
      obtain ⟨rfl, rfl⟩ := hr
      obtain ⟨rfl, l1⟩ := nameRS_le e1 (by decide)
      refine pt ?_
      have t1' := s0.at (a + 1 + 1)
      generalize rdAt _ i v e (r + 1) (a + 1 + 1) = H1 at t1' ⊢
      unfold strV
      refine WpO.r 2 (Aq @ln2 (ln_name t1'.gx)) ?_
      refine WpO.nil ?_
      have s1 := t1'.setX (x' := { line0 2 with name := m1 }) (av' := (.slice none 0 0)) (OwnF.nil _ _ _)
      repeat apply Wq
      refine Wp.regionAs (is := List.range' 0 1 ++ (1 :: (List.range' 2 2 ++ []))) rfl ?_
      refine WpO.rS 1 ?_
      refine WpO.cS c38 ((number_does G (baseM G) _ i v o (a + 1 + 1) e (r + 1) 0 255 s1.rd (by omega)).mono ?_)
      intro x1 h2 hr
      cases e2 : numberS o e 0 255 (a + 1 + 1) with
      | error c =>
        obtain ⟨c, q⟩ := c
        rw [e2] at hr
        obtain ⟨rfl, hb⟩ := hr
        simp only [bodyS, e1, e2] at hS
        subst hS
        exact ⟨rfl, rfl, rfl, fin _ (s1.err hb)⟩
      | ok na =>
      obtain ⟨m2, b2⟩ := na
      rw [e2] at hr
      obtain ⟨rfl, rfl⟩ := hr
      obtain ⟨rfl, l2⟩ := numberS_le e2
      refine pt ?_
      have t2' := s1.at (a + 1 + 1 + 1)
      generalize rdAt _ i v e (r + 1) (a + 1 + 1 + 1) = H2 at t2' ⊢
      unfold natV
      refine WpO.r 2 (Aq @ln3 (ln_n t2'.gx)) ?_
      refine WpO.nil ?_
      have s2 := t2'.setX (x' := { { line0 2 with name := m1 } with n := m2 }) (av' := (.slice none 0 0)) (OwnF.nil _ _ _)
      exact ⟨rfl, { { line0 2 with name := m1 } with n := m2 }, a + 1 + 1 + 1, (.slice none 0 0), by simp only [bodyS, e1, e2], by omega, s2, _, rfl, rfl, rfl, rfl, rfl, trivial⟩
    · repeat apply Wq
      refine Wp.runS (by simp only [bsg, reduceLT, reduceEqDiff, reduceCtorEq, (show (((3 : Nat) : Int) == 1) = false from rfl)] <;> exact rfl) ?_
      repeat apply Wq
      refine Wp.cF ?_
      repeat apply Wq
      refine Wp.runS (by simp only [bsg, reduceLT, reduceEqDiff, reduceCtorEq, (show (((3 : Nat) : Int) == 2) = false from rfl)] <;> exact rfl) ?_
      repeat apply Wq
      refine Wp.cF ?_
      repeat apply Wq
      refine Wp.runS (by simp only [bsg, reduceLT, reduceEqDiff, reduceCtorEq, (show (((3 : Nat) : Int) == 3) = true from rfl)] <;> exact rfl) ?_
      repeat apply Wq
      refine Wp.cT ?_
      repeat apply Wq
      refine Wp.regionAs (is := List.range' 0 1 ++ (1 :: (List.range' 2 2 ++ []))) rfl ?_
      refine WpO.rS 1 ?_
      refine WpO.cS c24 ((name_does' G _ i v o (a + 1) e (r + 1) 1 s0.rd (by omega) hl).mono ?_)
      intro x1 h2 hr
      cases e1 : nameRS o e 1 (a + 1) with
      | error c =>
        obtain ⟨c, q⟩ := c
        rw [e1] at hr
        obtain ⟨rfl, hb⟩ := hr
        simp only [bodyS, e1] at hS
        subst hS
        exact ⟨rfl, rfl, rfl, fin _ (s0.err hb)⟩
      | ok na =>
      obtain ⟨m1, b1⟩ := na
      rw [e1] at hr
      obtain ⟨rfl, rfl⟩ := hr
      obtain ⟨rfl, l1⟩ := nameRS_le e1 (by decide)
      refine pt ?_
      have t1' := s0.at (a + 1 + 1)
      generalize rdAt _ i v e (r + 1) (a + 1 + 1) = H1 at t1' ⊢
      unfold strV
      refine WpO.r 2 (Aq @ln2 (ln_name t1'.gx)) ?_
      refine WpO.nil ?_
      have s1 := t1'.setX (x' := { line0 3 with name := m1 }) (av' := (.slice none 0 0)) (OwnF.nil _ _ _)
      exact ⟨rfl, { line0 3 with name := m1 }, a + 1 + 1, (.slice none 0 0), by simp only [bodyS, e1], by omega, s1, _, rfl, rfl, rfl, rfl, rfl, trivial⟩
    · repeat apply Wq
      refine Wp.runS (by simp only [bsg, reduceLT, reduceEqDiff, reduceCtorEq, (show (((4 : Nat) : Int) == 1) = false from rfl)] <;> exact rfl) ?_
      repeat apply Wq
      refine Wp.cF ?_
      repeat apply Wq
      refine Wp.runS (by simp only [bsg, reduceLT, reduceEqDiff, reduceCtorEq, (show (((4 : Nat) : Int) == 2) = false from rfl)] <;> exact rfl) ?_
      repeat apply Wq
      refine Wp.cF ?_
      repeat apply Wq
      refine Wp.runS (by simp only [bsg, reduceLT, reduceEqDiff, reduceCtorEq, (show (((4 : Nat) : Int) == 3) = false from rfl)] <;> exact rfl) ?_
      repeat apply Wq
      refine Wp.cF ?_
      repeat apply Wq
      refine Wp.runS (by simp only [bsg, reduceLT, reduceEqDiff, reduceCtorEq, (show (((4 : Nat) : Int) == 4) = true from rfl)] <;> exact rfl) ?_
      repeat apply Wq
      refine Wp.cT ?_
      repeat apply Wq
      refine Wp.regionAs (is := List.range' 0 1 ++ (1 :: (List.range' 2 2 ++ []))) rfl ?_
      refine WpO.rS 1 ?_
      refine WpO.cS c24 ((name_does' G _ i v o (a + 1) e (r + 1) 1 s0.rd (by omega) hl).mono ?_)
      intro x1 h2 hr
      cases e1 : nameRS o e 1 (a + 1) with
      | error c =>
        obtain ⟨c, q⟩ := c
        rw [e1] at hr
        obtain ⟨rfl, hb⟩ := hr
        simp only [bodyS, e1] at hS
        subst hS
        exact ⟨rfl, rfl, rfl, fin _ (s0.err hb)⟩
      | ok na =>
      obtain ⟨m1, b1⟩ := na
      rw [e1] at hr
      obtain ⟨rfl, rfl⟩ := hr
      obtain ⟨rfl, l1⟩ := nameRS_le e1 (by decide)
      refine pt ?_
      have t1' := s0.at (a + 1 + 1)
      generalize rdAt _ i v e (r + 1) (a + 1 + 1) = H1 at t1' ⊢
      unfold strV
      refine WpO.r 2 (Aq @ln2 (ln_name t1'.gx)) ?_
      refine WpO.nil ?_
      have s1 := t1'.setX (x' := { line0 4 with name := m1 }) (av' := (.slice none 0 0)) (OwnF.nil _ _ _)
      repeat apply Wq
      refine Wp.regionAs (is := List.range' 0 1 ++ (1 :: [])) rfl ?_
      refine WpO.rS 1 ?_
      refine WpO.cS c39 ((must_does G (baseM G) _ i v o (a + 1 + 1) e (r + 1) 5 [60] s1.rd (by omega)).mono ?_)
      intro x1 h2 hr
      cases e2 : mustS o e 5 [60] (a + 1 + 1) with
      | error c =>
        obtain ⟨c, q⟩ := c
        rw [e2] at hr
        obtain ⟨rfl, hb⟩ := hr
        simp only [bodyS, e1, e2] at hS
        subst hS
        exact ⟨rfl, rfl, rfl, fin _ (s1.err hb)⟩
      | ok na =>
      obtain ⟨m2, b2⟩ := na
      rw [e2] at hr
      obtain ⟨rfl, rfl⟩ := hr
      obtain ⟨rfl, l2⟩ := mustS_le e2 (by decide)
      refine pt ?_
      have t2' := s1.at (a + 1 + 1 + 1)
      generalize rdAt _ i v e (r + 1) (a + 1 + 1 + 1) = H2 at t2' ⊢
      refine WpO.nil ?_
      have s2 := t2'
      repeat apply Wq
      refine Wp.regionAs (is := List.range' 0 1 ++ (1 :: (List.range' 2 2 ++ []))) rfl ?_
      refine WpO.rS 1 ?_
      refine WpO.cS c38 ((number_does G (baseM G) _ i v o (a + 1 + 1 + 1) e (r + 1) 0 255 s2.rd (by omega)).mono ?_)
      intro x1 h2 hr
      cases e3 : numberS o e 0 255 (a + 1 + 1 + 1) with
      | error c =>
        obtain ⟨c, q⟩ := c
        rw [e3] at hr
        obtain ⟨rfl, hb⟩ := hr
        simp only [bodyS, e1, e2, e3] at hS
        subst hS
        exact ⟨rfl, rfl, rfl, fin _ (s2.err hb)⟩
      | ok na =>
      obtain ⟨m3, b3⟩ := na
      rw [e3] at hr
      obtain ⟨rfl, rfl⟩ := hr
      obtain ⟨rfl, l3⟩ := numberS_le e3
      refine pt ?_
      have t3' := s2.at (a + 1 + 1 + 1 + 1)
      generalize rdAt _ i v e (r + 1) (a + 1 + 1 + 1 + 1) = H3 at t3' ⊢
      unfold natV
      refine WpO.r 2 (Aq @ln3 (ln_n t3'.gx)) ?_
      refine WpO.nil ?_
      have s3 := t3'.setX (x' := { { line0 4 with name := m1 } with n := m3 }) (av' := (.slice none 0 0)) (OwnF.nil _ _ _)
      repeat apply Wq
      refine Wp.regionAs (is := List.range' 0 1 ++ (1 :: (List.range' 2 2 ++ []))) rfl ?_
      refine WpO.rS 1 ?_
      refine WpO.cS c40 ((leads_does G _ i v o (a + 1 + 1 + 1 + 1) e (r + 1) s3.rd (by omega) hl).mono ?_)
      intro x1 h2 hr
      cases e4 : leadsS o e (a + 1 + 1 + 1 + 1) with
      | error c =>
        obtain ⟨c, q⟩ := c
        rw [e4] at hr
        obtain ⟨rfl, hb⟩ := hr
        simp only [bodyS, e1, e2, e3, e4] at hS
        subst hS
        exact ⟨rfl, rfl, rfl, fin _ (s3.err hb)⟩
      | ok na =>
      obtain ⟨m4, b4⟩ := na
      rw [e4] at hr
      obtain ⟨rfl, rfl⟩ := hr
      obtain ⟨rfl, l4⟩ := leadsS_le e4
      refine pt ?_
      have t4' := s3.at (a + 1 + 1 + 1 + 1 + 2)
      generalize rdAt _ i v e (r + 1) (a + 1 + 1 + 1 + 1 + 2) = H4 at t4' ⊢
      unfold strV
      refine WpO.r 2 (Aq @ln4 (ln_to t4'.gx)) ?_
      refine WpO.nil ?_
      have s4 := t4'.setX (x' := { { { line0 4 with name := m1 } with n := m3 } with to := m4 }) (av' := (.slice none 0 0)) (OwnF.nil _ _ _)
      exact ⟨rfl, { { { line0 4 with name := m1 } with n := m3 } with to := m4 }, a + 1 + 1 + 1 + 1 + 2, (.slice none 0 0), by simp only [bodyS, e1, e2, e3, e4], by omega, s4, _, rfl, rfl, rfl, rfl, rfl, trivial⟩
    · repeat apply Wq
      refine Wp.runS (by simp only [bsg, reduceLT, reduceEqDiff, reduceCtorEq, (show (((5 : Nat) : Int) == 1) = false from rfl)] <;> exact rfl) ?_
      repeat apply Wq
      refine Wp.cF ?_
      repeat apply Wq
      refine Wp.runS (by simp only [bsg, reduceLT, reduceEqDiff, reduceCtorEq, (show (((5 : Nat) : Int) == 2) = false from rfl)] <;> exact rfl) ?_
      repeat apply Wq
      refine Wp.cF ?_
      repeat apply Wq
      refine Wp.runS (by simp only [bsg, reduceLT, reduceEqDiff, reduceCtorEq, (show (((5 : Nat) : Int) == 3) = false from rfl)] <;> exact rfl) ?_
      repeat apply Wq
      refine Wp.cF ?_
      repeat apply Wq
      refine Wp.runS (by simp only [bsg, reduceLT, reduceEqDiff, reduceCtorEq, (show (((5 : Nat) : Int) == 4) = false from rfl)] <;> exact rfl) ?_
      repeat apply Wq
      refine Wp.cF ?_
      repeat apply Wq
      refine Wp.runS (by simp only [bsg, reduceLT, reduceEqDiff, reduceCtorEq, (show (((5 : Nat) : Int) == 5) = true from rfl)] <;> exact rfl) ?_
      repeat apply Wq
      refine Wp.cT ?_
      repeat apply Wq
      refine Wp.regionAs (is := List.range' 0 1 ++ (1 :: (List.range' 2 2 ++ []))) rfl ?_
      refine WpO.rS 1 ?_
      refine WpO.cS c24 ((name_does' G _ i v o (a + 1) e (r + 1) 1 s0.rd (by omega) hl).mono ?_)
      intro x1 h2 hr
      cases e1 : nameRS o e 1 (a + 1) with
      | error c =>
        obtain ⟨c, q⟩ := c
        rw [e1] at hr
        obtain ⟨rfl, hb⟩ := hr
        simp only [bodyS, e1] at hS
        subst hS
        exact ⟨rfl, rfl, rfl, fin _ (s0.err hb)⟩
      | ok na =>
      obtain ⟨m1, b1⟩ := na
      rw [e1] at hr
      obtain ⟨rfl, rfl⟩ := hr
      obtain ⟨rfl, l1⟩ := nameRS_le e1 (by decide)
      refine pt ?_
      have t1' := s0.at (a + 1 + 1)
      generalize rdAt _ i v e (r + 1) (a + 1 + 1) = H1 at t1' ⊢
      unfold strV
      refine WpO.r 2 (Aq @ln4 (ln_to t1'.gx)) ?_
      refine WpO.nil ?_
      have s1 := t1'.setX (x' := { line0 5 with to := m1 }) (av' := (.slice none 0 0)) (OwnF.nil _ _ _)
      exact ⟨rfl, { line0 5 with to := m1 }, a + 1 + 1, (.slice none 0 0), by simp only [bodyS, e1], by omega, s1, _, rfl, rfl, rfl, rfl, rfl, trivial⟩
    · repeat apply Wq
      refine Wp.runS (by simp only [bsg, reduceLT, reduceEqDiff, reduceCtorEq, (show (((6 : Nat) : Int) == 1) = false from rfl)] <;> exact rfl) ?_
      repeat apply Wq
      refine Wp.cF ?_
      repeat apply Wq
      refine Wp.runS (by simp only [bsg, reduceLT, reduceEqDiff, reduceCtorEq, (show (((6 : Nat) : Int) == 2) = false from rfl)] <;> exact rfl) ?_
      repeat apply Wq
      refine Wp.cF ?_
      repeat apply Wq
      refine Wp.runS (by simp only [bsg, reduceLT, reduceEqDiff, reduceCtorEq, (show (((6 : Nat) : Int) == 3) = false from rfl)] <;> exact rfl) ?_
      repeat apply Wq
      refine Wp.cF ?_
      repeat apply Wq
      refine Wp.runS (by simp only [bsg, reduceLT, reduceEqDiff, reduceCtorEq, (show (((6 : Nat) : Int) == 4) = false from rfl)] <;> exact rfl) ?_
      repeat apply Wq
      refine Wp.cF ?_
      repeat apply Wq
      refine Wp.runS (by simp only [bsg, reduceLT, reduceEqDiff, reduceCtorEq, (show (((6 : Nat) : Int) == 5) = false from rfl)] <;> exact rfl) ?_
      repeat apply Wq
      refine Wp.cF ?_
      repeat apply Wq
      refine Wp.runS (by simp only [bsg, reduceLT, reduceEqDiff, reduceCtorEq, (show (((6 : Nat) : Int) == 6) = true from rfl)] <;> exact rfl) ?_
      repeat apply Wq
      refine Wp.cT ?_
      repeat apply Wq
      refine Wp.regionAs (is := List.range' 0 1 ++ (1 :: (List.range' 2 2 ++ []))) rfl ?_
      refine WpO.rS 1 ?_
      refine WpO.cS c38 ((number_does G (baseM G) _ i v o (a + 1) e (r + 1) 0 255 s0.rd (by omega)).mono ?_)
      intro x1 h2 hr
      cases e1 : numberS o e 0 255 (a + 1) with
      | error c =>
        obtain ⟨c, q⟩ := c
        rw [e1] at hr
        obtain ⟨rfl, hb⟩ := hr
        simp only [bodyS, e1] at hS
        subst hS
        exact ⟨rfl, rfl, rfl, fin _ (s0.err hb)⟩
      | ok na =>
      obtain ⟨m1, b1⟩ := na
      rw [e1] at hr
      obtain ⟨rfl, rfl⟩ := hr
      obtain ⟨rfl, l1⟩ := numberS_le e1
      refine pt ?_
      have t1' := s0.at (a + 1 + 1)
      generalize rdAt _ i v e (r + 1) (a + 1 + 1) = H1 at t1' ⊢
      unfold natV
      refine WpO.r 2 (Aq @ln3 (ln_n t1'.gx)) ?_
      refine WpO.nil ?_
      have s1 := t1'.setX (x' := { line0 6 with n := m1 }) (av' := (.slice none 0 0)) (OwnF.nil _ _ _)
      exact ⟨rfl, { line0 6 with n := m1 }, a + 1 + 1, (.slice none 0 0), by simp only [bodyS, e1], by omega, s1, _, rfl, rfl, rfl, rfl, rfl, trivial⟩
    · repeat apply Wq
      refine Wp.runS (by simp only [bsg, reduceLT, reduceEqDiff, reduceCtorEq, (show (((7 : Nat) : Int) == 1) = false from rfl)] <;> exact rfl) ?_
      repeat apply Wq
      refine Wp.cF ?_
      repeat apply Wq
      refine Wp.runS (by simp only [bsg, reduceLT, reduceEqDiff, reduceCtorEq, (show (((7 : Nat) : Int) == 2) = false from rfl)] <;> exact rfl) ?_
      repeat apply Wq
      refine Wp.cF ?_
      repeat apply Wq
      refine Wp.runS (by simp only [bsg, reduceLT, reduceEqDiff, reduceCtorEq, (show (((7 : Nat) : Int) == 3) = false from rfl)] <;> exact rfl) ?_
      repeat apply Wq
      refine Wp.cF ?_
      repeat apply Wq
      refine Wp.runS (by simp only [bsg, reduceLT, reduceEqDiff, reduceCtorEq, (show (((7 : Nat) : Int) == 4) = false from rfl)] <;> exact rfl) ?_
      repeat apply Wq
      refine Wp.cF ?_
      repeat apply Wq
      refine Wp.runS (by simp only [bsg, reduceLT, reduceEqDiff, reduceCtorEq, (show (((7 : Nat) : Int) == 5) = false from rfl)] <;> exact rfl) ?_
      repeat apply Wq
      refine Wp.cF ?_
      repeat apply Wq
      refine Wp.runS (by simp only [bsg, reduceLT, reduceEqDiff, reduceCtorEq, (show (((7 : Nat) : Int) == 6) = false from rfl)] <;> exact rfl) ?_
      repeat apply Wq
      refine Wp.cF ?_
      repeat apply Wq
      refine Wp.regionAs (is := List.range' 0 1 ++ (1 :: [])) rfl ?_
      refine WpO.rS 1 ?_
      refine WpO.cS c41 ((arms_does G H5 i j5 v o (a + 1) e (r + 1) (line0 7) (.slice none 0 0) s0 ⟨rfl, rfl⟩ hlen (by omega) hl).mono ?_)
      intro x1 h2 hr
      cases e1 : armsS o e (line0 7) (a + 1) with
      | error c =>
        obtain ⟨c, q⟩ := c
        rw [e1] at hr
        obtain ⟨rfl, hb⟩ := hr
        simp only [bodyS, e1] at hS
        subst hS
        exact ⟨rfl, rfl, rfl, fin _ hb⟩
      | ok na =>
      obtain ⟨m1, b1⟩ := na
      rw [e1] at hr
      obtain ⟨av, rfl, s1⟩ := hr
      refine pt ?_
      refine WpO.nil ?_
      exact ⟨rfl, m1, b1, av, by simp only [bodyS, e1], armsS_le e1, s1, _, rfl, rfl, rfl, rfl, rfl, trivial⟩
  rintro fr u H6 ⟨rfl, x1, a1, av, hB, ha1, s1, sl, rfl, hs1⟩
  refine Wp.weaken (Frm.le_of hs1) ?_
  clear hs1 sl s0
  rw [hB] at hS
  dsimp only at hS
  repeat apply Wq
  refine Wp.regionAs (is := List.range' 0 1 ++ (1 :: [])) rfl ?_
  refine WpO.rS 1 ?_
  refine WpO.cS c26 ((take_does G (baseM G) H6 i v o a1 e (r + 1) 6 s1.rd.g s1.rd.t (by omega)).mono ?_)
  intro x2 h2 hr
  cases e1 : takeS o e 6 a1 with
  | error c =>
    obtain ⟨c, q⟩ := c
    rw [e1] at hr hS
    obtain ⟨rfl, hb⟩ := hr
    subst hS
    exact ⟨rfl, rfl, rfl, fin _ (s1.err hb)⟩
  | ok na =>
  obtain ⟨m1, b1⟩ := na
  rw [e1] at hr hS
  obtain ⟨rfl, rfl⟩ := hr
  dsimp only at hS
  subst hS
  obtain ⟨rfl, l1⟩ := takeS_le e1 (by decide)
  refine pt ?_
  refine WpO.nil ?_
  have s2 := s1.at (a1 + 1)
  generalize rdAt H6 i v e (r + 1) (a1 + 1) = H7 at s2 ⊢
  have g2' : H7.get j2 = some (lineRow (line0 0) (.slice none 0 0)) := by rw [s2.old j2 hj2n hi2 n25]; exact g2
  have lo5 : H7.ld j5 0 = some (.int .i64 x1.op) := Heap.lf s2.gx rfl
  have hav : one av = true := by obtain ⟨q, rfl⟩ := s2.armsLen; rfl
  have g5' : (H7.set j2 (lineRow x1 av)).get j5 = some (lineRow x1 av) := by rw [Heap.gs (Ne.symm n25)]; exact s2.gx
  repeat apply Wq
  refine Wp.drawAs [112] [] 1 (fun H => H.ld j5 0 = some (.int .i64 x1.op)) mixed (by kernel_rfl) lo5 ?_
  refine DrT.run 2 (by simp only [bsd, bss, bsg, reduceLT, reduceEqDiff, reduceCtorEq, line_load s2.gx, ln0] <;> exact rfl) rfl ?_
  try simp only [List.drop_succ_cons, List.drop_zero]
  refine DrT.read rfl rfl (by simp only [bsg, reduceLT, reduceEqDiff, reduceCtorEq]) (by simp only [bsg, reduceLT, reduceEqDiff, reduceCtorEq, lc3, lo5] <;> exact rfl) (fun H hK2 => by simp only [bsg, reduceLT, reduceEqDiff, reduceCtorEq, lc3, hK2] <;> exact rfl) (by simp only [bsg, reduceLT, reduceEqDiff, reduceCtorEq] <;> exact rfl) ?_
  refine DrT.run 1 (by simp only [bsd, bss, bsg, reduceLT, reduceEqDiff, reduceCtorEq] <;> exact rfl) rfl ?_
  try simp only [List.drop_succ_cons, List.drop_zero]
  refine DrT.skip (by simp only [bsg, reduceLT, reduceEqDiff, reduceCtorEq, line_put g2' x1 hav] <;> exact rfl) rfl rfl (by simp only [bsg, reduceLT, reduceEqDiff, reduceCtorEq]) (by simp only [bsg, reduceLT, reduceEqDiff, reduceCtorEq] <;> exact rfl) (fun _ => Heap.lf g5' rfl) ?_
  refine DrT.run 1 (by simp only [bsd, bss, bsg, reduceLT, reduceEqDiff, reduceCtorEq] <;> exact rfl) rfl ?_
  try simp only [List.drop_succ_cons, List.drop_zero]
  refine DrT.nil ?_
  repeat apply Wq
  refine Wp.ret ?_
  have hb : h.but i (H7.set j2 (lineRow x1 av)) := by
    refine ⟨?_, fun j hj hji => ?_⟩
    · rw [Heap.ns]; exact (fin H7 ⟨s2.lo, s2.old⟩).1
    · rw [Heap.gs (by omega)]; exact (fin H7 ⟨s2.lo, s2.old⟩).2 j hj hji
  refine ⟨rfl, rfl, _, ares27 rfl rfl (Heap.gf g2'), av, rfl, ⟨by rw [Heap.gs (Ne.symm hi2)]; exact s2.rd.g, ?_, s2.rd.ne⟩, ?_, hb⟩
  · rcases s2.rd.t with q | ⟨b, r2, q1, q2, q3⟩
    · exact .inl q
    · exact .inr ⟨b, r2, by rw [Heap.gs (by have := hvb b _ _ q3; omega)]; exact q1, q2, q3⟩
  · refine (s2.ow.mono hlo5).keep fun j p hq hp => ?_
    rw [Heap.gs (by rintro rfl; rw [g2'] at hq; cases hq; cases hp)]; exact hq
end Go.Mini
