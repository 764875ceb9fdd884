/-
  PATTERN, part G: a pattern's tree.
-/
import Derived.Test.YtjgmccbjffncaaaDoorMiniYLtoV
import Derived.Test.YtjgmccbjffncaaaDoorPatF
set_option linter.unusedSimpArgs false
set_option maxHeartbeats 8000000
set_option maxRecDepth 100000
namespace Go.Mini
open Go.Proofs

theorem build27n (e p : Int) : abuild Tryd.prog 31 [(0, .int .i64 e), (1, .int .i64 p)] = some (.agg #[.int .i64 e, .int .i64 p]) := by kernel_rfl
theorem build27e (e : Int) : abuild Tryd.prog 31 [(0, .int .i64 e)] = some (.agg #[.int .i64 e, .int .i64 0]) := by kernel_rfl
theorem build27z' : abuild Tryd.prog 31 [] = some (.agg #[.int .i64 0, .int .i64 0]) := by kernel_rfl
/-- Both results' cells, filled. -/
theorem tr_put {h H : Heap} {n : Nat} {w : Value} (st : TrSt h H) (hw : NodeOk n w) (hn : n ≤ H.next) (e p : Int) : ∃ H1, astore Tryd.prog H 108 (.pointer (some ⟨h.next + 1, 0, none⟩)) w = some H1 ∧
    astore Tryd.prog H1 31 (.pointer (some ⟨h.next + 1 + 1, 0, none⟩)) (.agg #[.int .i64 e, .int .i64 p]) = some (H1.set (h.next + 1 + 1) (spotRow e p)) ∧ TrSt h (H1.set (h.next + 1 + 1) (spotRow e p)) ∧ (H1.set (h.next + 1 + 1) (spotRow e p)).get (h.next + 1 + 1) = some (spotRow e p) ∧ TrSt h H1 ∧ H1.next = H.next ∧ (∀ j, j ≠ h.next + 1 → H1.get j = H.get j) ∧ aload Tryd.prog H1 108 (.pointer (some ⟨h.next + 1, 0, none⟩)) = some w := by
  obtain ⟨cs, h1, h2, _⟩ := st.n
  obtain ⟨e0, p0, s1⟩ := st.s
  obtain ⟨H1, e1, e2, e3, e4, e5, cs', e6, e7, e8⟩ := node_fin h1 h2 hw hn
  have s2 : H1.get (h.next + 2) = some (spotRow e0 p0) := by rw [e4 _ (by omega)]; exact s1
  have st1 : TrSt h H1 := ⟨⟨cs', e6, e7, by rw [← e8]; exact e5⟩, ⟨e0, p0, s2⟩, by rw [e3]; exact st.lo, fun j hj => by rw [e4 j (by omega)]; exact st.old j hj⟩
  refine ⟨H1, e1, spot_store' s2 e p, ⟨⟨cs', by rw [Heap.get_set_ne (by omega)]; exact e6, e7, by rw [← e8]; simpa using e5⟩, ⟨e, p, Heap.get_set_self s2⟩, by simpa using st1.lo, fun j hj => by rw [Heap.get_set_ne (by omega)]; exact st1.old j hj⟩, Heap.get_set_self s2, st1, e3, e4, e2⟩
theorem tree_does (G : Nat) (B : Base Tryd.prog G) (h : Heap) (k : Int) (T : List UInt8) : Does Tryd.prog G (GoodE Tryd.prog B) 48 [patVal k T] h (TreeR h (treeS k T)) := by
  have c62 : canEnter Tryd.prog 62 = true := by kernel_rfl
  have c63 : canEnter Tryd.prog 63 = true := by kernel_rfl
  have c64 : canEnter Tryd.prog 64 = true := by kernel_rfl
  have c65 : canEnter Tryd.prog 65 = true := by kernel_rfl
  have c66 : canEnter Tryd.prog 66 = true := by kernel_rfl
  have c67 : canEnter Tryd.prog 67 = true := by kernel_rfl
  have gp : (((h.alloc (patRow k T)).alloc (nodeRow zeroCells)).alloc (spotRow 0 0)).get h.next = some (patRow k T) := by
    rw [Heap.get_alloc_old _ _ (by simp only [Heap.next_alloc]; omega), Heap.get_alloc_old _ _ (by simp)]; exact Heap.get_alloc_new _ _
  have st : TrSt h (((h.alloc (patRow k T)).alloc (nodeRow zeroCells)).alloc (spotRow 0 0)) := {
    n := ⟨zeroCells, by rw [Heap.get_alloc_old _ _ (by simp)]; exact Heap.get_alloc_new (h.alloc (patRow k T)) (nodeRow zeroCells), rfl, node0_ok _⟩
    s := ⟨0, 0, Heap.get_alloc_new ((h.alloc (patRow k T)).alloc (nodeRow zeroCells)) (spotRow 0 0)⟩
    lo := by simp
    old := fun j hj => by rw [Heap.get_alloc_old _ _ (by simp only [Heap.next_alloc]; omega), Heap.get_alloc_old _ _ (by simp; omega), Heap.get_alloc_old _ _ hj] }
  refine Does.bodyD Tryd.func48 rfl ?_
  have hn : enterF Tryd.f48 [patVal k T] = ⟨73, [(0, patVal k T)], []⟩ := rfl
  rw [hn]; clear hn
  repeat refine Wp.seq ?_
  refine Wp.runS (by simp only [bsf, abuiltin, aextract, Nat.reduceLT, Nat.reduceEqDiff, reduceCtorEq, abox52, alloc108', alloc27, Heap.new, Heap.next_alloc] <;> exact rfl) ?_
  dsimp only [after, leaving]
  generalize ((h.alloc (patRow k T)).alloc (nodeRow zeroCells)).alloc (spotRow 0 0) = H at gp st ⊢
  repeat refine Wp.seq ?_
  refine Wp.regionAs (is := List.range' 0 1 ++ (1 :: [])) rfl ?_
  refine WpO.runS 1 (by simp only [bsd, bsf, abuiltin, aextract, Nat.reduceLT, Nat.reduceEqDiff, reduceCtorEq] <;> exact rfl) (by decide) ?_
  refine WpO.deferS (by simp only [calleeOf, fnOf, bsf, abuiltin, aextract, Nat.reduceLT, Nat.reduceEqDiff, reduceCtorEq] <;> exact rfl) rfl (by simp only [bsf, abuiltin, aextract, Nat.reduceLT, Nat.reduceEqDiff, reduceCtorEq]) (by simp only [bsf, abuiltin, aextract, Nat.reduceLT, Nat.reduceEqDiff, reduceCtorEq] <;> exact rfl) ?_
  refine WpO.nil ?_
  dsimp only [after, leaving]
  have l0 := Heap.ld_of gp (k := 0) rfl
  have l1 := Heap.ld_of gp (k := 0 + 1) rfl
  by_cases h1 : k < 1
  · have hS : treeS k T = (2, 0) := by unfold treeS; rw [if_pos (.inl h1)]
    obtain ⟨H1, e1, e2, stF, sF, _⟩ := tr_put st (node0_ok 0) (Nat.zero_le _) 2 0
    repeat refine Wp.seq ?_
    refine Wp.runS (by simp only [bsf, abuiltin, aextract, Nat.reduceLT, Nat.reduceEqDiff, reduceCtorEq, p0, aload_cell agg3, l0, abin_int, ai_lss, decide_eq_true h1] <;> exact rfl) ?_
    dsimp only [after, leaving]
    repeat refine Wp.seq ?_
    refine Wp.condT (by simp only [bsf, abuiltin, aextract, Nat.reduceLT, Nat.reduceEqDiff, reduceCtorEq]) ?_
    repeat refine Wp.seq ?_
    refine Wp.runS (by simp only [bsf, abuiltin, aextract, Nat.reduceLT, Nat.reduceEqDiff, reduceCtorEq, build108z, build27e, e1, e2] <;> exact rfl) ?_
    dsimp only [after, leaving]
    repeat refine Wp.seq ?_
    refine Wp.ret ?_
    dsimp only [after, leaving]
    refine ⟨rfl, _, rfl, ?_⟩
    refine Leaves.cons (by simp) rfl c62 ?_
    obtain ⟨e9, u9, h9, b9, rfl, rfl, rfl⟩ := treeNo_spec (E := GoodE Tryd.prog B) G _ (.pointer (some ⟨h.next + 1, 0, none⟩)) (.pointer (some ⟨h.next + 1 + 1, 0, none⟩))
    obtain ⟨cs9, n1, n2, n3⟩ := stF.n
    exact ⟨_, _, _, b9, _, rfl, Leaves.ret (ares48 (cs := cs9) (e := 2) (p := 0) rfl rfl n1 n2 sF) ⟨_, by rw [hS]; rfl, ⟨Nat.le_trans (by omega) stF.lo, stF.old⟩, n3⟩⟩
  by_cases h3 : 3 < k
  · have hS : treeS k T = (2, 0) := by unfold treeS; rw [if_pos (.inr h3)]
    obtain ⟨H1, e1, e2, stF, sF, _⟩ := tr_put st (node0_ok 0) (Nat.zero_le _) 2 0
    repeat refine Wp.seq ?_
    refine Wp.runS (by simp only [bsf, abuiltin, aextract, Nat.reduceLT, Nat.reduceEqDiff, reduceCtorEq, p0, aload_cell agg3, l0, abin_int, ai_lss, ai_gtr, decide_eq_false h1, decide_eq_true h3] <;> exact rfl) ?_
    dsimp only [after, leaving]
    repeat refine Wp.seq ?_
    refine Wp.condT (by simp only [bsf, abuiltin, aextract, Nat.reduceLT, Nat.reduceEqDiff, reduceCtorEq]) ?_
    repeat refine Wp.seq ?_
    refine Wp.runS (by simp only [bsf, abuiltin, aextract, Nat.reduceLT, Nat.reduceEqDiff, reduceCtorEq, build108z, build27e, e1, e2] <;> exact rfl) ?_
    dsimp only [after, leaving]
    repeat refine Wp.seq ?_
    refine Wp.ret ?_
    dsimp only [after, leaving]
    refine ⟨rfl, _, rfl, ?_⟩
    refine Leaves.cons (by simp) rfl c62 ?_
    obtain ⟨e9, u9, h9, b9, rfl, rfl, rfl⟩ := treeNo_spec (E := GoodE Tryd.prog B) G _ (.pointer (some ⟨h.next + 1, 0, none⟩)) (.pointer (some ⟨h.next + 1 + 1, 0, none⟩))
    obtain ⟨cs9, n1, n2, n3⟩ := stF.n
    exact ⟨_, _, _, b9, _, rfl, Leaves.ret (ares48 (cs := cs9) (e := 2) (p := 0) rfl rfl n1 n2 sF) ⟨_, by rw [hS]; rfl, ⟨Nat.le_trans (by omega) stF.lo, stF.old⟩, n3⟩⟩
  have h13 : ¬ (k < 1 ∨ 3 < k) := fun q => q.elim h1 h3
  repeat refine Wp.seq ?_
  refine Wp.runS (by simp only [bsf, abuiltin, aextract, Nat.reduceLT, Nat.reduceEqDiff, reduceCtorEq, p0, aload_cell agg3, l0, abin_int, ai_lss, ai_gtr, decide_eq_false h1, decide_eq_false h3] <;> exact rfl) ?_
  dsimp only [after, leaving]
  repeat refine Wp.seq ?_
  refine Wp.condF (by simp only [bsf, abuiltin, aextract, Nat.reduceLT, Nat.reduceEqDiff, reduceCtorEq]) ?_
  repeat refine Wp.seq ?_
  refine Wp.skip ?_
  dsimp only [after, leaving]
  by_cases h64 : (64 : Int) < (T.length : Int)
  · have hS : treeS k T = (3, 64) := by unfold treeS; rw [if_neg h13, if_pos (by omega)]
    obtain ⟨H1, e1, e2, stF, sF, _⟩ := tr_put st (node0_ok 0) (Nat.zero_le _) 3 64
    repeat refine Wp.seq ?_
    refine Wp.runS (by simp only [bsf, abuiltin, aextract, Nat.reduceLT, Nat.reduceEqDiff, reduceCtorEq, p1, aload_cell agg9, l1, alen_str Tryd.underlying9, bs_size, abin_int, ai_gtr, decide_eq_true h64] <;> exact rfl) ?_
    dsimp only [after, leaving]
    repeat refine Wp.seq ?_
    refine Wp.condT (by simp only [bsf, abuiltin, aextract, Nat.reduceLT, Nat.reduceEqDiff, reduceCtorEq]) ?_
    repeat refine Wp.seq ?_
    refine Wp.runS (by simp only [bsf, abuiltin, aextract, Nat.reduceLT, Nat.reduceEqDiff, reduceCtorEq, build108z, build27n, e1, e2] <;> exact rfl) ?_
    dsimp only [after, leaving]
    repeat refine Wp.seq ?_
    refine Wp.ret ?_
    dsimp only [after, leaving]
    refine ⟨rfl, _, rfl, ?_⟩
    refine Leaves.cons (by simp) rfl c62 ?_
    obtain ⟨e9, u9, h9, b9, rfl, rfl, rfl⟩ := treeNo_spec (E := GoodE Tryd.prog B) G _ (.pointer (some ⟨h.next + 1, 0, none⟩)) (.pointer (some ⟨h.next + 1 + 1, 0, none⟩))
    obtain ⟨cs9, n1, n2, n3⟩ := stF.n
    exact ⟨_, _, _, b9, _, rfl, Leaves.ret (ares48 (cs := cs9) (e := 3) (p := 64) rfl rfl n1 n2 sF) ⟨_, by rw [hS]; rfl, ⟨Nat.le_trans (by omega) stF.lo, stF.old⟩, n3⟩⟩
  have hn64 : ¬ 64 < T.length := by omega
  repeat refine Wp.seq ?_
  refine Wp.runS (by simp only [bsf, abuiltin, aextract, Nat.reduceLT, Nat.reduceEqDiff, reduceCtorEq, p1, aload_cell agg9, l1, alen_str Tryd.underlying9, bs_size, abin_int, ai_gtr, decide_eq_false h64] <;> exact rfl) ?_
  dsimp only [after, leaving]
  repeat refine Wp.seq ?_
  refine Wp.condF (by simp only [bsf, abuiltin, aextract, Nat.reduceLT, Nat.reduceEqDiff, reduceCtorEq]) ?_
  repeat refine Wp.seq ?_
  refine Wp.skip ?_
  dsimp only [after, leaving]
  repeat refine Wp.seq ?_
  refine Wp.runS (by simp only [bsf, abuiltin, aextract, Nat.reduceLT, Nat.reduceEqDiff, reduceCtorEq, p0, aload_cell agg3, l0] <;> exact rfl) ?_
  dsimp only [after, leaving]
  by_cases h2 : k = 2
  · subst h2
    repeat refine Wp.seq ?_
    refine Wp.block ?_
    repeat refine Wp.seq ?_
    refine Wp.runS (by simp only [bsf, abuiltin, aextract, Nat.reduceLT, Nat.reduceEqDiff, reduceCtorEq, abin_int, ai_eql, show ((2 : Int) == 2) = true from rfl] <;> exact rfl) ?_
    dsimp only [after, leaving]
    repeat refine Wp.seq ?_
    refine Wp.condT (by simp only [bsf, abuiltin, aextract, Nat.reduceLT, Nat.reduceEqDiff, reduceCtorEq]) ?_
    repeat refine Wp.seq ?_
    refine Wp.regionAs (is := List.range' 0 2 ++ (2 :: (List.range' 3 3 ++ []))) rfl ?_
    refine WpO.runS 2 (by simp only [bsd, bsf, abuiltin, aextract, Nat.reduceLT, Nat.reduceEqDiff, reduceCtorEq, p1, aload_cell agg9, l1] <;> exact rfl) (by decide) ?_
    refine WpO.callS rfl (by simp only [bsf, abuiltin, aextract, Nat.reduceLT, Nat.reduceEqDiff, reduceCtorEq, c63]) (by simp only [calleeOf, fnOf, List.append_nil, List.nil_append, bsf, abuiltin, aextract, Nat.reduceLT, Nat.reduceEqDiff, reduceCtorEq, c63] <;> exact rfl) ((glob_does G B H T (by omega)).mono ?_)
    intro x H2 hr
    cases hG : globS T (T.length + 1) 0 with
    | some p =>
      have hS : treeS 2 T = (6, p) := by unfold treeS; rw [if_neg h13, if_neg hn64, if_pos rfl, hG]
      rw [hG] at hr
      obtain ⟨rfl, hm⟩ := hr
      refine ⟨rfl, _, rfl, ?_⟩
      refine Leaves.cons (by simp) rfl c62 ?_
      obtain ⟨cs9, n1, n2, n3⟩ := (st.more hm).n
      obtain ⟨e8, p8, s8⟩ := (st.more hm).s
      obtain ⟨e9, u9, h9, b9, rfl, rfl, ⟨cs', k1, k2, k3⟩, k4, k5, k6⟩ := treeCatch_spec (E := GoodE Tryd.prog B) G H2 (h.next + 1) (h.next + 1 + 1) cs9 e8 p8 (by omega) n1 n2 s8 p
      exact ⟨_, _, h9, b9, _, rfl, Leaves.ret (ares48 (cs := cs') (e := 6) (p := (p : Nat)) rfl rfl k1 k2 k4) ⟨_, by rw [hS]; rfl, ⟨by have := (st.more hm).lo; omega, fun j hj => by rw [k6 j (by omega) (by omega)]; exact (st.more hm).old j hj⟩, k3⟩⟩
    | none =>
      have hS : treeS 2 T = (0, 0) := by unfold treeS; rw [if_neg h13, if_neg hn64, if_pos rfl, hG]
      rw [hG] at hr
      obtain ⟨nv, rfl, hm, hn⟩ := hr
      obtain ⟨H3, e1, e2, stF, sF, _⟩ := tr_put (st.more hm) hn (Nat.le_refl _) 0 0
      refine ⟨_, by simp only [bsf, abuiltin, aextract, Nat.reduceLT, Nat.reduceEqDiff, reduceCtorEq] <;> exact rfl, ?_⟩
      refine WpO.runS 3 (by simp only [bsd, bsf, abuiltin, aextract, Nat.reduceLT, Nat.reduceEqDiff, reduceCtorEq, build27z', e1, e2] <;> exact rfl) (by decide) ?_
      refine WpO.nil ?_
      dsimp only [after, leaving]
      repeat refine Wp.seq ?_
      refine Wp.ret ?_
      dsimp only [after, leaving]
      refine ⟨rfl, _, rfl, ?_⟩
      refine Leaves.cons (by simp) rfl c62 ?_
      obtain ⟨e9, u9, h9, b9, rfl, rfl, rfl⟩ := treeNo_spec (E := GoodE Tryd.prog B) G _ (.pointer (some ⟨h.next + 1, 0, none⟩)) (.pointer (some ⟨h.next + 1 + 1, 0, none⟩))
      obtain ⟨cs9, n1, n2, n3⟩ := stF.n
      exact ⟨_, _, _, b9, _, rfl, Leaves.ret (ares48 (cs := cs9) (e := 0) (p := 0) rfl rfl n1 n2 sF) ⟨_, by rw [hS]; rfl, ⟨Nat.le_trans (by omega) stF.lo, stF.old⟩, n3⟩⟩
  by_cases hk3 : k = 3
  · subst hk3
    have hgr : ∀ Hx : Heap, abox Hx 130 (.agg #[.string (bs T), .int .i64 0]) = (Hx.new, Hx.alloc (regRow T 0)) := fun _ => rfl
    have hbr : abuild Tryd.prog 130 [(0, .string (bs T))] = some (.agg #[.string (bs T), .int .i64 0]) := by kernel_rfl
    repeat refine Wp.seq ?_
    refine Wp.block ?_
    repeat refine Wp.seq ?_
    refine Wp.runS (by simp only [bsf, abuiltin, aextract, Nat.reduceLT, Nat.reduceEqDiff, reduceCtorEq, abin_int, ai_eql, show ((3 : Int) == 2) = false from rfl] <;> exact rfl) ?_
    dsimp only [after, leaving]
    repeat refine Wp.seq ?_
    refine Wp.condF (by simp only [bsf, abuiltin, aextract, Nat.reduceLT, Nat.reduceEqDiff, reduceCtorEq]) ?_
    repeat refine Wp.seq ?_
    refine Wp.runS (by simp only [bsf, abuiltin, aextract, Nat.reduceLT, Nat.reduceEqDiff, reduceCtorEq, abin_int, ai_eql, show ((3 : Int) == 3) = true from rfl] <;> exact rfl) ?_
    dsimp only [after, leaving]
    repeat refine Wp.seq ?_
    refine Wp.condT (by simp only [bsf, abuiltin, aextract, Nat.reduceLT, Nat.reduceEqDiff, reduceCtorEq]) ?_
    repeat refine Wp.seq ?_
    refine Wp.runS (by simp only [bsf, abuiltin, aextract, Nat.reduceLT, Nat.reduceEqDiff, reduceCtorEq, p1, aload_cell agg9, l1, hbr, hgr, Heap.new] <;> exact rfl) ?_
    dsimp only [after, leaving]
    have st1 := st.more (Heap.more_alloc H (regRow T 0))
    have g1' : (H.alloc (regRow T 0)).get H.next = some (regRow T 0) := Heap.get_alloc_new _ _
    have hi3 : h.next + 3 ≤ H.next := st.lo
    generalize H.alloc (regRow T 0) = H1 at st1 g1' ⊢
    generalize H.next = i at g1' hi3 ⊢
    repeat refine Wp.seq ?_
    refine Wp.regionAs (is := List.range' 0 1 ++ (1 :: (List.range' 2 1 ++ []))) rfl ?_
    refine WpO.runS 1 (by simp only [bsd, bsf, abuiltin, aextract, Nat.reduceLT, Nat.reduceEqDiff, reduceCtorEq] <;> exact rfl) (by decide) ?_
    refine WpO.callS rfl (by simp only [bsf, abuiltin, aextract, Nat.reduceLT, Nat.reduceEqDiff, reduceCtorEq, c64]) (by simp only [calleeOf, fnOf, List.append_nil, List.nil_append, bsf, abuiltin, aextract, Nat.reduceLT, Nat.reduceEqDiff, reduceCtorEq, c64] <;> exact rfl) ((re_does G B T (by omega) (3 * T.length + 3) 0 0 H1 i (by omega) g1' (Nat.zero_le _) (by omega)).mono ?_)
    intro x H2 hr
    cases hG : reS T (3 * T.length + 3) 0 0 with
    | error p =>
      have hS : treeS 3 T = (6, p) := by unfold treeS; rw [if_neg h13, if_neg hn64, if_neg (by decide), if_pos rfl, hG]
      rw [hG] at hr
      obtain ⟨rfl, hb⟩ := hr
      refine ⟨rfl, _, rfl, ?_⟩
      refine Leaves.cons (by simp) rfl c62 ?_
      obtain ⟨cs9, n1, n2, n3⟩ := (st1.but hi3 hb).n
      obtain ⟨e8, p8, s8⟩ := (st1.but hi3 hb).s
      obtain ⟨e9, u9, h9, b9, rfl, rfl, ⟨cs', k1, k2, k3⟩, k4, k5, k6⟩ := treeCatch_spec (E := GoodE Tryd.prog B) G H2 (h.next + 1) (h.next + 1 + 1) cs9 e8 p8 (by omega) n1 n2 s8 p
      exact ⟨_, _, h9, b9, _, rfl, Leaves.ret (ares48 (cs := cs') (e := 6) (p := (p : Nat)) rfl rfl k1 k2 k4) ⟨_, by rw [hS]; rfl, ⟨by have := (st1.but hi3 hb).lo; omega, fun j hj => by rw [k6 j (by omega) (by omega)]; exact (st1.but hi3 hb).old j hj⟩, k3⟩⟩
    | ok b =>
      rw [hG] at hr
      obtain ⟨nv, rfl, hn, hb, hgb⟩ := hr
      have st2 := st1.but hi3 hb
      obtain ⟨H3, e1, _, _, _, st3, hn3, ho3, ld3⟩ := tr_put st2 hn (Nat.le_refl _) 0 0
      have g3 : H3.get i = some (regRow T b) := by rw [ho3 i (by omega)]; exact hgb
      refine ⟨_, by simp only [bsf, abuiltin, aextract, Nat.reduceLT, Nat.reduceEqDiff, reduceCtorEq] <;> exact rfl, ?_⟩
      refine WpO.runS 1 (by simp only [bsd, bsf, abuiltin, aextract, Nat.reduceLT, Nat.reduceEqDiff, reduceCtorEq, e1] <;> exact rfl) (by decide) ?_
      refine WpO.nil ?_
      dsimp only [after, leaving]
      repeat refine Wp.seq ?_
      refine Wp.regionAs (is := List.range' 0 1 ++ (1 :: (List.range' 2 5 ++ []))) rfl ?_
      refine WpO.runS 1 (by simp only [bsd, bsf, abuiltin, aextract, Nat.reduceLT, Nat.reduceEqDiff, reduceCtorEq] <;> exact rfl) (by decide) ?_
      refine WpO.callR (nextR_does G H3 i T b g3) rfl (by simp only [bsf, abuiltin, aextract, Nat.reduceLT, Nat.reduceEqDiff, reduceCtorEq, c65]) (by simp only [calleeOf, fnOf, List.append_nil, List.nil_append, bsf, abuiltin, aextract, Nat.reduceLT, Nat.reduceEqDiff, reduceCtorEq, c65] <;> exact rfl) ?_
      rintro _ h9 ⟨rfl, hh9⟩
      obtain rfl := hh9.symm
      clear hh9
      refine ⟨_, _, rfl, by simp only [bsf, abuiltin, aextract, Nat.reduceLT, Nat.reduceEqDiff, reduceCtorEq]; exact rfl, ?_⟩
      refine WpO.runS 5 (by simp only [bsd, bsf, abuiltin, aextract, Nat.reduceLT, Nat.reduceEqDiff, reduceCtorEq, nextV, List.getElem?_toArray] <;> exact rfl) (by decide) ?_
      refine WpO.nil ?_
      dsimp only [after, leaving]
      repeat refine Wp.seq ?_
      refine Wp.runS (by simp only [bsf, abuiltin, aextract, Nat.reduceLT, Nat.reduceEqDiff, reduceCtorEq] <;> exact rfl) ?_
      dsimp only [after, leaving]
      by_cases hbl : b < T.length
      · have hS : treeS 3 T = (6, b) := by unfold treeS; rw [if_neg h13, if_neg hn64, if_neg (by decide), if_pos rfl, hG]; exact if_pos hbl
        have l3 := Heap.ld_of g3 (k := 0 + 1) rfl
        rw [List.getElem?_eq_getElem hbl]
        repeat refine Wp.seq ?_
        refine Wp.condT (by simp only [bsf, abuiltin, aextract, Nat.reduceLT, Nat.reduceEqDiff, reduceCtorEq, Option.isSome]) ?_
        repeat refine Wp.seq ?_
        refine Wp.regionAs (is := List.range' 0 5 ++ (5 :: [])) rfl ?_
        refine WpO.runS 5 (by simp only [bsd, bsf, abuiltin, aextract, Nat.reduceLT, Nat.reduceEqDiff, reduceCtorEq, g1, aload_cell agg3, l3, Tryd.underlying125] <;> exact rfl) (by decide) ?_
        refine WpO.panicS (by simp only [bsf, abuiltin, aextract, Nat.reduceLT, Nat.reduceEqDiff, reduceCtorEq] <;> exact rfl) rfl (by simp only [bsf, abuiltin, aextract, Nat.reduceLT, Nat.reduceEqDiff, reduceCtorEq]) ?_
        dsimp only [after, leaving]
        refine ⟨rfl, _, rfl, ?_⟩
        refine Leaves.cons (by simp) rfl c62 ?_
        obtain ⟨cs9, n1, n2, n3⟩ := (st3).n
        obtain ⟨e8, p8, s8⟩ := (st3).s
        obtain ⟨e9, u9, h9, b9, rfl, rfl, ⟨cs', k1, k2, k3⟩, k4, k5, k6⟩ := treeCatch_spec (E := GoodE Tryd.prog B) G H3 (h.next + 1) (h.next + 1 + 1) cs9 e8 p8 (by omega) n1 n2 s8 b
        exact ⟨_, _, h9, b9, _, rfl, Leaves.ret (ares48 (cs := cs') (e := 6) (p := (b : Nat)) rfl rfl k1 k2 k4) ⟨_, by rw [hS]; rfl, ⟨by have := (st3).lo; omega, fun j hj => by rw [k6 j (by omega) (by omega)]; exact (st3).old j hj⟩, k3⟩⟩
      · have hS : treeS 3 T = (0, 0) := by unfold treeS; rw [if_neg h13, if_neg hn64, if_neg (by decide), if_pos rfl, hG]; exact if_neg hbl
        rw [List.getElem?_eq_none (by omega)]
        repeat refine Wp.seq ?_
        refine Wp.condF (by simp only [bsf, abuiltin, aextract, Nat.reduceLT, Nat.reduceEqDiff, reduceCtorEq, Option.isSome]) ?_
        repeat refine Wp.seq ?_
        refine Wp.skip ?_
        dsimp only [after, leaving]
        obtain ⟨H4, e4, e5, stF, sF, _⟩ := tr_put st3 (n := H3.next) (by rw [hn3]; exact hn) (Nat.le_refl _) 0 0
        repeat refine Wp.seq ?_
        refine Wp.runS (by simp only [bsf, abuiltin, aextract, Nat.reduceLT, Nat.reduceEqDiff, reduceCtorEq, ld3, build27z', e4, e5] <;> exact rfl) ?_
        dsimp only [after, leaving]
        repeat refine Wp.seq ?_
        refine Wp.ret ?_
        dsimp only [after, leaving]
        refine ⟨rfl, _, rfl, ?_⟩
        refine Leaves.cons (by simp) rfl c62 ?_
        obtain ⟨e9, u9, h9, b9, rfl, rfl, rfl⟩ := treeNo_spec (E := GoodE Tryd.prog B) G _ (.pointer (some ⟨h.next + 1, 0, none⟩)) (.pointer (some ⟨h.next + 1 + 1, 0, none⟩))
        obtain ⟨cs9, n1, n2, n3⟩ := stF.n
        exact ⟨_, _, _, b9, _, rfl, Leaves.ret (ares48 (cs := cs9) (e := 0) (p := 0) rfl rfl n1 n2 sF) ⟨_, by rw [hS]; rfl, ⟨Nat.le_trans (by omega) stF.lo, stF.old⟩, n3⟩⟩
  have hS : treeS k T = (0, 0) := by unfold treeS; rw [if_neg h13, if_neg hn64, if_neg h2, if_neg hk3]
  repeat refine Wp.seq ?_
  refine Wp.block ?_
  repeat refine Wp.seq ?_
  refine Wp.runS (by simp only [bsf, abuiltin, aextract, Nat.reduceLT, Nat.reduceEqDiff, reduceCtorEq, abin_int, ai_eql, show (k == 2) = false by simpa using h2] <;> exact rfl) ?_
  dsimp only [after, leaving]
  repeat refine Wp.seq ?_
  refine Wp.condF (by simp only [bsf, abuiltin, aextract, Nat.reduceLT, Nat.reduceEqDiff, reduceCtorEq]) ?_
  repeat refine Wp.seq ?_
  refine Wp.runS (by simp only [bsf, abuiltin, aextract, Nat.reduceLT, Nat.reduceEqDiff, reduceCtorEq, abin_int, ai_eql, show (k == 3) = false by simpa using hk3] <;> exact rfl) ?_
  dsimp only [after, leaving]
  repeat refine Wp.seq ?_
  refine Wp.condF (by simp only [bsf, abuiltin, aextract, Nat.reduceLT, Nat.reduceEqDiff, reduceCtorEq]) ?_
  repeat refine Wp.seq ?_
  refine Wp.skip ?_
  dsimp only [after, leaving]
  repeat refine Wp.seq ?_
  refine Wp.runS (by simp only [bsf, abuiltin, aextract, Nat.reduceLT, Nat.reduceEqDiff, reduceCtorEq] <;> exact rfl) ?_
  dsimp only [after, leaving]
  repeat refine Wp.seq ?_
  refine Wp.runS (by simp only [bsf, abuiltin, aextract, Nat.reduceLT, Nat.reduceEqDiff, reduceCtorEq, p1, aload_cell agg9, l1, alen_str Tryd.underlying9, bs_size] <;> exact rfl) ?_
  dsimp only [after, leaving]
  repeat refine Wp.seq ?_
  refine Wp.block ?_
  refine Wp.loopI (X := Nat × Value × List Value × Heap) (fun x => [(1, .pointer (some ⟨h.next, 0, none⟩)), (2, .pointer (some ⟨h.next + 1, 0, none⟩)), (3, .pointer (some ⟨h.next + 1 + 1, 0, none⟩)), (7, x.2.1), (57, .int .i64 T.length), (58, .int .i64 x.1)]) (fun x => x.2.2.2)
    (fun x => x.1 ≤ T.length ∧ TrSt h x.2.2.2 ∧ x.2.2.2.get h.next = some (patRow k T) ∧ Parts (h.next + 3) x.2.2.2 x.2.1 x.2.2.1 ∧ x.2.2.1.length ≤ x.1) (fun x => T.length - x.1)
    (0, .slice none 0 0, [], H) ⟨Nat.zero_le _, st, gp, Parts.nil _ _, Nat.zero_le _⟩ ⟨rfl, rfl, rfl, rfl, rfl, rfl, trivial⟩ rfl ?_
  clear st gp l0 l1 H
  rintro ⟨p, v, ns, H⟩ ⟨hp, st, gp, ps, hl⟩
  simp only at hp st gp ps hl
  by_cases hlt : (p : Int) < (T.length : Int)
  · repeat refine Wp.seq ?_
    refine Wp.runS (by simp only [bsf, abuiltin, aextract, Nat.reduceLT, Nat.reduceEqDiff, reduceCtorEq, abin_int, ai_lss, decide_eq_true hlt] <;> exact rfl) ?_
    dsimp only [after, leaving]
    repeat refine Wp.seq ?_
    refine Wp.condT (by simp only [bsf, abuiltin, aextract, Nat.reduceLT, Nat.reduceEqDiff, reduceCtorEq]) ?_
    repeat refine Wp.seq ?_
    refine Wp.skip ?_
    dsimp only [after, leaving]
    repeat refine Wp.seq ?_
    refine Wp.block ?_
    obtain ⟨c, hc⟩ : ∃ c, T[p]? = some c := ⟨_, List.getElem?_eq_getElem (by omega)⟩
    have l1 := Heap.ld_of gp (k := 0 + 1) rfl
    repeat refine Wp.seq ?_
    refine Wp.runS (by simp only [bsf, abuiltin, aextract, Nat.reduceLT, Nat.reduceEqDiff, reduceCtorEq] <;> exact rfl) ?_
    dsimp only [after, leaving]
    repeat refine Wp.seq ?_
    refine Wp.regionAs (is := List.range' 0 5 ++ (5 :: (List.range' 6 3 ++ []))) rfl ?_
    refine WpO.runS 5 (by simp only [bsd, bsf, abuiltin, aextract, Nat.reduceLT, Nat.reduceEqDiff, reduceCtorEq, p1, aload_cell agg9, l1, aindex_bs Tryd.underlying9 hc] <;> exact rfl) (by decide) ?_
    refine WpO.callR (one_does B c H) rfl (by simp only [bsf, abuiltin, aextract, Nat.reduceLT, Nat.reduceEqDiff, reduceCtorEq, c66]) (by simp only [calleeOf, fnOf, List.append_nil, List.nil_append, bsf, abuiltin, aextract, Nat.reduceLT, Nat.reduceEqDiff, reduceCtorEq, c66] <;> exact rfl) ?_
    rintro _ h9 ⟨rfl, hh9⟩
    obtain rfl := hh9.symm
    clear hh9
    refine ⟨_, _, rfl, by simp only [bsf, abuiltin, aextract, Nat.reduceLT, Nat.reduceEqDiff, reduceCtorEq]; exact rfl, ?_⟩
    obtain ⟨q1, v', H', q2, q3, q4, q5, q6⟩ := ps.push (oneV_node c H.next) st.lo (by omega)
    refine WpO.runS 3 (by simp only [bsd, bsf, abuiltin, aextract, Nat.reduceLT, Nat.reduceEqDiff, reduceCtorEq, q1, q2] <;> exact rfl) (by decide) ?_
    refine WpO.nil ?_
    dsimp only [after, leaving]
    have hw1 : IntKind.i64.wrap ((p : Int) + 1) = ((p + 1 : Nat) : Int) := by rw [wrap_in (by omega) (by omega)]; omega
    repeat refine Wp.seq ?_
    refine Wp.runS (by simp only [bsf, abuiltin, aextract, Nat.reduceLT, Nat.reduceEqDiff, reduceCtorEq, abin_int, ai_add, hw1] <;> exact rfl) ?_
    dsimp only [after, leaving]
    have st' : TrSt h H' := {
      n := by obtain ⟨cs, h1, h2, h3⟩ := st.n; exact ⟨cs, by rw [q6 _ (by omega)]; exact h1, h2, h3.mono q4⟩
      s := by obtain ⟨e, p, h1⟩ := st.s; exact ⟨e, p, by rw [q6 _ (by omega)]; exact h1⟩
      lo := Nat.le_trans st.lo q4
      old := fun j hj => by rw [q6 j (by omega)]; exact st.old j hj }
    exact ⟨(p + 1, v', _, H'), _, ⟨by simp only; omega, st', by rw [q6 _ (by omega)]; exact gp, q3, by simp only [List.length_append, List.length_singleton]; omega⟩, by simp only; omega, rfl, ⟨rfl, rfl, rfl, rfl, rfl, rfl, trivial⟩, rfl, rfl⟩
  · repeat refine Wp.seq ?_
    refine Wp.runS (by simp only [bsf, abuiltin, aextract, Nat.reduceLT, Nat.reduceEqDiff, reduceCtorEq, abin_int, ai_lss, decide_eq_false hlt] <;> exact rfl) ?_
    dsimp only [after, leaving]
    repeat refine Wp.seq ?_
    refine Wp.condF (by simp only [bsf, abuiltin, aextract, Nat.reduceLT, Nat.reduceEqDiff, reduceCtorEq]) ?_
    repeat refine Wp.seq ?_
    refine Wp.exit ?_
    simp only [after, leaving, blockExit, if_true, if_false, Nat.reduceEqDiff]
    repeat refine Wp.seq ?_
    refine Wp.regionAs (is := List.range' 0 1 ++ (1 :: (List.range' 2 3 ++ []))) rfl ?_
    refine WpO.runS 1 (by simp only [bsd, bsf, abuiltin, aextract, Nat.reduceLT, Nat.reduceEqDiff, reduceCtorEq] <;> exact rfl) (by decide) ?_
    refine WpO.callS rfl (by simp only [bsf, abuiltin, aextract, Nat.reduceLT, Nat.reduceEqDiff, reduceCtorEq, c67]) (by simp only [calleeOf, fnOf, List.append_nil, List.nil_append, bsf, abuiltin, aextract, Nat.reduceLT, Nat.reduceEqDiff, reduceCtorEq, c67] <;> exact rfl) ((joined_spec G H 3 v ns ps.read).mono ?_)
    rintro x H2 ⟨nv, rfl, hm, hn⟩
    obtain ⟨H3, e1, e2, stF, sF, _⟩ := tr_put (st.more hm) hn (Nat.le_refl _) 0 0
    refine ⟨_, by simp only [bsf, abuiltin, aextract, Nat.reduceLT, Nat.reduceEqDiff, reduceCtorEq] <;> exact rfl, ?_⟩
    refine WpO.runS 3 (by simp only [bsd, bsf, abuiltin, aextract, Nat.reduceLT, Nat.reduceEqDiff, reduceCtorEq, build27z', e1, e2] <;> exact rfl) (by decide) ?_
    refine WpO.nil ?_
    dsimp only [after, leaving]
    repeat refine Wp.seq ?_
    refine Wp.ret ?_
    dsimp only [after, leaving]
    refine ⟨rfl, _, rfl, ?_⟩
    refine Leaves.cons (by simp) rfl c62 ?_
    obtain ⟨e9, u9, h9, b9, rfl, rfl, rfl⟩ := treeNo_spec (E := GoodE Tryd.prog B) G _ (.pointer (some ⟨h.next + 1, 0, none⟩)) (.pointer (some ⟨h.next + 1 + 1, 0, none⟩))
    obtain ⟨cs9, n1, n2, n3⟩ := stF.n
    exact ⟨_, _, _, b9, _, rfl, Leaves.ret (ares48 (cs := cs9) (e := 0) (p := 0) rfl rfl n1 n2 sF) ⟨_, by rw [hS]; rfl, ⟨Nat.le_trans (by omega) stF.lo, stF.old⟩, n3⟩⟩
end Go.Mini
