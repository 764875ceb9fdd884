/-
  PARSE, part D: number, leads.
-/
import Derived.Test.YtjgmccbjffncaaaDoorMiniYQtoZ
import Derived.Test.YtjgmccbjffncaaaDoorPaC
set_option linter.unusedSimpArgs false
set_option maxHeartbeats 4000000
set_option maxRecDepth 100000
namespace Go.Mini
open Go.Proofs

theorem number_does (G : Nat) (B : Base Tryd.prog G) (h : Heap) (i : Nat) (v : Value) (o : List Tok) (a e r lo hi' : Nat) (d : Rd h i v o a e r) (ha : a ≤ 1000000) :
    Does Tryd.prog G (GoodE Tryd.prog B) 38 [.pointer (some ⟨i, 0, none⟩), .int .i64 lo, .int .i64 hi'] h (RdOut natV h i v e r (numberS o e lo hi' a)) := by
  refine RdRaw.out (fun _ => rfl) d.g d.t ?_
  have c16 : canEnter Tryd.prog 26 = true := by kernel_rfl
  have c15 : canEnter Tryd.prog 25 = true := by kernel_rfl
  have hi := d.lt
  refine Does.body Tryd.func38 rfl ?_
  have hn : enterF Tryd.f38 [.pointer (some ⟨i, 0, none⟩), .int .i64 lo, .int .i64 hi'] = ⟨25, [(0, .pointer (some ⟨i, 0, none⟩)), (1, .int .i64 lo), (2, .int .i64 hi')], []⟩ := rfl
  rw [hn]; clear hn
  repeat refine Wp.seq ?_
  refine Wp.runS (by simp only [bsf, abuiltin, aextract, Nat.reduceLT, Nat.reduceEqDiff, reduceCtorEq] <;> exact rfl) ?_
  dsimp only [after, leaving]
  repeat refine Wp.seq ?_
  refine Wp.regionAs (is := List.range' 0 1 ++ (1 :: (List.range' 2 2 ++ []))) rfl ?_
  refine WpO.runS 1 (by simp only [bsd, bsf, abuiltin, aextract, Nat.reduceLT, Nat.reduceEqDiff, reduceCtorEq] <;> exact rfl) (by decide) ?_
  refine WpO.callS rfl (by simp only [bsf, abuiltin, aextract, Nat.reduceLT, Nat.reduceEqDiff, reduceCtorEq, c16]) (by simp only [calleeOf, fnOf, List.append_nil, List.nil_append, bsf, abuiltin, aextract, Nat.reduceLT, Nat.reduceEqDiff, reduceCtorEq, c16] <;> exact rfl) ((take_does G B h i v o a e r 3 d.g d.t ha).mono ?_)
  intro x h2 hr
  unfold numberS
  cases ht : takeS o e 3 a with
  | error c =>
    obtain ⟨c, p⟩ := c
    rw [ht] at hr
    obtain ⟨rfl, hb⟩ := hr
    exact ⟨rfl, rfl, rfl, hb⟩
  | ok ta =>
    obtain ⟨t, a'⟩ := ta
    rw [ht] at hr
    obtain ⟨rfl, rfl⟩ := hr
    refine ⟨_, by simp only [bsf, abuiltin, aextract, Nat.reduceLT, Nat.reduceEqDiff, reduceCtorEq] <;> exact rfl, ?_⟩
    refine WpO.runS 2 (by simp only [bsd, bsf, abuiltin, aextract, Nat.reduceLT, Nat.reduceEqDiff, reduceCtorEq, alloc31, Heap.new, tok_put] <;> exact rfl) (by decide) ?_
    refine WpO.nil ?_
    dsimp only [after, leaving]
    have gy : ((rdAt h i v e r a').alloc t.row).get h.next = some t.row := by rw [← rdAt_next h i v e r a']; exact Heap.get_alloc_new _ _
    by_cases h1 : (t.n : Int) < (lo : Int)
    · rw [if_neg (by omega)]
      repeat refine Wp.seq ?_
      refine Wp.runS (by simp only [bsf, abuiltin, aextract, Nat.reduceLT, Nat.reduceEqDiff, reduceCtorEq, rdAt_next, t2, Nat.zero_add, aload_cell agg3, Heap.ld_of gy (k := 2) rfl, abin_int, ai_lss, decide_eq_true h1] <;> exact rfl) ?_
      dsimp only [after, leaving]
      repeat refine Wp.seq ?_
      refine Wp.condT (by simp only [bsf, abuiltin, aextract, Nat.reduceLT, Nat.reduceEqDiff, reduceCtorEq]) ?_
      repeat refine Wp.seq ?_
      refine Wp.regionAs (is := List.range' 0 2 ++ (2 :: [])) rfl ?_
      refine WpO.runS 2 (by simp only [bsd, bsf, abuiltin, aextract, Nat.reduceLT, Nat.reduceEqDiff, reduceCtorEq, rdAt_next, t3, Nat.zero_add, aload_cell agg3, Heap.ld_of gy (k := 3) rfl] <;> exact rfl) (by decide) ?_
      refine WpO.callS rfl (by simp only [bsf, abuiltin, aextract, Nat.reduceLT, Nat.reduceEqDiff, reduceCtorEq, c15]) (by simp only [calleeOf, fnOf, List.append_nil, List.nil_append, bsf, abuiltin, aextract, Nat.reduceLT, Nat.reduceEqDiff, reduceCtorEq, c15] <;> exact rfl) ((fail_spec G ((rdAt h i v e r a').alloc t.row) 5 t.at').mono ?_)
      intro x h2 hr
      obtain ⟨rfl, rfl⟩ := hr
      exact ⟨rfl, rfl, rfl, but_rdAt ((Heap.more_alloc _ _).but _)⟩
    · by_cases h2 : (hi' : Int) < (t.n : Int)
      · rw [if_neg (by omega)]
        repeat refine Wp.seq ?_
        refine Wp.runS (by simp only [bsf, abuiltin, aextract, Nat.reduceLT, Nat.reduceEqDiff, reduceCtorEq, rdAt_next, t2, Nat.zero_add, aload_cell agg3, Heap.ld_of gy (k := 2) rfl, abin_int, ai_lss, ai_gtr, decide_eq_false h1, decide_eq_true h2] <;> exact rfl) ?_
        dsimp only [after, leaving]
        repeat refine Wp.seq ?_
        refine Wp.condT (by simp only [bsf, abuiltin, aextract, Nat.reduceLT, Nat.reduceEqDiff, reduceCtorEq]) ?_
        repeat refine Wp.seq ?_
        refine Wp.regionAs (is := List.range' 0 2 ++ (2 :: [])) rfl ?_
        refine WpO.runS 2 (by simp only [bsd, bsf, abuiltin, aextract, Nat.reduceLT, Nat.reduceEqDiff, reduceCtorEq, rdAt_next, t3, Nat.zero_add, aload_cell agg3, Heap.ld_of gy (k := 3) rfl] <;> exact rfl) (by decide) ?_
        refine WpO.callS rfl (by simp only [bsf, abuiltin, aextract, Nat.reduceLT, Nat.reduceEqDiff, reduceCtorEq, c15]) (by simp only [calleeOf, fnOf, List.append_nil, List.nil_append, bsf, abuiltin, aextract, Nat.reduceLT, Nat.reduceEqDiff, reduceCtorEq, c15] <;> exact rfl) ((fail_spec G ((rdAt h i v e r a').alloc t.row) 5 t.at').mono ?_)
        intro x h2 hr
        obtain ⟨rfl, rfl⟩ := hr
        exact ⟨rfl, rfl, rfl, but_rdAt ((Heap.more_alloc _ _).but _)⟩
      · rw [if_pos (by omega)]
        repeat refine Wp.seq ?_
        refine Wp.runS (by simp only [bsf, abuiltin, aextract, Nat.reduceLT, Nat.reduceEqDiff, reduceCtorEq, rdAt_next, t2, Nat.zero_add, aload_cell agg3, Heap.ld_of gy (k := 2) rfl, abin_int, ai_lss, ai_gtr, decide_eq_false h1, decide_eq_false h2] <;> exact rfl) ?_
        dsimp only [after, leaving]
        repeat refine Wp.seq ?_
        refine Wp.condF (by simp only [bsf, abuiltin, aextract, Nat.reduceLT, Nat.reduceEqDiff, reduceCtorEq]) ?_
        repeat refine Wp.seq ?_
        refine Wp.skip ?_
        dsimp only [after, leaving]
        repeat refine Wp.seq ?_
        refine Wp.runS (by simp only [bsf, abuiltin, aextract, Nat.reduceLT, Nat.reduceEqDiff, reduceCtorEq, rdAt_next, t2, Nat.zero_add, aload_cell agg3, Heap.ld_of gy (k := 2) rfl] <;> exact rfl) ?_
        dsimp only [after, leaving]
        repeat refine Wp.seq ?_
        refine Wp.ret ?_
        dsimp only [after, leaving]
        exact ⟨rfl, rfl, _, rfl, rfl, by rw [Heap.next_alloc, rdAt_next]; omega, fun j hj => Heap.get_alloc_old _ _ (by rw [rdAt_next]; exact hj)⟩

def gotoB : List UInt8 := [103, 111, 116, 111]
def leadsS (o : List Tok) (e a : Nat) : RdR (List UInt8) := match mustS o e 1 gotoB a with
  | .error x => .error x
  | .ok (_, a') => nameRS o e 1 a'
theorem mustS_ok {o : List Tok} {e k : Nat} {w : List UInt8} {a a' : Nat} {u : Unit} (h : mustS o e k w a = .ok (u, a')) : a' = a + 1 ∧ isS o e k w a = true := by
  unfold mustS at h
  split at h
  · rename_i hs; cases h; exact ⟨rfl, hs⟩
  · cases h
theorem leads_does (G : Nat) (h : Heap) (i : Nat) (v : Value) (o : List Tok) (a e r : Nat) (d : Rd h i v o a e r) (ha : a + 1 ≤ 1000000) (hl : ∀ t ∈ o, t.text.length ≤ 1000000) :
    Does Tryd.prog G (GoodE Tryd.prog (baseM G)) 40 [.pointer (some ⟨i, 0, none⟩)] h (RdOut strV h i v e r (leadsS o e a)) := by
  have c30 : canEnter Tryd.prog 39 = true := by kernel_rfl
  have c14 : canEnter Tryd.prog 24 = true := by kernel_rfl
  have hi := d.lt
  refine Does.body Tryd.func40 rfl ?_
  have hn : enterF Tryd.f40 [.pointer (some ⟨i, 0, none⟩)] = ⟨7, [(0, .pointer (some ⟨i, 0, none⟩))], []⟩ := rfl
  rw [hn]; clear hn
  repeat refine Wp.seq ?_
  refine Wp.runS (by simp only [bsf, abuiltin, aextract, Nat.reduceLT, Nat.reduceEqDiff, reduceCtorEq] <;> exact rfl) ?_
  dsimp only [after, leaving]
  repeat refine Wp.seq ?_
  refine Wp.regionAs (is := List.range' 0 1 ++ (1 :: [])) rfl ?_
  refine WpO.runS 1 (by simp only [bsd, bsf, abuiltin, aextract, Nat.reduceLT, Nat.reduceEqDiff, reduceCtorEq] <;> exact rfl) (by decide) ?_
  refine WpO.callS rfl (by simp only [bsf, abuiltin, aextract, Nat.reduceLT, Nat.reduceEqDiff, reduceCtorEq, c30]) (by simp only [calleeOf, fnOf, List.append_nil, List.nil_append, bsf, abuiltin, aextract, Nat.reduceLT, Nat.reduceEqDiff, reduceCtorEq, c30] <;> exact rfl) ((must_does G (baseM G) h i v o a e r 1 gotoB d (by omega)).mono ?_)
  intro x h2 hr
  unfold leadsS
  cases hm : mustS o e 1 gotoB a with
  | error c =>
    obtain ⟨c, p⟩ := c
    rw [hm] at hr
    obtain ⟨rfl, hb⟩ := hr
    exact ⟨rfl, rfl, rfl, hb⟩
  | ok ua =>
    obtain ⟨u, a'⟩ := ua
    rw [hm] at hr
    obtain ⟨rfl, rfl⟩ := hr
    obtain ⟨rfl, _⟩ := mustS_ok hm
    refine ⟨_, by simp only [bsf, abuiltin, aextract, Nat.reduceLT, Nat.reduceEqDiff, reduceCtorEq] <;> exact rfl, ?_⟩
    refine WpO.nil ?_
    dsimp only [after, leaving]
    have d2 := d.at (a + 1)
    repeat refine Wp.seq ?_
    refine Wp.regionAs (is := List.range' 0 1 ++ (1 :: (List.range' 2 1 ++ []))) rfl ?_
    refine WpO.runS 1 (by simp only [bsd, bsf, abuiltin, aextract, Nat.reduceLT, Nat.reduceEqDiff, reduceCtorEq] <;> exact rfl) (by decide) ?_
    refine WpO.callS rfl (by simp only [bsf, abuiltin, aextract, Nat.reduceLT, Nat.reduceEqDiff, reduceCtorEq, c14]) (by simp only [calleeOf, fnOf, List.append_nil, List.nil_append, bsf, abuiltin, aextract, Nat.reduceLT, Nat.reduceEqDiff, reduceCtorEq, c14] <;> exact rfl) ((name_does' G (rdAt h i v e r (a + 1)) i v o (a + 1) e r 1 d2 ha hl).mono ?_)
    intro x h3 hr
    cases hn : nameRS o e 1 (a + 1) with
    | error c =>
      obtain ⟨c, p⟩ := c
      rw [hn] at hr
      obtain ⟨rfl, hb⟩ := hr
      exact ⟨rfl, rfl, rfl, but_rdAt hb⟩
    | ok sa =>
      obtain ⟨s, a''⟩ := sa
      rw [hn] at hr
      obtain ⟨rfl, rfl⟩ := hr
      refine ⟨_, by simp only [bsf, abuiltin, aextract, Nat.reduceLT, Nat.reduceEqDiff, reduceCtorEq] <;> exact rfl, ?_⟩
      refine WpO.runS 1 (by simp only [bsd, bsf, abuiltin, aextract, Nat.reduceLT, Nat.reduceEqDiff, reduceCtorEq] <;> exact rfl) (by decide) ?_
      refine WpO.nil ?_
      dsimp only [after, leaving]
      repeat refine Wp.seq ?_
      refine Wp.ret ?_
      dsimp only [after, leaving]
      exact ⟨rfl, rfl, _, rfl, rfl, rdAt_rdAt _ _ _ _ _ _ _⟩
end Go.Mini
