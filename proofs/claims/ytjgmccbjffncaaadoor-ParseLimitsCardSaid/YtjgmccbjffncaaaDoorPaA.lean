/-
  PARSE, part A: the reader: the next token, a token of a kind.
-/
import Derived.Test.YtjgmccbjffncaaaDoorMiniYQtoZ
import Derived.Test.YtjgmccbjffncaaaDoorPLexO
import Derived.Test.YtjgmccbjffncaaaDoorMiniZFtoZJ
set_option linter.unusedSimpArgs false
set_option maxHeartbeats 4000000
set_option maxRecDepth 100000
namespace Go.Mini
open Go.Proofs

theorem q0 (i k : Nat) : afieldAddr Tryd.prog 63 (.pointer (some ⟨i, k, none⟩)) 0 = some (.pointer (some ⟨i, k, none⟩)) := afieldAddr_eq (f := 0) (o := 0) Tryd.underlying63 (by rfl) (s := 0) (by kernel_rfl) i k
theorem q1 (i k : Nat) : afieldAddr Tryd.prog 63 (.pointer (some ⟨i, k, none⟩)) 1 = some (.pointer (some ⟨i, k + 1, none⟩)) := afieldAddr_eq Tryd.underlying63 (by rfl) (s := 0) (by kernel_rfl) i k
theorem q2 (i k : Nat) : afieldAddr Tryd.prog 63 (.pointer (some ⟨i, k, none⟩)) 2 = some (.pointer (some ⟨i, k + 2, none⟩)) := afieldAddr_eq Tryd.underlying63 (by rfl) (s := 0) (by kernel_rfl) i k
theorem q3 (i k : Nat) : afieldAddr Tryd.prog 63 (.pointer (some ⟨i, k, none⟩)) 3 = some (.pointer (some ⟨i, k + 3, none⟩)) := afieldAddr_eq Tryd.underlying63 (by rfl) (s := 0) (by kernel_rfl) i k
theorem agg43 : Program.agg Tryd.prog 56 = some false := by kernel_rfl

/-- The reader in memory: its tokens, how far it is, the text's end, how many lines there were. -/
def rdRow (v : Value) (a e r : Nat) : AObj := .row { vs := [v, .int .i64 a, .int .i64 e, .int .i64 r], elem := 63 }
def nextS (o : List Tok) (e a : Nat) : Tok := (o[a]?).getD ⟨0, [], 0, e⟩
theorem val_flat (t : Tok) : flat t.val = true := rfl
theorem ares13 {s : List (Nat × Value)} {d : List Deferred} {h : Heap} {a : Nat} {t : Tok} (s2 : look 2 s = some (.pointer (some ⟨a, 0, none⟩))) (ga : h.get a = some t.row) : ares Tryd.prog Tryd.f23 ⟨28, s, d⟩ h = some t.val := by
  have hr : Tryd.f23.results.toList = [.cell 2 65] := rfl
  unfold ares
  rw [hr]
  simp only [aresults, aresult, s2, Option.bind_some, tok_load ga]
theorem next_raw {E : EXT} (G : Nat) (h : Heap) (i : Nat) (v : Value) (o : List Tok) (a e r : Nat) (hg : h.get i = some (rdRow v a e r)) (ho : Toks h v o) :
    Does Tryd.prog G E 23 [.pointer (some ⟨i, 0, none⟩)] h (fun x h' => x = .returned (nextS o e a).val ∧ h.next ≤ h'.next ∧ ∀ j, j < h.next → h'.get j = h.get j) := by
  refine Does.body Tryd.func23 rfl ?_
  have hn : enterF Tryd.f23 [.pointer (some ⟨i, 0, none⟩)] = ⟨28, [(0, .pointer (some ⟨i, 0, none⟩))], []⟩ := rfl
  rw [hn]; clear hn
  repeat refine Wp.seq ?_
  refine Wp.runS (by simp only [bsf, abuiltin, aextract, Nat.reduceLT, Nat.reduceEqDiff, reduceCtorEq, alloc31, Heap.new] <;> exact rfl) ?_
  dsimp only [after, leaving]
  have hi := Heap.lt_of_get hg
  have hg1 : (h.alloc (Tok.row ⟨0, [], 0, 0⟩)).get i = some (rdRow v a e r) := by rw [Heap.get_alloc_old _ _ hi]; exact hg
  have ho1 : Toks (h.alloc (Tok.row ⟨0, [], 0, 0⟩)) v o := ho.more (Heap.more_alloc _ _)
  have fin : ∀ t : Tok, h.next ≤ (h.alloc t.row).next ∧ ∀ j, j < h.next → (h.alloc t.row).get j = h.get j := fun t => ⟨Nat.le_succ _, fun j hj => Heap.get_alloc_old _ _ hj⟩
  by_cases hlt : (a : Int) < (o.length : Int)
  · repeat refine Wp.seq ?_
    refine Wp.runSD mixed (by kernel_rfl) (by simp only [runSD, stepOD, stepWD, stepVD, isLoud, isPure, isReader, decide_true, bsb, bsf, abuiltin, aextract, Nat.reduceLT, Nat.reduceEqDiff, reduceCtorEq, q0, q1, Nat.zero_add, aload_cell agg3, aload_cell agg43, Heap.ld_of hg1 (k := 0) rfl, Heap.ld_of hg1 (k := 1) rfl, ho1.len, abin_int, ai_lss, decide_eq_true hlt] <;> exact rfl) ?_
    dsimp only [after, leaving]
    repeat refine Wp.seq ?_
    refine Wp.condT (by simp only [bsf, abuiltin, aextract, Nat.reduceLT, Nat.reduceEqDiff, reduceCtorEq]) ?_
    obtain ⟨t, ht⟩ : ∃ t, o[a]? = some t := ⟨_, List.getElem?_eq_getElem (by omega)⟩
    obtain ⟨p, hp1, hp2⟩ := ho1.at ht
    repeat refine Wp.seq ?_
    refine Wp.runSD mixed (by kernel_rfl) (by simp only [runSD, stepOD, stepWD, stepVD, isLoud, isPure, isReader, decide_true, bsb, bsf, abuiltin, aextract, Nat.reduceLT, Nat.reduceEqDiff, reduceCtorEq, q0, q1, Nat.zero_add, aload_cell agg3, aload_cell agg43, Heap.ld_of hg1 (k := 0) rfl, Heap.ld_of hg1 (k := 1) rfl, hp1, hp2, tok_put] <;> exact rfl) ?_
    dsimp only [after, leaving]
    repeat refine Wp.seq ?_
    refine Wp.ret ?_
    dsimp only [after, leaving]
    have hn : nextS o e a = t := by unfold nextS; rw [ht]; rfl
    exact ⟨rfl, rfl, _, ares13 rfl (Heap.get_alloc_new _ _), by rw [hn], fin t⟩
  · repeat refine Wp.seq ?_
    refine Wp.runSD mixed (by kernel_rfl) (by simp only [runSD, stepOD, stepWD, stepVD, isLoud, isPure, isReader, decide_true, bsb, bsf, abuiltin, aextract, Nat.reduceLT, Nat.reduceEqDiff, reduceCtorEq, q0, q1, Nat.zero_add, aload_cell agg3, aload_cell agg43, Heap.ld_of hg1 (k := 0) rfl, Heap.ld_of hg1 (k := 1) rfl, ho1.len, abin_int, ai_lss, decide_eq_false hlt] <;> exact rfl) ?_
    dsimp only [after, leaving]
    repeat refine Wp.seq ?_
    refine Wp.condF (by simp only [bsf, abuiltin, aextract, Nat.reduceLT, Nat.reduceEqDiff, reduceCtorEq]) ?_
    repeat refine Wp.seq ?_
    refine Wp.skip ?_
    dsimp only [after, leaving]
    repeat refine Wp.seq ?_
    refine Wp.runS (by simp only [bsf, abuiltin, aextract, Nat.reduceLT, Nat.reduceEqDiff, reduceCtorEq, q2, Nat.zero_add, aload_cell agg3, Heap.ld_of hg1 (k := 2) rfl, build31, tok_put] <;> exact rfl) ?_
    dsimp only [after, leaving]
    repeat refine Wp.seq ?_
    refine Wp.ret ?_
    dsimp only [after, leaving]
    have hn : nextS o e a = ⟨0, [], 0, e⟩ := by unfold nextS; rw [List.getElem?_eq_none (by omega)]; rfl
    exact ⟨rfl, rfl, _, ares13 rfl (Heap.get_alloc_new _ _), by rw [hn], fin _⟩
theorem next_good (G : Nat) (B : Base Tryd.prog G) (h : Heap) (i : Nat) (v : Value) (o : List Tok) (a e r : Nat) (hg : h.get i = some (rdRow v a e r)) (ho : Toks h v o) : GoodE Tryd.prog B 23 [.pointer (some ⟨i, 0, none⟩)] h (nextS o e a).val h :=
  Does.clean (next_raw G h i v o a e r hg ho) rfl rfl fun _ _ ho => .inl ho
theorem next_does (G : Nat) (B : Base Tryd.prog G) (h : Heap) (i : Nat) (v : Value) (o : List Tok) (a e r : Nat) (hg : h.get i = some (rdRow v a e r)) (ho : Toks h v o) : Does Tryd.prog G (GoodE Tryd.prog B) 23 [.pointer (some ⟨i, 0, none⟩)] h fun x h' => x = .returned (nextS o e a).val ∧ h' = h :=
  (next_good G B h i v o a e r hg ho).does
end Go.Mini
