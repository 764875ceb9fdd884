/-
  Parts PaA to PaB.
-/
import Derived.Test.YtjgmccbjffncaaaDoorMiniYLtoV
import Derived.Test.YtjgmccbjffncaaaDoorPLexNtoPLexO
import Derived.Test.YtjgmccbjffncaaaDoorMiniZFtoZJ
section
/-
  PARSE, part A: the reader: the next token, a token of a kind.
-/
set_option linter.unusedSimpArgs false
set_option maxHeartbeats 4000000
set_option maxRecDepth 100000
namespace Go.Mini
open Go.Proofs

theorem q0 (i k : Nat) : afieldAddr Tryd.prog 63 (.pointer (some ⟨i, k, none⟩)) 0 = some (.pointer (some ⟨i, k, none⟩)) := afieldAddr_eq (f := 0) (o := 0) Tryd.underlying63 (by rfl) (s := 0) (by kernel_rfl) i k
theorem q1 (i k : Nat) : afieldAddr Tryd.prog 63 (.pointer (some ⟨i, k, none⟩)) 1 = some (.pointer (some ⟨i, k + 1, none⟩)) := afieldAddr_eq Tryd.underlying63 (by rfl) (s := 0) (by kernel_rfl) i k
theorem q2 (i k : Nat) : afieldAddr Tryd.prog 63 (.pointer (some ⟨i, k, none⟩)) 2 = some (.pointer (some ⟨i, k + 2, none⟩)) := afieldAddr_eq Tryd.underlying63 (by rfl) (s := 0) (by kernel_rfl) i k
theorem q3 (i k : Nat) : afieldAddr Tryd.prog 63 (.pointer (some ⟨i, k, none⟩)) 3 = some (.pointer (some ⟨i, k + 3, none⟩)) := afieldAddr_eq Tryd.underlying63 (by rfl) (s := 0) (by kernel_rfl) i k
theorem agg43 : Program.agg Tryd.prog 56 = some false := by kernel_rfl

/-- The reader in memory: its tokens, how far it is, the text's end, how many lines there were. -/
def rdRow (v : Value) (a e r : Nat) : AObj := .row { vs := [v, .int .i64 a, .int .i64 e, .int .i64 r], elem := 63 }
def nextS (o : List Tok) (e a : Nat) : Tok := (o[a]?).getD ⟨0, [], 0, e⟩
theorem ares13 {s : List (Nat × Value)} {d : List Deferred} {h : Heap} {a : Nat} {t : Tok} (s2 : look 2 s = some (.pointer (some ⟨a, 0, none⟩))) (ga : h.get a = some t.row) : ares Tryd.prog Tryd.f23 ⟨28, s, d⟩ h = some t.val := by
  have hr : Tryd.f23.results.toList = [.cell 2 65] := rfl
  unfold ares
  rw [hr]
  simp only [aresults, aresult, s2, Option.bind_some, tok_load ga]
theorem next_raw {E : EXT} (G : Nat) (h : Heap) (i : Nat) (v : Value) (o : List Tok) (a e r : Nat) (hg : h.get i = some (rdRow v a e r)) (ho : Toks h v o) :
    Does Tryd.prog G E 23 [.pointer (some ⟨i, 0, none⟩)] h (fun x h' => x = .returned (nextS o e a).val ∧ h.next ≤ h'.next ∧ ∀ j, j < h.next → h'.get j = h.get j) := by
  refine Does.body Tryd.func23 rfl ?_
  have hn : enterF Tryd.f23 [.pointer (some ⟨i, 0, none⟩)] = ⟨28, [(0, .pointer (some ⟨i, 0, none⟩))], []⟩ := rfl
  rw [hn]; clear hn
  repeat refine Wp.seq ?_
  refine Wp.runS (by simp only [bsf, abuiltin, aextract, Nat.reduceLT, Nat.reduceEqDiff, reduceCtorEq, alloc31, Heap.new] <;> exact rfl) ?_
  dsimp only [after, leaving]
  have hi := Heap.lt_of_get hg
  have hg1 : (h.alloc (Tok.row ⟨0, [], 0, 0⟩)).get i = some (rdRow v a e r) := by rw [Heap.get_alloc_old _ _ hi]; exact hg
  have ho1 : Toks (h.alloc (Tok.row ⟨0, [], 0, 0⟩)) v o := ho.more (Heap.more_alloc _ _)
  have fin : ∀ t : Tok, h.next ≤ (h.alloc t.row).next ∧ ∀ j, j < h.next → (h.alloc t.row).get j = h.get j := fun t => ⟨Nat.le_succ _, fun j hj => Heap.get_alloc_old _ _ hj⟩
  by_cases hlt : (a : Int) < (o.length : Int)
  · repeat refine Wp.seq ?_
    refine Wp.runSD mixed (by kernel_rfl) (by simp only [runSD, stepOD, stepWD, stepVD, isLoud, isPure, isReader, decide_true, bsb, bsf, abuiltin, aextract, Nat.reduceLT, Nat.reduceEqDiff, reduceCtorEq, q0, q1, Nat.zero_add, aload_cell agg3, aload_cell agg43, Heap.ld_of hg1 (k := 0) rfl, Heap.ld_of hg1 (k := 1) rfl, ho1.len, abin_int, ai_lss, decide_eq_true hlt] <;> exact rfl) ?_
    dsimp only [after, leaving]
    repeat refine Wp.seq ?_
    refine Wp.condT (by simp only [bsf, abuiltin, aextract, Nat.reduceLT, Nat.reduceEqDiff, reduceCtorEq]) ?_
    obtain ⟨t, ht⟩ : ∃ t, o[a]? = some t := ⟨_, List.getElem?_eq_getElem (by omega)⟩
    obtain ⟨p, hp1, hp2⟩ := ho1.at ht
    repeat refine Wp.seq ?_
    refine Wp.runSD mixed (by kernel_rfl) (by simp only [runSD, stepOD, stepWD, stepVD, isLoud, isPure, isReader, decide_true, bsb, bsf, abuiltin, aextract, Nat.reduceLT, Nat.reduceEqDiff, reduceCtorEq, q0, q1, Nat.zero_add, aload_cell agg3, aload_cell agg43, Heap.ld_of hg1 (k := 0) rfl, Heap.ld_of hg1 (k := 1) rfl, hp1, hp2, tok_put] <;> exact rfl) ?_
    dsimp only [after, leaving]
    repeat refine Wp.seq ?_
    refine Wp.ret ?_
    dsimp only [after, leaving]
    have hn : nextS o e a = t := by unfold nextS; rw [ht]; rfl
    exact ⟨rfl, rfl, _, ares13 rfl (Heap.get_alloc_new _ _), by rw [hn], fin t⟩
  · repeat refine Wp.seq ?_
    refine Wp.runSD mixed (by kernel_rfl) (by simp only [runSD, stepOD, stepWD, stepVD, isLoud, isPure, isReader, decide_true, bsb, bsf, abuiltin, aextract, Nat.reduceLT, Nat.reduceEqDiff, reduceCtorEq, q0, q1, Nat.zero_add, aload_cell agg3, aload_cell agg43, Heap.ld_of hg1 (k := 0) rfl, Heap.ld_of hg1 (k := 1) rfl, ho1.len, abin_int, ai_lss, decide_eq_false hlt] <;> exact rfl) ?_
    dsimp only [after, leaving]
    repeat refine Wp.seq ?_
    refine Wp.condF (by simp only [bsf, abuiltin, aextract, Nat.reduceLT, Nat.reduceEqDiff, reduceCtorEq]) ?_
    repeat refine Wp.seq ?_
    refine Wp.skip ?_
    dsimp only [after, leaving]
    repeat refine Wp.seq ?_
    refine Wp.runS (by simp only [bsf, abuiltin, aextract, Nat.reduceLT, Nat.reduceEqDiff, reduceCtorEq, q2, Nat.zero_add, aload_cell agg3, Heap.ld_of hg1 (k := 2) rfl, build31, tok_put] <;> exact rfl) ?_
    dsimp only [after, leaving]
    repeat refine Wp.seq ?_
    refine Wp.ret ?_
    dsimp only [after, leaving]
    have hn : nextS o e a = ⟨0, [], 0, e⟩ := by unfold nextS; rw [List.getElem?_eq_none (by omega)]; rfl
    exact ⟨rfl, rfl, _, ares13 rfl (Heap.get_alloc_new _ _), by rw [hn], fin _⟩
theorem next_good (G : Nat) (B : Base Tryd.prog G) (h : Heap) (i : Nat) (v : Value) (o : List Tok) (a e r : Nat) (hg : h.get i = some (rdRow v a e r)) (ho : Toks h v o) : GoodE Tryd.prog B 23 [.pointer (some ⟨i, 0, none⟩)] h (nextS o e a).val h :=
  Does.clean (next_raw G h i v o a e r hg ho) rfl rfl fun _ _ ho => .inl ho
theorem next_does (G : Nat) (B : Base Tryd.prog G) (h : Heap) (i : Nat) (v : Value) (o : List Tok) (a e r : Nat) (hg : h.get i = some (rdRow v a e r)) (ho : Toks h v o) : Does Tryd.prog G (GoodE Tryd.prog B) 23 [.pointer (some ⟨i, 0, none⟩)] h fun x h' => x = .returned (nextS o e a).val ∧ h' = h :=
  (next_good G B h i v o a e r hg ho).does
end Go.Mini
end
section
/-
  PARSE, part B: tokens taken: fail, take, is, must.
-/
set_option linter.unusedSimpArgs false
set_option maxHeartbeats 4000000
set_option maxRecDepth 100000
namespace Go.Mini
open Go.Proofs

theorem ares_cell {P : Program} {fn : Func} {fr : Frm} {h : Heap} {c : Nat} {ty : TypeId} {p v : Value} (hr : fn.results.toList = [.cell c ty]) (s : look c fr.slots = some p) (l : aload P h ty p = some v) : ares P fn fr h = some v := by
  unfold ares
  rw [hr]
  simp only [aresults, aresult, s, Option.bind_some, l]
/-- What is panicked with: an error, and its place. -/
def wrongQ (e p : Nat) : List PanicEntry := [{ v := .iface 59 (.agg #[.int .i64 e, .int .i64 p]), recovered := false }]
theorem build46 (e p : Int) : abuild Tryd.prog 59 [(0, .int .i64 e), (1, .int .i64 p)] = some (.agg #[.int .i64 e, .int .i64 p]) := by kernel_rfl
theorem fail_spec {E : EXT} (G : Nat) (h : Heap) (e p : Nat) : Does Tryd.prog G E 25 [.int .i64 e, .int .i64 p] h (fun x h' => x = .panicked (wrongQ e p) ∧ h' = h) := by
  refine Does.body Tryd.func25 rfl ?_
  have hn : enterF Tryd.f25 [.int .i64 e, .int .i64 p] = ⟨8, [(0, .int .i64 e), (1, .int .i64 p)], []⟩ := rfl
  rw [hn]; clear hn
  repeat refine Wp.seq ?_
  refine Wp.regionAs (is := List.range' 0 4 ++ (4 :: [])) rfl ?_
  refine WpO.runS 4 (by simp only [bsd, bsf, abuiltin, aextract, Nat.reduceLT, Nat.reduceEqDiff, reduceCtorEq, build46, Tryd.underlying59] <;> exact rfl) (by decide) ?_
  refine WpO.panicS (by simp only [bsf, abuiltin, aextract, Nat.reduceLT, Nat.reduceEqDiff, reduceCtorEq] <;> exact rfl) rfl (by simp only [bsf, abuiltin, aextract, Nat.reduceLT, Nat.reduceEqDiff, reduceCtorEq]) ?_
  dsimp only [after, leaving]
  exact ⟨rfl, rfl, rfl, rfl⟩

/-- A reading: a value and how far; or an error and its place. -/
abbrev RdR (α : Type) := Except (Nat × Nat) (α × Nat)
def takeS (o : List Tok) (e k a : Nat) : RdR Tok := if (nextS o e a).kind = k then .ok (nextS o e a, a + 1) else .error (6, (nextS o e a).at')
/-- The reader is at a', all else is as it was. -/
def rdAt (h : Heap) (i : Nat) (v : Value) (e r a' : Nat) : Heap := h.set i (rdRow v a' e r)
theorem rdAt_next (h : Heap) (i : Nat) (v : Value) (e r a' : Nat) : (rdAt h i v e r a').next = h.next := by unfold rdAt; simp
theorem rd_store {H : Heap} {i : Nat} {v : Value} {a e r : Nat} (hg : H.get i = some (rdRow v a e r)) (a' : Nat) : astore Tryd.prog H 3 (.pointer (some ⟨i, 0 + 1, none⟩)) (.int .i64 (a' : Nat)) = some (H.set i (rdRow v a' e r)) := by
  rw [astore_cell sz3 rfl, Heap.sts_of hg (by simp) rfl rfl]; rfl
theorem wrap1 {a : Nat} (ha : a ≤ 1000000) : IntKind.i64.wrap ((a : Int) + 1) = ((a + 1 : Nat) : Int) := by rw [wrap_in (by omega) (by omega)]; omega
theorem rdAt_sc {h : Heap} {i : Nat} {v : Value} {a e r a' : Nat} (hg : h.get i = some (rdRow v a e r)) (hv : scO h.next (rdRow v a' e r)) : ∀ j o, (rdAt h i v e r a').get j = some o → h.get j = some o ∨ scO h.next o := by
  intro j o ho
  unfold rdAt at ho
  by_cases e2 : j = i
  · subst e2
    rw [Heap.get_set_self hg] at ho
    cases ho
    exact .inr hv
  · rw [Heap.get_set_ne e2] at ho; exact .inl ho
/-- What a reading comes to: the value (as g tells it) and the reader; or a panic. -/
def RdOut {α : Type} (g : α → Value) (h : Heap) (i : Nat) (v : Value) (e r : Nat) (R : RdR α) (x : Ending) (h' : Heap) : Prop := match R with
  | .ok (t, a') => x = .returned (g t) ∧ h' = rdAt h i v e r a'
  | .error (c, p) => x = .panicked (wrongQ c p) ∧ h.but i h'
/-- The same of a raw heap. -/
def RdRaw {α : Type} (g : α → Value) (h : Heap) (i : Nat) (v : Value) (e r : Nat) (R : RdR α) (x : Ending) (h' : Heap) : Prop := match R with
  | .ok (t, a') => x = .returned (g t) ∧ h.next ≤ h'.next ∧ ∀ j, j < h.next → h'.get j = (rdAt h i v e r a').get j
  | .error (c, p) => x = .panicked (wrongQ c p) ∧ h.but i h'
theorem RdRaw.out {α : Type} {g : α → Value} (hf : ∀ t, flat (g t) = true) {G : Nat} {B : Base Tryd.prog G} {f : FuncId} {args : List Value} {h : Heap} {i : Nat} {v : Value} {o : List Tok} {a e r : Nat} {R : RdR α} (hg : h.get i = some (rdRow v a e r)) (ho : Toks h v o)
    (hd : Does Tryd.prog G (GoodE Tryd.prog B) f args h (RdRaw g h i v e r R)) : Does Tryd.prog G (GoodE Tryd.prog B) f args h (RdOut g h i v e r R) := by
  cases R with
  | error c => exact hd
  | ok t =>
    obtain ⟨t, a'⟩ := t
    have hsc : scO h.next (rdRow v a' e r) := by
      have hv : sc h.next v := by
        rcases ho with ⟨_, rfl⟩ | ⟨b, r2, hb, _, rfl⟩
        · simp [sc]
        · simp only [sc]; exact Heap.lt_of_get hb
      simp [scO, rdRow, scL, sc, hv]
    exact (Does.clean hd (hf t) (rdAt_next _ _ _ _ _ _) (rdAt_sc hg hsc)).does
theorem take_does (G : Nat) (B : Base Tryd.prog G) (h : Heap) (i : Nat) (v : Value) (o : List Tok) (a e r k : Nat) (hg : h.get i = some (rdRow v a e r)) (ho : Toks h v o) (ha : a ≤ 1000000) :
    Does Tryd.prog G (GoodE Tryd.prog B) 26 [.pointer (some ⟨i, 0, none⟩), .int .i64 k] h (RdOut Tok.val h i v e r (takeS o e k a)) := by
  refine RdRaw.out (fun _ => rfl) hg ho ?_
  have c13 : canEnter Tryd.prog 23 = true := by kernel_rfl
  have c15 : canEnter Tryd.prog 25 = true := by kernel_rfl
  have hi := Heap.lt_of_get hg
  refine Does.body Tryd.func26 rfl ?_
  have hn : enterF Tryd.f26 [.pointer (some ⟨i, 0, none⟩), .int .i64 k] = ⟨23, [(0, .pointer (some ⟨i, 0, none⟩)), (1, .int .i64 k)], []⟩ := rfl
  rw [hn]; clear hn
  repeat refine Wp.seq ?_
  refine Wp.runS (by simp only [bsf, abuiltin, aextract, Nat.reduceLT, Nat.reduceEqDiff, reduceCtorEq, alloc31, Heap.new] <;> exact rfl) ?_
  dsimp only [after, leaving]
  have hg1 : (h.alloc (Tok.row ⟨0, [], 0, 0⟩)).get i = some (rdRow v a e r) := by rw [Heap.get_alloc_old _ _ hi]; exact hg
  have ho1 : Toks (h.alloc (Tok.row ⟨0, [], 0, 0⟩)) v o := ho.more (Heap.more_alloc _ _)
  repeat refine Wp.seq ?_
  refine Wp.regionAs (is := List.range' 0 1 ++ (1 :: (List.range' 2 2 ++ []))) rfl ?_
  refine WpO.runS 1 (by simp only [bsd, bsf, abuiltin, aextract, Nat.reduceLT, Nat.reduceEqDiff, reduceCtorEq] <;> exact rfl) (by decide) ?_
  refine WpO.callR (next_does G B (h.alloc (Tok.row ⟨0, [], 0, 0⟩)) i v o a e r hg1 ho1) rfl (by simp only [bsf, abuiltin, aextract, Nat.reduceLT, Nat.reduceEqDiff, reduceCtorEq, c13]) (by simp only [calleeOf, fnOf, List.append_nil, List.nil_append, bsf, abuiltin, aextract, Nat.reduceLT, Nat.reduceEqDiff, reduceCtorEq, c13] <;> exact rfl) ?_
  rintro _ h9 ⟨rfl, hh9⟩
  obtain rfl := hh9.symm
  clear hh9
  refine ⟨_, _, rfl, by simp only [bsf, abuiltin, aextract, Nat.reduceLT, Nat.reduceEqDiff, reduceCtorEq]; exact rfl, ?_⟩
  refine WpO.runS 2 (by simp only [bsd, bsf, abuiltin, aextract, Nat.reduceLT, Nat.reduceEqDiff, reduceCtorEq, alloc31, Heap.new, tok_put] <;> exact rfl) (by decide) ?_
  refine WpO.nil ?_
  dsimp only [after, leaving]
  unfold takeS
  generalize nextS o e a = t
  have gy : ((h.alloc (Tok.row ⟨0, [], 0, 0⟩)).alloc t.row).get (h.next + 1) = some t.row := Heap.get_alloc_new _ _
  have gx : ((h.alloc (Tok.row ⟨0, [], 0, 0⟩)).alloc t.row).get h.next = some (Tok.row ⟨0, [], 0, 0⟩) := by rw [Heap.get_alloc_old _ _ (by simp)]; exact Heap.get_alloc_new _ _
  have gi : ((h.alloc (Tok.row ⟨0, [], 0, 0⟩)).alloc t.row).get i = some (rdRow v a e r) := by rw [Heap.get_alloc_old _ _ (by simp; omega)]; exact hg1
  have hold : ∀ j, j < h.next → ((h.alloc (Tok.row ⟨0, [], 0, 0⟩)).alloc t.row).get j = h.get j := fun j hj => by rw [Heap.get_alloc_old _ _ (by simp; omega), Heap.get_alloc_old _ _ hj]
  generalize hH : (h.alloc (Tok.row ⟨0, [], 0, 0⟩)).alloc t.row = H at gy gx gi hold
  have hHn : H.next = h.next + 2 := by rw [← hH]; rfl
  by_cases hk : t.kind = k
  · rw [if_pos hk]
    have hb : ((t.kind : Int) != (k : Int)) = false := by rw [hk]; simp
    repeat refine Wp.seq ?_
    refine Wp.runS (by simp only [bsf, abuiltin, aextract, Nat.reduceLT, Nat.reduceEqDiff, reduceCtorEq, Heap.next_alloc, t0, aload_cell agg3, Heap.ld_of gy (k := 0) rfl, abin_int, ai_neq, hb] <;> exact rfl) ?_
    dsimp only [after, leaving]
    repeat refine Wp.seq ?_
    refine Wp.condF (by simp only [bsf, abuiltin, aextract, Nat.reduceLT, Nat.reduceEqDiff, reduceCtorEq]) ?_
    repeat refine Wp.seq ?_
    refine Wp.skip ?_
    dsimp only [after, leaving]
    repeat refine Wp.seq ?_
    refine Wp.runS (by simp only [bsf, abuiltin, aextract, Nat.reduceLT, Nat.reduceEqDiff, reduceCtorEq, q1, Nat.zero_add, aload_cell agg3, Heap.ld_of gi (k := 1) rfl, abin_int, ai_add, wrap1 ha, rd_store gi] <;> exact rfl) ?_
    dsimp only [after, leaving]
    have gy2 : (H.set i (rdRow v (a + 1) e r)).get (h.next + 1) = some t.row := by rw [Heap.get_set_ne (by omega)]; exact gy
    have gx2 : (H.set i (rdRow v (a + 1) e r)).get h.next = some (Tok.row ⟨0, [], 0, 0⟩) := by rw [Heap.get_set_ne (by omega)]; exact gx
    repeat refine Wp.seq ?_
    refine Wp.runS (by simp only [bsf, abuiltin, aextract, Nat.reduceLT, Nat.reduceEqDiff, reduceCtorEq, Heap.next_alloc, tok_load gy2, tok_all gx2] <;> exact rfl) ?_
    dsimp only [after, leaving]
    repeat refine Wp.seq ?_
    refine Wp.ret ?_
    dsimp only [after, leaving]
    refine ⟨rfl, rfl, _, ares_cell rfl rfl (tok_load (Heap.get_set_self gx2)), rfl, by simp [hHn], fun j hj => ?_⟩
    unfold rdAt
    rw [Heap.get_set_ne (by omega)]
    by_cases e2 : j = i
    · subst e2; rw [Heap.get_set_self gi, Heap.get_set_self hg]
    · rw [Heap.get_set_ne e2, Heap.get_set_ne e2]; exact hold j hj
  · rw [if_neg hk]
    have hb : ((t.kind : Int) != (k : Int)) = true := by rw [bne_iff_ne]; omega
    repeat refine Wp.seq ?_
    refine Wp.runS (by simp only [bsf, abuiltin, aextract, Nat.reduceLT, Nat.reduceEqDiff, reduceCtorEq, Heap.next_alloc, t0, aload_cell agg3, Heap.ld_of gy (k := 0) rfl, abin_int, ai_neq, hb] <;> exact rfl) ?_
    dsimp only [after, leaving]
    repeat refine Wp.seq ?_
    refine Wp.condT (by simp only [bsf, abuiltin, aextract, Nat.reduceLT, Nat.reduceEqDiff, reduceCtorEq]) ?_
    repeat refine Wp.seq ?_
    refine Wp.regionAs (is := List.range' 0 2 ++ (2 :: [])) rfl ?_
    refine WpO.runS 2 (by simp only [bsd, bsf, abuiltin, aextract, Nat.reduceLT, Nat.reduceEqDiff, reduceCtorEq, Heap.next_alloc, t3, Nat.zero_add, aload_cell agg3, Heap.ld_of gy (k := 3) rfl] <;> exact rfl) (by decide) ?_
    refine WpO.callS rfl (by simp only [bsf, abuiltin, aextract, Nat.reduceLT, Nat.reduceEqDiff, reduceCtorEq, c15]) (by simp only [calleeOf, fnOf, List.append_nil, List.nil_append, bsf, abuiltin, aextract, Nat.reduceLT, Nat.reduceEqDiff, reduceCtorEq, c15] <;> exact rfl) ((fail_spec G H 6 t.at').mono ?_)
    intro x h2 hr
    obtain ⟨rfl, rfl⟩ := hr
    exact ⟨rfl, rfl, rfl, by omega, fun j hj _ => hold j hj⟩
end Go.Mini
end
