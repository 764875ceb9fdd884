/-
  LEX, part B: the reader: peek; the bytes of a word.
-/
import Derived.Test.YtomndnhkgfeiiaaGreatDoorKLexA
import Derived.Test.YtomndnhkgfeiiaaGreatDoorMiniOtoYK
set_option linter.unusedSimpArgs false
set_option maxHeartbeats 1000000
set_option maxRecDepth 100000
namespace Go.Mini
open Go.Proofs

theorem agg3 : Program.agg Tryz.prog 3 = some false := by kernel_rfl
theorem agg9 : Program.agg Tryz.prog 9 = some false := by kernel_rfl
theorem agg24 : Program.agg Tryz.prog 208 = some false := by kernel_rfl
theorem sz3 : (Tryz.prog.info? 3).map (·.size) = some 1 := by kernel_rfl
theorem sz9 : (Tryz.prog.info? 9).map (·.size) = some 1 := by kernel_rfl
theorem r0 (i k : Nat) : afieldAddr Tryz.prog 274 (.pointer (some ⟨i, k, none⟩)) 0 = some (.pointer (some ⟨i, k, none⟩)) :=
  afieldAddr_eq (f := 0) (o := 0) Tryz.underlying274 (by rfl) (s := 0) (by kernel_rfl) i k
theorem r1 (i k : Nat) : afieldAddr Tryz.prog 274 (.pointer (some ⟨i, k, none⟩)) 1 = some (.pointer (some ⟨i, k + 1, none⟩)) :=
  afieldAddr_eq Tryz.underlying274 (by rfl) (s := 0) (by kernel_rfl) i k
theorem r2 (i k : Nat) : afieldAddr Tryz.prog 274 (.pointer (some ⟨i, k, none⟩)) 2 = some (.pointer (some ⟨i, k + 2, none⟩)) :=
  afieldAddr_eq Tryz.underlying274 (by rfl) (s := 0) (by kernel_rfl) i k

/-- The reader in memory. -/
def readerRow (T : List UInt8) (at' : Nat) (out : Value) : AObj := .row { vs := [.string (bs T), .int .i64 at', out, .int .i64 0, .int .i64 0], elem := 274 }
def peekB (T : List UInt8) (at' : Nat) : UInt8 := (T[at']?).getD 10
theorem aindexS_bs {T : List UInt8} {j : Nat} {b : UInt8} (h : T[j]? = some b) : aindexS (bs T) (j : Int) = some (byteV b) := by
  unfold aindexS
  rw [if_pos (by omega), Int.toNat_natCast]
  have : (bs T)[j]? = some b := by
    have hj := (List.getElem?_eq_some_iff.1 h).1
    rw [getElem?_pos (bs T) j (by simpa using hj)]
    have := (List.getElem?_eq_some_iff.1 h).2
    simp [bs, ByteArray.getElem_eq_getElem_data, this]
  rw [this]; rfl
theorem aindex_bs {P : Program} {t : TypeId} (hu : P.underlying t = some .string) {T : List UInt8} {j : Nat} {b : UInt8} {kd : IntKind} (h : T[j]? = some b) : aindex P t (.string (bs T)) (.int kd (j : Int)) = some (byteV b) := by
  unfold aindex
  simp only [hu, aindexS_bs h]

theorem peek_spec {E : EXT} (G : Nat) (h : Heap) (i : Nat) (T : List UInt8) (at' : Nat) (out : Value) (hg : h.get i = some (readerRow T at' out)) :
    Does Tryz.prog G E 132 [.pointer (some ⟨i, 0, none⟩)] h (fun r h' => r = .returned (byteV (peekB T at')) ∧ h' = h) := by
  refine Does.body Tryz.func132 rfl ?_
  have hn : enterF Tryz.f132 [.pointer (some ⟨i, 0, none⟩)] = ⟨22, [(0, .pointer (some ⟨i, 0, none⟩))], []⟩ := rfl
  rw [hn]; clear hn
  repeat refine Wp.seq ?_
  refine Wp.runS (by simp only [runS, stepO, stepW, stepV, keep, guardOf, wantG, wantV, aop, binA, aev, flat, if_true, if_false, Option.bind_some, Option.map_some, Frm.put, look, setk, Nat.reduceLT, Nat.reduceEqDiff, evs, evp, evo, List.getElem?_toArray, List.getElem?_cons_succ, List.getElem?_cons_zero, Bool.false_eq_true, Bool.true_eq_false, beq_self_eq_true, beq_ft, beq_tf, notNil, Bool.not_true, Bool.not_false, reduceCtorEq, abuiltin, aextract] <;> exact rfl) ?_
  dsimp only [after, leaving]
  by_cases hlt : (at' : Int) < (T.length : Int)
  · repeat refine Wp.seq ?_
    refine Wp.runSD mixed (by kernel_rfl) (by simp only [runSD, stepOD, stepWD, stepVD, isLoud, isPure, isReader, decide_true, Bool.or_true, Bool.true_or, Bool.or_self, Bool.and_self, Bool.and_true, Bool.and_false, Heap.next_set, Heap.next_alloc, runS, stepO, stepW, stepV, keep, guardOf, wantG, wantV, aop, binA, aev, flat, if_true, if_false, Option.bind_some, Option.map_some, Frm.put, look, setk, Nat.reduceLT, Nat.reduceEqDiff, evs, evp, evo, List.getElem?_toArray, List.getElem?_cons_succ, List.getElem?_cons_zero, Bool.false_eq_true, Bool.true_eq_false, beq_self_eq_true, beq_ft, beq_tf, notNil, Bool.not_true, Bool.not_false, reduceCtorEq, abuiltin, aextract, r0, r1, Nat.zero_add, aload_cell agg3, aload_cell agg9, Heap.ld_of hg (k := 0) rfl, Heap.ld_of hg (k := 1) rfl, alen_str Tryz.underlying9, bs_size, abin_int, ai_lss, decide_eq_true hlt] <;> exact rfl) ?_
    dsimp only [after, leaving]
    repeat refine Wp.seq ?_
    refine Wp.condT (by simp only [runS, stepO, stepW, stepV, keep, guardOf, wantG, wantV, aop, binA, aev, flat, if_true, if_false, Option.bind_some, Option.map_some, Frm.put, look, setk, Nat.reduceLT, Nat.reduceEqDiff, evs, evp, evo, List.getElem?_toArray, List.getElem?_cons_succ, List.getElem?_cons_zero, Bool.false_eq_true, Bool.true_eq_false, beq_self_eq_true, beq_ft, beq_tf, notNil, Bool.not_true, Bool.not_false, reduceCtorEq, abuiltin, aextract]) ?_
    obtain ⟨b, hb⟩ : ∃ b, T[at']? = some b := ⟨_, List.getElem?_eq_getElem (by omega)⟩
    repeat refine Wp.seq ?_
    refine Wp.runSD mixed (by kernel_rfl) (by simp only [runSD, stepOD, stepWD, stepVD, isLoud, isPure, isReader, decide_true, Bool.or_true, Bool.true_or, Bool.or_self, Bool.and_self, Bool.and_true, Bool.and_false, Heap.next_set, Heap.next_alloc, runS, stepO, stepW, stepV, keep, guardOf, wantG, wantV, aop, binA, aev, flat, if_true, if_false, Option.bind_some, Option.map_some, Frm.put, look, setk, Nat.reduceLT, Nat.reduceEqDiff, evs, evp, evo, List.getElem?_toArray, List.getElem?_cons_succ, List.getElem?_cons_zero, Bool.false_eq_true, Bool.true_eq_false, beq_self_eq_true, beq_ft, beq_tf, notNil, Bool.not_true, Bool.not_false, reduceCtorEq, abuiltin, aextract, r0, r1, Nat.zero_add, aload_cell agg3, aload_cell agg9, Heap.ld_of hg (k := 0) rfl, Heap.ld_of hg (k := 1) rfl, aindex_bs Tryz.underlying9 hb] <;> exact rfl) ?_
    dsimp only [after, leaving]
    repeat refine Wp.seq ?_
    refine Wp.ret ?_
    dsimp only [after, leaving]
    refine ⟨rfl, rfl, _, rfl, ?_, rfl⟩
    unfold peekB; rw [hb]; rfl
  · repeat refine Wp.seq ?_
    refine Wp.runSD mixed (by kernel_rfl) (by simp only [runSD, stepOD, stepWD, stepVD, isLoud, isPure, isReader, decide_true, Bool.or_true, Bool.true_or, Bool.or_self, Bool.and_self, Bool.and_true, Bool.and_false, Heap.next_set, Heap.next_alloc, runS, stepO, stepW, stepV, keep, guardOf, wantG, wantV, aop, binA, aev, flat, if_true, if_false, Option.bind_some, Option.map_some, Frm.put, look, setk, Nat.reduceLT, Nat.reduceEqDiff, evs, evp, evo, List.getElem?_toArray, List.getElem?_cons_succ, List.getElem?_cons_zero, Bool.false_eq_true, Bool.true_eq_false, beq_self_eq_true, beq_ft, beq_tf, notNil, Bool.not_true, Bool.not_false, reduceCtorEq, abuiltin, aextract, r0, r1, Nat.zero_add, aload_cell agg3, aload_cell agg9, Heap.ld_of hg (k := 0) rfl, Heap.ld_of hg (k := 1) rfl, alen_str Tryz.underlying9, bs_size, abin_int, ai_lss, decide_eq_false hlt] <;> exact rfl) ?_
    dsimp only [after, leaving]
    repeat refine Wp.seq ?_
    refine Wp.condF (by simp only [runS, stepO, stepW, stepV, keep, guardOf, wantG, wantV, aop, binA, aev, flat, if_true, if_false, Option.bind_some, Option.map_some, Frm.put, look, setk, Nat.reduceLT, Nat.reduceEqDiff, evs, evp, evo, List.getElem?_toArray, List.getElem?_cons_succ, List.getElem?_cons_zero, Bool.false_eq_true, Bool.true_eq_false, beq_self_eq_true, beq_ft, beq_tf, notNil, Bool.not_true, Bool.not_false, reduceCtorEq, abuiltin, aextract]) ?_
    repeat refine Wp.seq ?_
    refine Wp.skip ?_
    dsimp only [after, leaving]
    repeat refine Wp.seq ?_
    refine Wp.runS (by simp only [runS, stepO, stepW, stepV, keep, guardOf, wantG, wantV, aop, binA, aev, flat, if_true, if_false, Option.bind_some, Option.map_some, Frm.put, look, setk, Nat.reduceLT, Nat.reduceEqDiff, evs, evp, evo, List.getElem?_toArray, List.getElem?_cons_succ, List.getElem?_cons_zero, Bool.false_eq_true, Bool.true_eq_false, beq_self_eq_true, beq_ft, beq_tf, notNil, Bool.not_true, Bool.not_false, reduceCtorEq, abuiltin, aextract] <;> exact rfl) ?_
    dsimp only [after, leaving]
    repeat refine Wp.seq ?_
    refine Wp.ret ?_
    dsimp only [after, leaving]
    refine ⟨rfl, rfl, _, rfl, ?_, rfl⟩
    unfold peekB; rw [List.getElem?_eq_none (by omega)]; rfl
end Go.Mini
