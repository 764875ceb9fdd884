/-
  LEX, part D: run: bytes that may be.
-/
import Derived.Test.YtomndnhkgfeiiaaGreatDoorKLexB
import Derived.Test.YtomndnhkgfeiiaaGreatDoorMiniOtoYK
set_option linter.unusedSimpArgs false
set_option maxHeartbeats 4000000
set_option maxRecDepth 100000
namespace Go.Mini
open Go.Proofs

/-- The bytes from a place on that may be, at most so many. -/
def runP (p : UInt8 → Bool) (most : Nat) (T : List UInt8) (at' : Nat) : List UInt8 × Bool × Nat :=
  if most < ((T.drop at').takeWhile p).length then ([], false, at' + most) else ((T.drop at').takeWhile p, true, at' + ((T.drop at').takeWhile p).length)
theorem takeWhile_at (p : UInt8 → Bool) : ∀ (l : List UInt8) (j : Nat), j < (l.takeWhile p).length → ∃ b, l[j]? = some b ∧ p b = true
  | [], j, h => by simp at h
  | x :: l, j, h => by
    rw [List.takeWhile_cons] at h
    split at h
    · rename_i hx
      cases j with
      | zero => exact ⟨x, rfl, hx⟩
      | succ j => exact takeWhile_at p l j (by simpa using h)
    · simp at h
theorem takeWhile_end (p : UInt8 → Bool) : ∀ (l : List UInt8), l[(l.takeWhile p).length]? = none ∨ ∃ b, l[(l.takeWhile p).length]? = some b ∧ p b = false
  | [] => .inl rfl
  | x :: l => by
    rw [List.takeWhile_cons]
    split
    · simpa using takeWhile_end p l
    · rename_i hx
      exact .inr ⟨x, rfl, by simpa using hx⟩
theorem storeAt {h : Heap} {i : Nat} {T : List UInt8} {a b : Nat} {out : Value} (hg : h.get i = some (readerRow T a out)) :
    astore Tryz.prog h 3 (.pointer (some ⟨i, 1, none⟩)) (.int .i64 (b : Nat)) = some (h.set i (readerRow T b out)) := by
  rw [astore_cell sz3 rfl, Heap.sts_of hg (by simp) rfl rfl]
  rfl

theorem run_spec {E : EXT} (G : Nat) (h : Heap) (i : Nat) (T : List UInt8) (at' most : Nat) (out : Value) (g : FuncId) (p : UInt8 → Bool) (hT : T.length ≤ 1000000) (hat : at' ≤ T.length) (hm : most ≤ 1000000) (hg : h.get i = some (readerRow T at' out))
    (hc : canEnter Tryz.prog g = true) (hp : ∀ b h, Does Tryz.prog G E g [byteV b] h (fun r h' => r = .returned (.bool (p b)) ∧ h' = h)) :
    Does Tryz.prog G E 155 [.pointer (some ⟨i, 0, none⟩), .int .i64 most, .func (.func g) #[] #[]] h (fun r h' => r = .returned (.tuple #[.string (bs (runP p most T at').1), .bool (runP p most T at').2.1]) ∧ h' = h.set i (readerRow T (runP p most T at').2.2 out)) := by
  refine Does.body Tryz.func155 rfl ?_
  have hn : enterF Tryz.f155 [.pointer (some ⟨i, 0, none⟩), .int .i64 most, .func (.func g) #[] #[]] = ⟨61, [(0, .pointer (some ⟨i, 0, none⟩)), (1, .int .i64 most), (2, .func (.func g) #[] #[])], []⟩ := rfl
  rw [hn]; clear hn
  repeat refine Wp.seq ?_
  refine Wp.runS (by simp only [runS, stepO, stepW, stepV, keep, guardOf, wantG, wantV, aop, binA, aev, flat, if_true, if_false, Option.bind_some, Option.map_some, Frm.put, look, setk, Nat.reduceLT, Nat.reduceEqDiff, evs, evp, evo, List.getElem?_toArray, List.getElem?_cons_succ, List.getElem?_cons_zero, Bool.false_eq_true, Bool.true_eq_false, beq_self_eq_true, beq_ft, beq_tf, notNil, Bool.not_true, Bool.not_false, reduceCtorEq, abuiltin, aextract] <;> exact rfl) ?_
  dsimp only [after, leaving]
  repeat refine Wp.seq ?_
  refine Wp.runS (by simp only [runS, stepO, stepW, stepV, keep, guardOf, wantG, wantV, aop, binA, aev, flat, if_true, if_false, Option.bind_some, Option.map_some, Frm.put, look, setk, Nat.reduceLT, Nat.reduceEqDiff, evs, evp, evo, List.getElem?_toArray, List.getElem?_cons_succ, List.getElem?_cons_zero, Bool.false_eq_true, Bool.true_eq_false, beq_self_eq_true, beq_ft, beq_tf, notNil, Bool.not_true, Bool.not_false, reduceCtorEq, abuiltin, aextract, r1, Nat.zero_add, aload_cell agg3, Heap.ld_of hg (k := 1) rfl] <;> exact rfl) ?_
  dsimp only [after, leaving]
  generalize hw : (T.drop at').takeWhile p = w
  have hwl : w.length ≤ T.length - at' := by
    rw [← hw]
    have := (List.takeWhile_prefix p (l := T.drop at')).length_le
    rwa [List.length_drop] at this
  have hin : ∀ j, j < w.length → ∃ b, T[at' + j]? = some b ∧ p b = true := by
    intro j hj
    obtain ⟨b, h1, h2⟩ := takeWhile_at p (T.drop at') j (by rw [hw]; exact hj)
    exact ⟨b, by rw [← List.getElem?_drop]; exact h1, h2⟩
  have hend : T.length ≤ at' + w.length ∨ ∃ b, T[at' + w.length]? = some b ∧ p b = false := by
    have := takeWhile_end p (T.drop at')
    rw [hw, List.getElem?_drop] at this
    rcases this with h1 | h1
    · exact .inl (List.getElem?_eq_none_iff.1 h1)
    · exact .inr h1
  refine Wp.join (fun fr u h' => u = none ∧ w.length ≤ most ∧ h' = h.set i (readerRow T (at' + w.length) out) ∧ ∃ s, fr = ⟨61, s, []⟩ ∧ look 0 s = some (.pointer (some ⟨i, 0, none⟩)) ∧ look 8 s = some (.int .i64 (at' : Nat))) ?_ ?_
  · rintro fr u h' ⟨rfl, hle, rfl, s, rfl, s0, s8⟩
    refine Wp.weaken (fr' := ⟨61, [(0, .pointer (some ⟨i, 0, none⟩)), (8, .int .i64 (at' : Nat))], []⟩) (Frm.le_of ⟨s0, s8, trivial⟩) ?_
    have hg' : (h.set i (readerRow T (at' + w.length) out)).get i = some (readerRow T (at' + w.length) out) := Heap.get_set_self hg
    have hr : runP p most T at' = (w, true, at' + w.length) := by unfold runP; rw [hw, if_neg (by omega)]
    have hsl : ∀ H, aslice Tryz.prog H 9 (.string (bs T)) (some (.int .i64 (at' : Int))) (some (.int .i64 ((at' + w.length : Nat) : Int))) none = some (.string (bs w), H) := by
      intro H
      rw [aslice_str2 Tryz.underlying9 (by omega) (by omega) (by simp only [bs_size]; omega), Int.toNat_natCast, Int.toNat_natCast, bs_extract, Nat.add_sub_cancel_left]
      have : (T.drop at').take w.length = w := by
        have h1 := List.prefix_iff_eq_take.1 (List.takeWhile_prefix p (l := T.drop at'))
        rw [hw] at h1
        exact h1.symm
      rw [this]
    repeat refine Wp.seq ?_
    refine Wp.runSD mixed (by kernel_rfl) (by simp only [runSD, stepOD, stepWD, stepVD, isLoud, isPure, isReader, decide_true, Bool.or_true, Bool.true_or, Bool.or_self, Bool.and_self, Bool.and_true, Bool.and_false, Heap.next_set, Heap.next_alloc, runS, stepO, stepW, stepV, keep, guardOf, wantG, wantV, aop, binA, aev, flat, if_true, if_false, Option.bind_some, Option.map_some, Frm.put, look, setk, Nat.reduceLT, Nat.reduceEqDiff, evs, evp, evo, List.getElem?_toArray, List.getElem?_cons_succ, List.getElem?_cons_zero, Bool.false_eq_true, Bool.true_eq_false, beq_self_eq_true, beq_ft, beq_tf, notNil, Bool.not_true, Bool.not_false, reduceCtorEq, abuiltin, aextract, r0, r1, Nat.zero_add, aload_cell agg3, aload_cell agg9, Heap.ld_of hg' (k := 0) rfl, Heap.ld_of hg' (k := 1) rfl, hsl] <;> exact rfl) ?_
    dsimp only [after, leaving]
    repeat refine Wp.seq ?_
    refine Wp.ret ?_
    dsimp only [after, leaving]
    exact ⟨rfl, rfl, _, rfl, by rw [hr], by rw [hr]⟩
  · refine Wp.block ?_
    refine Wp.loopI (X := Nat) (fun j => [(0, .pointer (some ⟨i, 0, none⟩)), (1, .int .i64 most), (2, .func (.func g) #[] #[]), (8, .int .i64 (at' : Nat))]) (fun j => h.set i (readerRow T (at' + j) out))
      (fun j => j ≤ w.length ∧ j ≤ most) (fun j => w.length - j) 0 ⟨by omega, by omega⟩ ⟨rfl, rfl, rfl, rfl, trivial⟩ (Heap.set_same hg) ?_
    rintro j ⟨hj, hjm⟩
    have hgj : (h.set i (readerRow T (at' + j) out)).get i = some (readerRow T (at' + j) out) := Heap.get_set_self hg
    generalize hH : h.set i (readerRow T (at' + j) out) = H at hgj ⊢
    by_cases hlt : ((at' + j : Nat) : Int) < (T.length : Int)
    · obtain ⟨b, hb⟩ : ∃ b, T[at' + j]? = some b := ⟨_, List.getElem?_eq_getElem (by omega)⟩
      repeat refine Wp.seq ?_
      refine Wp.drawAs [] [] 0 (fun _ => True) mixed (by kernel_rfl) trivial ?_
      refine DrT.run 21 (by simp only [List.take_succ_cons, List.take_zero, runSD, stepOD, stepWD, stepVD, isLoud, isPure, isReader, isEqOp, isConstO, decide_true, Bool.or_true, Bool.true_or, Bool.or_self, Bool.and_self, Bool.and_true, Bool.and_false, Bool.false_and, Bool.true_and, Heap.next_set, Heap.next_alloc, runS, stepO, stepW, stepV, keep, guardOf, wantG, wantV, aop, binA, aev, flat, if_true, if_false, Option.bind_some, Option.map_some, Frm.put, look, setk, Nat.reduceLT, Nat.reduceEqDiff, evs, evp, evo, List.getElem?_toArray, List.getElem?_cons_succ, List.getElem?_cons_zero, Bool.false_eq_true, Bool.true_eq_false, beq_self_eq_true, beq_ft, beq_tf, notNil, Bool.not_true, Bool.not_false, reduceCtorEq, abuiltin, aextract, r0, r1, Nat.zero_add, aload_cell agg3, aload_cell agg9, Heap.ld_of hgj (k := 0) rfl, Heap.ld_of hgj (k := 1) rfl, alen_str Tryz.underlying9, bs_size, abin_int, ai_lss, decide_eq_true hlt, aindex_bs Tryz.underlying9 hb] <;> exact rfl) rfl ?_
      try simp only [List.drop_succ_cons, List.drop_zero]
      refine DrT.call (hp b H) rfl rfl (by simp only [runS, stepO, stepW, stepV, keep, guardOf, wantG, wantV, aop, binA, aev, flat, if_true, if_false, Option.bind_some, Option.map_some, Frm.put, look, setk, Nat.reduceLT, Nat.reduceEqDiff, evs, evp, evo, List.getElem?_toArray, List.getElem?_cons_succ, List.getElem?_cons_zero, Bool.false_eq_true, Bool.true_eq_false, beq_self_eq_true, beq_ft, beq_tf, notNil, Bool.not_true, Bool.not_false, reduceCtorEq, abuiltin, aextract]) (by simp only [calleeOf, fnOf, List.append_nil, List.nil_append, runS, stepO, stepW, stepV, keep, guardOf, wantG, wantV, aop, binA, aev, flat, if_true, if_false, Option.bind_some, Option.map_some, Frm.put, look, setk, Nat.reduceLT, Nat.reduceEqDiff, evs, evp, evo, List.getElem?_toArray, List.getElem?_cons_succ, List.getElem?_cons_zero, Bool.false_eq_true, Bool.true_eq_false, beq_self_eq_true, beq_ft, beq_tf, notNil, Bool.not_true, Bool.not_false, reduceCtorEq, abuiltin, aextract, hc] <;> exact rfl) ?_
      rintro _ h9 ⟨rfl, hh9⟩
      obtain rfl := hh9.symm
      clear hh9
      refine ⟨_, _, rfl, fun _ => trivial, by simp only [runS, stepO, stepW, stepV, keep, guardOf, wantG, wantV, aop, binA, aev, flat, if_true, if_false, Option.bind_some, Option.map_some, Frm.put, look, setk, Nat.reduceLT, Nat.reduceEqDiff, evs, evp, evo, List.getElem?_toArray, List.getElem?_cons_succ, List.getElem?_cons_zero, Bool.false_eq_true, Bool.true_eq_false, beq_self_eq_true, beq_ft, beq_tf, notNil, Bool.not_true, Bool.not_false, reduceCtorEq, abuiltin, aextract]; exact rfl, ?_⟩
      cases hpb : p b with
      | true =>
        have hjw : j < w.length := by
          rcases Nat.lt_or_ge j w.length with q | q
          · exact q
          · obtain rfl : j = w.length := by omega
            rcases hend with q2 | ⟨b2, q2, q3⟩
            · omega
            · rw [hb] at q2; cases q2; rw [hpb] at q3; cases q3
        refine DrT.run 1 (by simp only [List.take_succ_cons, List.take_zero, runSD, stepOD, stepWD, stepVD, isLoud, isPure, isReader, isEqOp, isConstO, decide_true, Bool.or_true, Bool.true_or, Bool.or_self, Bool.and_self, Bool.and_true, Bool.and_false, Bool.false_and, Bool.true_and, Heap.next_set, Heap.next_alloc, runS, stepO, stepW, stepV, keep, guardOf, wantG, wantV, aop, binA, aev, flat, if_true, if_false, Option.bind_some, Option.map_some, Frm.put, look, setk, Nat.reduceLT, Nat.reduceEqDiff, evs, evp, evo, List.getElem?_toArray, List.getElem?_cons_succ, List.getElem?_cons_zero, Bool.false_eq_true, Bool.true_eq_false, beq_self_eq_true, beq_ft, beq_tf, notNil, Bool.not_true, Bool.not_false, reduceCtorEq, abuiltin, aextract] <;> exact rfl) rfl ?_
        try simp only [List.drop_succ_cons, List.drop_zero]
        refine DrT.nil ?_
        dsimp only [after, leaving]
        repeat refine Wp.seq ?_
        refine Wp.condT (by simp only [runS, stepO, stepW, stepV, keep, guardOf, wantG, wantV, aop, binA, aev, flat, if_true, if_false, Option.bind_some, Option.map_some, Frm.put, look, setk, Nat.reduceLT, Nat.reduceEqDiff, evs, evp, evo, List.getElem?_toArray, List.getElem?_cons_succ, List.getElem?_cons_zero, Bool.false_eq_true, Bool.true_eq_false, beq_self_eq_true, beq_ft, beq_tf, notNil, Bool.not_true, Bool.not_false, reduceCtorEq, abuiltin, aextract]) ?_
        repeat refine Wp.seq ?_
        refine Wp.skip ?_
        dsimp only [after, leaving]
        repeat refine Wp.seq ?_
        refine Wp.block ?_
        have hws : IntKind.i64.wrap (((at' + j : Nat) : Int) - (at' : Int)) = (j : Int) := by rw [wrap_in (by omega) (by omega)]; omega
        by_cases hjm2 : j = most
        · have he : ((j : Int) == (most : Int)) = true := by simp [hjm2]
          repeat refine Wp.seq ?_
          refine Wp.runS (by simp only [runS, stepO, stepW, stepV, keep, guardOf, wantG, wantV, aop, binA, aev, flat, if_true, if_false, Option.bind_some, Option.map_some, Frm.put, look, setk, Nat.reduceLT, Nat.reduceEqDiff, evs, evp, evo, List.getElem?_toArray, List.getElem?_cons_succ, List.getElem?_cons_zero, Bool.false_eq_true, Bool.true_eq_false, beq_self_eq_true, beq_ft, beq_tf, notNil, Bool.not_true, Bool.not_false, reduceCtorEq, abuiltin, aextract, r1, Nat.zero_add, aload_cell agg3, Heap.ld_of hgj (k := 1) rfl, abin_int, ai_sub, hws, ai_eql, he] <;> exact rfl) ?_
          dsimp only [after, leaving]
          repeat refine Wp.seq ?_
          refine Wp.condT (by simp only [runS, stepO, stepW, stepV, keep, guardOf, wantG, wantV, aop, binA, aev, flat, if_true, if_false, Option.bind_some, Option.map_some, Frm.put, look, setk, Nat.reduceLT, Nat.reduceEqDiff, evs, evp, evo, List.getElem?_toArray, List.getElem?_cons_succ, List.getElem?_cons_zero, Bool.false_eq_true, Bool.true_eq_false, beq_self_eq_true, beq_ft, beq_tf, notNil, Bool.not_true, Bool.not_false, reduceCtorEq, abuiltin, aextract]) ?_
          repeat refine Wp.seq ?_
          refine Wp.runS (by simp only [runS, stepO, stepW, stepV, keep, guardOf, wantG, wantV, aop, binA, aev, flat, if_true, if_false, Option.bind_some, Option.map_some, Frm.put, look, setk, Nat.reduceLT, Nat.reduceEqDiff, evs, evp, evo, List.getElem?_toArray, List.getElem?_cons_succ, List.getElem?_cons_zero, Bool.false_eq_true, Bool.true_eq_false, beq_self_eq_true, beq_ft, beq_tf, notNil, Bool.not_true, Bool.not_false, reduceCtorEq, abuiltin, aextract] <;> exact rfl) ?_
          dsimp only [after, leaving]
          repeat refine Wp.seq ?_
          refine Wp.ret ?_
          dsimp only [after, leaving]
          have hr : runP p most T at' = ([], false, at' + most) := by unfold runP; rw [hw, if_pos (by omega)]
          exact ⟨rfl, rfl, _, rfl, by rw [hr]; rfl, by rw [hr, ← hH, hjm2]⟩
        · have he : ((j : Int) == (most : Int)) = false := by simp; omega
          repeat refine Wp.seq ?_
          refine Wp.runS (by simp only [runS, stepO, stepW, stepV, keep, guardOf, wantG, wantV, aop, binA, aev, flat, if_true, if_false, Option.bind_some, Option.map_some, Frm.put, look, setk, Nat.reduceLT, Nat.reduceEqDiff, evs, evp, evo, List.getElem?_toArray, List.getElem?_cons_succ, List.getElem?_cons_zero, Bool.false_eq_true, Bool.true_eq_false, beq_self_eq_true, beq_ft, beq_tf, notNil, Bool.not_true, Bool.not_false, reduceCtorEq, abuiltin, aextract, r1, Nat.zero_add, aload_cell agg3, Heap.ld_of hgj (k := 1) rfl, abin_int, ai_sub, hws, ai_eql, he] <;> exact rfl) ?_
          dsimp only [after, leaving]
          repeat refine Wp.seq ?_
          refine Wp.condF (by simp only [runS, stepO, stepW, stepV, keep, guardOf, wantG, wantV, aop, binA, aev, flat, if_true, if_false, Option.bind_some, Option.map_some, Frm.put, look, setk, Nat.reduceLT, Nat.reduceEqDiff, evs, evp, evo, List.getElem?_toArray, List.getElem?_cons_succ, List.getElem?_cons_zero, Bool.false_eq_true, Bool.true_eq_false, beq_self_eq_true, beq_ft, beq_tf, notNil, Bool.not_true, Bool.not_false, reduceCtorEq, abuiltin, aextract]) ?_
          repeat refine Wp.seq ?_
          refine Wp.skip ?_
          dsimp only [after, leaving]
          have hwa : IntKind.i64.wrap (((at' + j : Nat) : Int) + 1) = ((at' + (j + 1) : Nat) : Int) := by rw [wrap_in (by omega) (by omega)]; omega
          repeat refine Wp.seq ?_
          refine Wp.runS (by simp only [runS, stepO, stepW, stepV, keep, guardOf, wantG, wantV, aop, binA, aev, flat, if_true, if_false, Option.bind_some, Option.map_some, Frm.put, look, setk, Nat.reduceLT, Nat.reduceEqDiff, evs, evp, evo, List.getElem?_toArray, List.getElem?_cons_succ, List.getElem?_cons_zero, Bool.false_eq_true, Bool.true_eq_false, beq_self_eq_true, beq_ft, beq_tf, notNil, Bool.not_true, Bool.not_false, reduceCtorEq, abuiltin, aextract, r1, Nat.zero_add, aload_cell agg3, Heap.ld_of hgj (k := 1) rfl, abin_int, ai_add, hwa, storeAt hgj] <;> exact rfl) ?_
          dsimp only [after, leaving]
          refine ⟨j + 1, _, ⟨by omega, by omega⟩, by omega, rfl, ⟨rfl, rfl, rfl, rfl, trivial⟩, rfl, ?_⟩
          rw [← hH, Heap.set_set]
      | false =>
        have hjw : j = w.length := by
          rcases Nat.lt_or_ge j w.length with q | q
          · obtain ⟨b2, q2, q3⟩ := hin j q
            rw [hb] at q2; cases q2; rw [hpb] at q3; cases q3
          · omega
        refine DrT.run 1 (by simp only [List.take_succ_cons, List.take_zero, runSD, stepOD, stepWD, stepVD, isLoud, isPure, isReader, isEqOp, isConstO, decide_true, Bool.or_true, Bool.true_or, Bool.or_self, Bool.and_self, Bool.and_true, Bool.and_false, Bool.false_and, Bool.true_and, Heap.next_set, Heap.next_alloc, runS, stepO, stepW, stepV, keep, guardOf, wantG, wantV, aop, binA, aev, flat, if_true, if_false, Option.bind_some, Option.map_some, Frm.put, look, setk, Nat.reduceLT, Nat.reduceEqDiff, evs, evp, evo, List.getElem?_toArray, List.getElem?_cons_succ, List.getElem?_cons_zero, Bool.false_eq_true, Bool.true_eq_false, beq_self_eq_true, beq_ft, beq_tf, notNil, Bool.not_true, Bool.not_false, reduceCtorEq, abuiltin, aextract] <;> exact rfl) rfl ?_
        try simp only [List.drop_succ_cons, List.drop_zero]
        refine DrT.nil ?_
        dsimp only [after, leaving]
        repeat refine Wp.seq ?_
        refine Wp.condF (by simp only [runS, stepO, stepW, stepV, keep, guardOf, wantG, wantV, aop, binA, aev, flat, if_true, if_false, Option.bind_some, Option.map_some, Frm.put, look, setk, Nat.reduceLT, Nat.reduceEqDiff, evs, evp, evo, List.getElem?_toArray, List.getElem?_cons_succ, List.getElem?_cons_zero, Bool.false_eq_true, Bool.true_eq_false, beq_self_eq_true, beq_ft, beq_tf, notNil, Bool.not_true, Bool.not_false, reduceCtorEq, abuiltin, aextract]) ?_
        repeat refine Wp.seq ?_
        refine Wp.exit ?_
        simp only [after, leaving, blockExit, if_true, if_false, Nat.reduceEqDiff]
        exact ⟨trivial, by omega, by rw [← hH, hjw], _, rfl, rfl, rfl⟩
    · repeat refine Wp.seq ?_
      refine Wp.runSD mixed (by kernel_rfl) (by simp only [runSD, stepOD, stepWD, stepVD, isLoud, isPure, isReader, decide_true, Bool.or_true, Bool.true_or, Bool.or_self, Bool.and_self, Bool.and_true, Bool.and_false, Heap.next_set, Heap.next_alloc, runS, stepO, stepW, stepV, keep, guardOf, wantG, wantV, aop, binA, aev, flat, if_true, if_false, Option.bind_some, Option.map_some, Frm.put, look, setk, Nat.reduceLT, Nat.reduceEqDiff, evs, evp, evo, List.getElem?_toArray, List.getElem?_cons_succ, List.getElem?_cons_zero, Bool.false_eq_true, Bool.true_eq_false, beq_self_eq_true, beq_ft, beq_tf, notNil, Bool.not_true, Bool.not_false, reduceCtorEq, abuiltin, aextract, r0, r1, Nat.zero_add, aload_cell agg3, aload_cell agg9, Heap.ld_of hgj (k := 0) rfl, Heap.ld_of hgj (k := 1) rfl, alen_str Tryz.underlying9, bs_size, abin_int, ai_lss, decide_eq_false hlt] <;> exact rfl) ?_
      dsimp only [after, leaving]
      repeat refine Wp.seq ?_
      refine Wp.condF (by simp only [runS, stepO, stepW, stepV, keep, guardOf, wantG, wantV, aop, binA, aev, flat, if_true, if_false, Option.bind_some, Option.map_some, Frm.put, look, setk, Nat.reduceLT, Nat.reduceEqDiff, evs, evp, evo, List.getElem?_toArray, List.getElem?_cons_succ, List.getElem?_cons_zero, Bool.false_eq_true, Bool.true_eq_false, beq_self_eq_true, beq_ft, beq_tf, notNil, Bool.not_true, Bool.not_false, reduceCtorEq, abuiltin, aextract]) ?_
      repeat refine Wp.seq ?_
      refine Wp.exit ?_
      simp only [after, leaving, blockExit, if_true, if_false, Nat.reduceEqDiff]
      have hjw : j = w.length := by omega
      exact ⟨trivial, by omega, by rw [← hH, hjw], _, rfl, rfl, rfl⟩
end Go.Mini
