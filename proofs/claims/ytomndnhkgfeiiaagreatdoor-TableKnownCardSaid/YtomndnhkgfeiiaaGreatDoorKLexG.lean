/-
  LEX, part G: Quoted.
-/
import Derived.Test.YtomndnhkgfeiiaaGreatDoorKLexF
set_option linter.unusedSimpArgs false
set_option maxHeartbeats 8000000
set_option maxRecDepth 100000
namespace Go.Mini
open Go.Proofs

def quotedV : SR → Value
  | .bad k => .tuple #[.string (bs []), .int .i64 0, .agg #[.int .i64 6, .int .i64 k]]
  | .long k => .tuple #[.string (bs []), .int .i64 0, .agg #[.int .i64 3, .int .i64 k]]
  | .ok out k => .tuple #[.string (bs out), .int .i64 (k + 1 : Nat), .agg #[.int .i64 0, .int .i64 0]]
theorem alloc9 (h : Heap) : aalloc Tryz.prog h 9 = some (h.new, h.alloc (strRow [])) := aalloc_eq (z := .string (bs [])) (by kernel_rfl) rfl
def spotRow (e a : Int) : AObj := .row { vs := [.int .i64 e, .int .i64 a], elem := 28 }
theorem alloc27 (h : Heap) : aalloc Tryz.prog h 28 = some (h.new, h.alloc (spotRow 0 0)) := aalloc_eq (z := .agg #[.int .i64 0, .int .i64 0]) (by kernel_rfl) rfl
theorem sz27 : (Tryz.prog.info? 28).map (·.size) = some 2 := by kernel_rfl
theorem agg27 : Program.agg Tryz.prog 28 = some true := by kernel_rfl

/-- The deferred call: what the results are behind it. -/
theorem catch_spec {E : EXT} (G : Nat) (h : Heap) (a b c : Nat) (x : Int) (s : List UInt8) (e0 a0 : Int) (hab : b ≠ a) (hac : c ≠ a) (hbc : c ≠ b) (ga : h.get a = some (strRow s)) (gb : h.get b = some (intRow x)) (gc : h.get c = some (spotRow e0 a0)) (t : TypeId) (k : Nat) (err : Int) (ht : t = 327 ∧ err = 6 ∨ t = 349 ∧ err = 3) :
    DoesD Tryz.prog G E 177 [.pointer (some ⟨a, 0, none⟩), .pointer (some ⟨b, 0, none⟩), .pointer (some ⟨c, 0, none⟩)] (.panicking (wrongP t k)) h (fun r u h' => r = .returned (.tuple #[]) ∧ u = .panicking [{ v := .iface t (.int .i64 k), recovered := true }] ∧
      h'.get a = some (strRow []) ∧ h'.get b = some (intRow 0) ∧ h'.get c = some (spotRow err k)) := by
  have hs1 : astore Tryz.prog h 9 (.pointer (some ⟨a, 0, none⟩)) (.string ⟨#[]⟩) = some (h.set a (strRow [])) := by
    rw [astore_cell sz9 rfl, Heap.sts_of ga (by simp) rfl rfl]; rfl
  have hs2 : astore Tryz.prog (h.set a (strRow [])) 3 (.pointer (some ⟨b, 0, none⟩)) (.int .i64 0) = some ((h.set a (strRow [])).set b (intRow 0)) := by
    rw [astore_cell sz3 rfl, Heap.sts_of (by rw [Heap.get_set_ne hab]; exact gb) (by simp) rfl rfl]; rfl
  have hs3 : astore Tryz.prog ((h.set a (strRow [])).set b (intRow 0)) 28 (.pointer (some ⟨c, 0, none⟩)) (.agg #[.int .i64 err, .int .i64 k]) = some (((h.set a (strRow [])).set b (intRow 0)).set c (spotRow err k)) := by
    have := astore_agg (P := Tryz.prog) (h := (h.set a (strRow [])).set b (intRow 0)) (i := c) (k := 0) (cs := [.int .i64 err, .int .i64 k]) sz27 rfl rfl
    rw [this, Heap.sts_of (by rw [Heap.get_set_ne hbc, Heap.get_set_ne hac]; exact gc) (by simp) rfl rfl]; rfl
  have hfin : (((h.set a (strRow [])).set b (intRow 0)).set c (spotRow err k)).get a = some (strRow []) ∧ (((h.set a (strRow [])).set b (intRow 0)).set c (spotRow err k)).get b = some (intRow 0) ∧ (((h.set a (strRow [])).set b (intRow 0)).set c (spotRow err k)).get c = some (spotRow err k) := by
    refine ⟨?_, ?_, ?_⟩
    · rw [Heap.get_set_ne (Ne.symm hac), Heap.get_set_ne (Ne.symm hab)]; exact Heap.get_set_self ga
    · rw [Heap.get_set_ne (Ne.symm hbc)]; exact Heap.get_set_self (by rw [Heap.get_set_ne hab]; exact gb)
    · exact Heap.get_set_self (by rw [Heap.get_set_ne hbc, Heap.get_set_ne hac]; exact gc)
  have hbuild : ∀ e : Int, abuild Tryz.prog 28 [(0, .int .i64 e), (1, .int .i64 k)] = some (.agg #[.int .i64 e, .int .i64 k]) := fun e => by kernel_rfl
  have no52 : aassert Tryz.prog (.iface 349 (.int .i64 k)) 327 true = some (.tuple #[.int .i64 0, .bool false]) := by kernel_rfl
  rcases ht with ⟨rfl, rfl⟩ | ⟨rfl, rfl⟩
  · refine DoesD.body Tryz.func177 rfl ?_
    have hn : enterF Tryz.f177 [.pointer (some ⟨a, 0, none⟩), .pointer (some ⟨b, 0, none⟩), .pointer (some ⟨c, 0, none⟩)] = ⟨16, [(0, .pointer (some ⟨a, 0, none⟩)), (1, .pointer (some ⟨b, 0, none⟩)), (2, .pointer (some ⟨c, 0, none⟩))], []⟩ := rfl
    rw [hn]; clear hn
    repeat refine Wp.seq ?_
    refine Wp.regionAs (is := 0 :: []) rfl ?_
    refine WpO.recoverS (by simp only [runS, stepO, stepW, stepV, keep, guardOf, wantG, wantV, aop, binA, aev, flat, if_true, if_false, Option.bind_some, Option.map_some, Frm.put, look, setk, Nat.reduceLT, Nat.reduceEqDiff, evs, evp, evo, List.getElem?_toArray, List.getElem?_cons_succ, List.getElem?_cons_zero, Bool.false_eq_true, Bool.true_eq_false, beq_self_eq_true, beq_ft, beq_tf, notNil, Bool.not_true, Bool.not_false, reduceCtorEq, abuiltin, aextract] <;> exact rfl) rfl (by simp only [runS, stepO, stepW, stepV, keep, guardOf, wantG, wantV, aop, binA, aev, flat, if_true, if_false, Option.bind_some, Option.map_some, Frm.put, look, setk, Nat.reduceLT, Nat.reduceEqDiff, evs, evp, evo, List.getElem?_toArray, List.getElem?_cons_succ, List.getElem?_cons_zero, Bool.false_eq_true, Bool.true_eq_false, beq_self_eq_true, beq_ft, beq_tf, notNil, Bool.not_true, Bool.not_false, reduceCtorEq, abuiltin, aextract]) (by simp only [runS, stepO, stepW, stepV, keep, guardOf, wantG, wantV, aop, binA, aev, flat, if_true, if_false, Option.bind_some, Option.map_some, Frm.put, look, setk, Nat.reduceLT, Nat.reduceEqDiff, evs, evp, evo, List.getElem?_toArray, List.getElem?_cons_succ, List.getElem?_cons_zero, Bool.false_eq_true, Bool.true_eq_false, beq_self_eq_true, beq_ft, beq_tf, notNil, Bool.not_true, Bool.not_false, reduceCtorEq, abuiltin, aextract] <;> exact rfl) ?_
    refine WpO.nil ?_
    dsimp only [after, leaving]
    repeat refine Wp.seq ?_
    refine Wp.block ?_
    repeat refine Wp.seq ?_
    refine Wp.runS (by simp only [runS, stepO, stepW, stepV, keep, guardOf, wantG, wantV, aop, binA, aev, flat, if_true, if_false, Option.bind_some, Option.map_some, Frm.put, look, setk, Nat.reduceLT, Nat.reduceEqDiff, evs, evp, evo, List.getElem?_toArray, List.getElem?_cons_succ, List.getElem?_cons_zero, Bool.false_eq_true, Bool.true_eq_false, beq_self_eq_true, beq_ft, beq_tf, notNil, Bool.not_true, Bool.not_false, reduceCtorEq, abuiltin, aextract, aassert, Tryz.underlying327] <;> exact rfl) ?_
    dsimp only [after, leaving]
    repeat refine Wp.seq ?_
    refine Wp.condT (by simp only [runS, stepO, stepW, stepV, keep, guardOf, wantG, wantV, aop, binA, aev, flat, if_true, if_false, Option.bind_some, Option.map_some, Frm.put, look, setk, Nat.reduceLT, Nat.reduceEqDiff, evs, evp, evo, List.getElem?_toArray, List.getElem?_cons_succ, List.getElem?_cons_zero, Bool.false_eq_true, Bool.true_eq_false, beq_self_eq_true, beq_ft, beq_tf, notNil, Bool.not_true, Bool.not_false, reduceCtorEq, abuiltin, aextract]) ?_
    repeat refine Wp.seq ?_
    refine Wp.runS (by simp only [runS, stepO, stepW, stepV, keep, guardOf, wantG, wantV, aop, binA, aev, flat, if_true, if_false, Option.bind_some, Option.map_some, Frm.put, look, setk, Nat.reduceLT, Nat.reduceEqDiff, evs, evp, evo, List.getElem?_toArray, List.getElem?_cons_succ, List.getElem?_cons_zero, Bool.false_eq_true, Bool.true_eq_false, beq_self_eq_true, beq_ft, beq_tf, notNil, Bool.not_true, Bool.not_false, reduceCtorEq, abuiltin, aextract] <;> exact rfl) ?_
    dsimp only [after, leaving]
    repeat refine Wp.seq ?_
    refine Wp.runS (by simp only [runS, stepO, stepW, stepV, keep, guardOf, wantG, wantV, aop, binA, aev, flat, if_true, if_false, Option.bind_some, Option.map_some, Frm.put, look, setk, Nat.reduceLT, Nat.reduceEqDiff, evs, evp, evo, List.getElem?_toArray, List.getElem?_cons_succ, List.getElem?_cons_zero, Bool.false_eq_true, Bool.true_eq_false, beq_self_eq_true, beq_ft, beq_tf, notNil, Bool.not_true, Bool.not_false, reduceCtorEq, abuiltin, aextract, hbuild, hs1, hs2, hs3] <;> exact rfl) ?_
    dsimp only [after, leaving]
    exact ⟨rfl, _, rfl, _, rfl, rfl, rfl, hfin⟩
  · refine DoesD.body Tryz.func177 rfl ?_
    have hn : enterF Tryz.f177 [.pointer (some ⟨a, 0, none⟩), .pointer (some ⟨b, 0, none⟩), .pointer (some ⟨c, 0, none⟩)] = ⟨16, [(0, .pointer (some ⟨a, 0, none⟩)), (1, .pointer (some ⟨b, 0, none⟩)), (2, .pointer (some ⟨c, 0, none⟩))], []⟩ := rfl
    rw [hn]; clear hn
    repeat refine Wp.seq ?_
    refine Wp.regionAs (is := 0 :: []) rfl ?_
    refine WpO.recoverS (by simp only [runS, stepO, stepW, stepV, keep, guardOf, wantG, wantV, aop, binA, aev, flat, if_true, if_false, Option.bind_some, Option.map_some, Frm.put, look, setk, Nat.reduceLT, Nat.reduceEqDiff, evs, evp, evo, List.getElem?_toArray, List.getElem?_cons_succ, List.getElem?_cons_zero, Bool.false_eq_true, Bool.true_eq_false, beq_self_eq_true, beq_ft, beq_tf, notNil, Bool.not_true, Bool.not_false, reduceCtorEq, abuiltin, aextract] <;> exact rfl) rfl (by simp only [runS, stepO, stepW, stepV, keep, guardOf, wantG, wantV, aop, binA, aev, flat, if_true, if_false, Option.bind_some, Option.map_some, Frm.put, look, setk, Nat.reduceLT, Nat.reduceEqDiff, evs, evp, evo, List.getElem?_toArray, List.getElem?_cons_succ, List.getElem?_cons_zero, Bool.false_eq_true, Bool.true_eq_false, beq_self_eq_true, beq_ft, beq_tf, notNil, Bool.not_true, Bool.not_false, reduceCtorEq, abuiltin, aextract]) (by simp only [runS, stepO, stepW, stepV, keep, guardOf, wantG, wantV, aop, binA, aev, flat, if_true, if_false, Option.bind_some, Option.map_some, Frm.put, look, setk, Nat.reduceLT, Nat.reduceEqDiff, evs, evp, evo, List.getElem?_toArray, List.getElem?_cons_succ, List.getElem?_cons_zero, Bool.false_eq_true, Bool.true_eq_false, beq_self_eq_true, beq_ft, beq_tf, notNil, Bool.not_true, Bool.not_false, reduceCtorEq, abuiltin, aextract] <;> exact rfl) ?_
    refine WpO.nil ?_
    dsimp only [after, leaving]
    repeat refine Wp.seq ?_
    refine Wp.block ?_
    repeat refine Wp.seq ?_
    refine Wp.runS (by simp only [runS, stepO, stepW, stepV, keep, guardOf, wantG, wantV, aop, binA, aev, flat, if_true, if_false, Option.bind_some, Option.map_some, Frm.put, look, setk, Nat.reduceLT, Nat.reduceEqDiff, evs, evp, evo, List.getElem?_toArray, List.getElem?_cons_succ, List.getElem?_cons_zero, Bool.false_eq_true, Bool.true_eq_false, beq_self_eq_true, beq_ft, beq_tf, notNil, Bool.not_true, Bool.not_false, reduceCtorEq, abuiltin, aextract, no52] <;> exact rfl) ?_
    dsimp only [after, leaving]
    repeat refine Wp.seq ?_
    refine Wp.condF (by simp only [runS, stepO, stepW, stepV, keep, guardOf, wantG, wantV, aop, binA, aev, flat, if_true, if_false, Option.bind_some, Option.map_some, Frm.put, look, setk, Nat.reduceLT, Nat.reduceEqDiff, evs, evp, evo, List.getElem?_toArray, List.getElem?_cons_succ, List.getElem?_cons_zero, Bool.false_eq_true, Bool.true_eq_false, beq_self_eq_true, beq_ft, beq_tf, notNil, Bool.not_true, Bool.not_false, reduceCtorEq, abuiltin, aextract]) ?_
    repeat refine Wp.seq ?_
    refine Wp.runS (by simp only [runS, stepO, stepW, stepV, keep, guardOf, wantG, wantV, aop, binA, aev, flat, if_true, if_false, Option.bind_some, Option.map_some, Frm.put, look, setk, Nat.reduceLT, Nat.reduceEqDiff, evs, evp, evo, List.getElem?_toArray, List.getElem?_cons_succ, List.getElem?_cons_zero, Bool.false_eq_true, Bool.true_eq_false, beq_self_eq_true, beq_ft, beq_tf, notNil, Bool.not_true, Bool.not_false, reduceCtorEq, abuiltin, aextract, aassert, Tryz.underlying349] <;> exact rfl) ?_
    dsimp only [after, leaving]
    repeat refine Wp.seq ?_
    refine Wp.condT (by simp only [runS, stepO, stepW, stepV, keep, guardOf, wantG, wantV, aop, binA, aev, flat, if_true, if_false, Option.bind_some, Option.map_some, Frm.put, look, setk, Nat.reduceLT, Nat.reduceEqDiff, evs, evp, evo, List.getElem?_toArray, List.getElem?_cons_succ, List.getElem?_cons_zero, Bool.false_eq_true, Bool.true_eq_false, beq_self_eq_true, beq_ft, beq_tf, notNil, Bool.not_true, Bool.not_false, reduceCtorEq, abuiltin, aextract]) ?_
    repeat refine Wp.seq ?_
    refine Wp.runS (by simp only [runS, stepO, stepW, stepV, keep, guardOf, wantG, wantV, aop, binA, aev, flat, if_true, if_false, Option.bind_some, Option.map_some, Frm.put, look, setk, Nat.reduceLT, Nat.reduceEqDiff, evs, evp, evo, List.getElem?_toArray, List.getElem?_cons_succ, List.getElem?_cons_zero, Bool.false_eq_true, Bool.true_eq_false, beq_self_eq_true, beq_ft, beq_tf, notNil, Bool.not_true, Bool.not_false, reduceCtorEq, abuiltin, aextract] <;> exact rfl) ?_
    dsimp only [after, leaving]
    repeat refine Wp.seq ?_
    refine Wp.runS (by simp only [runS, stepO, stepW, stepV, keep, guardOf, wantG, wantV, aop, binA, aev, flat, if_true, if_false, Option.bind_some, Option.map_some, Frm.put, look, setk, Nat.reduceLT, Nat.reduceEqDiff, evs, evp, evo, List.getElem?_toArray, List.getElem?_cons_succ, List.getElem?_cons_zero, Bool.false_eq_true, Bool.true_eq_false, beq_self_eq_true, beq_ft, beq_tf, notNil, Bool.not_true, Bool.not_false, reduceCtorEq, abuiltin, aextract, hbuild, hs1, hs2, hs3] <;> exact rfl) ?_
    dsimp only [after, leaving]
    exact ⟨rfl, _, rfl, _, rfl, rfl, rfl, hfin⟩

theorem nocatch_spec {E : EXT} (G : Nat) (h : Heap) (a b c : Value) :
    DoesD Tryz.prog G E 177 [a, b, c] .returning h (fun r u h' => r = .returned (.tuple #[]) ∧ u = .returning ∧ h' = h) := by
  have no52 : aassert Tryz.prog .nilIface 327 true = some (.tuple #[.int .i64 0, .bool false]) := by kernel_rfl
  have no53 : aassert Tryz.prog .nilIface 349 true = some (.tuple #[.int .i64 0, .bool false]) := by kernel_rfl
  refine DoesD.body Tryz.func177 rfl ?_
  have hn : enterF Tryz.f177 [a, b, c] = ⟨16, [(0, a), (1, b), (2, c)], []⟩ := rfl
  rw [hn]; clear hn
  repeat refine Wp.seq ?_
  refine Wp.regionAs (is := 0 :: []) rfl ?_
  refine WpO.recoverN (by simp only [runS, stepO, stepW, stepV, keep, guardOf, wantG, wantV, aop, binA, aev, flat, if_true, if_false, Option.bind_some, Option.map_some, Frm.put, look, setk, Nat.reduceLT, Nat.reduceEqDiff, evs, evp, evo, List.getElem?_toArray, List.getElem?_cons_succ, List.getElem?_cons_zero, Bool.false_eq_true, Bool.true_eq_false, beq_self_eq_true, beq_ft, beq_tf, notNil, Bool.not_true, Bool.not_false, reduceCtorEq, abuiltin, aextract] <;> exact rfl) rfl (by simp only [runS, stepO, stepW, stepV, keep, guardOf, wantG, wantV, aop, binA, aev, flat, if_true, if_false, Option.bind_some, Option.map_some, Frm.put, look, setk, Nat.reduceLT, Nat.reduceEqDiff, evs, evp, evo, List.getElem?_toArray, List.getElem?_cons_succ, List.getElem?_cons_zero, Bool.false_eq_true, Bool.true_eq_false, beq_self_eq_true, beq_ft, beq_tf, notNil, Bool.not_true, Bool.not_false, reduceCtorEq, abuiltin, aextract]) (by simp only [runS, stepO, stepW, stepV, keep, guardOf, wantG, wantV, aop, binA, aev, flat, if_true, if_false, Option.bind_some, Option.map_some, Frm.put, look, setk, Nat.reduceLT, Nat.reduceEqDiff, evs, evp, evo, List.getElem?_toArray, List.getElem?_cons_succ, List.getElem?_cons_zero, Bool.false_eq_true, Bool.true_eq_false, beq_self_eq_true, beq_ft, beq_tf, notNil, Bool.not_true, Bool.not_false, reduceCtorEq, abuiltin, aextract] <;> exact rfl) ?_
  refine WpO.nil ?_
  dsimp only [after, leaving]
  repeat refine Wp.seq ?_
  refine Wp.block ?_
  repeat refine Wp.seq ?_
  refine Wp.runS (by simp only [runS, stepO, stepW, stepV, keep, guardOf, wantG, wantV, aop, binA, aev, flat, if_true, if_false, Option.bind_some, Option.map_some, Frm.put, look, setk, Nat.reduceLT, Nat.reduceEqDiff, evs, evp, evo, List.getElem?_toArray, List.getElem?_cons_succ, List.getElem?_cons_zero, Bool.false_eq_true, Bool.true_eq_false, beq_self_eq_true, beq_ft, beq_tf, notNil, Bool.not_true, Bool.not_false, reduceCtorEq, abuiltin, aextract, no52] <;> exact rfl) ?_
  dsimp only [after, leaving]
  repeat refine Wp.seq ?_
  refine Wp.condF (by simp only [runS, stepO, stepW, stepV, keep, guardOf, wantG, wantV, aop, binA, aev, flat, if_true, if_false, Option.bind_some, Option.map_some, Frm.put, look, setk, Nat.reduceLT, Nat.reduceEqDiff, evs, evp, evo, List.getElem?_toArray, List.getElem?_cons_succ, List.getElem?_cons_zero, Bool.false_eq_true, Bool.true_eq_false, beq_self_eq_true, beq_ft, beq_tf, notNil, Bool.not_true, Bool.not_false, reduceCtorEq, abuiltin, aextract]) ?_
  repeat refine Wp.seq ?_
  refine Wp.runS (by simp only [runS, stepO, stepW, stepV, keep, guardOf, wantG, wantV, aop, binA, aev, flat, if_true, if_false, Option.bind_some, Option.map_some, Frm.put, look, setk, Nat.reduceLT, Nat.reduceEqDiff, evs, evp, evo, List.getElem?_toArray, List.getElem?_cons_succ, List.getElem?_cons_zero, Bool.false_eq_true, Bool.true_eq_false, beq_self_eq_true, beq_ft, beq_tf, notNil, Bool.not_true, Bool.not_false, reduceCtorEq, abuiltin, aextract, no53] <;> exact rfl) ?_
  dsimp only [after, leaving]
  repeat refine Wp.seq ?_
  refine Wp.condF (by simp only [runS, stepO, stepW, stepV, keep, guardOf, wantG, wantV, aop, binA, aev, flat, if_true, if_false, Option.bind_some, Option.map_some, Frm.put, look, setk, Nat.reduceLT, Nat.reduceEqDiff, evs, evp, evo, List.getElem?_toArray, List.getElem?_cons_succ, List.getElem?_cons_zero, Bool.false_eq_true, Bool.true_eq_false, beq_self_eq_true, beq_ft, beq_tf, notNil, Bool.not_true, Bool.not_false, reduceCtorEq, abuiltin, aextract]) ?_
  repeat refine Wp.seq ?_
  refine Wp.skip ?_
  dsimp only [after, leaving]
  exact ⟨rfl, _, rfl, _, rfl, rfl, rfl, rfl⟩

theorem ares25 {s : List (Nat × Value)} {d : List Deferred} {h : Heap} {a b c : Nat} {out : List UInt8} {n e p : Int} (s4 : look 4 s = some (.pointer (some ⟨a, 0, none⟩))) (s5 : look 5 s = some (.pointer (some ⟨b, 0, none⟩))) (s6 : look 6 s = some (.pointer (some ⟨c, 0, none⟩)))
    (ga : h.get a = some (strRow out)) (gb : h.get b = some (intRow n)) (gc : h.get c = some (spotRow e p)) : ares Tryz.prog Tryz.f158 ⟨25, s, d⟩ h = some (.tuple #[.string (bs out), .int .i64 n, .agg #[.int .i64 e, .int .i64 p]]) := by
  have hr : Tryz.f158.results.toList = [.cell 4 9, .cell 5 3, .cell 6 28] := rfl
  unfold ares
  rw [hr]
  simp only [aresults, aresult, s4, s5, s6, Option.bind_some, aload_cell agg9, aload_cell agg3, aload_agg agg27 sz27, Heap.ld_of ga (k := 0) rfl, Heap.ld_of gb (k := 0) rfl, Heap.lds_of gc (k := 0) (n := 2) (by simp), Option.map_some]
  rfl
theorem quoted_bare (G : Nat) (B : Base Tryz.prog G) (h : Heap) (T : List UInt8) (most : Int) (hT : T.length ≤ 1000000) (hm : -1 ≤ most) :
    Does Tryz.prog G (GoodE Tryz.prog B) 158 [.string (bs T), .int .i64 most] h (fun r _ => r = .returned (quotedV (scanQ most T))) := by
  have c31 : canEnter Tryz.prog 177 = true := by kernel_rfl
  have c32 : canEnter Tryz.prog 178 = true := by kernel_rfl
  refine Does.bodyD Tryz.func158 rfl ?_
  have hn : enterF Tryz.f158 [.string (bs T), .int .i64 most] = ⟨25, [(0, .string (bs T)), (1, .int .i64 most)], []⟩ := rfl
  rw [hn]; clear hn
  repeat refine Wp.seq ?_
  refine Wp.runS (by simp only [runS, stepO, stepW, stepV, keep, guardOf, wantG, wantV, aop, binA, aev, flat, if_true, if_false, Option.bind_some, Option.map_some, Frm.put, look, setk, Nat.reduceLT, Nat.reduceEqDiff, evs, evp, evo, List.getElem?_toArray, List.getElem?_cons_succ, List.getElem?_cons_zero, Bool.false_eq_true, Bool.true_eq_false, beq_self_eq_true, beq_ft, beq_tf, notNil, Bool.not_true, Bool.not_false, reduceCtorEq, abuiltin, aextract, alloc9, alloc3, alloc27, Heap.new, Heap.next_alloc] <;> exact rfl) ?_
  dsimp only [after, leaving]
  have g0 : (((h.alloc (strRow [])).alloc (intRow 0)).alloc (spotRow 0 0)).get h.next = some (strRow []) := by
    rw [Heap.get_alloc_old _ _ (by simp only [Heap.next_alloc]; omega), Heap.get_alloc_old _ _ (by simp)]; exact Heap.get_alloc_new _ _
  have g1 : (((h.alloc (strRow [])).alloc (intRow 0)).alloc (spotRow 0 0)).get (h.next + 1) = some (intRow 0) := by
    rw [Heap.get_alloc_old _ _ (by simp)]
    have := Heap.get_alloc_new (h.alloc (strRow [])) (intRow 0)
    simpa using this
  have g2 : (((h.alloc (strRow [])).alloc (intRow 0)).alloc (spotRow 0 0)).get (h.next + 1 + 1) = some (spotRow 0 0) := by
    have := Heap.get_alloc_new ((h.alloc (strRow [])).alloc (intRow 0)) (spotRow 0 0)
    simpa using this
  generalize ((h.alloc (strRow [])).alloc (intRow 0)).alloc (spotRow 0 0) = H at g0 g1 g2 ⊢
  repeat refine Wp.seq ?_
  refine Wp.regionAs (is := List.range' 0 1 ++ (1 :: [])) rfl ?_
  refine WpO.runS 1 (by simp only [List.drop_succ_cons, List.drop_zero, List.take_succ_cons, List.take_zero, runS, stepO, stepW, stepV, keep, guardOf, wantG, wantV, aop, binA, aev, flat, if_true, if_false, Option.bind_some, Option.map_some, Frm.put, look, setk, Nat.reduceLT, Nat.reduceEqDiff, evs, evp, evo, List.getElem?_toArray, List.getElem?_cons_succ, List.getElem?_cons_zero, Bool.false_eq_true, Bool.true_eq_false, beq_self_eq_true, beq_ft, beq_tf, notNil, Bool.not_true, Bool.not_false, reduceCtorEq, abuiltin, aextract] <;> exact rfl) (by decide) ?_
  refine WpO.deferS (by simp only [calleeOf, fnOf, runS, stepO, stepW, stepV, keep, guardOf, wantG, wantV, aop, binA, aev, flat, if_true, if_false, Option.bind_some, Option.map_some, Frm.put, look, setk, Nat.reduceLT, Nat.reduceEqDiff, evs, evp, evo, List.getElem?_toArray, List.getElem?_cons_succ, List.getElem?_cons_zero, Bool.false_eq_true, Bool.true_eq_false, beq_self_eq_true, beq_ft, beq_tf, notNil, Bool.not_true, Bool.not_false, reduceCtorEq, abuiltin, aextract] <;> exact rfl) rfl (by simp only [runS, stepO, stepW, stepV, keep, guardOf, wantG, wantV, aop, binA, aev, flat, if_true, if_false, Option.bind_some, Option.map_some, Frm.put, look, setk, Nat.reduceLT, Nat.reduceEqDiff, evs, evp, evo, List.getElem?_toArray, List.getElem?_cons_succ, List.getElem?_cons_zero, Bool.false_eq_true, Bool.true_eq_false, beq_self_eq_true, beq_ft, beq_tf, notNil, Bool.not_true, Bool.not_false, reduceCtorEq, abuiltin, aextract]) (by simp only [runS, stepO, stepW, stepV, keep, guardOf, wantG, wantV, aop, binA, aev, flat, if_true, if_false, Option.bind_some, Option.map_some, Frm.put, look, setk, Nat.reduceLT, Nat.reduceEqDiff, evs, evp, evo, List.getElem?_toArray, List.getElem?_cons_succ, List.getElem?_cons_zero, Bool.false_eq_true, Bool.true_eq_false, beq_self_eq_true, beq_ft, beq_tf, notNil, Bool.not_true, Bool.not_false, reduceCtorEq, abuiltin, aextract] <;> exact rfl) ?_
  refine WpO.nil ?_
  dsimp only [after, leaving]
  have hmax : (max most (-1 : Int)) = most := by omega
  repeat refine Wp.seq ?_
  refine Wp.regionAs (is := List.range' 0 3 ++ (3 :: (List.range' 4 5 ++ []))) rfl ?_
  refine WpO.runS 3 (by simp only [List.drop_succ_cons, List.drop_zero, List.take_succ_cons, List.take_zero, runS, stepO, stepW, stepV, keep, guardOf, wantG, wantV, aop, binA, aev, flat, if_true, if_false, Option.bind_some, Option.map_some, Frm.put, look, setk, Nat.reduceLT, Nat.reduceEqDiff, evs, evp, evo, List.getElem?_toArray, List.getElem?_cons_succ, List.getElem?_cons_zero, Bool.false_eq_true, Bool.true_eq_false, beq_self_eq_true, beq_ft, beq_tf, notNil, Bool.not_true, Bool.not_false, reduceCtorEq, abuiltin, aextract, amm_two, hmax] <;> exact rfl) (by decide) ?_
  refine WpO.callS rfl (by simp only [runS, stepO, stepW, stepV, keep, guardOf, wantG, wantV, aop, binA, aev, flat, if_true, if_false, Option.bind_some, Option.map_some, Frm.put, look, setk, Nat.reduceLT, Nat.reduceEqDiff, evs, evp, evo, List.getElem?_toArray, List.getElem?_cons_succ, List.getElem?_cons_zero, Bool.false_eq_true, Bool.true_eq_false, beq_self_eq_true, beq_ft, beq_tf, notNil, Bool.not_true, Bool.not_false, reduceCtorEq, abuiltin, aextract, c32]) (by simp only [calleeOf, fnOf, List.append_nil, List.nil_append, runS, stepO, stepW, stepV, keep, guardOf, wantG, wantV, aop, binA, aev, flat, if_true, if_false, Option.bind_some, Option.map_some, Frm.put, look, setk, Nat.reduceLT, Nat.reduceEqDiff, evs, evp, evo, List.getElem?_toArray, List.getElem?_cons_succ, List.getElem?_cons_zero, Bool.false_eq_true, Bool.true_eq_false, beq_self_eq_true, beq_ft, beq_tf, notNil, Bool.not_true, Bool.not_false, reduceCtorEq, abuiltin, aextract, c32] <;> exact rfl) ((scan_spec G B H T most hT).mono ?_)
  intro r h2 hr
  cases hR : scanQ most T with
  | bad k =>
    rw [hR] at hr
    obtain ⟨rfl, hk⟩ := hr
    refine ⟨rfl, _, rfl, ?_⟩
    refine Leaves.cons (by simp) rfl c31 ?_
    obtain ⟨e, u1, h1, b, rfl, rfl, q1, q2, q3⟩ := catch_spec (E := GoodE Tryz.prog B) G h2 h.next (h.next + 1) (h.next + 1 + 1) 0 [] 0 0 (by omega) (by omega) (by omega) (hk.2 _ _ g0 rfl) (hk.2 _ _ g1 rfl) (hk.2 _ _ g2 rfl) 327 k 6 (.inl ⟨rfl, rfl⟩)
    exact ⟨_, _, h1, b, _, rfl, Leaves.ret (ares25 rfl rfl rfl q1 q2 q3) rfl⟩
  | long k =>
    rw [hR] at hr
    obtain ⟨rfl, hk⟩ := hr
    refine ⟨rfl, _, rfl, ?_⟩
    refine Leaves.cons (by simp) rfl c31 ?_
    obtain ⟨e, u1, h1, b, rfl, rfl, q1, q2, q3⟩ := catch_spec (E := GoodE Tryz.prog B) G h2 h.next (h.next + 1) (h.next + 1 + 1) 0 [] 0 0 (by omega) (by omega) (by omega) (hk.2 _ _ g0 rfl) (hk.2 _ _ g1 rfl) (hk.2 _ _ g2 rfl) 349 k 3 (.inr ⟨rfl, rfl⟩)
    exact ⟨_, _, h1, b, _, rfl, Leaves.ret (ares25 rfl rfl rfl q1 q2 q3) rfl⟩
  | ok out k =>
    rw [hR] at hr
    obtain ⟨vp, ps, rfl, hk, hp, hpsk, hkT⟩ := hr
    have k0 := hk.2 _ _ g0 rfl
    have k1 := hk.2 _ _ g1 rfl
    have k2 := hk.2 _ _ g2 rfl
    obtain ⟨bp, rfl, hgp⟩ : ∃ bp, vp = .slice (some ⟨bp, 0, none⟩) (ps ++ [k]).length (ps ++ [k]).length ∧ h2.get bp = some (grownRow 3 ((ps ++ [k]).map fun n : Nat => Value.int .i64 n)) := by
      rcases hp with ⟨_, h1, _⟩ | hp
      · simp at h1
      · exact hp
    generalize hn : (ps ++ [k]).length = n at *
    have hn0 : 0 < n := by rw [← hn]; simp
    have hnb : n ≤ 2000000 := by rw [← hn]; simp; omega
    refine ⟨_, by simp only [runS, stepO, stepW, stepV, keep, guardOf, wantG, wantV, aop, binA, aev, flat, if_true, if_false, Option.bind_some, Option.map_some, Frm.put, look, setk, Nat.reduceLT, Nat.reduceEqDiff, evs, evp, evo, List.getElem?_toArray, List.getElem?_cons_succ, List.getElem?_cons_zero, Bool.false_eq_true, Bool.true_eq_false, beq_self_eq_true, beq_ft, beq_tf, notNil, Bool.not_true, Bool.not_false, reduceCtorEq, abuiltin, aextract] <;> exact rfl, ?_⟩
    have hs1 : astore Tryz.prog h2 9 (.pointer (some ⟨h.next, 0, none⟩)) (.string (bs out)) = some (h2.set h.next (strRow out)) := by
      rw [astore_cell sz9 rfl, Heap.sts_of k0 (by simp) rfl rfl]; rfl
    refine WpO.runS 5 (by simp only [List.drop_succ_cons, List.drop_zero, List.take_succ_cons, List.take_zero, runS, stepO, stepW, stepV, keep, guardOf, wantG, wantV, aop, binA, aev, flat, if_true, if_false, Option.bind_some, Option.map_some, Frm.put, look, setk, Nat.reduceLT, Nat.reduceEqDiff, evs, evp, evo, List.getElem?_toArray, List.getElem?_cons_succ, List.getElem?_cons_zero, Bool.false_eq_true, Bool.true_eq_false, beq_self_eq_true, beq_ft, beq_tf, notNil, Bool.not_true, Bool.not_false, reduceCtorEq, abuiltin, aextract, hs1] <;> exact rfl) (by decide) ?_
    refine WpO.nil ?_
    dsimp only [after, leaving]
    have hbp : bp ≠ h.next ∧ bp ≠ h.next + 1 ∧ bp ≠ h.next + 1 + 1 := by
      exact ⟨ne_of_plain k0 hgp rfl rfl, ne_of_plain k1 hgp rfl rfl, ne_of_plain k2 hgp rfl rfl⟩
    have m0 : (h2.set h.next (strRow out)).get h.next = some (strRow out) := Heap.get_set_self k0
    have m1 : (h2.set h.next (strRow out)).get (h.next + 1) = some (intRow 0) := by rw [Heap.get_set_ne (by omega)]; exact k1
    have m2 : (h2.set h.next (strRow out)).get (h.next + 1 + 1) = some (spotRow 0 0) := by rw [Heap.get_set_ne (by omega)]; exact k2
    have mp : (h2.set h.next (strRow out)).get bp = some (grownRow 3 ((ps ++ [k]).map fun n : Nat => Value.int .i64 n)) := by rw [Heap.get_set_ne hbp.1]; exact hgp
    generalize h2.set h.next (strRow out) = h3 at m0 m1 m2 mp ⊢
    have hlast : ∀ H : Heap, H.get bp = some (grownRow 3 ((ps ++ [k]).map fun n : Nat => Value.int .i64 n)) → H.ld bp (n - 1) = some (.int .i64 (k : Nat)) := by
      intro H hH
      refine Heap.ld_of hH ?_
      simp only [List.map_append, List.map_cons, List.map_nil]
      rw [List.getElem?_append_right (by simp [← hn]), ← hn]
      simp
    have hK := hlast h3 mp
    have hw1 : IntKind.i64.wrap ((n : Int) - 1) = ((n - 1 : Nat) : Int) := by rw [wrap_in (by omega) (by omega)]; omega
    have hix : aindexAddr Tryz.prog 31 (.slice (some ⟨bp, 0, none⟩) n n) (.int .i64 ((n - 1 : Nat) : Int)) = some (.pointer (some ⟨bp, n - 1, none⟩)) := by
      rw [aindexAddr_slice Tryz.underlying31 sz3 (by omega) (by omega)]; simp
    have hw2 : IntKind.i64.wrap ((k : Int) + 1) = ((k + 1 : Nat) : Int) := by rw [wrap_in (by omega) (by omega)]; omega
    have hbuild : abuild Tryz.prog 28 [] = some (.agg #[.int .i64 0, .int .i64 0]) := by kernel_rfl
    have hs2 : astore Tryz.prog h3 9 (.pointer (some ⟨h.next, 0, none⟩)) (.string (bs out)) = some (h3.set h.next (strRow out)) := by
      rw [astore_cell sz9 rfl, Heap.sts_of m0 (by simp) rfl rfl]; rfl
    have hs3 : astore Tryz.prog (h3.set h.next (strRow out)) 3 (.pointer (some ⟨h.next + 1, 0, none⟩)) (.int .i64 (k + 1 : Nat)) = some ((h3.set h.next (strRow out)).set (h.next + 1) (intRow (k + 1 : Nat))) := by
      rw [astore_cell sz3 rfl, Heap.sts_of (by rw [Heap.get_set_ne (by omega)]; exact m1) (by simp) rfl rfl]; rfl
    have hs4 : astore Tryz.prog ((h3.set h.next (strRow out)).set (h.next + 1) (intRow (k + 1 : Nat))) 28 (.pointer (some ⟨h.next + 1 + 1, 0, none⟩)) (.agg #[.int .i64 0, .int .i64 0]) = some (((h3.set h.next (strRow out)).set (h.next + 1) (intRow (k + 1 : Nat))).set (h.next + 1 + 1) (spotRow 0 0)) := by
      have := astore_agg (P := Tryz.prog) (h := (h3.set h.next (strRow out)).set (h.next + 1) (intRow (k + 1 : Nat))) (i := h.next + 1 + 1) (k := 0) (cs := [.int .i64 0, .int .i64 0]) sz27 rfl rfl
      rw [this, Heap.sts_of (by rw [Heap.get_set_ne (by omega), Heap.get_set_ne (by omega)]; exact m2) (by simp) rfl rfl]; rfl
    repeat refine Wp.seq ?_
    refine Wp.drawAs [19, 22] [] 2 (fun H => H.ld bp (n - 1) = some (.int .i64 (k : Nat))) mixed (by kernel_rfl) hK ?_
    refine DrT.run 3 (by simp only [List.take_succ_cons, List.take_zero, runSD, stepOD, stepWD, stepVD, isLoud, isPure, isReader, isEqOp, isConstO, decide_true, Bool.or_true, Bool.true_or, Bool.or_self, Bool.and_self, Bool.and_true, Bool.and_false, Bool.false_and, Bool.true_and, Heap.next_set, Heap.next_alloc, runS, stepO, stepW, stepV, keep, guardOf, wantG, wantV, aop, binA, aev, flat, if_true, if_false, Option.bind_some, Option.map_some, Frm.put, look, setk, Nat.reduceLT, Nat.reduceEqDiff, evs, evp, evo, List.getElem?_toArray, List.getElem?_cons_succ, List.getElem?_cons_zero, Bool.false_eq_true, Bool.true_eq_false, beq_self_eq_true, beq_ft, beq_tf, notNil, Bool.not_true, Bool.not_false, reduceCtorEq, abuiltin, aextract, aload_cell agg9, Heap.ld_of m0 (k := 0) rfl] <;> exact rfl) rfl ?_
    try simp only [List.drop_succ_cons, List.drop_zero]
    refine DrT.read rfl rfl (by simp only [runS, stepO, stepW, stepV, keep, guardOf, wantG, wantV, aop, binA, aev, flat, if_true, if_false, Option.bind_some, Option.map_some, Frm.put, look, setk, Nat.reduceLT, Nat.reduceEqDiff, evs, evp, evo, List.getElem?_toArray, List.getElem?_cons_succ, List.getElem?_cons_zero, Bool.false_eq_true, Bool.true_eq_false, beq_self_eq_true, beq_ft, beq_tf, notNil, Bool.not_true, Bool.not_false, reduceCtorEq, abuiltin, aextract]) (by simp only [runS, stepO, stepW, stepV, keep, guardOf, wantG, wantV, aop, binA, aev, flat, if_true, if_false, Option.bind_some, Option.map_some, Frm.put, look, setk, Nat.reduceLT, Nat.reduceEqDiff, evs, evp, evo, List.getElem?_toArray, List.getElem?_cons_succ, List.getElem?_cons_zero, Bool.false_eq_true, Bool.true_eq_false, beq_self_eq_true, beq_ft, beq_tf, notNil, Bool.not_true, Bool.not_false, reduceCtorEq, abuiltin, aextract, alen_slice Tryz.underlying31] <;> exact rfl) (fun H hK2 => by simp only [runS, stepO, stepW, stepV, keep, guardOf, wantG, wantV, aop, binA, aev, flat, if_true, if_false, Option.bind_some, Option.map_some, Frm.put, look, setk, Nat.reduceLT, Nat.reduceEqDiff, evs, evp, evo, List.getElem?_toArray, List.getElem?_cons_succ, List.getElem?_cons_zero, Bool.false_eq_true, Bool.true_eq_false, beq_self_eq_true, beq_ft, beq_tf, notNil, Bool.not_true, Bool.not_false, reduceCtorEq, abuiltin, aextract, alen_slice Tryz.underlying31] <;> exact rfl) (by simp only [runS, stepO, stepW, stepV, keep, guardOf, wantG, wantV, aop, binA, aev, flat, if_true, if_false, Option.bind_some, Option.map_some, Frm.put, look, setk, Nat.reduceLT, Nat.reduceEqDiff, evs, evp, evo, List.getElem?_toArray, List.getElem?_cons_succ, List.getElem?_cons_zero, Bool.false_eq_true, Bool.true_eq_false, beq_self_eq_true, beq_ft, beq_tf, notNil, Bool.not_true, Bool.not_false, reduceCtorEq, abuiltin, aextract] <;> exact rfl) ?_
    refine DrT.run 2 (by simp only [List.take_succ_cons, List.take_zero, runSD, stepOD, stepWD, stepVD, isLoud, isPure, isReader, isEqOp, isConstO, decide_true, Bool.or_true, Bool.true_or, Bool.or_self, Bool.and_self, Bool.and_true, Bool.and_false, Bool.false_and, Bool.true_and, Heap.next_set, Heap.next_alloc, runS, stepO, stepW, stepV, keep, guardOf, wantG, wantV, aop, binA, aev, flat, if_true, if_false, Option.bind_some, Option.map_some, Frm.put, look, setk, Nat.reduceLT, Nat.reduceEqDiff, evs, evp, evo, List.getElem?_toArray, List.getElem?_cons_succ, List.getElem?_cons_zero, Bool.false_eq_true, Bool.true_eq_false, beq_self_eq_true, beq_ft, beq_tf, notNil, Bool.not_true, Bool.not_false, reduceCtorEq, abuiltin, aextract, abin_int, ai_sub, hw1, hix] <;> exact rfl) rfl ?_
    try simp only [List.drop_succ_cons, List.drop_zero]
    refine DrT.read rfl rfl (by simp only [runS, stepO, stepW, stepV, keep, guardOf, wantG, wantV, aop, binA, aev, flat, if_true, if_false, Option.bind_some, Option.map_some, Frm.put, look, setk, Nat.reduceLT, Nat.reduceEqDiff, evs, evp, evo, List.getElem?_toArray, List.getElem?_cons_succ, List.getElem?_cons_zero, Bool.false_eq_true, Bool.true_eq_false, beq_self_eq_true, beq_ft, beq_tf, notNil, Bool.not_true, Bool.not_false, reduceCtorEq, abuiltin, aextract]) (by simp only [runS, stepO, stepW, stepV, keep, guardOf, wantG, wantV, aop, binA, aev, flat, if_true, if_false, Option.bind_some, Option.map_some, Frm.put, look, setk, Nat.reduceLT, Nat.reduceEqDiff, evs, evp, evo, List.getElem?_toArray, List.getElem?_cons_succ, List.getElem?_cons_zero, Bool.false_eq_true, Bool.true_eq_false, beq_self_eq_true, beq_ft, beq_tf, notNil, Bool.not_true, Bool.not_false, reduceCtorEq, abuiltin, aextract, aload_cell agg3, hK] <;> exact rfl) (fun H hK2 => by simp only [runS, stepO, stepW, stepV, keep, guardOf, wantG, wantV, aop, binA, aev, flat, if_true, if_false, Option.bind_some, Option.map_some, Frm.put, look, setk, Nat.reduceLT, Nat.reduceEqDiff, evs, evp, evo, List.getElem?_toArray, List.getElem?_cons_succ, List.getElem?_cons_zero, Bool.false_eq_true, Bool.true_eq_false, beq_self_eq_true, beq_ft, beq_tf, notNil, Bool.not_true, Bool.not_false, reduceCtorEq, abuiltin, aextract, aload_cell agg3, hK2] <;> exact rfl) (by simp only [runS, stepO, stepW, stepV, keep, guardOf, wantG, wantV, aop, binA, aev, flat, if_true, if_false, Option.bind_some, Option.map_some, Frm.put, look, setk, Nat.reduceLT, Nat.reduceEqDiff, evs, evp, evo, List.getElem?_toArray, List.getElem?_cons_succ, List.getElem?_cons_zero, Bool.false_eq_true, Bool.true_eq_false, beq_self_eq_true, beq_ft, beq_tf, notNil, Bool.not_true, Bool.not_false, reduceCtorEq, abuiltin, aextract] <;> exact rfl) ?_
    refine DrT.run 2 (by simp only [List.take_succ_cons, List.take_zero, runSD, stepOD, stepWD, stepVD, isLoud, isPure, isReader, isEqOp, isConstO, decide_true, Bool.or_true, Bool.true_or, Bool.or_self, Bool.and_self, Bool.and_true, Bool.and_false, Bool.false_and, Bool.true_and, Heap.next_set, Heap.next_alloc, runS, stepO, stepW, stepV, keep, guardOf, wantG, wantV, aop, binA, aev, flat, if_true, if_false, Option.bind_some, Option.map_some, Frm.put, look, setk, Nat.reduceLT, Nat.reduceEqDiff, evs, evp, evo, List.getElem?_toArray, List.getElem?_cons_succ, List.getElem?_cons_zero, Bool.false_eq_true, Bool.true_eq_false, beq_self_eq_true, beq_ft, beq_tf, notNil, Bool.not_true, Bool.not_false, reduceCtorEq, abuiltin, aextract, abin_int, ai_add, hw2, hbuild] <;> exact rfl) rfl ?_
    try simp only [List.drop_succ_cons, List.drop_zero]
    refine DrT.skip (by simp only [runS, stepO, stepW, stepV, keep, guardOf, wantG, wantV, aop, binA, aev, flat, if_true, if_false, Option.bind_some, Option.map_some, Frm.put, look, setk, Nat.reduceLT, Nat.reduceEqDiff, evs, evp, evo, List.getElem?_toArray, List.getElem?_cons_succ, List.getElem?_cons_zero, Bool.false_eq_true, Bool.true_eq_false, beq_self_eq_true, beq_ft, beq_tf, notNil, Bool.not_true, Bool.not_false, reduceCtorEq, abuiltin, aextract, hs2] <;> exact rfl) rfl rfl (by simp only [runS, stepO, stepW, stepV, keep, guardOf, wantG, wantV, aop, binA, aev, flat, if_true, if_false, Option.bind_some, Option.map_some, Frm.put, look, setk, Nat.reduceLT, Nat.reduceEqDiff, evs, evp, evo, List.getElem?_toArray, List.getElem?_cons_succ, List.getElem?_cons_zero, Bool.false_eq_true, Bool.true_eq_false, beq_self_eq_true, beq_ft, beq_tf, notNil, Bool.not_true, Bool.not_false, reduceCtorEq, abuiltin, aextract]) (by simp only [runS, stepO, stepW, stepV, keep, guardOf, wantG, wantV, aop, binA, aev, flat, if_true, if_false, Option.bind_some, Option.map_some, Frm.put, look, setk, Nat.reduceLT, Nat.reduceEqDiff, evs, evp, evo, List.getElem?_toArray, List.getElem?_cons_succ, List.getElem?_cons_zero, Bool.false_eq_true, Bool.true_eq_false, beq_self_eq_true, beq_ft, beq_tf, notNil, Bool.not_true, Bool.not_false, reduceCtorEq, abuiltin, aextract] <;> exact rfl) (fun _ => hlast _ (by rw [Heap.get_set_ne hbp.1]; exact mp)) ?_
    refine DrT.skip (by simp only [runS, stepO, stepW, stepV, keep, guardOf, wantG, wantV, aop, binA, aev, flat, if_true, if_false, Option.bind_some, Option.map_some, Frm.put, look, setk, Nat.reduceLT, Nat.reduceEqDiff, evs, evp, evo, List.getElem?_toArray, List.getElem?_cons_succ, List.getElem?_cons_zero, Bool.false_eq_true, Bool.true_eq_false, beq_self_eq_true, beq_ft, beq_tf, notNil, Bool.not_true, Bool.not_false, reduceCtorEq, abuiltin, aextract, hs3] <;> exact rfl) rfl rfl (by simp only [runS, stepO, stepW, stepV, keep, guardOf, wantG, wantV, aop, binA, aev, flat, if_true, if_false, Option.bind_some, Option.map_some, Frm.put, look, setk, Nat.reduceLT, Nat.reduceEqDiff, evs, evp, evo, List.getElem?_toArray, List.getElem?_cons_succ, List.getElem?_cons_zero, Bool.false_eq_true, Bool.true_eq_false, beq_self_eq_true, beq_ft, beq_tf, notNil, Bool.not_true, Bool.not_false, reduceCtorEq, abuiltin, aextract]) (by simp only [runS, stepO, stepW, stepV, keep, guardOf, wantG, wantV, aop, binA, aev, flat, if_true, if_false, Option.bind_some, Option.map_some, Frm.put, look, setk, Nat.reduceLT, Nat.reduceEqDiff, evs, evp, evo, List.getElem?_toArray, List.getElem?_cons_succ, List.getElem?_cons_zero, Bool.false_eq_true, Bool.true_eq_false, beq_self_eq_true, beq_ft, beq_tf, notNil, Bool.not_true, Bool.not_false, reduceCtorEq, abuiltin, aextract] <;> exact rfl) (fun hq => absurd hq (by decide)) ?_
    refine DrT.skip (by simp only [runS, stepO, stepW, stepV, keep, guardOf, wantG, wantV, aop, binA, aev, flat, if_true, if_false, Option.bind_some, Option.map_some, Frm.put, look, setk, Nat.reduceLT, Nat.reduceEqDiff, evs, evp, evo, List.getElem?_toArray, List.getElem?_cons_succ, List.getElem?_cons_zero, Bool.false_eq_true, Bool.true_eq_false, beq_self_eq_true, beq_ft, beq_tf, notNil, Bool.not_true, Bool.not_false, reduceCtorEq, abuiltin, aextract, hs4] <;> exact rfl) rfl rfl (by simp only [runS, stepO, stepW, stepV, keep, guardOf, wantG, wantV, aop, binA, aev, flat, if_true, if_false, Option.bind_some, Option.map_some, Frm.put, look, setk, Nat.reduceLT, Nat.reduceEqDiff, evs, evp, evo, List.getElem?_toArray, List.getElem?_cons_succ, List.getElem?_cons_zero, Bool.false_eq_true, Bool.true_eq_false, beq_self_eq_true, beq_ft, beq_tf, notNil, Bool.not_true, Bool.not_false, reduceCtorEq, abuiltin, aextract]) (by simp only [runS, stepO, stepW, stepV, keep, guardOf, wantG, wantV, aop, binA, aev, flat, if_true, if_false, Option.bind_some, Option.map_some, Frm.put, look, setk, Nat.reduceLT, Nat.reduceEqDiff, evs, evp, evo, List.getElem?_toArray, List.getElem?_cons_succ, List.getElem?_cons_zero, Bool.false_eq_true, Bool.true_eq_false, beq_self_eq_true, beq_ft, beq_tf, notNil, Bool.not_true, Bool.not_false, reduceCtorEq, abuiltin, aextract] <;> exact rfl) (fun hq => absurd hq (by decide)) ?_
    refine DrT.nil ?_
    dsimp only [after, leaving]
    repeat refine Wp.seq ?_
    refine Wp.ret ?_
    dsimp only [after, leaving]
    refine ⟨rfl, _, rfl, ?_⟩
    refine Leaves.cons (by simp) rfl c31 ?_
    obtain ⟨e, u1, h9, b, rfl, rfl, rfl⟩ := nocatch_spec (E := GoodE Tryz.prog B) G (((h3.set h.next (strRow out)).set (h.next + 1) (intRow (k + 1 : Nat))).set (h.next + 1 + 1) (spotRow 0 0)) (.pointer (some ⟨h.next, 0, none⟩)) (.pointer (some ⟨h.next + 1, 0, none⟩)) (.pointer (some ⟨h.next + 1 + 1, 0, none⟩))
    refine ⟨_, _, _, b, _, rfl, Leaves.ret (ares25 (out := out) (n := (k + 1 : Nat)) (e := 0) (p := 0) rfl rfl rfl ?_ ?_ ?_) rfl⟩
    · rw [Heap.get_set_ne (by omega), Heap.get_set_ne (by omega)]; exact Heap.get_set_self m0
    · rw [Heap.get_set_ne (by omega)]; exact Heap.get_set_self (by rw [Heap.get_set_ne (by omega)]; exact m1)
    · exact Heap.get_set_self (by rw [Heap.get_set_ne (by omega), Heap.get_set_ne (by omega)]; exact m2)

theorem quotedV_flat (R : SR) : flat (quotedV R) = true := by cases R <;> rfl
theorem quoted_spec (G : Nat) (B : Base Tryz.prog G) (h : Heap) (T : List UInt8) (most : Int) (hT : T.length ≤ 1000000) (hm : -1 ≤ most) :
    Does Tryz.prog G (GoodE Tryz.prog B) 158 [.string (bs T), .int .i64 most] h (fun r h' => r = .returned (quotedV (scanQ most T)) ∧ h' = h) :=
  Does.fromBare (by intro x hx; simp only [List.mem_cons, List.not_mem_nil, or_false] at hx; rcases hx with rfl | rfl <;> rfl) (quotedV_flat _) (quoted_bare G B B.hB T most hT hm) h
end Go.Mini
