/-
  LEX, part U: byteAt.
-/
import Derived.Test.YtbcdlipddmoobaaLexT
set_option linter.unusedSimpArgs false
set_option maxHeartbeats 4000000
namespace Go.Mini
open Go.Proofs

def byteAtV (at' : Nat) : Sum Nat (UInt8 × Nat) → Value
  | .inr (c, n) => .tuple #[byteV c, .int .i64 (at' + n : Nat), .bool true]
  | .inl j => .tuple #[.int .u8 0, .int .i64 (at' + j : Nat), .bool false]
theorem lcp_drop : ∀ (x y : List UInt8) (n : Nat), lcp x y = n + lcp (x.drop n) (y.drop n) → ∀ a b, x[n]? = some a → y[n]? = some b → lcp x y = if a = b then (n + 1) + lcp (x.drop (n + 1)) (y.drop (n + 1)) else n := by
  intro x y n h a b ha hb
  rw [h, drop_cons ha, drop_cons hb, lcp_cons]
  split <;> omega
theorem conv35b (n : Nat) (h : n < 256) : aconv Try.prog 3 5 (.int .i64 n) = some (byteV n.toUInt8) := by
  rw [conv35, show IntKind.u8.wrap (n : Int) = n by rw [IntKind.wrap_u8]; omega]
  unfold byteV
  have : n.toUInt8.toNat = n := by simp; omega
  rw [this]
theorem byteAt_spec (h : Heap) (T : List UInt8) (at' : Nat) (hat : at' ≤ T.length) (hT : T.length ≤ 1000000) :
    Does Try.prog 0 (GoodE Try.prog (baseM 0)) 34 [.string (bs T), .int .i64 at'] h fun r h' => r = .returned (byteAtV at' (signAt (T.drop at'))) ∧ h' = h := by
  have c45 : canEnter Try.prog 45 = true := by kernel_rfl
  have htr := trial (T.drop at')
  refine Does.body Try.func34 rfl ?_
  have hn : enterF Try.f34 [.string (bs T), .int .i64 at'] = ⟨62, [(0, .string (bs T)), (1, .int .i64 at')], []⟩ := rfl
  rw [hn]; clear hn
  repeat refine Wp.seq ?_
  refine Wp.runS (by simp only [runS, stepO, stepW, stepV, keep, guardOf, wantG, wantV, aop, binA, aev, flat, if_true, if_false, Option.bind_some, Option.map_some, Frm.put, look, setk, Nat.reduceLT, Nat.reduceEqDiff, evs, evp, evo, List.getElem?_toArray, List.getElem?_cons_succ, List.getElem?_cons_zero, Bool.false_eq_true, Bool.true_eq_false, beq_self_eq_true, beq_ft, beq_tf, notNil, Bool.not_true, Bool.not_false, reduceCtorEq, abuiltin, aextract] <;> exact rfl) ?_
  dsimp only [after, leaving]
  repeat refine Wp.seq ?_
  refine Wp.runS (by simp only [runS, stepO, stepW, stepV, keep, guardOf, wantG, wantV, aop, binA, aev, flat, if_true, if_false, Option.bind_some, Option.map_some, Frm.put, look, setk, Nat.reduceLT, Nat.reduceEqDiff, evs, evp, evo, List.getElem?_toArray, List.getElem?_cons_succ, List.getElem?_cons_zero, Bool.false_eq_true, Bool.true_eq_false, beq_self_eq_true, beq_ft, beq_tf, notNil, Bool.not_true, Bool.not_false, reduceCtorEq, abuiltin, aextract] <;> exact rfl) ?_
  dsimp only [after, leaving]
  repeat refine Wp.seq ?_
  refine Wp.runS (by simp only [runS, stepO, stepW, stepV, keep, guardOf, wantG, wantV, aop, binA, aev, flat, if_true, if_false, Option.bind_some, Option.map_some, Frm.put, look, setk, Nat.reduceLT, Nat.reduceEqDiff, evs, evp, evo, List.getElem?_toArray, List.getElem?_cons_succ, List.getElem?_cons_zero, Bool.false_eq_true, Bool.true_eq_false, beq_self_eq_true, beq_ft, beq_tf, notNil, Bool.not_true, Bool.not_false, reduceCtorEq, abuiltin, aextract] <;> exact rfl) ?_
  dsimp only [after, leaving]
  generalize hX : T.drop at' = X at htr ⊢
  have hXn : ∀ n, X[n]? = T[at' + n]? := fun n => by rw [← hX, List.getElem?_drop]
  repeat refine Wp.seq ?_
  refine Wp.block ?_
  refine Wp.loopI (X := Nat × Nat) (fun x => [(0, .string (bs T)), (1, .int .i64 at'), (7, .int .i64 (at' + x.2 : Nat)), (8, .int .i64 x.1)]) (fun _ => h)
    (fun x => x.1 ≤ 256 ∧ x.2 ≤ 4 ∧ (∀ b : UInt8, b.toNat < x.1 → lcp X (signOf b) < (signOf b).length ∧ lcp X (signOf b) ≤ x.2) ∧ (x.2 = 0 ∨ ∃ b, lcp X (signOf b) = x.2)) (fun x => 256 - x.1) ⟨0, 0⟩
    ⟨by simp, by simp, fun b hb => by simp at hb, .inl rfl⟩ ⟨rfl, rfl, rfl, rfl, trivial⟩ rfl ?_
  rintro ⟨c, f⟩ ⟨hc, hf4, hall, hex⟩
  simp only [] at hc hf4 hall hex ⊢
  by_cases hlt : (c : Int) < 256
  case neg =>
    repeat refine Wp.seq ?_
    refine Wp.runS (by simp only [runS, stepO, stepW, stepV, keep, guardOf, wantG, wantV, aop, binA, aev, flat, if_true, if_false, Option.bind_some, Option.map_some, Frm.put, look, setk, Nat.reduceLT, Nat.reduceEqDiff, evs, evp, evo, List.getElem?_toArray, List.getElem?_cons_succ, List.getElem?_cons_zero, Bool.false_eq_true, Bool.true_eq_false, beq_self_eq_true, beq_ft, beq_tf, notNil, Bool.not_true, Bool.not_false, reduceCtorEq, abuiltin, aextract, abin_int, ai_lss, decide_eq_false hlt] <;> exact rfl) ?_
    dsimp only [after, leaving]
    repeat refine Wp.seq ?_
    refine Wp.condF (by simp only [runS, stepO, stepW, stepV, keep, guardOf, wantG, wantV, aop, binA, aev, flat, if_true, if_false, Option.bind_some, Option.map_some, Frm.put, look, setk, Nat.reduceLT, Nat.reduceEqDiff, evs, evp, evo, List.getElem?_toArray, List.getElem?_cons_succ, List.getElem?_cons_zero, Bool.false_eq_true, Bool.true_eq_false, beq_self_eq_true, beq_ft, beq_tf, notNil, Bool.not_true, Bool.not_false, reduceCtorEq, abuiltin, aextract]) ?_
    repeat refine Wp.seq ?_
    refine Wp.exit ?_
    simp only [after, leaving, blockExit, if_true, if_false, Nat.reduceEqDiff]
    repeat refine Wp.seq ?_
    refine Wp.runS (by simp only [runS, stepO, stepW, stepV, keep, guardOf, wantG, wantV, aop, binA, aev, flat, if_true, if_false, Option.bind_some, Option.map_some, Frm.put, look, setk, Nat.reduceLT, Nat.reduceEqDiff, evs, evp, evo, List.getElem?_toArray, List.getElem?_cons_succ, List.getElem?_cons_zero, Bool.false_eq_true, Bool.true_eq_false, beq_self_eq_true, beq_ft, beq_tf, notNil, Bool.not_true, Bool.not_false, reduceCtorEq, abuiltin, aextract] <;> exact rfl) ?_
    dsimp only [after, leaving]
    repeat refine Wp.seq ?_
    refine Wp.ret ?_
    dsimp only [after, leaving]
    refine ⟨rfl, rfl, _, rfl, ?_, rfl⟩
    have hc2 : ∀ b : UInt8, b.toNat < c := fun b => by have := b.toNat_lt; omega
    cases hs : signAt X with
    | inr cn =>
      obtain ⟨b, n⟩ := cn
      rw [hs] at htr
      obtain ⟨q1, q2, _⟩ := htr
      have := (hall b (hc2 b)).1
      omega
    | inl j =>
      rw [hs] at htr
      obtain ⟨q1, b, q2⟩ := htr
      have h1 := (hall b (hc2 b)).2
      have h2 : f ≤ j := by
        rcases hex with rfl | ⟨b, hb⟩
        · omega
        · rw [← hb]; exact (q1 b).2
      obtain rfl : f = j := by omega
      rfl
  repeat refine Wp.seq ?_
  refine Wp.runS (by simp only [runS, stepO, stepW, stepV, keep, guardOf, wantG, wantV, aop, binA, aev, flat, if_true, if_false, Option.bind_some, Option.map_some, Frm.put, look, setk, Nat.reduceLT, Nat.reduceEqDiff, evs, evp, evo, List.getElem?_toArray, List.getElem?_cons_succ, List.getElem?_cons_zero, Bool.false_eq_true, Bool.true_eq_false, beq_self_eq_true, beq_ft, beq_tf, notNil, Bool.not_true, Bool.not_false, reduceCtorEq, abuiltin, aextract, abin_int, ai_lss, decide_eq_true hlt] <;> exact rfl) ?_
  dsimp only [after, leaving]
  repeat refine Wp.seq ?_
  refine Wp.condT (by simp only [runS, stepO, stepW, stepV, keep, guardOf, wantG, wantV, aop, binA, aev, flat, if_true, if_false, Option.bind_some, Option.map_some, Frm.put, look, setk, Nat.reduceLT, Nat.reduceEqDiff, evs, evp, evo, List.getElem?_toArray, List.getElem?_cons_succ, List.getElem?_cons_zero, Bool.false_eq_true, Bool.true_eq_false, beq_self_eq_true, beq_ft, beq_tf, notNil, Bool.not_true, Bool.not_false, reduceCtorEq, abuiltin, aextract]) ?_
  repeat refine Wp.seq ?_
  refine Wp.skip ?_
  dsimp only [after, leaving]
  repeat refine Wp.seq ?_
  refine Wp.block ?_
  obtain ⟨b, hbn, hbc⟩ : ∃ b : UInt8, c.toUInt8 = b ∧ b.toNat = c := ⟨_, rfl, by simp; omega⟩
  repeat refine Wp.seq ?_
  refine Wp.regionAs (is := List.range' 0 2 ++ (2 :: (List.range' 3 1 ++ []))) rfl ?_
  refine WpO.runS 2 (by simp only [List.drop_succ_cons, List.drop_zero, List.take_succ_cons, List.take_zero, runS, stepO, stepW, stepV, keep, guardOf, wantG, wantV, aop, binA, aev, flat, if_true, if_false, Option.bind_some, Option.map_some, Frm.put, look, setk, Nat.reduceLT, Nat.reduceEqDiff, evs, evp, evo, List.getElem?_toArray, List.getElem?_cons_succ, List.getElem?_cons_zero, Bool.false_eq_true, Bool.true_eq_false, beq_self_eq_true, beq_ft, beq_tf, notNil, Bool.not_true, Bool.not_false, reduceCtorEq, abuiltin, aextract, conv35b c (by omega), hbn] <;> exact rfl) (by decide) ?_
  refine WpO.callR (sign_does (baseM 0) b h) rfl (by simp only [runS, stepO, stepW, stepV, keep, guardOf, wantG, wantV, aop, binA, aev, flat, if_true, if_false, Option.bind_some, Option.map_some, Frm.put, look, setk, Nat.reduceLT, Nat.reduceEqDiff, evs, evp, evo, List.getElem?_toArray, List.getElem?_cons_succ, List.getElem?_cons_zero, Bool.false_eq_true, Bool.true_eq_false, beq_self_eq_true, beq_ft, beq_tf, notNil, Bool.not_true, Bool.not_false, reduceCtorEq, abuiltin, aextract, c45]) (by simp only [calleeOf, fnOf, List.append_nil, List.nil_append, runS, stepO, stepW, stepV, keep, guardOf, wantG, wantV, aop, binA, aev, flat, if_true, if_false, Option.bind_some, Option.map_some, Frm.put, look, setk, Nat.reduceLT, Nat.reduceEqDiff, evs, evp, evo, List.getElem?_toArray, List.getElem?_cons_succ, List.getElem?_cons_zero, Bool.false_eq_true, Bool.true_eq_false, beq_self_eq_true, beq_ft, beq_tf, notNil, Bool.not_true, Bool.not_false, reduceCtorEq, abuiltin, aextract, c45] <;> exact rfl) ?_
  rintro _ h9 ⟨rfl, hh9⟩
  obtain rfl := hh9.symm
  clear hh9
  refine ⟨_, _, rfl, by simp only [runS, stepO, stepW, stepV, keep, guardOf, wantG, wantV, aop, binA, aev, flat, if_true, if_false, Option.bind_some, Option.map_some, Frm.put, look, setk, Nat.reduceLT, Nat.reduceEqDiff, evs, evp, evo, List.getElem?_toArray, List.getElem?_cons_succ, List.getElem?_cons_zero, Bool.false_eq_true, Bool.true_eq_false, beq_self_eq_true, beq_ft, beq_tf, notNil, Bool.not_true, Bool.not_false, reduceCtorEq, abuiltin, aextract]; exact rfl, ?_⟩
  refine WpO.runS 1 (by simp only [List.drop_succ_cons, List.drop_zero, List.take_succ_cons, List.take_zero, runS, stepO, stepW, stepV, keep, guardOf, wantG, wantV, aop, binA, aev, flat, if_true, if_false, Option.bind_some, Option.map_some, Frm.put, look, setk, Nat.reduceLT, Nat.reduceEqDiff, evs, evp, evo, List.getElem?_toArray, List.getElem?_cons_succ, List.getElem?_cons_zero, Bool.false_eq_true, Bool.true_eq_false, beq_self_eq_true, beq_ft, beq_tf, notNil, Bool.not_true, Bool.not_false, reduceCtorEq, abuiltin, aextract] <;> exact rfl) (by decide) ?_
  refine WpO.nil ?_
  dsimp only [after, leaving]
  repeat refine Wp.seq ?_
  refine Wp.runS (by simp only [runS, stepO, stepW, stepV, keep, guardOf, wantG, wantV, aop, binA, aev, flat, if_true, if_false, Option.bind_some, Option.map_some, Frm.put, look, setk, Nat.reduceLT, Nat.reduceEqDiff, evs, evp, evo, List.getElem?_toArray, List.getElem?_cons_succ, List.getElem?_cons_zero, Bool.false_eq_true, Bool.true_eq_false, beq_self_eq_true, beq_ft, beq_tf, notNil, Bool.not_true, Bool.not_false, reduceCtorEq, abuiltin, aextract] <;> exact rfl) ?_
  dsimp only [after, leaving]
  have hw4 : (signOf b).length ≤ 4 := by rcases signOf_cases b with ⟨_, _, h⟩ | ⟨k, _, h⟩ | ⟨_, _, h⟩ <;> rw [h] <;> simp
  generalize hw : signOf b = w at hw4 ⊢
  repeat refine Wp.seq ?_
  refine Wp.cut (fun fr u h' => u = none ∧ h' = h ∧ ∃ sl, fr = ⟨62, sl, []⟩ ∧ holds [(0, .string (bs T)), (1, .int .i64 at'), (7, .int .i64 (at' + f : Nat)), (8, .int .i64 c), (9, .string (bs w)), (10, .int .i64 (lcp X w))] sl) ?_ ?_
  rotate_left
  · repeat refine Wp.seq ?_
    refine Wp.block ?_
    refine Wp.loopI (X := Nat) (fun n => [(0, .string (bs T)), (1, .int .i64 at'), (7, .int .i64 (at' + f : Nat)), (8, .int .i64 c), (9, .string (bs w)), (10, .int .i64 n)]) (fun _ => h)
      (fun n => n ≤ w.length ∧ lcp X w = n + lcp (X.drop n) (w.drop n)) (fun n => w.length - n) 0 ⟨Nat.zero_le _, by simp⟩ ⟨rfl, rfl, rfl, rfl, rfl, rfl, trivial⟩ rfl ?_
    rintro n ⟨hn, hl⟩
    by_cases h1 : (n : Int) < (w.length : Int)
    case neg =>
      repeat refine Wp.seq ?_
      refine Wp.runSD mixed (by kernel_rfl) (by simp only [runSD, stepOD, stepWD, stepVD, isLoud, isPure, isReader, decide_true, Bool.or_true, Bool.true_or, Bool.or_self, Bool.and_self, Bool.and_true, Bool.and_false, Heap.next_set, Heap.next_alloc, runS, stepO, stepW, stepV, keep, guardOf, wantG, wantV, aop, binA, aev, flat, if_true, if_false, Option.bind_some, Option.map_some, Frm.put, look, setk, Nat.reduceLT, Nat.reduceEqDiff, evs, evp, evo, List.getElem?_toArray, List.getElem?_cons_succ, List.getElem?_cons_zero, Bool.false_eq_true, Bool.true_eq_false, beq_self_eq_true, beq_ft, beq_tf, notNil, Bool.not_true, Bool.not_false, reduceCtorEq, abuiltin, aextract, alen_str Try.underlying9, bs_size, abin_int, ai_lss, decide_eq_false h1] <;> exact rfl) ?_
      dsimp only [after, leaving]
      repeat refine Wp.seq ?_
      refine Wp.condF (by simp only [runS, stepO, stepW, stepV, keep, guardOf, wantG, wantV, aop, binA, aev, flat, if_true, if_false, Option.bind_some, Option.map_some, Frm.put, look, setk, Nat.reduceLT, Nat.reduceEqDiff, evs, evp, evo, List.getElem?_toArray, List.getElem?_cons_succ, List.getElem?_cons_zero, Bool.false_eq_true, Bool.true_eq_false, beq_self_eq_true, beq_ft, beq_tf, notNil, Bool.not_true, Bool.not_false, reduceCtorEq, abuiltin, aextract]) ?_
      repeat refine Wp.seq ?_
      refine Wp.exit ?_
      simp only [after, leaving, blockExit, if_true, if_false, Nat.reduceEqDiff]
      rw [List.drop_eq_nil_of_le (show w.length ≤ n by omega), lcp_nil', Nat.add_zero] at hl
      rw [hl]
      exact ⟨trivial, trivial, _, rfl, rfl, rfl, rfl, rfl, rfl, rfl, trivial⟩
    have wr : IntKind.i64.wrap ((at' : Int) + (n : Int)) = ((at' + n : Nat) : Int) := by rw [wrap_in (by omega) (by omega)]; omega
    by_cases h2 : ((at' + n : Nat) : Int) < (T.length : Int)
    case neg =>
      repeat refine Wp.seq ?_
      refine Wp.runSD mixed (by kernel_rfl) (by simp only [runSD, stepOD, stepWD, stepVD, isLoud, isPure, isReader, decide_true, Bool.or_true, Bool.true_or, Bool.or_self, Bool.and_self, Bool.and_true, Bool.and_false, Heap.next_set, Heap.next_alloc, runS, stepO, stepW, stepV, keep, guardOf, wantG, wantV, aop, binA, aev, flat, if_true, if_false, Option.bind_some, Option.map_some, Frm.put, look, setk, Nat.reduceLT, Nat.reduceEqDiff, evs, evp, evo, List.getElem?_toArray, List.getElem?_cons_succ, List.getElem?_cons_zero, Bool.false_eq_true, Bool.true_eq_false, beq_self_eq_true, beq_ft, beq_tf, notNil, Bool.not_true, Bool.not_false, reduceCtorEq, abuiltin, aextract, alen_str Try.underlying9, bs_size, abin_int, ai_lss, decide_eq_true h1, ai_add, wr, decide_eq_false h2] <;> exact rfl) ?_
      dsimp only [after, leaving]
      repeat refine Wp.seq ?_
      refine Wp.condF (by simp only [runS, stepO, stepW, stepV, keep, guardOf, wantG, wantV, aop, binA, aev, flat, if_true, if_false, Option.bind_some, Option.map_some, Frm.put, look, setk, Nat.reduceLT, Nat.reduceEqDiff, evs, evp, evo, List.getElem?_toArray, List.getElem?_cons_succ, List.getElem?_cons_zero, Bool.false_eq_true, Bool.true_eq_false, beq_self_eq_true, beq_ft, beq_tf, notNil, Bool.not_true, Bool.not_false, reduceCtorEq, abuiltin, aextract]) ?_
      repeat refine Wp.seq ?_
      refine Wp.exit ?_
      simp only [after, leaving, blockExit, if_true, if_false, Nat.reduceEqDiff]
      have : X.drop n = [] := by rw [← hX, List.drop_drop]; exact List.drop_eq_nil_of_le (by omega)
      rw [this, lcp_nil, Nat.add_zero] at hl
      rw [hl]
      exact ⟨trivial, trivial, _, rfl, rfl, rfl, rfl, rfl, rfl, rfl, trivial⟩
    obtain ⟨y, hy⟩ : ∃ y, T[at' + n]? = some y := ⟨_, List.getElem?_eq_getElem (by omega)⟩
    obtain ⟨z, hz⟩ : ∃ z, w[n]? = some z := ⟨_, List.getElem?_eq_getElem (by omega)⟩
    have hl2 := lcp_drop X w n hl y z (by rw [hXn]; exact hy) hz
    by_cases hyz : y = z
    · have e : ((y.toNat : Int) == (z.toNat : Int)) = true := by rw [hyz]; simp
      repeat refine Wp.seq ?_
      refine Wp.runSD mixed (by kernel_rfl) (by simp only [runSD, stepOD, stepWD, stepVD, isLoud, isPure, isReader, decide_true, Bool.or_true, Bool.true_or, Bool.or_self, Bool.and_self, Bool.and_true, Bool.and_false, Heap.next_set, Heap.next_alloc, runS, stepO, stepW, stepV, keep, guardOf, wantG, wantV, aop, binA, aev, flat, if_true, if_false, Option.bind_some, Option.map_some, Frm.put, look, setk, Nat.reduceLT, Nat.reduceEqDiff, evs, evp, evo, List.getElem?_toArray, List.getElem?_cons_succ, List.getElem?_cons_zero, Bool.false_eq_true, Bool.true_eq_false, beq_self_eq_true, beq_ft, beq_tf, notNil, Bool.not_true, Bool.not_false, reduceCtorEq, abuiltin, aextract, alen_str Try.underlying9, bs_size, abin_int, ai_lss, decide_eq_true h1, ai_add, wr, decide_eq_true h2, aindex_bs Try.underlying9 hy, aindex_bs Try.underlying9 hz, byteV, ai_eql, e] <;> exact rfl) ?_
      dsimp only [after, leaving]
      repeat refine Wp.seq ?_
      refine Wp.condT (by simp only [runS, stepO, stepW, stepV, keep, guardOf, wantG, wantV, aop, binA, aev, flat, if_true, if_false, Option.bind_some, Option.map_some, Frm.put, look, setk, Nat.reduceLT, Nat.reduceEqDiff, evs, evp, evo, List.getElem?_toArray, List.getElem?_cons_succ, List.getElem?_cons_zero, Bool.false_eq_true, Bool.true_eq_false, beq_self_eq_true, beq_ft, beq_tf, notNil, Bool.not_true, Bool.not_false, reduceCtorEq, abuiltin, aextract]) ?_
      repeat refine Wp.seq ?_
      refine Wp.skip ?_
      dsimp only [after, leaving]
      repeat refine Wp.seq ?_
      refine Wp.block ?_
      have hw1 : IntKind.i64.wrap ((n : Int) + 1) = ((n + 1 : Nat) : Int) := by rw [wrap_in (by omega) (by omega)]; omega
      repeat refine Wp.seq ?_
      refine Wp.runS (by simp only [runS, stepO, stepW, stepV, keep, guardOf, wantG, wantV, aop, binA, aev, flat, if_true, if_false, Option.bind_some, Option.map_some, Frm.put, look, setk, Nat.reduceLT, Nat.reduceEqDiff, evs, evp, evo, List.getElem?_toArray, List.getElem?_cons_succ, List.getElem?_cons_zero, Bool.false_eq_true, Bool.true_eq_false, beq_self_eq_true, beq_ft, beq_tf, notNil, Bool.not_true, Bool.not_false, reduceCtorEq, abuiltin, aextract, abin_int, ai_add, hw1] <;> exact rfl) ?_
      dsimp only [after, leaving]
      rw [if_pos hyz] at hl2
      exact ⟨n + 1, _, ⟨by omega, hl2⟩, by omega, rfl, ⟨rfl, rfl, rfl, rfl, rfl, rfl, trivial⟩, rfl, rfl⟩
    · have e : ((y.toNat : Int) == (z.toNat : Int)) = false := by
        rw [beq_eq_false_iff_ne]; intro q; exact hyz (UInt8.toNat_inj.1 (by omega))
      repeat refine Wp.seq ?_
      refine Wp.runSD mixed (by kernel_rfl) (by simp only [runSD, stepOD, stepWD, stepVD, isLoud, isPure, isReader, decide_true, Bool.or_true, Bool.true_or, Bool.or_self, Bool.and_self, Bool.and_true, Bool.and_false, Heap.next_set, Heap.next_alloc, runS, stepO, stepW, stepV, keep, guardOf, wantG, wantV, aop, binA, aev, flat, if_true, if_false, Option.bind_some, Option.map_some, Frm.put, look, setk, Nat.reduceLT, Nat.reduceEqDiff, evs, evp, evo, List.getElem?_toArray, List.getElem?_cons_succ, List.getElem?_cons_zero, Bool.false_eq_true, Bool.true_eq_false, beq_self_eq_true, beq_ft, beq_tf, notNil, Bool.not_true, Bool.not_false, reduceCtorEq, abuiltin, aextract, alen_str Try.underlying9, bs_size, abin_int, ai_lss, decide_eq_true h1, ai_add, wr, decide_eq_true h2, aindex_bs Try.underlying9 hy, aindex_bs Try.underlying9 hz, byteV, ai_eql, e] <;> exact rfl) ?_
      dsimp only [after, leaving]
      repeat refine Wp.seq ?_
      refine Wp.condF (by simp only [runS, stepO, stepW, stepV, keep, guardOf, wantG, wantV, aop, binA, aev, flat, if_true, if_false, Option.bind_some, Option.map_some, Frm.put, look, setk, Nat.reduceLT, Nat.reduceEqDiff, evs, evp, evo, List.getElem?_toArray, List.getElem?_cons_succ, List.getElem?_cons_zero, Bool.false_eq_true, Bool.true_eq_false, beq_self_eq_true, beq_ft, beq_tf, notNil, Bool.not_true, Bool.not_false, reduceCtorEq, abuiltin, aextract]) ?_
      repeat refine Wp.seq ?_
      refine Wp.exit ?_
      simp only [after, leaving, blockExit, if_true, if_false, Nat.reduceEqDiff]
      rw [if_neg hyz] at hl2
      rw [hl2]
      exact ⟨trivial, trivial, _, rfl, rfl, rfl, rfl, rfl, rfl, rfl, trivial⟩
  rintro fr u h9 ⟨rfl, hH, sl, rfl, hs⟩
  obtain rfl := hH.symm
  clear hH
  dsimp only [after, leaving]
  refine Wp.weaken (Frm.le_of hs) ?_
  clear hs sl
  have hle := (lcp_le X w).1
  have wr : IntKind.i64.wrap ((at' : Int) + (lcp X w : Int)) = ((at' + lcp X w : Nat) : Int) := by rw [wrap_in (by omega) (by omega)]; omega
  by_cases hm : lcp X w = w.length
  · have e : ((lcp X w : Int) == (w.length : Int)) = true := by rw [hm]; simp
    repeat refine Wp.seq ?_
    refine Wp.runS (by simp only [runS, stepO, stepW, stepV, keep, guardOf, wantG, wantV, aop, binA, aev, flat, if_true, if_false, Option.bind_some, Option.map_some, Frm.put, look, setk, Nat.reduceLT, Nat.reduceEqDiff, evs, evp, evo, List.getElem?_toArray, List.getElem?_cons_succ, List.getElem?_cons_zero, Bool.false_eq_true, Bool.true_eq_false, beq_self_eq_true, beq_ft, beq_tf, notNil, Bool.not_true, Bool.not_false, reduceCtorEq, abuiltin, aextract, alen_str Try.underlying9, bs_size, abin_int, ai_eql, e] <;> exact rfl) ?_
    dsimp only [after, leaving]
    repeat refine Wp.seq ?_
    refine Wp.condT (by simp only [runS, stepO, stepW, stepV, keep, guardOf, wantG, wantV, aop, binA, aev, flat, if_true, if_false, Option.bind_some, Option.map_some, Frm.put, look, setk, Nat.reduceLT, Nat.reduceEqDiff, evs, evp, evo, List.getElem?_toArray, List.getElem?_cons_succ, List.getElem?_cons_zero, Bool.false_eq_true, Bool.true_eq_false, beq_self_eq_true, beq_ft, beq_tf, notNil, Bool.not_true, Bool.not_false, reduceCtorEq, abuiltin, aextract]) ?_
    repeat refine Wp.seq ?_
    refine Wp.runS (by simp only [runS, stepO, stepW, stepV, keep, guardOf, wantG, wantV, aop, binA, aev, flat, if_true, if_false, Option.bind_some, Option.map_some, Frm.put, look, setk, Nat.reduceLT, Nat.reduceEqDiff, evs, evp, evo, List.getElem?_toArray, List.getElem?_cons_succ, List.getElem?_cons_zero, Bool.false_eq_true, Bool.true_eq_false, beq_self_eq_true, beq_ft, beq_tf, notNil, Bool.not_true, Bool.not_false, reduceCtorEq, abuiltin, aextract, conv35b c (by omega), hbn, abin_int, ai_add, wr] <;> exact rfl) ?_
    dsimp only [after, leaving]
    repeat refine Wp.seq ?_
    refine Wp.ret ?_
    dsimp only [after, leaving]
    refine ⟨rfl, rfl, _, rfl, ?_, rfl⟩
    cases hs : signAt X with
    | inl j =>
      rw [hs] at htr
      have := (htr.1 b).1
      rw [hw] at this; omega
    | inr cn =>
      obtain ⟨c', n⟩ := cn
      rw [hs] at htr
      obtain ⟨q1, q2, q3⟩ := htr
      by_cases hbc2 : b = c'
      · subst hbc2
        rw [hw] at q1 q2
        rw [q2]; rfl
      · have := q3 b hbc2
        rw [hw] at this; omega
  · have e : ((lcp X w : Int) == (w.length : Int)) = false := by rw [beq_eq_false_iff_ne]; omega
    have hw1 : IntKind.i64.wrap ((c : Int) + 1) = ((c + 1 : Nat) : Int) := by rw [wrap_in (by omega) (by omega)]; omega
    repeat refine Wp.seq ?_
    refine Wp.runS (by simp only [runS, stepO, stepW, stepV, keep, guardOf, wantG, wantV, aop, binA, aev, flat, if_true, if_false, Option.bind_some, Option.map_some, Frm.put, look, setk, Nat.reduceLT, Nat.reduceEqDiff, evs, evp, evo, List.getElem?_toArray, List.getElem?_cons_succ, List.getElem?_cons_zero, Bool.false_eq_true, Bool.true_eq_false, beq_self_eq_true, beq_ft, beq_tf, notNil, Bool.not_true, Bool.not_false, reduceCtorEq, abuiltin, aextract, alen_str Try.underlying9, bs_size, abin_int, ai_eql, e] <;> exact rfl) ?_
    dsimp only [after, leaving]
    repeat refine Wp.seq ?_
    refine Wp.condF (by simp only [runS, stepO, stepW, stepV, keep, guardOf, wantG, wantV, aop, binA, aev, flat, if_true, if_false, Option.bind_some, Option.map_some, Frm.put, look, setk, Nat.reduceLT, Nat.reduceEqDiff, evs, evp, evo, List.getElem?_toArray, List.getElem?_cons_succ, List.getElem?_cons_zero, Bool.false_eq_true, Bool.true_eq_false, beq_self_eq_true, beq_ft, beq_tf, notNil, Bool.not_true, Bool.not_false, reduceCtorEq, abuiltin, aextract]) ?_
    repeat refine Wp.seq ?_
    refine Wp.skip ?_
    dsimp only [after, leaving]
    have hstep : ∀ f', f ≤ f' → lcp X w ≤ f' → ∀ b' : UInt8, b'.toNat < c + 1 → lcp X (signOf b') < (signOf b').length ∧ lcp X (signOf b') ≤ f' := by
      intro f' h1 h2 b' hb'
      by_cases hq : b'.toNat < c
      · have := hall b' hq; omega
      · obtain rfl : b' = b := UInt8.toNat_inj.1 (by omega)
        rw [hw]; omega
    by_cases hfar : ((at' + f : Nat) : Int) < ((at' + lcp X w : Nat) : Int)
    · repeat refine Wp.seq ?_
      refine Wp.runS (by simp only [runS, stepO, stepW, stepV, keep, guardOf, wantG, wantV, aop, binA, aev, flat, if_true, if_false, Option.bind_some, Option.map_some, Frm.put, look, setk, Nat.reduceLT, Nat.reduceEqDiff, evs, evp, evo, List.getElem?_toArray, List.getElem?_cons_succ, List.getElem?_cons_zero, Bool.false_eq_true, Bool.true_eq_false, beq_self_eq_true, beq_ft, beq_tf, notNil, Bool.not_true, Bool.not_false, reduceCtorEq, abuiltin, aextract, abin_int, ai_add, wr, ai_gtr, decide_eq_true hfar] <;> exact rfl) ?_
      dsimp only [after, leaving]
      repeat refine Wp.seq ?_
      refine Wp.condT (by simp only [runS, stepO, stepW, stepV, keep, guardOf, wantG, wantV, aop, binA, aev, flat, if_true, if_false, Option.bind_some, Option.map_some, Frm.put, look, setk, Nat.reduceLT, Nat.reduceEqDiff, evs, evp, evo, List.getElem?_toArray, List.getElem?_cons_succ, List.getElem?_cons_zero, Bool.false_eq_true, Bool.true_eq_false, beq_self_eq_true, beq_ft, beq_tf, notNil, Bool.not_true, Bool.not_false, reduceCtorEq, abuiltin, aextract]) ?_
      repeat refine Wp.seq ?_
      refine Wp.runS (by simp only [runS, stepO, stepW, stepV, keep, guardOf, wantG, wantV, aop, binA, aev, flat, if_true, if_false, Option.bind_some, Option.map_some, Frm.put, look, setk, Nat.reduceLT, Nat.reduceEqDiff, evs, evp, evo, List.getElem?_toArray, List.getElem?_cons_succ, List.getElem?_cons_zero, Bool.false_eq_true, Bool.true_eq_false, beq_self_eq_true, beq_ft, beq_tf, notNil, Bool.not_true, Bool.not_false, reduceCtorEq, abuiltin, aextract, abin_int, ai_add, wr] <;> exact rfl) ?_
      dsimp only [after, leaving]
      repeat refine Wp.seq ?_
      refine Wp.runS (by simp only [runS, stepO, stepW, stepV, keep, guardOf, wantG, wantV, aop, binA, aev, flat, if_true, if_false, Option.bind_some, Option.map_some, Frm.put, look, setk, Nat.reduceLT, Nat.reduceEqDiff, evs, evp, evo, List.getElem?_toArray, List.getElem?_cons_succ, List.getElem?_cons_zero, Bool.false_eq_true, Bool.true_eq_false, beq_self_eq_true, beq_ft, beq_tf, notNil, Bool.not_true, Bool.not_false, reduceCtorEq, abuiltin, aextract, abin_int, ai_add, hw1] <;> exact rfl) ?_
      dsimp only [after, leaving]
      exact ⟨⟨c + 1, lcp X w⟩, _, ⟨by simp only []; omega, by simp only []; omega, hstep _ (by omega) (Nat.le_refl _), .inr ⟨b, by rw [hw]⟩⟩, by simp only []; omega, rfl, ⟨rfl, rfl, rfl, rfl, trivial⟩, rfl, rfl⟩
    · repeat refine Wp.seq ?_
      refine Wp.runS (by simp only [runS, stepO, stepW, stepV, keep, guardOf, wantG, wantV, aop, binA, aev, flat, if_true, if_false, Option.bind_some, Option.map_some, Frm.put, look, setk, Nat.reduceLT, Nat.reduceEqDiff, evs, evp, evo, List.getElem?_toArray, List.getElem?_cons_succ, List.getElem?_cons_zero, Bool.false_eq_true, Bool.true_eq_false, beq_self_eq_true, beq_ft, beq_tf, notNil, Bool.not_true, Bool.not_false, reduceCtorEq, abuiltin, aextract, abin_int, ai_add, wr, ai_gtr, decide_eq_false hfar] <;> exact rfl) ?_
      dsimp only [after, leaving]
      repeat refine Wp.seq ?_
      refine Wp.condF (by simp only [runS, stepO, stepW, stepV, keep, guardOf, wantG, wantV, aop, binA, aev, flat, if_true, if_false, Option.bind_some, Option.map_some, Frm.put, look, setk, Nat.reduceLT, Nat.reduceEqDiff, evs, evp, evo, List.getElem?_toArray, List.getElem?_cons_succ, List.getElem?_cons_zero, Bool.false_eq_true, Bool.true_eq_false, beq_self_eq_true, beq_ft, beq_tf, notNil, Bool.not_true, Bool.not_false, reduceCtorEq, abuiltin, aextract]) ?_
      repeat refine Wp.seq ?_
      refine Wp.skip ?_
      dsimp only [after, leaving]
      repeat refine Wp.seq ?_
      refine Wp.runS (by simp only [runS, stepO, stepW, stepV, keep, guardOf, wantG, wantV, aop, binA, aev, flat, if_true, if_false, Option.bind_some, Option.map_some, Frm.put, look, setk, Nat.reduceLT, Nat.reduceEqDiff, evs, evp, evo, List.getElem?_toArray, List.getElem?_cons_succ, List.getElem?_cons_zero, Bool.false_eq_true, Bool.true_eq_false, beq_self_eq_true, beq_ft, beq_tf, notNil, Bool.not_true, Bool.not_false, reduceCtorEq, abuiltin, aextract, abin_int, ai_add, hw1] <;> exact rfl) ?_
      dsimp only [after, leaving]
      exact ⟨⟨c + 1, f⟩, _, ⟨by simp only []; omega, hf4, hstep _ (Nat.le_refl _) (by omega), hex⟩, by simp only []; omega, rfl, ⟨rfl, rfl, rfl, rfl, trivial⟩, rfl, rfl⟩
end Go.Mini
