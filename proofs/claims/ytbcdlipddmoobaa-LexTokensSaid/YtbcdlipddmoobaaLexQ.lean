/-
  LEX, part Q: LexLines.
-/
import Derived.Test.YtbcdlipddmoobaaLexO
set_option linter.unusedSimpArgs false
set_option maxHeartbeats 8000000
namespace Go.Mini
open Go.Proofs

theorem lexA_len {T : List UInt8} : ∀ (n a : Nat) (sm : Bool) (o : List Tok), T.length - a ≤ n → a ≤ T.length → ∀ o', lexA T a sm o = .ok o' → o'.length ≤ o.length + (T.length - a) + 1 := by
  intro n
  induction n with
  | zero =>
    intro a sm o h1 h2 o' he
    obtain rfl : a = T.length := by omega
    have hb : peekB T T.length = 10 := by unfold peekB; simp
    rw [lexA_eq h2, hb] at he
    simp only [if_neg (show ¬ ((10 : UInt8) = 32 ∨ (10 : UInt8) = 9) by decide), if_neg (show ¬ (10 : UInt8) = 35 by decide), if_true] at he
    cases he
    cases sm <;> simp
  | succ n ih =>
    intro a sm o h1 h2 o' he
    have lt10 : peekB T a ≠ 10 → a < T.length := peek_lt
    rw [lexA_eq h2] at he
    split at he
    · rename_i hb
      have := lt10 (by rcases hb with q | q <;> rw [q] <;> decide)
      have := ih _ _ _ (by omega) (by omega) _ he
      omega
    · split at he
      · rename_i _ hb
        obtain ⟨q1, q2⟩ := skipR_gt hb
        have := ih _ _ _ (by omega) q2 _ he
        omega
      · split at he
        · split at he
          · cases he
            cases sm <;> simp <;> omega
          · have := ih _ _ _ (by omega) (by omega) _ he
            cases sm <;> simp at this <;> omega
        · cases ht : tokS T a with
          | error ep => rw [ht] at he; cases he
          | ok tt =>
            obtain ⟨t, to⟩ := tt
            rw [ht] at he
            have := tokS_gt ht
            have q := tokS_le ht
            have := ih _ _ _ (by omega) q _ he
            simp at this; omega
theorem lexS_len {T : List UInt8} {o : List Tok} (h : lexS T = .ok o) : o.length ≤ T.length + 1 := by
  rw [lexS_eq] at h
  split at h
  · cases h
  · have := lexA_len _ 0 false [] (Nat.le_refl _) (Nat.zero_le _) o h
    simpa using this

theorem lexA_at {T : List UInt8} : ∀ (n a : Nat) (sm : Bool) (o : List Tok), T.length - a ≤ n → a ≤ T.length → ∀ o', lexA T a sm o = .ok o' → (∀ t ∈ o, t.at' ≤ T.length) → ∀ t ∈ o', t.at' ≤ T.length := by
  intro n
  induction n with
  | zero =>
    intro a sm o h1 h2 o' he ho
    obtain rfl : a = T.length := by omega
    have hb : peekB T T.length = 10 := by unfold peekB; simp
    rw [lexA_eq h2, hb] at he
    simp only [if_neg (show ¬ ((10 : UInt8) = 32 ∨ (10 : UInt8) = 9) by decide), if_neg (show ¬ (10 : UInt8) = 35 by decide), if_true] at he
    cases he
    cases sm
    · simpa using ho
    · simp only [if_true, List.mem_append, List.mem_singleton]
      rintro t (q | rfl)
      · exact ho t q
      · exact Nat.le_refl _
  | succ n ih =>
    intro a sm o h1 h2 o' he ho
    have lt10 : peekB T a ≠ 10 → a < T.length := peek_lt
    rw [lexA_eq h2] at he
    split at he
    · rename_i hb
      have := lt10 (by rcases hb with q | q <;> rw [q] <;> decide)
      exact ih _ _ _ (by omega) (by omega) _ he ho
    · split at he
      · rename_i _ hb
        obtain ⟨q1, q2⟩ := skipR_gt hb
        exact ih _ _ _ (by omega) q2 _ he ho
      · split at he
        · have ho2 : ∀ t ∈ (if sm then o ++ [⟨6, [], 0, a⟩] else o), t.at' ≤ T.length := by
            cases sm
            · simpa using ho
            · simp only [if_true, List.mem_append, List.mem_singleton]
              rintro t (q | rfl)
              · exact ho t q
              · exact h2
          split at he
          · cases he; exact ho2
          · exact ih _ _ _ (by omega) (by omega) _ he ho2
        · cases ht : tokS T a with
          | error ep => rw [ht] at he; cases he
          | ok tt =>
            obtain ⟨t, to⟩ := tt
            rw [ht] at he
            have := tokS_gt ht
            have q := tokS_le ht
            refine ih _ _ _ (by omega) q _ he ?_
            simp only [List.mem_append, List.mem_singleton]
            rintro u (q | rfl)
            · exact ho u q
            · unfold tokS at ht
              split at ht
              · cases ht
              · split at ht
                · cases ht; exact h2
                · cases ht
theorem lexS_at {T : List UInt8} {o : List Tok} (h : lexS T = .ok o) {i : Nat} {t : Tok} (ht : o[i]? = some t) : t.at' ≤ T.length := by
  rw [lexS_eq] at h
  split at h
  · cases h
  · exact lexA_at _ 0 false [] (Nat.le_refl _) (Nat.zero_le _) o h (by simp) t (List.mem_of_getElem? ht)

theorem lines_spec (h : Heap) (A B : List UInt8) (hA : A.length ≤ 281474976710656) (hB : B.length ≤ 281474976710656) :
    Does Try.prog 0 (GoodE Try.prog (baseM 0)) 4 [.string (bs A), .string (bs B)] h fun r _ => r = .returned (.bool true) := by
  have c7 : canEnter Try.prog 7 = true := by kernel_rfl
  have c9 : canEnter Try.prog 9 = true := by kernel_rfl
  refine Does.body Try.func4 rfl ?_
  have hn : enterF Try.f4 [.string (bs A), .string (bs B)] = ⟨130, [(0, .string (bs A)), (1, .string (bs B))], []⟩ := rfl
  rw [hn]; clear hn
  repeat refine Wp.seq ?_
  refine Wp.runS (by simp only [runS, stepO, stepW, stepV, keep, guardOf, wantG, wantV, aop, binA, aev, flat, if_true, if_false, Option.bind_some, Option.map_some, Frm.put, look, setk, Nat.reduceLT, Nat.reduceEqDiff, evs, evp, evo, List.getElem?_toArray, List.getElem?_cons_succ, List.getElem?_cons_zero, Bool.false_eq_true, Bool.true_eq_false, beq_self_eq_true, beq_ft, beq_tf, notNil, Bool.not_true, Bool.not_false, reduceCtorEq, abuiltin, aextract] <;> exact rfl) ?_
  dsimp only [after, leaving]
  repeat refine Wp.seq ?_
  refine Wp.regionAs (is := 0 :: (List.range' 1 1 ++ [])) rfl ?_
  refine WpO.callR (works_does h) rfl (by simp only [runS, stepO, stepW, stepV, keep, guardOf, wantG, wantV, aop, binA, aev, flat, if_true, if_false, Option.bind_some, Option.map_some, Frm.put, look, setk, Nat.reduceLT, Nat.reduceEqDiff, evs, evp, evo, List.getElem?_toArray, List.getElem?_cons_succ, List.getElem?_cons_zero, Bool.false_eq_true, Bool.true_eq_false, beq_self_eq_true, beq_ft, beq_tf, notNil, Bool.not_true, Bool.not_false, reduceCtorEq, abuiltin, aextract, c7]) (by simp only [calleeOf, fnOf, List.append_nil, List.nil_append, runS, stepO, stepW, stepV, keep, guardOf, wantG, wantV, aop, binA, aev, flat, if_true, if_false, Option.bind_some, Option.map_some, Frm.put, look, setk, Nat.reduceLT, Nat.reduceEqDiff, evs, evp, evo, List.getElem?_toArray, List.getElem?_cons_succ, List.getElem?_cons_zero, Bool.false_eq_true, Bool.true_eq_false, beq_self_eq_true, beq_ft, beq_tf, notNil, Bool.not_true, Bool.not_false, reduceCtorEq, abuiltin, aextract, c7] <;> exact rfl) ?_
  rintro _ h9 ⟨rfl, hh9⟩
  obtain rfl := hh9.symm
  clear hh9
  refine ⟨_, _, rfl, by simp only [runS, stepO, stepW, stepV, keep, guardOf, wantG, wantV, aop, binA, aev, flat, if_true, if_false, Option.bind_some, Option.map_some, Frm.put, look, setk, Nat.reduceLT, Nat.reduceEqDiff, evs, evp, evo, List.getElem?_toArray, List.getElem?_cons_succ, List.getElem?_cons_zero, Bool.false_eq_true, Bool.true_eq_false, beq_self_eq_true, beq_ft, beq_tf, notNil, Bool.not_true, Bool.not_false, reduceCtorEq, abuiltin, aextract]; exact rfl, ?_⟩
  refine WpO.runS 1 (by simp only [List.drop_succ_cons, List.drop_zero, List.take_succ_cons, List.take_zero, runS, stepO, stepW, stepV, keep, guardOf, wantG, wantV, aop, binA, aev, flat, if_true, if_false, Option.bind_some, Option.map_some, Frm.put, look, setk, Nat.reduceLT, Nat.reduceEqDiff, evs, evp, evo, List.getElem?_toArray, List.getElem?_cons_succ, List.getElem?_cons_zero, Bool.false_eq_true, Bool.true_eq_false, beq_self_eq_true, beq_ft, beq_tf, notNil, Bool.not_true, Bool.not_false, reduceCtorEq, abuiltin, aextract] <;> exact rfl) (by decide) ?_
  refine WpO.nil ?_
  dsimp only [after, leaving]
  repeat refine Wp.seq ?_
  refine Wp.condF (by simp only [runS, stepO, stepW, stepV, keep, guardOf, wantG, wantV, aop, binA, aev, flat, if_true, if_false, Option.bind_some, Option.map_some, Frm.put, look, setk, Nat.reduceLT, Nat.reduceEqDiff, evs, evp, evo, List.getElem?_toArray, List.getElem?_cons_succ, List.getElem?_cons_zero, Bool.false_eq_true, Bool.true_eq_false, beq_self_eq_true, beq_ft, beq_tf, notNil, Bool.not_true, Bool.not_false, reduceCtorEq, abuiltin, aextract]) ?_
  repeat refine Wp.seq ?_
  refine Wp.skip ?_
  dsimp only [after, leaving]
  have w1 : IntKind.i64.wrap ((A.length : Int) + 1) = ((A.length + 1 : Nat) : Int) := by rw [wrap_in (by omega) (by omega)]; omega
  have w2 : IntKind.i64.wrap (((A.length + 1 : Nat) : Int) + (B.length : Int)) = ((A.length + 1 + B.length : Nat) : Int) := by rw [wrap_in (by omega) (by omega)]; omega
  by_cases hlong : (2048 : Int) < ((A.length + 1 + B.length : Nat) : Int)
  · repeat refine Wp.seq ?_
    refine Wp.runS (by simp only [runS, stepO, stepW, stepV, keep, guardOf, wantG, wantV, aop, binA, aev, flat, if_true, if_false, Option.bind_some, Option.map_some, Frm.put, look, setk, Nat.reduceLT, Nat.reduceEqDiff, evs, evp, evo, List.getElem?_toArray, List.getElem?_cons_succ, List.getElem?_cons_zero, Bool.false_eq_true, Bool.true_eq_false, beq_self_eq_true, beq_ft, beq_tf, notNil, Bool.not_true, Bool.not_false, reduceCtorEq, abuiltin, aextract, alen_str Try.underlying9, bs_size, abin_int, ai_add, w1, w2, ai_gtr, decide_eq_true hlong] <;> exact rfl) ?_
    dsimp only [after, leaving]
    repeat refine Wp.seq ?_
    refine Wp.condT (by simp only [runS, stepO, stepW, stepV, keep, guardOf, wantG, wantV, aop, binA, aev, flat, if_true, if_false, Option.bind_some, Option.map_some, Frm.put, look, setk, Nat.reduceLT, Nat.reduceEqDiff, evs, evp, evo, List.getElem?_toArray, List.getElem?_cons_succ, List.getElem?_cons_zero, Bool.false_eq_true, Bool.true_eq_false, beq_self_eq_true, beq_ft, beq_tf, notNil, Bool.not_true, Bool.not_false, reduceCtorEq, abuiltin, aextract]) ?_
    repeat refine Wp.seq ?_
    refine Wp.runS (by simp only [runS, stepO, stepW, stepV, keep, guardOf, wantG, wantV, aop, binA, aev, flat, if_true, if_false, Option.bind_some, Option.map_some, Frm.put, look, setk, Nat.reduceLT, Nat.reduceEqDiff, evs, evp, evo, List.getElem?_toArray, List.getElem?_cons_succ, List.getElem?_cons_zero, Bool.false_eq_true, Bool.true_eq_false, beq_self_eq_true, beq_ft, beq_tf, notNil, Bool.not_true, Bool.not_false, reduceCtorEq, abuiltin, aextract] <;> exact rfl) ?_
    dsimp only [after, leaving]
    repeat refine Wp.seq ?_
    refine Wp.ret ?_
    dsimp only [after, leaving]
    exact ⟨rfl, rfl, _, rfl, rfl⟩
  repeat refine Wp.seq ?_
  refine Wp.runS (by simp only [runS, stepO, stepW, stepV, keep, guardOf, wantG, wantV, aop, binA, aev, flat, if_true, if_false, Option.bind_some, Option.map_some, Frm.put, look, setk, Nat.reduceLT, Nat.reduceEqDiff, evs, evp, evo, List.getElem?_toArray, List.getElem?_cons_succ, List.getElem?_cons_zero, Bool.false_eq_true, Bool.true_eq_false, beq_self_eq_true, beq_ft, beq_tf, notNil, Bool.not_true, Bool.not_false, reduceCtorEq, abuiltin, aextract, alen_str Try.underlying9, bs_size, abin_int, ai_add, w1, w2, ai_gtr, decide_eq_false hlong] <;> exact rfl) ?_
  dsimp only [after, leaving]
  repeat refine Wp.seq ?_
  refine Wp.condF (by simp only [runS, stepO, stepW, stepV, keep, guardOf, wantG, wantV, aop, binA, aev, flat, if_true, if_false, Option.bind_some, Option.map_some, Frm.put, look, setk, Nat.reduceLT, Nat.reduceEqDiff, evs, evp, evo, List.getElem?_toArray, List.getElem?_cons_succ, List.getElem?_cons_zero, Bool.false_eq_true, Bool.true_eq_false, beq_self_eq_true, beq_ft, beq_tf, notNil, Bool.not_true, Bool.not_false, reduceCtorEq, abuiltin, aextract]) ?_
  repeat refine Wp.seq ?_
  refine Wp.skip ?_
  dsimp only [after, leaving]
  have hlen : A.length + 1 + B.length ≤ 2048 := by omega
  clear hlong
  -- the first text
  repeat refine Wp.seq ?_
  refine Wp.regionAs (is := List.range' 0 1 ++ (1 :: (List.range' 2 6 ++ []))) rfl ?_
  refine WpO.runS 1 (by simp only [List.drop_succ_cons, List.drop_zero, List.take_succ_cons, List.take_zero, runS, stepO, stepW, stepV, keep, guardOf, wantG, wantV, aop, binA, aev, flat, if_true, if_false, Option.bind_some, Option.map_some, Frm.put, look, setk, Nat.reduceLT, Nat.reduceEqDiff, evs, evp, evo, List.getElem?_toArray, List.getElem?_cons_succ, List.getElem?_cons_zero, Bool.false_eq_true, Bool.true_eq_false, beq_self_eq_true, beq_ft, beq_tf, notNil, Bool.not_true, Bool.not_false, reduceCtorEq, abuiltin, aextract] <;> exact rfl) (by decide) ?_
  refine WpO.callR (lex_call h A hA) rfl (by simp only [runS, stepO, stepW, stepV, keep, guardOf, wantG, wantV, aop, binA, aev, flat, if_true, if_false, Option.bind_some, Option.map_some, Frm.put, look, setk, Nat.reduceLT, Nat.reduceEqDiff, evs, evp, evo, List.getElem?_toArray, List.getElem?_cons_succ, List.getElem?_cons_zero, Bool.false_eq_true, Bool.true_eq_false, beq_self_eq_true, beq_ft, beq_tf, notNil, Bool.not_true, Bool.not_false, reduceCtorEq, abuiltin, aextract, c9]) (by simp only [calleeOf, fnOf, List.append_nil, List.nil_append, runS, stepO, stepW, stepV, keep, guardOf, wantG, wantV, aop, binA, aev, flat, if_true, if_false, Option.bind_some, Option.map_some, Frm.put, look, setk, Nat.reduceLT, Nat.reduceEqDiff, evs, evp, evo, List.getElem?_toArray, List.getElem?_cons_succ, List.getElem?_cons_zero, Bool.false_eq_true, Bool.true_eq_false, beq_self_eq_true, beq_ft, beq_tf, notNil, Bool.not_true, Bool.not_false, reduceCtorEq, abuiltin, aextract, c9] <;> exact rfl) ?_
  rintro _ h9 ⟨rfl, hh9⟩
  obtain rfl := hh9.symm
  clear hh9
  refine ⟨_, _, rfl, by simp only [runS, stepO, stepW, stepV, keep, guardOf, wantG, wantV, aop, binA, aev, flat, if_true, if_false, Option.bind_some, Option.map_some, Frm.put, look, setk, Nat.reduceLT, Nat.reduceEqDiff, evs, evp, evo, List.getElem?_toArray, List.getElem?_cons_succ, List.getElem?_cons_zero, Bool.false_eq_true, Bool.true_eq_false, beq_self_eq_true, beq_ft, beq_tf, notNil, Bool.not_true, Bool.not_false, reduceCtorEq, abuiltin, aextract]; exact rfl, ?_⟩
  have sA := spot_put (lexH h A) (spotOf (lexS A)).1 (spotOf (lexS A)).2
  refine WpO.runS 6 (by simp only [List.drop_succ_cons, List.drop_zero, List.take_succ_cons, List.take_zero, runS, stepO, stepW, stepV, keep, guardOf, wantG, wantV, aop, binA, aev, flat, if_true, if_false, Option.bind_some, Option.map_some, Frm.put, look, setk, Nat.reduceLT, Nat.reduceEqDiff, evs, evp, evo, List.getElem?_toArray, List.getElem?_cons_succ, List.getElem?_cons_zero, Bool.false_eq_true, Bool.true_eq_false, beq_self_eq_true, beq_ft, beq_tf, notNil, Bool.not_true, Bool.not_false, reduceCtorEq, abuiltin, aextract, alloc27, Heap.new, sA] <;> exact rfl) (by decide) ?_
  refine WpO.nil ?_
  dsimp only [after, leaving]
  clear sA
  have gA : ((lexH h A).alloc (spotRow (spotOf (lexS A)).1 (spotOf (lexS A)).2)).get (lexH h A).next = some (spotRow (spotOf (lexS A)).1 (spotOf (lexS A)).2) := Heap.get_alloc_new _ _
  have tA := (lexH_toks h A).more (Heap.more_alloc _ (spotRow (spotOf (lexS A)).1 (spotOf (lexS A)).2))
  generalize (lexH h A).alloc (spotRow (spotOf (lexS A)).1 (spotOf (lexS A)).2) = H1 at gA tA ⊢
  generalize (lexH h A).next = jA at gA ⊢
  generalize tokL h (lexS A) = vA at tA ⊢
  -- the second one
  repeat refine Wp.seq ?_
  refine Wp.regionAs (is := List.range' 0 1 ++ (1 :: (List.range' 2 6 ++ []))) rfl ?_
  refine WpO.runS 1 (by simp only [List.drop_succ_cons, List.drop_zero, List.take_succ_cons, List.take_zero, runS, stepO, stepW, stepV, keep, guardOf, wantG, wantV, aop, binA, aev, flat, if_true, if_false, Option.bind_some, Option.map_some, Frm.put, look, setk, Nat.reduceLT, Nat.reduceEqDiff, evs, evp, evo, List.getElem?_toArray, List.getElem?_cons_succ, List.getElem?_cons_zero, Bool.false_eq_true, Bool.true_eq_false, beq_self_eq_true, beq_ft, beq_tf, notNil, Bool.not_true, Bool.not_false, reduceCtorEq, abuiltin, aextract] <;> exact rfl) (by decide) ?_
  refine WpO.callR (lex_call H1 B hB) rfl (by simp only [runS, stepO, stepW, stepV, keep, guardOf, wantG, wantV, aop, binA, aev, flat, if_true, if_false, Option.bind_some, Option.map_some, Frm.put, look, setk, Nat.reduceLT, Nat.reduceEqDiff, evs, evp, evo, List.getElem?_toArray, List.getElem?_cons_succ, List.getElem?_cons_zero, Bool.false_eq_true, Bool.true_eq_false, beq_self_eq_true, beq_ft, beq_tf, notNil, Bool.not_true, Bool.not_false, reduceCtorEq, abuiltin, aextract, c9]) (by simp only [calleeOf, fnOf, List.append_nil, List.nil_append, runS, stepO, stepW, stepV, keep, guardOf, wantG, wantV, aop, binA, aev, flat, if_true, if_false, Option.bind_some, Option.map_some, Frm.put, look, setk, Nat.reduceLT, Nat.reduceEqDiff, evs, evp, evo, List.getElem?_toArray, List.getElem?_cons_succ, List.getElem?_cons_zero, Bool.false_eq_true, Bool.true_eq_false, beq_self_eq_true, beq_ft, beq_tf, notNil, Bool.not_true, Bool.not_false, reduceCtorEq, abuiltin, aextract, c9] <;> exact rfl) ?_
  rintro _ h9 ⟨rfl, hh9⟩
  obtain rfl := hh9.symm
  clear hh9
  refine ⟨_, _, rfl, by simp only [runS, stepO, stepW, stepV, keep, guardOf, wantG, wantV, aop, binA, aev, flat, if_true, if_false, Option.bind_some, Option.map_some, Frm.put, look, setk, Nat.reduceLT, Nat.reduceEqDiff, evs, evp, evo, List.getElem?_toArray, List.getElem?_cons_succ, List.getElem?_cons_zero, Bool.false_eq_true, Bool.true_eq_false, beq_self_eq_true, beq_ft, beq_tf, notNil, Bool.not_true, Bool.not_false, reduceCtorEq, abuiltin, aextract]; exact rfl, ?_⟩
  have sB := spot_put (lexH H1 B) (spotOf (lexS B)).1 (spotOf (lexS B)).2
  refine WpO.runS 6 (by simp only [List.drop_succ_cons, List.drop_zero, List.take_succ_cons, List.take_zero, runS, stepO, stepW, stepV, keep, guardOf, wantG, wantV, aop, binA, aev, flat, if_true, if_false, Option.bind_some, Option.map_some, Frm.put, look, setk, Nat.reduceLT, Nat.reduceEqDiff, evs, evp, evo, List.getElem?_toArray, List.getElem?_cons_succ, List.getElem?_cons_zero, Bool.false_eq_true, Bool.true_eq_false, beq_self_eq_true, beq_ft, beq_tf, notNil, Bool.not_true, Bool.not_false, reduceCtorEq, abuiltin, aextract, alloc27, Heap.new, sB] <;> exact rfl) (by decide) ?_
  refine WpO.nil ?_
  dsimp only [after, leaving]
  clear sB
  have m1 : H1.more ((lexH H1 B).alloc (spotRow (spotOf (lexS B)).1 (spotOf (lexS B)).2)) := (lexH_more H1 B).trans (Heap.more_alloc _ _)
  have gB : ((lexH H1 B).alloc (spotRow (spotOf (lexS B)).1 (spotOf (lexS B)).2)).get (lexH H1 B).next = some (spotRow (spotOf (lexS B)).1 (spotOf (lexS B)).2) := Heap.get_alloc_new _ _
  have tB := (lexH_toks H1 B).more (Heap.more_alloc _ (spotRow (spotOf (lexS B)).1 (spotOf (lexS B)).2))
  generalize (lexH H1 B).alloc (spotRow (spotOf (lexS B)).1 (spotOf (lexS B)).2) = H2 at gB tB m1 ⊢
  generalize (lexH H1 B).next = jB at gB ⊢
  generalize tokL H1 (lexS B) = vB at tB ⊢
  replace gA := m1.get gA
  replace tA := tA.more m1
  clear m1 H1
  -- both
  have hadd1 : abinS .add (bs A) ⟨#[10]⟩ = some (.string (bs (A ++ [10]))) := by
    unfold abinS
    rw [if_pos (by simp only [bs_size, maxLen]; have : (ByteArray.mk #[10]).size = 1 := rfl; omega)]
    exact congrArg (fun x => some (Value.string x)) (bs_append A [10])
  have hadd2 : abinS .add (bs (A ++ [10])) (bs B) = some (.string (bs (A ++ 10 :: B))) := by
    unfold abinS
    rw [if_pos (by simp only [bs_size, maxLen, List.length_append, List.length_cons, List.length_nil]; omega), bs_append]
    simp
  repeat refine Wp.seq ?_
  refine Wp.regionAs (is := List.range' 0 4 ++ (4 :: (List.range' 5 6 ++ []))) rfl ?_
  refine WpO.runS 4 (by simp only [List.drop_succ_cons, List.drop_zero, List.take_succ_cons, List.take_zero, runS, stepO, stepW, stepV, keep, guardOf, wantG, wantV, aop, binA, aev, flat, if_true, if_false, Option.bind_some, Option.map_some, Frm.put, look, setk, Nat.reduceLT, Nat.reduceEqDiff, evs, evp, evo, List.getElem?_toArray, List.getElem?_cons_succ, List.getElem?_cons_zero, Bool.false_eq_true, Bool.true_eq_false, beq_self_eq_true, beq_ft, beq_tf, notNil, Bool.not_true, Bool.not_false, reduceCtorEq, abuiltin, aextract, abin_str, hadd1, hadd2] <;> exact rfl) (by decide) ?_
  refine WpO.callR (lex_call H2 (A ++ 10 :: B) (by simp only [List.length_append, List.length_cons]; omega)) rfl (by simp only [runS, stepO, stepW, stepV, keep, guardOf, wantG, wantV, aop, binA, aev, flat, if_true, if_false, Option.bind_some, Option.map_some, Frm.put, look, setk, Nat.reduceLT, Nat.reduceEqDiff, evs, evp, evo, List.getElem?_toArray, List.getElem?_cons_succ, List.getElem?_cons_zero, Bool.false_eq_true, Bool.true_eq_false, beq_self_eq_true, beq_ft, beq_tf, notNil, Bool.not_true, Bool.not_false, reduceCtorEq, abuiltin, aextract, c9]) (by simp only [calleeOf, fnOf, List.append_nil, List.nil_append, runS, stepO, stepW, stepV, keep, guardOf, wantG, wantV, aop, binA, aev, flat, if_true, if_false, Option.bind_some, Option.map_some, Frm.put, look, setk, Nat.reduceLT, Nat.reduceEqDiff, evs, evp, evo, List.getElem?_toArray, List.getElem?_cons_succ, List.getElem?_cons_zero, Bool.false_eq_true, Bool.true_eq_false, beq_self_eq_true, beq_ft, beq_tf, notNil, Bool.not_true, Bool.not_false, reduceCtorEq, abuiltin, aextract, c9] <;> exact rfl) ?_
  rintro _ h9 ⟨rfl, hh9⟩
  obtain rfl := hh9.symm
  clear hh9
  refine ⟨_, _, rfl, by simp only [runS, stepO, stepW, stepV, keep, guardOf, wantG, wantV, aop, binA, aev, flat, if_true, if_false, Option.bind_some, Option.map_some, Frm.put, look, setk, Nat.reduceLT, Nat.reduceEqDiff, evs, evp, evo, List.getElem?_toArray, List.getElem?_cons_succ, List.getElem?_cons_zero, Bool.false_eq_true, Bool.true_eq_false, beq_self_eq_true, beq_ft, beq_tf, notNil, Bool.not_true, Bool.not_false, reduceCtorEq, abuiltin, aextract]; exact rfl, ?_⟩
  clear hadd1 hadd2
  have hC := lexS_lines A B hlen
  have sC := spot_put (lexH H2 (A ++ 10 :: B)) (spotOf (lexS (A ++ 10 :: B))).1 (spotOf (lexS (A ++ 10 :: B))).2
  refine WpO.runS 6 (by simp only [List.drop_succ_cons, List.drop_zero, List.take_succ_cons, List.take_zero, runS, stepO, stepW, stepV, keep, guardOf, wantG, wantV, aop, binA, aev, flat, if_true, if_false, Option.bind_some, Option.map_some, Frm.put, look, setk, Nat.reduceLT, Nat.reduceEqDiff, evs, evp, evo, List.getElem?_toArray, List.getElem?_cons_succ, List.getElem?_cons_zero, Bool.false_eq_true, Bool.true_eq_false, beq_self_eq_true, beq_ft, beq_tf, notNil, Bool.not_true, Bool.not_false, reduceCtorEq, abuiltin, aextract, alloc27, Heap.new, sC] <;> exact rfl) (by decide) ?_
  refine WpO.nil ?_
  dsimp only [after, leaving]
  clear sC
  have m1 : H2.more ((lexH H2 (A ++ 10 :: B)).alloc (spotRow (spotOf (lexS (A ++ 10 :: B))).1 (spotOf (lexS (A ++ 10 :: B))).2)) := (lexH_more _ _).trans (Heap.more_alloc _ _)
  have gC : ((lexH H2 (A ++ 10 :: B)).alloc (spotRow (spotOf (lexS (A ++ 10 :: B))).1 (spotOf (lexS (A ++ 10 :: B))).2)).get (lexH H2 (A ++ 10 :: B)).next = some (spotRow (spotOf (lexS (A ++ 10 :: B))).1 (spotOf (lexS (A ++ 10 :: B))).2) := Heap.get_alloc_new _ _
  have tC := (lexH_toks H2 (A ++ 10 :: B)).more (Heap.more_alloc _ (spotRow (spotOf (lexS (A ++ 10 :: B))).1 (spotOf (lexS (A ++ 10 :: B))).2))
  generalize (lexH H2 (A ++ 10 :: B)).alloc (spotRow (spotOf (lexS (A ++ 10 :: B))).1 (spotOf (lexS (A ++ 10 :: B))).2) = H at gC tC m1 ⊢
  generalize (lexH H2 (A ++ 10 :: B)).next = jC at gC ⊢
  generalize tokL H2 (lexS (A ++ 10 :: B)) = vC at tC ⊢
  generalize lexS (A ++ 10 :: B) = RC at hC gC tC ⊢
  replace gA := m1.get gA
  replace tA := tA.more m1
  replace gB := m1.get gB
  replace tB := tB.more m1
  clear m1 H2
  refine Wp.weaken (Frm.le_of (l := [(0, .string (bs A)), (1, .string (bs B)), (5, vA), (6, .pointer (some ⟨jA, 0, none⟩)), (7, vB), (8, .pointer (some ⟨jB, 0, none⟩)), (9, vC), (10, .pointer (some ⟨jC, 0, none⟩))]) ⟨rfl, rfl, rfl, rfl, rfl, rfl, rfl, rfl, trivial⟩) ?_
  cases hRA : lexS A with
  | error ep =>
    obtain ⟨e, p⟩ := ep
    rw [hRA] at hC gA tA
    simp only [] at hC
    rw [hC] at gC tC
    obtain ⟨he, _⟩ := lex_err hRA
    have e5 : ((e : Int) != 0) = true := by rw [bne_iff_ne]; omega
    have ep : ((p : Int) == (p : Int)) = true := by simp
    repeat refine Wp.seq ?_
    refine Wp.runS (by simp only [runS, stepO, stepW, stepV, keep, guardOf, wantG, wantV, aop, binA, aev, flat, if_true, if_false, Option.bind_some, Option.map_some, Frm.put, look, setk, Nat.reduceLT, Nat.reduceEqDiff, evs, evp, evo, List.getElem?_toArray, List.getElem?_cons_succ, List.getElem?_cons_zero, Bool.false_eq_true, Bool.true_eq_false, beq_self_eq_true, beq_ft, beq_tf, notNil, Bool.not_true, Bool.not_false, reduceCtorEq, abuiltin, aextract, s0, aload_cell agg25, Heap.ld_of gA (k := 0) rfl, spotOf, abin_int, ai_neq, e5] <;> exact rfl) ?_
    dsimp only [after, leaving]
    repeat refine Wp.seq ?_
    refine Wp.condT (by simp only [runS, stepO, stepW, stepV, keep, guardOf, wantG, wantV, aop, binA, aev, flat, if_true, if_false, Option.bind_some, Option.map_some, Frm.put, look, setk, Nat.reduceLT, Nat.reduceEqDiff, evs, evp, evo, List.getElem?_toArray, List.getElem?_cons_succ, List.getElem?_cons_zero, Bool.false_eq_true, Bool.true_eq_false, beq_self_eq_true, beq_ft, beq_tf, notNil, Bool.not_true, Bool.not_false, reduceCtorEq, abuiltin, aextract]) ?_
    repeat refine Wp.seq ?_
    refine Wp.runS (by simp only [runS, stepO, stepW, stepV, keep, guardOf, wantG, wantV, aop, binA, aev, flat, if_true, if_false, Option.bind_some, Option.map_some, Frm.put, look, setk, Nat.reduceLT, Nat.reduceEqDiff, evs, evp, evo, List.getElem?_toArray, List.getElem?_cons_succ, List.getElem?_cons_zero, Bool.false_eq_true, Bool.true_eq_false, beq_self_eq_true, beq_ft, beq_tf, notNil, Bool.not_true, Bool.not_false, reduceCtorEq, abuiltin, aextract, s0, s1, Nat.zero_add, aload_cell agg25, aload_cell agg3, Heap.ld_of gA (k := 0) rfl, Heap.ld_of gA (k := 1) rfl, Heap.ld_of gC (k := 0) rfl, Heap.ld_of gC (k := 1) rfl, spotOf, abin_int, ai_neq, e5, ai_eql, ep, tC.len, toksOf, List.length_nil, (show (((0 : Nat) : Int) == 0) = true from rfl)] <;> exact rfl) ?_
    dsimp only [after, leaving]
    repeat refine Wp.seq ?_
    refine Wp.ret ?_
    dsimp only [after, leaving]
    exact ⟨rfl, rfl, _, rfl, rfl⟩
  | ok oa =>
    rw [hRA] at hC gA tA
    simp only [] at hC
    have e0 : (((0 : Nat) : Int) != 0) = false := rfl
    repeat refine Wp.seq ?_
    refine Wp.runS (by simp only [runS, stepO, stepW, stepV, keep, guardOf, wantG, wantV, aop, binA, aev, flat, if_true, if_false, Option.bind_some, Option.map_some, Frm.put, look, setk, Nat.reduceLT, Nat.reduceEqDiff, evs, evp, evo, List.getElem?_toArray, List.getElem?_cons_succ, List.getElem?_cons_zero, Bool.false_eq_true, Bool.true_eq_false, beq_self_eq_true, beq_ft, beq_tf, notNil, Bool.not_true, Bool.not_false, reduceCtorEq, abuiltin, aextract, s0, aload_cell agg25, Heap.ld_of gA (k := 0) rfl, spotOf, abin_int, ai_neq, e0] <;> exact rfl) ?_
    dsimp only [after, leaving]
    repeat refine Wp.seq ?_
    refine Wp.condF (by simp only [runS, stepO, stepW, stepV, keep, guardOf, wantG, wantV, aop, binA, aev, flat, if_true, if_false, Option.bind_some, Option.map_some, Frm.put, look, setk, Nat.reduceLT, Nat.reduceEqDiff, evs, evp, evo, List.getElem?_toArray, List.getElem?_cons_succ, List.getElem?_cons_zero, Bool.false_eq_true, Bool.true_eq_false, beq_self_eq_true, beq_ft, beq_tf, notNil, Bool.not_true, Bool.not_false, reduceCtorEq, abuiltin, aextract]) ?_
    repeat refine Wp.seq ?_
    refine Wp.skip ?_
    dsimp only [after, leaving]
    cases hRB : lexS B with
    | error ep =>
      obtain ⟨e, p⟩ := ep
      rw [hRB] at hC gB tB
      simp only [movedL] at hC
      rw [hC] at gC tC
      obtain ⟨he, hp⟩ := lex_err hRB
      have e5 : ((e : Int) != 0) = true := by rw [bne_iff_ne]; omega
      have e6 : ((e : Int) == (e : Int)) = true := by simp
      have w3 : IntKind.i64.wrap (((A.length + 1 : Nat) : Int) + (p : Int)) = ((A.length + 1 + p : Nat) : Int) := by rw [wrap_in (by omega) (by omega)]; omega
      have e7 : (((A.length + 1 + p : Nat) : Int) == ((A.length + 1 + p : Nat) : Int)) = true := by simp
      repeat refine Wp.seq ?_
      refine Wp.runS (by simp only [runS, stepO, stepW, stepV, keep, guardOf, wantG, wantV, aop, binA, aev, flat, if_true, if_false, Option.bind_some, Option.map_some, Frm.put, look, setk, Nat.reduceLT, Nat.reduceEqDiff, evs, evp, evo, List.getElem?_toArray, List.getElem?_cons_succ, List.getElem?_cons_zero, Bool.false_eq_true, Bool.true_eq_false, beq_self_eq_true, beq_ft, beq_tf, notNil, Bool.not_true, Bool.not_false, reduceCtorEq, abuiltin, aextract, s0, aload_cell agg25, Heap.ld_of gB (k := 0) rfl, spotOf, abin_int, ai_neq, e5] <;> exact rfl) ?_
      dsimp only [after, leaving]
      repeat refine Wp.seq ?_
      refine Wp.condT (by simp only [runS, stepO, stepW, stepV, keep, guardOf, wantG, wantV, aop, binA, aev, flat, if_true, if_false, Option.bind_some, Option.map_some, Frm.put, look, setk, Nat.reduceLT, Nat.reduceEqDiff, evs, evp, evo, List.getElem?_toArray, List.getElem?_cons_succ, List.getElem?_cons_zero, Bool.false_eq_true, Bool.true_eq_false, beq_self_eq_true, beq_ft, beq_tf, notNil, Bool.not_true, Bool.not_false, reduceCtorEq, abuiltin, aextract]) ?_
      repeat refine Wp.seq ?_
      refine Wp.runS (by simp only [runS, stepO, stepW, stepV, keep, guardOf, wantG, wantV, aop, binA, aev, flat, if_true, if_false, Option.bind_some, Option.map_some, Frm.put, look, setk, Nat.reduceLT, Nat.reduceEqDiff, evs, evp, evo, List.getElem?_toArray, List.getElem?_cons_succ, List.getElem?_cons_zero, Bool.false_eq_true, Bool.true_eq_false, beq_self_eq_true, beq_ft, beq_tf, notNil, Bool.not_true, Bool.not_false, reduceCtorEq, abuiltin, aextract, s0, s1, Nat.zero_add, aload_cell agg25, aload_cell agg3, Heap.ld_of gB (k := 0) rfl, Heap.ld_of gB (k := 1) rfl, Heap.ld_of gC (k := 0) rfl, Heap.ld_of gC (k := 1) rfl, spotOf, abin_int, ai_add, w1, w3, ai_eql, e6, e7, alen_str Try.underlying9, bs_size, tC.len, toksOf, List.length_nil, (show (((0 : Nat) : Int) == 0) = true from rfl)] <;> exact rfl) ?_
      dsimp only [after, leaving]
      repeat refine Wp.seq ?_
      refine Wp.ret ?_
      dsimp only [after, leaving]
      exact ⟨rfl, rfl, _, rfl, rfl⟩
    | ok ob =>
      rw [hRB] at hC gB tB
      simp only [movedL] at hC
      rw [hC] at gC tC
      simp only [toksOf] at tA tB tC
      have la := lexS_len hRA
      have lb := lexS_len hRB
      have hn : (oa ++ ob.map (Tok.moved (A.length + 1))).length = oa.length + ob.length := by simp
      have w3 : IntKind.i64.wrap ((oa.length : Int) + (ob.length : Int)) = ((oa.length + ob.length : Nat) : Int) := by rw [wrap_in (by omega) (by omega)]; omega
      have e7 : (((oa.length + ob.length : Nat) : Int) != ((oa.length + ob.length : Nat) : Int)) = false := by simp
      repeat refine Wp.seq ?_
      refine Wp.runS (by simp only [runS, stepO, stepW, stepV, keep, guardOf, wantG, wantV, aop, binA, aev, flat, if_true, if_false, Option.bind_some, Option.map_some, Frm.put, look, setk, Nat.reduceLT, Nat.reduceEqDiff, evs, evp, evo, List.getElem?_toArray, List.getElem?_cons_succ, List.getElem?_cons_zero, Bool.false_eq_true, Bool.true_eq_false, beq_self_eq_true, beq_ft, beq_tf, notNil, Bool.not_true, Bool.not_false, reduceCtorEq, abuiltin, aextract, s0, aload_cell agg25, Heap.ld_of gB (k := 0) rfl, spotOf, abin_int, ai_neq, e0] <;> exact rfl) ?_
      dsimp only [after, leaving]
      repeat refine Wp.seq ?_
      refine Wp.condF (by simp only [runS, stepO, stepW, stepV, keep, guardOf, wantG, wantV, aop, binA, aev, flat, if_true, if_false, Option.bind_some, Option.map_some, Frm.put, look, setk, Nat.reduceLT, Nat.reduceEqDiff, evs, evp, evo, List.getElem?_toArray, List.getElem?_cons_succ, List.getElem?_cons_zero, Bool.false_eq_true, Bool.true_eq_false, beq_self_eq_true, beq_ft, beq_tf, notNil, Bool.not_true, Bool.not_false, reduceCtorEq, abuiltin, aextract]) ?_
      repeat refine Wp.seq ?_
      refine Wp.skip ?_
      dsimp only [after, leaving]
      repeat refine Wp.seq ?_
      refine Wp.runS (by simp only [runS, stepO, stepW, stepV, keep, guardOf, wantG, wantV, aop, binA, aev, flat, if_true, if_false, Option.bind_some, Option.map_some, Frm.put, look, setk, Nat.reduceLT, Nat.reduceEqDiff, evs, evp, evo, List.getElem?_toArray, List.getElem?_cons_succ, List.getElem?_cons_zero, Bool.false_eq_true, Bool.true_eq_false, beq_self_eq_true, beq_ft, beq_tf, notNil, Bool.not_true, Bool.not_false, reduceCtorEq, abuiltin, aextract, s0, aload_cell agg25, Heap.ld_of gC (k := 0) rfl, spotOf, abin_int, ai_neq, e0, tA.len, tB.len, tC.len, hn, ai_add, w3, e7] <;> exact rfl) ?_
      dsimp only [after, leaving]
      repeat refine Wp.seq ?_
      refine Wp.condF (by simp only [runS, stepO, stepW, stepV, keep, guardOf, wantG, wantV, aop, binA, aev, flat, if_true, if_false, Option.bind_some, Option.map_some, Frm.put, look, setk, Nat.reduceLT, Nat.reduceEqDiff, evs, evp, evo, List.getElem?_toArray, List.getElem?_cons_succ, List.getElem?_cons_zero, Bool.false_eq_true, Bool.true_eq_false, beq_self_eq_true, beq_ft, beq_tf, notNil, Bool.not_true, Bool.not_false, reduceCtorEq, abuiltin, aextract]) ?_
      repeat refine Wp.seq ?_
      refine Wp.skip ?_
      dsimp only [after, leaving]
      repeat refine Wp.seq ?_
      refine Wp.runS (by simp only [runS, stepO, stepW, stepV, keep, guardOf, wantG, wantV, aop, binA, aev, flat, if_true, if_false, Option.bind_some, Option.map_some, Frm.put, look, setk, Nat.reduceLT, Nat.reduceEqDiff, evs, evp, evo, List.getElem?_toArray, List.getElem?_cons_succ, List.getElem?_cons_zero, Bool.false_eq_true, Bool.true_eq_false, beq_self_eq_true, beq_ft, beq_tf, notNil, Bool.not_true, Bool.not_false, reduceCtorEq, abuiltin, aextract] <;> exact rfl) ?_
      dsimp only [after, leaving]
      repeat refine Wp.seq ?_
      refine Wp.block ?_
      refine Wp.loopI (X := Nat × Heap) (fun x => [(0, .string (bs A)), (5, vA), (7, vB), (9, vC), (11, .int .i64 x.1)]) (fun x => x.2)
        (fun x => x.1 ≤ oa.length + ob.length ∧ H.more x.2) (fun x => oa.length + ob.length - x.1) ⟨0, H⟩ ⟨Nat.zero_le _, Heap.more_refl _⟩ ⟨rfl, rfl, rfl, rfl, rfl, trivial⟩ rfl ?_
      rintro ⟨i, H⟩ ⟨hi, m⟩
      simp only [] at hi m ⊢
      have tA := tA.more m
      have tB := tB.more m
      have tC := tC.more m
      by_cases hlt : (i : Int) < ((oa.length + ob.length : Nat) : Int)
      · repeat refine Wp.seq ?_
        refine Wp.runS (by simp only [runS, stepO, stepW, stepV, keep, guardOf, wantG, wantV, aop, binA, aev, flat, if_true, if_false, Option.bind_some, Option.map_some, Frm.put, look, setk, Nat.reduceLT, Nat.reduceEqDiff, evs, evp, evo, List.getElem?_toArray, List.getElem?_cons_succ, List.getElem?_cons_zero, Bool.false_eq_true, Bool.true_eq_false, beq_self_eq_true, beq_ft, beq_tf, notNil, Bool.not_true, Bool.not_false, reduceCtorEq, abuiltin, aextract, tC.len, hn, abin_int, ai_lss, decide_eq_true hlt] <;> exact rfl) ?_
        dsimp only [after, leaving]
        repeat refine Wp.seq ?_
        refine Wp.condT (by simp only [runS, stepO, stepW, stepV, keep, guardOf, wantG, wantV, aop, binA, aev, flat, if_true, if_false, Option.bind_some, Option.map_some, Frm.put, look, setk, Nat.reduceLT, Nat.reduceEqDiff, evs, evp, evo, List.getElem?_toArray, List.getElem?_cons_succ, List.getElem?_cons_zero, Bool.false_eq_true, Bool.true_eq_false, beq_self_eq_true, beq_ft, beq_tf, notNil, Bool.not_true, Bool.not_false, reduceCtorEq, abuiltin, aextract]) ?_
        repeat refine Wp.seq ?_
        refine Wp.skip ?_
        dsimp only [after, leaving]
        repeat refine Wp.seq ?_
        refine Wp.block ?_
        repeat refine Wp.seq ?_
        refine Wp.runS (by simp only [runS, stepO, stepW, stepV, keep, guardOf, wantG, wantV, aop, binA, aev, flat, if_true, if_false, Option.bind_some, Option.map_some, Frm.put, look, setk, Nat.reduceLT, Nat.reduceEqDiff, evs, evp, evo, List.getElem?_toArray, List.getElem?_cons_succ, List.getElem?_cons_zero, Bool.false_eq_true, Bool.true_eq_false, beq_self_eq_true, beq_ft, beq_tf, notNil, Bool.not_true, Bool.not_false, reduceCtorEq, abuiltin, aextract, build31z, alloc31, Heap.new, tok_put] <;> exact rfl) ?_
        dsimp only [after, leaving]
        have hw : IntKind.i64.wrap ((i : Int) + 1) = ((i + 1 : Nat) : Int) := by rw [wrap_in (by omega) (by omega)]; omega
        by_cases hia : (i : Int) < (oa.length : Int)
        · obtain ⟨t, ht⟩ : ∃ t, oa[i]? = some t := ⟨_, List.getElem?_eq_getElem (by omega)⟩
          have htc : (oa ++ ob.map (Tok.moved (A.length + 1)))[i]? = some t := by rw [List.getElem?_append_left (by omega)]; exact ht
          have m1 := Heap.more_alloc H (Tok.row ⟨0, [], 0, 0⟩)
          obtain ⟨p, hp1, hp2⟩ := (tA.more m1).at ht
          repeat refine Wp.seq ?_
          refine Wp.runS (by simp only [runS, stepO, stepW, stepV, keep, guardOf, wantG, wantV, aop, binA, aev, flat, if_true, if_false, Option.bind_some, Option.map_some, Frm.put, look, setk, Nat.reduceLT, Nat.reduceEqDiff, evs, evp, evo, List.getElem?_toArray, List.getElem?_cons_succ, List.getElem?_cons_zero, Bool.false_eq_true, Bool.true_eq_false, beq_self_eq_true, beq_ft, beq_tf, notNil, Bool.not_true, Bool.not_false, reduceCtorEq, abuiltin, aextract, tA.more m1 |>.len, abin_int, ai_lss, decide_eq_true hia] <;> exact rfl) ?_
          dsimp only [after, leaving]
          repeat refine Wp.seq ?_
          refine Wp.condT (by simp only [runS, stepO, stepW, stepV, keep, guardOf, wantG, wantV, aop, binA, aev, flat, if_true, if_false, Option.bind_some, Option.map_some, Frm.put, look, setk, Nat.reduceLT, Nat.reduceEqDiff, evs, evp, evo, List.getElem?_toArray, List.getElem?_cons_succ, List.getElem?_cons_zero, Bool.false_eq_true, Bool.true_eq_false, beq_self_eq_true, beq_ft, beq_tf, notNil, Bool.not_true, Bool.not_false, reduceCtorEq, abuiltin, aextract]) ?_
          repeat refine Wp.seq ?_
          refine Wp.runS (by simp only [runS, stepO, stepW, stepV, keep, guardOf, wantG, wantV, aop, binA, aev, flat, if_true, if_false, Option.bind_some, Option.map_some, Frm.put, look, setk, Nat.reduceLT, Nat.reduceEqDiff, evs, evp, evo, List.getElem?_toArray, List.getElem?_cons_succ, List.getElem?_cons_zero, Bool.false_eq_true, Bool.true_eq_false, beq_self_eq_true, beq_ft, beq_tf, notNil, Bool.not_true, Bool.not_false, reduceCtorEq, abuiltin, aextract, hp1, hp2, tok_put] <;> exact rfl) ?_
          dsimp only [after, leaving]
          have m2 := Heap.more_alloc H t.row
          obtain ⟨q, hq1, hq2⟩ := (tC.more m2).at htc
          have hld : aload Try.prog (H.alloc t.row) 31 (.pointer (some ⟨H.next, 0, none⟩)) = some t.val := tok_load (Heap.get_alloc_new H t.row)
          repeat refine Wp.seq ?_
          refine Wp.runSD mixed (by kernel_rfl) (by simp only [runSD, stepOD, stepWD, stepVD, isLoud, isPure, isReader, decide_true, Bool.or_true, Bool.true_or, Bool.or_self, Bool.and_self, Bool.and_true, Bool.and_false, Heap.next_set, Heap.next_alloc, runS, stepO, stepW, stepV, keep, guardOf, wantG, wantV, aop, binA, aev, flat, if_true, if_false, Option.bind_some, Option.map_some, Frm.put, look, setk, Nat.reduceLT, Nat.reduceEqDiff, evs, evp, evo, List.getElem?_toArray, List.getElem?_cons_succ, List.getElem?_cons_zero, Bool.false_eq_true, Bool.true_eq_false, beq_self_eq_true, beq_ft, beq_tf, notNil, Bool.not_true, Bool.not_false, reduceCtorEq, abuiltin, aextract, hq1, hq2, hld, tok_neq, decide_eq_true (show t = t from rfl)] <;> exact rfl) ?_
          dsimp only [after, leaving]
          repeat refine Wp.seq ?_
          refine Wp.condF (by simp only [runS, stepO, stepW, stepV, keep, guardOf, wantG, wantV, aop, binA, aev, flat, if_true, if_false, Option.bind_some, Option.map_some, Frm.put, look, setk, Nat.reduceLT, Nat.reduceEqDiff, evs, evp, evo, List.getElem?_toArray, List.getElem?_cons_succ, List.getElem?_cons_zero, Bool.false_eq_true, Bool.true_eq_false, beq_self_eq_true, beq_ft, beq_tf, notNil, Bool.not_true, Bool.not_false, reduceCtorEq, abuiltin, aextract]) ?_
          repeat refine Wp.seq ?_
          refine Wp.skip ?_
          dsimp only [after, leaving]
          repeat refine Wp.seq ?_
          refine Wp.runS (by simp only [runS, stepO, stepW, stepV, keep, guardOf, wantG, wantV, aop, binA, aev, flat, if_true, if_false, Option.bind_some, Option.map_some, Frm.put, look, setk, Nat.reduceLT, Nat.reduceEqDiff, evs, evp, evo, List.getElem?_toArray, List.getElem?_cons_succ, List.getElem?_cons_zero, Bool.false_eq_true, Bool.true_eq_false, beq_self_eq_true, beq_ft, beq_tf, notNil, Bool.not_true, Bool.not_false, reduceCtorEq, abuiltin, aextract, abin_int, ai_add, hw] <;> exact rfl) ?_
          dsimp only [after, leaving]
          exact ⟨⟨i + 1, _⟩, _, ⟨by simp only []; omega, m.trans m2⟩, by simp only []; omega, rfl, ⟨rfl, rfl, rfl, rfl, rfl, trivial⟩, rfl, rfl⟩
        · obtain ⟨t, ht⟩ : ∃ t, ob[i - oa.length]? = some t := ⟨_, List.getElem?_eq_getElem (by omega)⟩
          have htc : (oa ++ ob.map (Tok.moved (A.length + 1)))[i]? = some (t.moved (A.length + 1)) := by rw [List.getElem?_append_right (by omega), List.getElem?_map, ht]; rfl
          have m1 := Heap.more_alloc H (Tok.row ⟨0, [], 0, 0⟩)
          obtain ⟨p, hp1, hp2⟩ := (tB.more m1).at ht
          have w4 : IntKind.i64.wrap ((i : Int) - (oa.length : Int)) = ((i - oa.length : Nat) : Int) := by rw [wrap_in (by omega) (by omega)]; omega
          repeat refine Wp.seq ?_
          refine Wp.runS (by simp only [runS, stepO, stepW, stepV, keep, guardOf, wantG, wantV, aop, binA, aev, flat, if_true, if_false, Option.bind_some, Option.map_some, Frm.put, look, setk, Nat.reduceLT, Nat.reduceEqDiff, evs, evp, evo, List.getElem?_toArray, List.getElem?_cons_succ, List.getElem?_cons_zero, Bool.false_eq_true, Bool.true_eq_false, beq_self_eq_true, beq_ft, beq_tf, notNil, Bool.not_true, Bool.not_false, reduceCtorEq, abuiltin, aextract, tA.more m1 |>.len, abin_int, ai_lss, decide_eq_false hia] <;> exact rfl) ?_
          dsimp only [after, leaving]
          repeat refine Wp.seq ?_
          refine Wp.condF (by simp only [runS, stepO, stepW, stepV, keep, guardOf, wantG, wantV, aop, binA, aev, flat, if_true, if_false, Option.bind_some, Option.map_some, Frm.put, look, setk, Nat.reduceLT, Nat.reduceEqDiff, evs, evp, evo, List.getElem?_toArray, List.getElem?_cons_succ, List.getElem?_cons_zero, Bool.false_eq_true, Bool.true_eq_false, beq_self_eq_true, beq_ft, beq_tf, notNil, Bool.not_true, Bool.not_false, reduceCtorEq, abuiltin, aextract]) ?_
          repeat refine Wp.seq ?_
          refine Wp.runS (by simp only [runS, stepO, stepW, stepV, keep, guardOf, wantG, wantV, aop, binA, aev, flat, if_true, if_false, Option.bind_some, Option.map_some, Frm.put, look, setk, Nat.reduceLT, Nat.reduceEqDiff, evs, evp, evo, List.getElem?_toArray, List.getElem?_cons_succ, List.getElem?_cons_zero, Bool.false_eq_true, Bool.true_eq_false, beq_self_eq_true, beq_ft, beq_tf, notNil, Bool.not_true, Bool.not_false, reduceCtorEq, abuiltin, aextract, tA.more m1 |>.len, abin_int, ai_sub, w4, hp1, hp2, tok_put] <;> exact rfl) ?_
          dsimp only [after, leaving]
          have g := Heap.get_alloc_new H t.row
          have hat := lexS_at hRB ht
          have w5 : IntKind.i64.wrap ((t.at' : Int) + ((A.length + 1 : Nat) : Int)) = (((t.moved (A.length + 1)).at' : Nat) : Int) := by rw [wrap_in (by omega) (by omega)]; simp only [Tok.moved]; omega
          have hl3 : aload Try.prog (H.alloc t.row) 3 (.pointer (some ⟨H.next, 0 + 3, none⟩)) = some (.int .i64 (t.at' : Nat)) := by rw [aload_cell agg3]; exact Heap.ld_of g rfl
          have hst : astore Try.prog (H.alloc t.row) 3 (.pointer (some ⟨H.next, 0 + 3, none⟩)) (.int .i64 ((t.moved (A.length + 1)).at' : Nat)) = some (H.alloc (t.moved (A.length + 1)).row) := by
            rw [tok_at g, Heap.set_alloc]; rfl
          repeat refine Wp.seq ?_
          refine Wp.runS (by simp only [runS, stepO, stepW, stepV, keep, guardOf, wantG, wantV, aop, binA, aev, flat, if_true, if_false, Option.bind_some, Option.map_some, Frm.put, look, setk, Nat.reduceLT, Nat.reduceEqDiff, evs, evp, evo, List.getElem?_toArray, List.getElem?_cons_succ, List.getElem?_cons_zero, Bool.false_eq_true, Bool.true_eq_false, beq_self_eq_true, beq_ft, beq_tf, notNil, Bool.not_true, Bool.not_false, reduceCtorEq, abuiltin, aextract, t3, hl3, alen_str Try.underlying9, bs_size, abin_int, ai_add, w1, w5, hst] <;> exact rfl) ?_
          dsimp only [after, leaving]
          have m2 := Heap.more_alloc H (t.moved (A.length + 1)).row
          obtain ⟨q, hq1, hq2⟩ := (tC.more m2).at htc
          have hld : aload Try.prog (H.alloc (t.moved (A.length + 1)).row) 31 (.pointer (some ⟨H.next, 0, none⟩)) = some (t.moved (A.length + 1)).val := tok_load (Heap.get_alloc_new H _)
          repeat refine Wp.seq ?_
          refine Wp.runSD mixed (by kernel_rfl) (by simp only [runSD, stepOD, stepWD, stepVD, isLoud, isPure, isReader, decide_true, Bool.or_true, Bool.true_or, Bool.or_self, Bool.and_self, Bool.and_true, Bool.and_false, Heap.next_set, Heap.next_alloc, runS, stepO, stepW, stepV, keep, guardOf, wantG, wantV, aop, binA, aev, flat, if_true, if_false, Option.bind_some, Option.map_some, Frm.put, look, setk, Nat.reduceLT, Nat.reduceEqDiff, evs, evp, evo, List.getElem?_toArray, List.getElem?_cons_succ, List.getElem?_cons_zero, Bool.false_eq_true, Bool.true_eq_false, beq_self_eq_true, beq_ft, beq_tf, notNil, Bool.not_true, Bool.not_false, reduceCtorEq, abuiltin, aextract, hq1, hq2, hld, tok_neq, decide_eq_true (show t.moved (A.length + 1) = t.moved (A.length + 1) from rfl)] <;> exact rfl) ?_
          dsimp only [after, leaving]
          repeat refine Wp.seq ?_
          refine Wp.condF (by simp only [runS, stepO, stepW, stepV, keep, guardOf, wantG, wantV, aop, binA, aev, flat, if_true, if_false, Option.bind_some, Option.map_some, Frm.put, look, setk, Nat.reduceLT, Nat.reduceEqDiff, evs, evp, evo, List.getElem?_toArray, List.getElem?_cons_succ, List.getElem?_cons_zero, Bool.false_eq_true, Bool.true_eq_false, beq_self_eq_true, beq_ft, beq_tf, notNil, Bool.not_true, Bool.not_false, reduceCtorEq, abuiltin, aextract]) ?_
          repeat refine Wp.seq ?_
          refine Wp.skip ?_
          dsimp only [after, leaving]
          repeat refine Wp.seq ?_
          refine Wp.runS (by simp only [runS, stepO, stepW, stepV, keep, guardOf, wantG, wantV, aop, binA, aev, flat, if_true, if_false, Option.bind_some, Option.map_some, Frm.put, look, setk, Nat.reduceLT, Nat.reduceEqDiff, evs, evp, evo, List.getElem?_toArray, List.getElem?_cons_succ, List.getElem?_cons_zero, Bool.false_eq_true, Bool.true_eq_false, beq_self_eq_true, beq_ft, beq_tf, notNil, Bool.not_true, Bool.not_false, reduceCtorEq, abuiltin, aextract, abin_int, ai_add, hw] <;> exact rfl) ?_
          dsimp only [after, leaving]
          exact ⟨⟨i + 1, _⟩, _, ⟨by simp only []; omega, m.trans m2⟩, by simp only []; omega, rfl, ⟨rfl, rfl, rfl, rfl, rfl, trivial⟩, rfl, rfl⟩
      · repeat refine Wp.seq ?_
        refine Wp.runS (by simp only [runS, stepO, stepW, stepV, keep, guardOf, wantG, wantV, aop, binA, aev, flat, if_true, if_false, Option.bind_some, Option.map_some, Frm.put, look, setk, Nat.reduceLT, Nat.reduceEqDiff, evs, evp, evo, List.getElem?_toArray, List.getElem?_cons_succ, List.getElem?_cons_zero, Bool.false_eq_true, Bool.true_eq_false, beq_self_eq_true, beq_ft, beq_tf, notNil, Bool.not_true, Bool.not_false, reduceCtorEq, abuiltin, aextract, tC.len, hn, abin_int, ai_lss, decide_eq_false hlt] <;> exact rfl) ?_
        dsimp only [after, leaving]
        repeat refine Wp.seq ?_
        refine Wp.condF (by simp only [runS, stepO, stepW, stepV, keep, guardOf, wantG, wantV, aop, binA, aev, flat, if_true, if_false, Option.bind_some, Option.map_some, Frm.put, look, setk, Nat.reduceLT, Nat.reduceEqDiff, evs, evp, evo, List.getElem?_toArray, List.getElem?_cons_succ, List.getElem?_cons_zero, Bool.false_eq_true, Bool.true_eq_false, beq_self_eq_true, beq_ft, beq_tf, notNil, Bool.not_true, Bool.not_false, reduceCtorEq, abuiltin, aextract]) ?_
        repeat refine Wp.seq ?_
        refine Wp.exit ?_
        simp only [after, leaving, blockExit, if_true, if_false, Nat.reduceEqDiff]
        repeat refine Wp.seq ?_
        refine Wp.runS (by simp only [runS, stepO, stepW, stepV, keep, guardOf, wantG, wantV, aop, binA, aev, flat, if_true, if_false, Option.bind_some, Option.map_some, Frm.put, look, setk, Nat.reduceLT, Nat.reduceEqDiff, evs, evp, evo, List.getElem?_toArray, List.getElem?_cons_succ, List.getElem?_cons_zero, Bool.false_eq_true, Bool.true_eq_false, beq_self_eq_true, beq_ft, beq_tf, notNil, Bool.not_true, Bool.not_false, reduceCtorEq, abuiltin, aextract] <;> exact rfl) ?_
        dsimp only [after, leaving]
        repeat refine Wp.seq ?_
        refine Wp.ret ?_
        dsimp only [after, leaving]
        exact ⟨rfl, rfl, _, rfl, rfl⟩
end Go.Mini
