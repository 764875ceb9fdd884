/-
  RING, part G: filled, works.
-/
import Derived.Test.YtcmijnchfejohaaRingF
set_option linter.unusedSimpArgs false
set_option maxHeartbeats 2000000
namespace Go.Mini
open Go.Proofs

theorem filled_bad (G : Nat) (h : Heap) (lim : Int) (v : Value) (h1 : ¬ (1 ≤ lim ∧ lim ≤ 1024)) :
    Does Try.prog G NoExt 11 [.int .i64 lim, v] h (fun r h' => r = .returned (.pointer none) ∧ h' = h) := by
  refine Does.body Try.func11 rfl ?_
  have hn : enterF Try.f11 [.int .i64 lim, v] = ⟨32, [(0, .int .i64 lim), (1, v)], []⟩ := rfl
  rw [hn]; clear hn
  repeat refine Wp.seq ?_
  refine Wp.runS (by simp only [runS, stepO, stepW, stepV, keep, guardOf, wantG, wantV, aop, binA, aev, flat, if_true, if_false, Option.bind_some, Option.map_some, Frm.put, look, setk, Nat.reduceLT, Nat.reduceEqDiff, evs, evp, evo, List.getElem?_toArray, List.getElem?_cons_succ, List.getElem?_cons_zero, Bool.false_eq_true, Bool.true_eq_false, beq_self_eq_true, beq_ft, beq_tf, notNil, Bool.not_true, Bool.not_false, reduceCtorEq, abuiltin, aextract] <;> exact rfl) ?_
  dsimp only [after, leaving]
  have c10 : canEnter Try.prog 10 = true := by kernel_rfl
  repeat refine Wp.seq ?_
  refine Wp.regionAs (is := List.range' 0 1 ++ (1 :: (List.range' 2 5 ++ []))) rfl ?_
  refine WpO.runS 1 (by simp only [List.drop_succ_cons, List.drop_zero, List.take_succ_cons, List.take_zero, runS, stepO, stepW, stepV, keep, guardOf, wantG, wantV, aop, binA, aev, flat, if_true, if_false, Option.bind_some, Option.map_some, Frm.put, look, setk, Nat.reduceLT, Nat.reduceEqDiff, evs, evp, evo, List.getElem?_toArray, List.getElem?_cons_succ, List.getElem?_cons_zero, Bool.false_eq_true, Bool.true_eq_false, beq_self_eq_true, beq_ft, beq_tf, notNil, Bool.not_true, Bool.not_false, reduceCtorEq, abuiltin, aextract] <;> exact rfl) (by decide) ?_
  refine WpO.callR (new_bad G h lim h1) rfl (by simp only [runS, stepO, stepW, stepV, keep, guardOf, wantG, wantV, aop, binA, aev, flat, if_true, if_false, Option.bind_some, Option.map_some, Frm.put, look, setk, Nat.reduceLT, Nat.reduceEqDiff, evs, evp, evo, List.getElem?_toArray, List.getElem?_cons_succ, List.getElem?_cons_zero, Bool.false_eq_true, Bool.true_eq_false, beq_self_eq_true, beq_ft, beq_tf, notNil, Bool.not_true, Bool.not_false, reduceCtorEq, abuiltin, aextract, c10]) (by simp only [calleeOf, fnOf, List.append_nil, List.nil_append, runS, stepO, stepW, stepV, keep, guardOf, wantG, wantV, aop, binA, aev, flat, if_true, if_false, Option.bind_some, Option.map_some, Frm.put, look, setk, Nat.reduceLT, Nat.reduceEqDiff, evs, evp, evo, List.getElem?_toArray, List.getElem?_cons_succ, List.getElem?_cons_zero, Bool.false_eq_true, Bool.true_eq_false, beq_self_eq_true, beq_ft, beq_tf, notNil, Bool.not_true, Bool.not_false, reduceCtorEq, abuiltin, aextract, c10] <;> exact rfl) ?_
  rintro _ h9 ⟨rfl, hh9⟩
  obtain rfl := hh9.symm
  clear hh9
  refine ⟨_, _, rfl, by simp only [runS, stepO, stepW, stepV, keep, guardOf, wantG, wantV, aop, binA, aev, flat, if_true, if_false, Option.bind_some, Option.map_some, Frm.put, look, setk, Nat.reduceLT, Nat.reduceEqDiff, evs, evp, evo, List.getElem?_toArray, List.getElem?_cons_succ, List.getElem?_cons_zero, Bool.false_eq_true, Bool.true_eq_false, beq_self_eq_true, beq_ft, beq_tf, notNil, Bool.not_true, Bool.not_false, reduceCtorEq, abuiltin, aextract]; exact rfl, ?_⟩
  refine WpO.runS 5 (by simp only [List.drop_succ_cons, List.drop_zero, List.take_succ_cons, List.take_zero, runS, stepO, stepW, stepV, keep, guardOf, wantG, wantV, aop, binA, aev, flat, if_true, if_false, Option.bind_some, Option.map_some, Frm.put, look, setk, Nat.reduceLT, Nat.reduceEqDiff, evs, evp, evo, List.getElem?_toArray, List.getElem?_cons_succ, List.getElem?_cons_zero, Bool.false_eq_true, Bool.true_eq_false, beq_self_eq_true, beq_ft, beq_tf, notNil, Bool.not_true, Bool.not_false, reduceCtorEq, abuiltin, aextract] <;> exact rfl) (by decide) ?_
  refine WpO.nil ?_
  dsimp only [after, leaving]
  repeat refine Wp.seq ?_
  refine Wp.runS (by simp only [runS, stepO, stepW, stepV, keep, guardOf, wantG, wantV, aop, binA, aev, flat, if_true, if_false, Option.bind_some, Option.map_some, Frm.put, look, setk, Nat.reduceLT, Nat.reduceEqDiff, evs, evp, evo, List.getElem?_toArray, List.getElem?_cons_succ, List.getElem?_cons_zero, Bool.false_eq_true, Bool.true_eq_false, beq_self_eq_true, beq_ft, beq_tf, notNil, Bool.not_true, Bool.not_false, reduceCtorEq, abuiltin, aextract, abin_int, ai_neq, show ((5 : Int) != 0) = true from rfl] <;> exact rfl) ?_
  dsimp only [after, leaving]
  repeat refine Wp.seq ?_
  refine Wp.condT (by simp only [runS, stepO, stepW, stepV, keep, guardOf, wantG, wantV, aop, binA, aev, flat, if_true, if_false, Option.bind_some, Option.map_some, Frm.put, look, setk, Nat.reduceLT, Nat.reduceEqDiff, evs, evp, evo, List.getElem?_toArray, List.getElem?_cons_succ, List.getElem?_cons_zero, Bool.false_eq_true, Bool.true_eq_false, beq_self_eq_true, beq_ft, beq_tf, notNil, Bool.not_true, Bool.not_false, reduceCtorEq, abuiltin, aextract]) ?_
  repeat refine Wp.seq ?_
  refine Wp.runS (by simp only [runS, stepO, stepW, stepV, keep, guardOf, wantG, wantV, aop, binA, aev, flat, if_true, if_false, Option.bind_some, Option.map_some, Frm.put, look, setk, Nat.reduceLT, Nat.reduceEqDiff, evs, evp, evo, List.getElem?_toArray, List.getElem?_cons_succ, List.getElem?_cons_zero, Bool.false_eq_true, Bool.true_eq_false, beq_self_eq_true, beq_ft, beq_tf, notNil, Bool.not_true, Bool.not_false, reduceCtorEq, abuiltin, aextract] <;> exact rfl) ?_
  dsimp only [after, leaving]
  repeat refine Wp.seq ?_
  refine Wp.ret ?_
  dsimp only [after, leaving]
  exact ⟨rfl, rfl, _, rfl, rfl, rfl⟩

theorem filled_spec (G : Nat) (h : Heap) (lim : Nat) (v : Value) (ls : List (List UInt8)) (h1 : 1 ≤ lim) (h2 : lim ≤ 1024) (hs : Strs h v ls) (hz : ls.flatten.length ≤ 2000000) (hlen : ls.length ≤ 4611686018427387904) :
    Does Try.prog G NoExt 11 [.int .i64 lim, v] h (fun r h' => r = .returned (.pointer (some ⟨h.next, 0, none⟩)) ∧ h.more h' ∧ ∃ ks, h'.get h.next = some (ringRow ks lim ls.flatten.length) ∧ Kept ks lim ls.flatten) := by
  obtain ⟨a, cap, rfl, hs⟩ := hs
  refine Does.body Try.func11 rfl ?_
  have hn : enterF Try.f11 [.int .i64 lim, .slice a ls.length cap] = ⟨32, [(0, .int .i64 lim), (1, .slice a ls.length cap)], []⟩ := rfl
  rw [hn]; clear hn
  repeat refine Wp.seq ?_
  refine Wp.runS (by simp only [runS, stepO, stepW, stepV, keep, guardOf, wantG, wantV, aop, binA, aev, flat, if_true, if_false, Option.bind_some, Option.map_some, Frm.put, look, setk, Nat.reduceLT, Nat.reduceEqDiff, evs, evp, evo, List.getElem?_toArray, List.getElem?_cons_succ, List.getElem?_cons_zero, Bool.false_eq_true, Bool.true_eq_false, beq_self_eq_true, beq_ft, beq_tf, notNil, Bool.not_true, Bool.not_false, reduceCtorEq, abuiltin, aextract] <;> exact rfl) ?_
  dsimp only [after, leaving]
  have c10 : canEnter Try.prog 10 = true := by kernel_rfl
  have c18 : canEnter Try.prog 18 = true := by kernel_rfl
  repeat refine Wp.seq ?_
  refine Wp.regionAs (is := List.range' 0 1 ++ (1 :: (List.range' 2 5 ++ []))) rfl ?_
  refine WpO.runS 1 (by simp only [List.drop_succ_cons, List.drop_zero, List.take_succ_cons, List.take_zero, runS, stepO, stepW, stepV, keep, guardOf, wantG, wantV, aop, binA, aev, flat, if_true, if_false, Option.bind_some, Option.map_some, Frm.put, look, setk, Nat.reduceLT, Nat.reduceEqDiff, evs, evp, evo, List.getElem?_toArray, List.getElem?_cons_succ, List.getElem?_cons_zero, Bool.false_eq_true, Bool.true_eq_false, beq_self_eq_true, beq_ft, beq_tf, notNil, Bool.not_true, Bool.not_false, reduceCtorEq, abuiltin, aextract] <;> exact rfl) (by decide) ?_
  refine WpO.callR (new_spec G h lim h1 h2) rfl (by simp only [runS, stepO, stepW, stepV, keep, guardOf, wantG, wantV, aop, binA, aev, flat, if_true, if_false, Option.bind_some, Option.map_some, Frm.put, look, setk, Nat.reduceLT, Nat.reduceEqDiff, evs, evp, evo, List.getElem?_toArray, List.getElem?_cons_succ, List.getElem?_cons_zero, Bool.false_eq_true, Bool.true_eq_false, beq_self_eq_true, beq_ft, beq_tf, notNil, Bool.not_true, Bool.not_false, reduceCtorEq, abuiltin, aextract, c10]) (by simp only [calleeOf, fnOf, List.append_nil, List.nil_append, runS, stepO, stepW, stepV, keep, guardOf, wantG, wantV, aop, binA, aev, flat, if_true, if_false, Option.bind_some, Option.map_some, Frm.put, look, setk, Nat.reduceLT, Nat.reduceEqDiff, evs, evp, evo, List.getElem?_toArray, List.getElem?_cons_succ, List.getElem?_cons_zero, Bool.false_eq_true, Bool.true_eq_false, beq_self_eq_true, beq_ft, beq_tf, notNil, Bool.not_true, Bool.not_false, reduceCtorEq, abuiltin, aextract, c10] <;> exact rfl) ?_
  rintro _ _ ⟨rfl, rfl⟩
  refine ⟨_, _, rfl, by simp only [runS, stepO, stepW, stepV, keep, guardOf, wantG, wantV, aop, binA, aev, flat, if_true, if_false, Option.bind_some, Option.map_some, Frm.put, look, setk, Nat.reduceLT, Nat.reduceEqDiff, evs, evp, evo, List.getElem?_toArray, List.getElem?_cons_succ, List.getElem?_cons_zero, Bool.false_eq_true, Bool.true_eq_false, beq_self_eq_true, beq_ft, beq_tf, notNil, Bool.not_true, Bool.not_false, reduceCtorEq, abuiltin, aextract]; exact rfl, ?_⟩
  refine WpO.runS 5 (by simp only [List.drop_succ_cons, List.drop_zero, List.take_succ_cons, List.take_zero, runS, stepO, stepW, stepV, keep, guardOf, wantG, wantV, aop, binA, aev, flat, if_true, if_false, Option.bind_some, Option.map_some, Frm.put, look, setk, Nat.reduceLT, Nat.reduceEqDiff, evs, evp, evo, List.getElem?_toArray, List.getElem?_cons_succ, List.getElem?_cons_zero, Bool.false_eq_true, Bool.true_eq_false, beq_self_eq_true, beq_ft, beq_tf, notNil, Bool.not_true, Bool.not_false, reduceCtorEq, abuiltin, aextract] <;> exact rfl) (by decide) ?_
  refine WpO.nil ?_
  dsimp only [after, leaving]
  repeat refine Wp.seq ?_
  refine Wp.runS (by simp only [runS, stepO, stepW, stepV, keep, guardOf, wantG, wantV, aop, binA, aev, flat, if_true, if_false, Option.bind_some, Option.map_some, Frm.put, look, setk, Nat.reduceLT, Nat.reduceEqDiff, evs, evp, evo, List.getElem?_toArray, List.getElem?_cons_succ, List.getElem?_cons_zero, Bool.false_eq_true, Bool.true_eq_false, beq_self_eq_true, beq_ft, beq_tf, notNil, Bool.not_true, Bool.not_false, reduceCtorEq, abuiltin, aextract, abin_int, ai_neq, show ((0 : Int) != 0) = false from rfl, abin_ptr_nil Try.underlying26, Option.isNone] <;> exact rfl) ?_
  dsimp only [after, leaving]
  repeat refine Wp.seq ?_
  refine Wp.condF (by simp only [runS, stepO, stepW, stepV, keep, guardOf, wantG, wantV, aop, binA, aev, flat, if_true, if_false, Option.bind_some, Option.map_some, Frm.put, look, setk, Nat.reduceLT, Nat.reduceEqDiff, evs, evp, evo, List.getElem?_toArray, List.getElem?_cons_succ, List.getElem?_cons_zero, Bool.false_eq_true, Bool.true_eq_false, beq_self_eq_true, beq_ft, beq_tf, notNil, Bool.not_true, Bool.not_false, reduceCtorEq, abuiltin, aextract]) ?_
  repeat refine Wp.seq ?_
  refine Wp.skip ?_
  dsimp only [after, leaving]
  repeat refine Wp.seq ?_
  refine Wp.runS (by simp only [runS, stepO, stepW, stepV, keep, guardOf, wantG, wantV, aop, binA, aev, flat, if_true, if_false, Option.bind_some, Option.map_some, Frm.put, look, setk, Nat.reduceLT, Nat.reduceEqDiff, evs, evp, evo, List.getElem?_toArray, List.getElem?_cons_succ, List.getElem?_cons_zero, Bool.false_eq_true, Bool.true_eq_false, beq_self_eq_true, beq_ft, beq_tf, notNil, Bool.not_true, Bool.not_false, reduceCtorEq, abuiltin, aextract] <;> exact rfl) ?_
  dsimp only [after, leaving]
  refine Wp.cut (fun fr u h' => u = none ∧ h.more h' ∧ (∃ ks, h'.get h.next = some (ringRow ks lim ls.flatten.length) ∧ Kept ks lim ls.flatten) ∧ ∃ s, fr = ⟨32, s, []⟩ ∧ look 5 s = some (.pointer (some ⟨h.next, 0, none⟩))) ?_ ?_
  · rintro fr u h' ⟨rfl, hmore, hks, s, rfl, s5⟩
    dsimp only [after, leaving]
    refine Wp.weaken (fr' := ⟨32, [(5, .pointer (some ⟨h.next, 0, none⟩))], []⟩) (Frm.le_of ⟨s5, trivial⟩) ?_
    repeat refine Wp.seq ?_
    refine Wp.runS (by simp only [runS, stepO, stepW, stepV, keep, guardOf, wantG, wantV, aop, binA, aev, flat, if_true, if_false, Option.bind_some, Option.map_some, Frm.put, look, setk, Nat.reduceLT, Nat.reduceEqDiff, evs, evp, evo, List.getElem?_toArray, List.getElem?_cons_succ, List.getElem?_cons_zero, Bool.false_eq_true, Bool.true_eq_false, beq_self_eq_true, beq_ft, beq_tf, notNil, Bool.not_true, Bool.not_false, reduceCtorEq, abuiltin, aextract] <;> exact rfl) ?_
    dsimp only [after, leaving]
    repeat refine Wp.seq ?_
    refine Wp.ret ?_
    dsimp only [after, leaving]
    exact ⟨rfl, rfl, _, rfl, rfl, hmore, hks⟩
  · refine Wp.block ?_
    refine Wp.loopI (X := Heap × Nat) (fun x => [(1, .slice a ls.length cap), (5, .pointer (some ⟨h.next, 0, none⟩)), (7, .int .i64 (x.2 : Nat))]) (fun x => x.1)
      (fun x => x.2 ≤ ls.length ∧ h.more x.1 ∧ ∃ ks, x.1.get h.next = some (ringRow ks lim (ls.take x.2).flatten.length) ∧ Kept ks lim (ls.take x.2).flatten) (fun x => ls.length - x.2) (h.alloc (ringRow (fun _ => 0) lim 0), 0)
      ⟨by dsimp only; omega, Heap.more_alloc _ _, fun _ => 0, by simp [Heap.get_alloc_new], fun q hq => by simp at hq⟩ ⟨rfl, rfl, rfl, trivial⟩ rfl ?_
    rintro ⟨H, j⟩ ⟨hj, hmore, ks, hg, hk⟩
    dsimp only at hj hmore hg hk ⊢
    repeat refine Wp.seq ?_
    refine Wp.runS (by simp only [runS, stepO, stepW, stepV, keep, guardOf, wantG, wantV, aop, binA, aev, flat, if_true, if_false, Option.bind_some, Option.map_some, Frm.put, look, setk, Nat.reduceLT, Nat.reduceEqDiff, evs, evp, evo, List.getElem?_toArray, List.getElem?_cons_succ, List.getElem?_cons_zero, Bool.false_eq_true, Bool.true_eq_false, beq_self_eq_true, beq_ft, beq_tf, notNil, Bool.not_true, Bool.not_false, reduceCtorEq, abuiltin, aextract, abin_int, ai_lss, alen_slice Try.underlying22] <;> exact rfl) ?_
    dsimp only [after, leaving]
    by_cases hlt : (j : Int) < (ls.length : Int)
    · repeat refine Wp.seq ?_
      refine Wp.condT (by simp only [runS, stepO, stepW, stepV, keep, guardOf, wantG, wantV, aop, binA, aev, flat, if_true, if_false, Option.bind_some, Option.map_some, Frm.put, look, setk, Nat.reduceLT, Nat.reduceEqDiff, evs, evp, evo, List.getElem?_toArray, List.getElem?_cons_succ, List.getElem?_cons_zero, Bool.false_eq_true, Bool.true_eq_false, beq_self_eq_true, beq_ft, beq_tf, notNil, Bool.not_true, Bool.not_false, reduceCtorEq, abuiltin, aextract, decide_eq_true hlt]) ?_
      repeat refine Wp.seq ?_
      refine Wp.skip ?_
      dsimp only [after, leaving]
      obtain ⟨l, hl⟩ : ∃ l, ls[j]? = some l := ⟨_, List.getElem?_eq_getElem (by omega)⟩
      obtain ⟨b, k, sp, rfl, hld⟩ := hs j l hl
      have hft := flat_take hl
      have hle := flat_take_le ls (j + 1)
      rw [hft, List.length_append] at hle
      refine Wp.join (fun fr u h' => u = none ∧ h.more h' ∧ (∃ ks, h'.get h.next = some (ringRow ks lim (ls.take (j + 1)).flatten.length) ∧ Kept ks lim (ls.take (j + 1)).flatten) ∧ ∃ s, fr = ⟨32, s, []⟩ ∧ look 1 s = some (.slice (some ⟨b, k, sp⟩) ls.length cap) ∧ look 5 s = some (.pointer (some ⟨h.next, 0, none⟩)) ∧ look 7 s = some (.int .i64 (j : Nat))) ?_ ?_
      · rintro fr u h' ⟨rfl, hmore, hks, s, rfl, s1, s5, s7⟩
        have hwj : IntKind.i64.wrap ((j : Int) + 1) = ((j + 1 : Nat) : Int) := by rw [wrap_in (by omega) (by omega)]; omega
        refine Wp.weaken (fr' := ⟨32, [(1, .slice (some ⟨b, k, sp⟩) ls.length cap), (5, .pointer (some ⟨h.next, 0, none⟩)), (7, .int .i64 (j : Nat))], []⟩) (Frm.le_of ⟨s1, s5, s7, trivial⟩) ?_
        repeat refine Wp.seq ?_
        refine Wp.runS (by simp only [runS, stepO, stepW, stepV, keep, guardOf, wantG, wantV, aop, binA, aev, flat, if_true, if_false, Option.bind_some, Option.map_some, Frm.put, look, setk, Nat.reduceLT, Nat.reduceEqDiff, evs, evp, evo, List.getElem?_toArray, List.getElem?_cons_succ, List.getElem?_cons_zero, Bool.false_eq_true, Bool.true_eq_false, beq_self_eq_true, beq_ft, beq_tf, notNil, Bool.not_true, Bool.not_false, reduceCtorEq, abuiltin, aextract, abin_int, ai_add, hwj] <;> exact rfl) ?_
        dsimp only [after, leaving]
        refine ⟨(h', j + 1), _, ⟨by dsimp only; omega, hmore, hks⟩, by dsimp only; omega, rfl, ⟨rfl, rfl, rfl, trivial⟩, rfl, rfl⟩
      · refine Wp.block ?_
        repeat refine Wp.seq ?_
        refine Wp.regionAs (is := List.range' 0 5 ++ (5 :: [])) rfl ?_
        refine WpO.runS 5 (by simp only [List.drop_succ_cons, List.drop_zero, List.take_succ_cons, List.take_zero, runS, stepO, stepW, stepV, keep, guardOf, wantG, wantV, aop, binA, aev, flat, if_true, if_false, Option.bind_some, Option.map_some, Frm.put, look, setk, Nat.reduceLT, Nat.reduceEqDiff, evs, evp, evo, List.getElem?_toArray, List.getElem?_cons_succ, List.getElem?_cons_zero, Bool.false_eq_true, Bool.true_eq_false, beq_self_eq_true, beq_ft, beq_tf, notNil, Bool.not_true, Bool.not_false, reduceCtorEq, abuiltin, aextract, index22 (show j < ls.length by omega), aload_cell agg9, hmore.ld hld] <;> exact rfl) (by decide) ?_
        refine WpO.callR (put_spec G H h.next ks lim _ l h1 h2 (by omega) hg hk) rfl (by simp only [runS, stepO, stepW, stepV, keep, guardOf, wantG, wantV, aop, binA, aev, flat, if_true, if_false, Option.bind_some, Option.map_some, Frm.put, look, setk, Nat.reduceLT, Nat.reduceEqDiff, evs, evp, evo, List.getElem?_toArray, List.getElem?_cons_succ, List.getElem?_cons_zero, Bool.false_eq_true, Bool.true_eq_false, beq_self_eq_true, beq_ft, beq_tf, notNil, Bool.not_true, Bool.not_false, reduceCtorEq, abuiltin, aextract, c18]) (by simp only [calleeOf, fnOf, List.append_nil, List.nil_append, runS, stepO, stepW, stepV, keep, guardOf, wantG, wantV, aop, binA, aev, flat, if_true, if_false, Option.bind_some, Option.map_some, Frm.put, look, setk, Nat.reduceLT, Nat.reduceEqDiff, evs, evp, evo, List.getElem?_toArray, List.getElem?_cons_succ, List.getElem?_cons_zero, Bool.false_eq_true, Bool.true_eq_false, beq_self_eq_true, beq_ft, beq_tf, notNil, Bool.not_true, Bool.not_false, reduceCtorEq, abuiltin, aextract, c18] <;> exact rfl) ?_
        rintro _ _ ⟨rfl, ks', hk', rfl⟩
        refine ⟨_, _, rfl, by simp only [runS, stepO, stepW, stepV, keep, guardOf, wantG, wantV, aop, binA, aev, flat, if_true, if_false, Option.bind_some, Option.map_some, Frm.put, look, setk, Nat.reduceLT, Nat.reduceEqDiff, evs, evp, evo, List.getElem?_toArray, List.getElem?_cons_succ, List.getElem?_cons_zero, Bool.false_eq_true, Bool.true_eq_false, beq_self_eq_true, beq_ft, beq_tf, notNil, Bool.not_true, Bool.not_false, reduceCtorEq, abuiltin, aextract]; exact rfl, ?_⟩
        refine WpO.nil ?_
        dsimp only [after, leaving]
        rw [← hft] at hk' ⊢
        exact ⟨rfl, Heap.more_set_new hmore (Nat.le_refl _) _, ⟨ks', Heap.get_set_self hg, hk'⟩, _, rfl, rfl, rfl, rfl⟩
    · repeat refine Wp.seq ?_
      refine Wp.condF (by simp only [runS, stepO, stepW, stepV, keep, guardOf, wantG, wantV, aop, binA, aev, flat, if_true, if_false, Option.bind_some, Option.map_some, Frm.put, look, setk, Nat.reduceLT, Nat.reduceEqDiff, evs, evp, evo, List.getElem?_toArray, List.getElem?_cons_succ, List.getElem?_cons_zero, Bool.false_eq_true, Bool.true_eq_false, beq_self_eq_true, beq_ft, beq_tf, notNil, Bool.not_true, Bool.not_false, reduceCtorEq, abuiltin, aextract, decide_eq_false hlt]) ?_
      repeat refine Wp.seq ?_
      refine Wp.exit ?_
      simp only [after, leaving, blockExit, if_true, if_false, Nat.reduceEqDiff]
      obtain rfl : j = ls.length := by omega
      rw [List.take_length] at hg hk
      exact ⟨trivial, hmore, ⟨ks, hg, hk⟩, _, rfl, rfl⟩

theorem strEq_bs (a b : List UInt8) : strEq (bs a) (bs b) = decide (a = b) := by
  rw [strEq_decide]
  simp only [bs_inj]

theorem works_spec (G : Nat) (h : Heap) : Does Try.prog G NoExt 8 [] h (fun r h' => r = .returned (.bool true) ∧ h.more h') := by
  refine Does.body Try.func8 rfl ?_
  have hn : enterF Try.f8 [] = ⟨39, [], []⟩ := rfl
  rw [hn]; clear hn
  repeat refine Wp.seq ?_
  refine Wp.runS (by simp only [runS, stepO, stepW, stepV, keep, guardOf, wantG, wantV, aop, binA, aev, flat, if_true, if_false, Option.bind_some, Option.map_some, Frm.put, look, setk, Nat.reduceLT, Nat.reduceEqDiff, evs, evp, evo, List.getElem?_toArray, List.getElem?_cons_succ, List.getElem?_cons_zero, Bool.false_eq_true, Bool.true_eq_false, beq_self_eq_true, beq_ft, beq_tf, notNil, Bool.not_true, Bool.not_false, reduceCtorEq, abuiltin, aextract] <;> exact rfl) ?_
  dsimp only [after, leaving]
  have c10 : canEnter Try.prog 10 = true := by kernel_rfl
  have c18 : canEnter Try.prog 18 = true := by kernel_rfl
  have c13 : canEnter Try.prog 13 = true := by kernel_rfl
  have c15 : canEnter Try.prog 15 = true := by kernel_rfl
  repeat refine Wp.seq ?_
  refine Wp.regionAs (is := 0 :: (List.range' 1 5 ++ [])) rfl ?_
  refine WpO.callR (new_spec G h 3 (by omega) (by omega)) rfl (by simp only [runS, stepO, stepW, stepV, keep, guardOf, wantG, wantV, aop, binA, aev, flat, if_true, if_false, Option.bind_some, Option.map_some, Frm.put, look, setk, Nat.reduceLT, Nat.reduceEqDiff, evs, evp, evo, List.getElem?_toArray, List.getElem?_cons_succ, List.getElem?_cons_zero, Bool.false_eq_true, Bool.true_eq_false, beq_self_eq_true, beq_ft, beq_tf, notNil, Bool.not_true, Bool.not_false, reduceCtorEq, abuiltin, aextract, c10]) (by simp only [calleeOf, fnOf, List.append_nil, List.nil_append, runS, stepO, stepW, stepV, keep, guardOf, wantG, wantV, aop, binA, aev, flat, if_true, if_false, Option.bind_some, Option.map_some, Frm.put, look, setk, Nat.reduceLT, Nat.reduceEqDiff, evs, evp, evo, List.getElem?_toArray, List.getElem?_cons_succ, List.getElem?_cons_zero, Bool.false_eq_true, Bool.true_eq_false, beq_self_eq_true, beq_ft, beq_tf, notNil, Bool.not_true, Bool.not_false, reduceCtorEq, abuiltin, aextract, c10] <;> exact rfl) ?_
  rintro _ _ ⟨rfl, rfl⟩
  refine ⟨_, _, rfl, by simp only [runS, stepO, stepW, stepV, keep, guardOf, wantG, wantV, aop, binA, aev, flat, if_true, if_false, Option.bind_some, Option.map_some, Frm.put, look, setk, Nat.reduceLT, Nat.reduceEqDiff, evs, evp, evo, List.getElem?_toArray, List.getElem?_cons_succ, List.getElem?_cons_zero, Bool.false_eq_true, Bool.true_eq_false, beq_self_eq_true, beq_ft, beq_tf, notNil, Bool.not_true, Bool.not_false, reduceCtorEq, abuiltin, aextract]; exact rfl, ?_⟩
  refine WpO.runS 5 (by simp only [List.drop_succ_cons, List.drop_zero, List.take_succ_cons, List.take_zero, runS, stepO, stepW, stepV, keep, guardOf, wantG, wantV, aop, binA, aev, flat, if_true, if_false, Option.bind_some, Option.map_some, Frm.put, look, setk, Nat.reduceLT, Nat.reduceEqDiff, evs, evp, evo, List.getElem?_toArray, List.getElem?_cons_succ, List.getElem?_cons_zero, Bool.false_eq_true, Bool.true_eq_false, beq_self_eq_true, beq_ft, beq_tf, notNil, Bool.not_true, Bool.not_false, reduceCtorEq, abuiltin, aextract] <;> exact rfl) (by decide) ?_
  refine WpO.nil ?_
  dsimp only [after, leaving]
  repeat refine Wp.seq ?_
  refine Wp.runS (by simp only [runS, stepO, stepW, stepV, keep, guardOf, wantG, wantV, aop, binA, aev, flat, if_true, if_false, Option.bind_some, Option.map_some, Frm.put, look, setk, Nat.reduceLT, Nat.reduceEqDiff, evs, evp, evo, List.getElem?_toArray, List.getElem?_cons_succ, List.getElem?_cons_zero, Bool.false_eq_true, Bool.true_eq_false, beq_self_eq_true, beq_ft, beq_tf, notNil, Bool.not_true, Bool.not_false, reduceCtorEq, abuiltin, aextract, abin_int, ai_neq, show ((0 : Int) != 0) = false from rfl, abin_ptr_nil Try.underlying26, Option.isNone] <;> exact rfl) ?_
  dsimp only [after, leaving]
  repeat refine Wp.seq ?_
  refine Wp.condF (by simp only [runS, stepO, stepW, stepV, keep, guardOf, wantG, wantV, aop, binA, aev, flat, if_true, if_false, Option.bind_some, Option.map_some, Frm.put, look, setk, Nat.reduceLT, Nat.reduceEqDiff, evs, evp, evo, List.getElem?_toArray, List.getElem?_cons_succ, List.getElem?_cons_zero, Bool.false_eq_true, Bool.true_eq_false, beq_self_eq_true, beq_ft, beq_tf, notNil, Bool.not_true, Bool.not_false, reduceCtorEq, abuiltin, aextract]) ?_
  repeat refine Wp.seq ?_
  refine Wp.skip ?_
  dsimp only [after, leaving]
  repeat refine Wp.seq ?_
  refine Wp.regionAs (is := List.range' 0 1 ++ (1 :: [])) rfl ?_
  refine WpO.runS 1 (by simp only [List.drop_succ_cons, List.drop_zero, List.take_succ_cons, List.take_zero, runS, stepO, stepW, stepV, keep, guardOf, wantG, wantV, aop, binA, aev, flat, if_true, if_false, Option.bind_some, Option.map_some, Frm.put, look, setk, Nat.reduceLT, Nat.reduceEqDiff, evs, evp, evo, List.getElem?_toArray, List.getElem?_cons_succ, List.getElem?_cons_zero, Bool.false_eq_true, Bool.true_eq_false, beq_self_eq_true, beq_ft, beq_tf, notNil, Bool.not_true, Bool.not_false, reduceCtorEq, abuiltin, aextract] <;> exact rfl) (by decide) ?_
  have hg0 := Heap.get_alloc_new h (ringRow (fun _ => 0) 3 0)
  refine WpO.callR (put_spec G (h.alloc (ringRow (fun _ => 0) 3 0)) h.next (fun _ => 0) 3 [] [97, 98, 99, 100] (by omega) (by omega) (by decide) hg0 (fun q hq => by simp at hq)) rfl (by simp only [runS, stepO, stepW, stepV, keep, guardOf, wantG, wantV, aop, binA, aev, flat, if_true, if_false, Option.bind_some, Option.map_some, Frm.put, look, setk, Nat.reduceLT, Nat.reduceEqDiff, evs, evp, evo, List.getElem?_toArray, List.getElem?_cons_succ, List.getElem?_cons_zero, Bool.false_eq_true, Bool.true_eq_false, beq_self_eq_true, beq_ft, beq_tf, notNil, Bool.not_true, Bool.not_false, reduceCtorEq, abuiltin, aextract, c18]) (by simp only [calleeOf, fnOf, List.append_nil, List.nil_append, runS, stepO, stepW, stepV, keep, guardOf, wantG, wantV, aop, binA, aev, flat, if_true, if_false, Option.bind_some, Option.map_some, Frm.put, look, setk, Nat.reduceLT, Nat.reduceEqDiff, evs, evp, evo, List.getElem?_toArray, List.getElem?_cons_succ, List.getElem?_cons_zero, Bool.false_eq_true, Bool.true_eq_false, beq_self_eq_true, beq_ft, beq_tf, notNil, Bool.not_true, Bool.not_false, reduceCtorEq, abuiltin, aextract, c18] <;> exact rfl) ?_
  rintro _ _ ⟨rfl, ks, hk, rfl⟩
  refine ⟨_, _, rfl, by simp only [runS, stepO, stepW, stepV, keep, guardOf, wantG, wantV, aop, binA, aev, flat, if_true, if_false, Option.bind_some, Option.map_some, Frm.put, look, setk, Nat.reduceLT, Nat.reduceEqDiff, evs, evp, evo, List.getElem?_toArray, List.getElem?_cons_succ, List.getElem?_cons_zero, Bool.false_eq_true, Bool.true_eq_false, beq_self_eq_true, beq_ft, beq_tf, notNil, Bool.not_true, Bool.not_false, reduceCtorEq, abuiltin, aextract]; exact rfl, ?_⟩
  refine WpO.nil ?_
  dsimp only [after, leaving]
  have hg := Heap.get_set_self (o := ringRow ks 3 ([] ++ [97, 98, 99, 100] : List UInt8).length) hg0
  have hmore := Heap.more_set_new (Heap.more_alloc h (ringRow (fun _ => 0) 3 0)) (Nat.le_refl _) (ringRow ks 3 ([] ++ [97, 98, 99, 100] : List UInt8).length)
  generalize (h.alloc (ringRow (fun _ => 0) 3 0)).set h.next (ringRow ks 3 ([] ++ [97, 98, 99, 100] : List UInt8).length) = H at hg hmore ⊢
  repeat refine Wp.seq ?_
  refine Wp.regionAs (is := List.range' 0 1 ++ (1 :: (List.range' 2 7 ++ []))) rfl ?_
  refine WpO.runS 1 (by simp only [List.drop_succ_cons, List.drop_zero, List.take_succ_cons, List.take_zero, runS, stepO, stepW, stepV, keep, guardOf, wantG, wantV, aop, binA, aev, flat, if_true, if_false, Option.bind_some, Option.map_some, Frm.put, look, setk, Nat.reduceLT, Nat.reduceEqDiff, evs, evp, evo, List.getElem?_toArray, List.getElem?_cons_succ, List.getElem?_cons_zero, Bool.false_eq_true, Bool.true_eq_false, beq_self_eq_true, beq_ft, beq_tf, notNil, Bool.not_true, Bool.not_false, reduceCtorEq, abuiltin, aextract] <;> exact rfl) (by decide) ?_
  refine WpO.callR (from_spec G H h.next ks 3 [97, 98, 99, 100] 0 9 (by omega) (by omega) (by decide) hg hk) rfl (by simp only [runS, stepO, stepW, stepV, keep, guardOf, wantG, wantV, aop, binA, aev, flat, if_true, if_false, Option.bind_some, Option.map_some, Frm.put, look, setk, Nat.reduceLT, Nat.reduceEqDiff, evs, evp, evo, List.getElem?_toArray, List.getElem?_cons_succ, List.getElem?_cons_zero, Bool.false_eq_true, Bool.true_eq_false, beq_self_eq_true, beq_ft, beq_tf, notNil, Bool.not_true, Bool.not_false, reduceCtorEq, abuiltin, aextract, c13]) (by simp only [calleeOf, fnOf, List.append_nil, List.nil_append, runS, stepO, stepW, stepV, keep, guardOf, wantG, wantV, aop, binA, aev, flat, if_true, if_false, Option.bind_some, Option.map_some, Frm.put, look, setk, Nat.reduceLT, Nat.reduceEqDiff, evs, evp, evo, List.getElem?_toArray, List.getElem?_cons_succ, List.getElem?_cons_zero, Bool.false_eq_true, Bool.true_eq_false, beq_self_eq_true, beq_ft, beq_tf, notNil, Bool.not_true, Bool.not_false, reduceCtorEq, abuiltin, aextract, c13] <;> exact rfl) ?_
  rintro _ H2 ⟨rfl, hm2⟩
  have ht : tellV [97, 98, 99, 100] 3 0 9 = .tuple #[.string (bs [98, 99, 100]), .int .i64 1, .int .i64 0] := by rfl
  rw [ht]
  refine ⟨_, _, rfl, by simp only [runS, stepO, stepW, stepV, keep, guardOf, wantG, wantV, aop, binA, aev, flat, if_true, if_false, Option.bind_some, Option.map_some, Frm.put, look, setk, Nat.reduceLT, Nat.reduceEqDiff, evs, evp, evo, List.getElem?_toArray, List.getElem?_cons_succ, List.getElem?_cons_zero, Bool.false_eq_true, Bool.true_eq_false, beq_self_eq_true, beq_ft, beq_tf, notNil, Bool.not_true, Bool.not_false, reduceCtorEq, abuiltin, aextract]; exact rfl, ?_⟩
  refine WpO.runS 7 (by simp only [List.drop_succ_cons, List.drop_zero, List.take_succ_cons, List.take_zero, runS, stepO, stepW, stepV, keep, guardOf, wantG, wantV, aop, binA, aev, flat, if_true, if_false, Option.bind_some, Option.map_some, Frm.put, look, setk, Nat.reduceLT, Nat.reduceEqDiff, evs, evp, evo, List.getElem?_toArray, List.getElem?_cons_succ, List.getElem?_cons_zero, Bool.false_eq_true, Bool.true_eq_false, beq_self_eq_true, beq_ft, beq_tf, notNil, Bool.not_true, Bool.not_false, reduceCtorEq, abuiltin, aextract] <;> exact rfl) (by decide) ?_
  refine WpO.nil ?_
  dsimp only [after, leaving]
  have he : strEq (bs [98, 99, 100]) { data := #[98, 99, 100] } = true := by rw [strEq_iff]; rfl
  repeat refine Wp.seq ?_
  refine Wp.regionAs (is := List.range' 0 12 ++ (12 :: (List.range' 13 3 ++ []))) rfl ?_
  refine WpO.runS 12 (by simp only [List.drop_succ_cons, List.drop_zero, List.take_succ_cons, List.take_zero, runS, stepO, stepW, stepV, keep, guardOf, wantG, wantV, aop, binA, aev, flat, if_true, if_false, Option.bind_some, Option.map_some, Frm.put, look, setk, Nat.reduceLT, Nat.reduceEqDiff, evs, evp, evo, List.getElem?_toArray, List.getElem?_cons_succ, List.getElem?_cons_zero, Bool.false_eq_true, Bool.true_eq_false, beq_self_eq_true, beq_ft, beq_tf, notNil, Bool.not_true, Bool.not_false, reduceCtorEq, abuiltin, aextract, abin_int, abin_str, abinS, he, ai_eql] <;> exact rfl) (by decide) ?_
  refine WpO.callR (end_spec G H2 h.next ks 3 4 (hm2.get hg)) rfl (by simp only [runS, stepO, stepW, stepV, keep, guardOf, wantG, wantV, aop, binA, aev, flat, if_true, if_false, Option.bind_some, Option.map_some, Frm.put, look, setk, Nat.reduceLT, Nat.reduceEqDiff, evs, evp, evo, List.getElem?_toArray, List.getElem?_cons_succ, List.getElem?_cons_zero, Bool.false_eq_true, Bool.true_eq_false, beq_self_eq_true, beq_ft, beq_tf, notNil, Bool.not_true, Bool.not_false, reduceCtorEq, abuiltin, aextract, c15]) (by simp only [calleeOf, fnOf, List.append_nil, List.nil_append, runS, stepO, stepW, stepV, keep, guardOf, wantG, wantV, aop, binA, aev, flat, if_true, if_false, Option.bind_some, Option.map_some, Frm.put, look, setk, Nat.reduceLT, Nat.reduceEqDiff, evs, evp, evo, List.getElem?_toArray, List.getElem?_cons_succ, List.getElem?_cons_zero, Bool.false_eq_true, Bool.true_eq_false, beq_self_eq_true, beq_ft, beq_tf, notNil, Bool.not_true, Bool.not_false, reduceCtorEq, abuiltin, aextract, c15] <;> exact rfl) ?_
  rintro _ h9 ⟨rfl, hh9⟩
  obtain rfl := hh9.symm
  clear hh9
  refine ⟨_, _, rfl, by simp only [runS, stepO, stepW, stepV, keep, guardOf, wantG, wantV, aop, binA, aev, flat, if_true, if_false, Option.bind_some, Option.map_some, Frm.put, look, setk, Nat.reduceLT, Nat.reduceEqDiff, evs, evp, evo, List.getElem?_toArray, List.getElem?_cons_succ, List.getElem?_cons_zero, Bool.false_eq_true, Bool.true_eq_false, beq_self_eq_true, beq_ft, beq_tf, notNil, Bool.not_true, Bool.not_false, reduceCtorEq, abuiltin, aextract]; exact rfl, ?_⟩
  have h44 : (((4 : Nat) : Int) == 4) = true := rfl
  refine WpO.runS 3 (by simp only [List.drop_succ_cons, List.drop_zero, List.take_succ_cons, List.take_zero, runS, stepO, stepW, stepV, keep, guardOf, wantG, wantV, aop, binA, aev, flat, if_true, if_false, Option.bind_some, Option.map_some, Frm.put, look, setk, Nat.reduceLT, Nat.reduceEqDiff, evs, evp, evo, List.getElem?_toArray, List.getElem?_cons_succ, List.getElem?_cons_zero, Bool.false_eq_true, Bool.true_eq_false, beq_self_eq_true, beq_ft, beq_tf, notNil, Bool.not_true, Bool.not_false, reduceCtorEq, abuiltin, aextract, abin_int, ai_eql, h44] <;> exact rfl) (by decide) ?_
  refine WpO.nil ?_
  dsimp only [after, leaving]
  repeat refine Wp.seq ?_
  refine Wp.ret ?_
  dsimp only [after, leaving]
  exact ⟨rfl, rfl, _, rfl, rfl, hmore.trans hm2⟩
end Go.Mini
