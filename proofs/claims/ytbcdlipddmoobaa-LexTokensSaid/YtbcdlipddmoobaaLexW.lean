/-
  LEX, part W: Quoted, as the document tells it.
-/
import Derived.Test.YtbcdlipddmoobaaLexV
set_option linter.unusedSimpArgs false
set_option maxHeartbeats 4000000
namespace Go.Mini
open Go.Proofs

theorem ares27 {s : List (Nat × Value)} {d : List Deferred} {h : Heap} {c : Nat} {v w : Value} {e p : Int} (s4 : look 4 s = some v) (s5 : look 5 s = some w) (s6 : look 6 s = some (.pointer (some ⟨c, 0, none⟩))) (gc : h.get c = some (spotRow e p)) :
    ares Try.prog Try.f27 ⟨92, s, d⟩ h = some (.tuple #[v, w, .agg #[.int .i64 e, .int .i64 p]]) := by
  have hr : Try.f27.results.toList = [.tmp 4, .tmp 5, .cell 6 27] := rfl
  unfold ares
  rw [hr]
  simp only [aresults, aresult, s4, s5, s6, Option.bind_some, aload_agg agg27 sz27, Heap.lds_of gc (k := 0) (n := 2) (by simp), Option.map_some]
  rfl
theorem bad_spec {E : EXT} (h : Heap) (k : Nat) : Does Try.prog 0 E 35 [.int .i64 k] h fun r h' => r = .returned (.agg #[.int .i64 6, .int .i64 k]) ∧ h' = h.alloc (spotRow 6 k) := by
  refine Does.body Try.func35 rfl ?_
  have hn : enterF Try.f35 [.int .i64 k] = ⟨5, [(0, .int .i64 k)], []⟩ := rfl
  rw [hn]; clear hn
  repeat refine Wp.seq ?_
  refine Wp.runS (by simp only [runS, stepO, stepW, stepV, keep, guardOf, wantG, wantV, aop, binA, aev, flat, if_true, if_false, Option.bind_some, Option.map_some, Frm.put, look, setk, Nat.reduceLT, Nat.reduceEqDiff, evs, evp, evo, List.getElem?_toArray, List.getElem?_cons_succ, List.getElem?_cons_zero, Bool.false_eq_true, Bool.true_eq_false, beq_self_eq_true, beq_ft, beq_tf, notNil, Bool.not_true, Bool.not_false, reduceCtorEq, abuiltin, aextract, alloc27, Heap.new] <;> exact rfl) ?_
  dsimp only [after, leaving]
  repeat refine Wp.seq ?_
  refine Wp.runS (by simp only [runS, stepO, stepW, stepV, keep, guardOf, wantG, wantV, aop, binA, aev, flat, if_true, if_false, Option.bind_some, Option.map_some, Frm.put, look, setk, Nat.reduceLT, Nat.reduceEqDiff, evs, evp, evo, List.getElem?_toArray, List.getElem?_cons_succ, List.getElem?_cons_zero, Bool.false_eq_true, Bool.true_eq_false, beq_self_eq_true, beq_ft, beq_tf, notNil, Bool.not_true, Bool.not_false, reduceCtorEq, abuiltin, aextract, build27, spot_put] <;> exact rfl) ?_
  dsimp only [after, leaving]
  repeat refine Wp.seq ?_
  refine Wp.ret ?_
  dsimp only [after, leaving]
  refine ⟨rfl, rfl, _, ?_, rfl, rfl⟩
  have hr : Try.f35.results.toList = [.cell 2 27] := rfl
  unfold ares
  rw [hr]
  have gc : (h.alloc (spotRow 6 k)).get h.next = some (spotRow 6 k) := Heap.get_alloc_new _ _
  simp only [aresults, aresult, look, if_true, if_false, Nat.reduceEqDiff, Option.bind_some, aload_agg agg27 sz27, Heap.lds_of gc (k := 0) (n := 2) (by simp), Option.map_some]
  rfl

/-- Where the count of the signs ends. -/
def LimR (T : List UInt8) (n fr : Nat) : Prop := n ≤ 64 ∧ (T.head? = some 34 → (n = 64 ∧ T[fr]? ≠ some 34 → scanQ 64 T = .long fr) ∧ (¬ (n = 64 ∧ T[fr]? ≠ some 34) → scanQ 64 T = scanQ (-1) T))
theorem scanF_64 (f : Nat) (s : List UInt8) (k : Nat) (o : List UInt8) : scanF 64 (f + 1) s k o = if o.length = 64 ∧ s.head? ≠ some 34 then .long k else if s.head? = some 34 then .ok o k else match signAt s with
      | .inl j => .bad (k + j)
      | .inr (c, n) => scanF 64 f (s.drop n) (k + n) (o ++ [c]) := by
  have : ((o.length : Int) = 64 ∧ s.head? ≠ some 34) ↔ (o.length = 64 ∧ s.head? ≠ some 34) := by constructor <;> rintro ⟨a, b⟩ <;> exact ⟨by omega, b⟩
  rw [scanF]
  simp only [this]
  split
  · rfl
  · split
    · rfl
    · cases signAt s <;> rfl

theorem quotedR_spec (h : Heap) (T : List UInt8) (hT : T.length < 1000000) :
    Does Try.prog 0 (GoodE Try.prog (baseM 0)) 27 [.string (bs T), .int .i64 64] h fun r _ => r = .returned (quotedV (scanQ 64 T)) := by
  have c33 : canEnter Try.prog 33 = true := by kernel_rfl
  have c34 : canEnter Try.prog 34 = true := by kernel_rfl
  have c35 : canEnter Try.prog 35 = true := by kernel_rfl
  refine Does.body Try.func27 rfl ?_
  have hn : enterF Try.f27 [.string (bs T), .int .i64 64] = ⟨92, [(0, .string (bs T)), (1, .int .i64 64)], []⟩ := rfl
  rw [hn]; clear hn
  repeat refine Wp.seq ?_
  refine Wp.runS (by simp only [runS, stepO, stepW, stepV, keep, guardOf, wantG, wantV, aop, binA, aev, flat, if_true, if_false, Option.bind_some, Option.map_some, Frm.put, look, setk, Nat.reduceLT, Nat.reduceEqDiff, evs, evp, evo, List.getElem?_toArray, List.getElem?_cons_succ, List.getElem?_cons_zero, Bool.false_eq_true, Bool.true_eq_false, beq_self_eq_true, beq_ft, beq_tf, notNil, Bool.not_true, Bool.not_false, reduceCtorEq, abuiltin, aextract, alloc27, Heap.new] <;> exact rfl) ?_
  dsimp only [after, leaving]
  have g6 : (h.alloc (spotRow 0 0)).get h.next = some (spotRow 0 0) := Heap.get_alloc_new _ _
  generalize h.alloc (spotRow 0 0) = H at g6 ⊢
  generalize h.next = x6 at g6 ⊢
  repeat refine Wp.seq ?_
  refine Wp.regionAs (is := List.range' 0 1 ++ (1 :: (List.range' 2 9 ++ []))) rfl ?_
  refine WpO.runS 1 (by simp only [List.drop_succ_cons, List.drop_zero, List.take_succ_cons, List.take_zero, runS, stepO, stepW, stepV, keep, guardOf, wantG, wantV, aop, binA, aev, flat, if_true, if_false, Option.bind_some, Option.map_some, Frm.put, look, setk, Nat.reduceLT, Nat.reduceEqDiff, evs, evp, evo, List.getElem?_toArray, List.getElem?_cons_succ, List.getElem?_cons_zero, Bool.false_eq_true, Bool.true_eq_false, beq_self_eq_true, beq_ft, beq_tf, notNil, Bool.not_true, Bool.not_false, reduceCtorEq, abuiltin, aextract] <;> exact rfl) (by decide) ?_
  refine WpO.callS rfl (by simp only [runS, stepO, stepW, stepV, keep, guardOf, wantG, wantV, aop, binA, aev, flat, if_true, if_false, Option.bind_some, Option.map_some, Frm.put, look, setk, Nat.reduceLT, Nat.reduceEqDiff, evs, evp, evo, List.getElem?_toArray, List.getElem?_cons_succ, List.getElem?_cons_zero, Bool.false_eq_true, Bool.true_eq_false, beq_self_eq_true, beq_ft, beq_tf, notNil, Bool.not_true, Bool.not_false, reduceCtorEq, abuiltin, aextract, c33]) (by simp only [calleeOf, fnOf, List.append_nil, List.nil_append, runS, stepO, stepW, stepV, keep, guardOf, wantG, wantV, aop, binA, aev, flat, if_true, if_false, Option.bind_some, Option.map_some, Frm.put, look, setk, Nat.reduceLT, Nat.reduceEqDiff, evs, evp, evo, List.getElem?_toArray, List.getElem?_cons_succ, List.getElem?_cons_zero, Bool.false_eq_true, Bool.true_eq_false, beq_self_eq_true, beq_ft, beq_tf, notNil, Bool.not_true, Bool.not_false, reduceCtorEq, abuiltin, aextract, c33] <;> exact rfl) ((scanR_spec H T hT).mono ?_)
  intro r H1 ⟨hkeep, hr⟩
  obtain ⟨so, vp, a1, okb, rfl, hrel⟩ : ∃ (so : List UInt8) (vp : Value) (a1 : Nat) (okb : Bool), r = .returned (.tuple #[.string (bs so), vp, .int .i64 a1, .bool okb]) ∧ (match scanQ (-1) T with
      | .ok out k => so = out ∧ okb = true ∧ ∃ ps : List Nat, Own H1 vp 3 (ps ++ [k]).length ((ps ++ [k]).map intV) ∧ ps.length < k ∧ k < 1000000
      | .bad k => a1 = k ∧ okb = false
      | .long _ => False) := by
    cases hs : scanQ (-1) T with
    | ok out k =>
      rw [hs] at hr
      obtain ⟨vp, ps, rfl, q1, q2, q3⟩ := hr
      exact ⟨out, vp, k + 1, true, rfl, rfl, rfl, ps, q1, q2, q3⟩
    | bad k =>
      rw [hs] at hr
      obtain rfl := hr
      exact ⟨[], _, k, false, rfl, rfl, rfl⟩
    | long k => rw [hs] at hr; exact hr.elim
  clear hr
  replace g6 := hkeep.2 _ _ g6 rfl
  clear hkeep
  refine ⟨_, by simp only [runS, stepO, stepW, stepV, keep, guardOf, wantG, wantV, aop, binA, aev, flat, if_true, if_false, Option.bind_some, Option.map_some, Frm.put, look, setk, Nat.reduceLT, Nat.reduceEqDiff, evs, evp, evo, List.getElem?_toArray, List.getElem?_cons_succ, List.getElem?_cons_zero, Bool.false_eq_true, Bool.true_eq_false, beq_self_eq_true, beq_ft, beq_tf, notNil, Bool.not_true, Bool.not_false, reduceCtorEq, abuiltin, aextract] <;> exact rfl, ?_⟩
  refine WpO.runS 9 (by simp only [List.drop_succ_cons, List.drop_zero, List.take_succ_cons, List.take_zero, runS, stepO, stepW, stepV, keep, guardOf, wantG, wantV, aop, binA, aev, flat, if_true, if_false, Option.bind_some, Option.map_some, Frm.put, look, setk, Nat.reduceLT, Nat.reduceEqDiff, evs, evp, evo, List.getElem?_toArray, List.getElem?_cons_succ, List.getElem?_cons_zero, Bool.false_eq_true, Bool.true_eq_false, beq_self_eq_true, beq_ft, beq_tf, notNil, Bool.not_true, Bool.not_false, reduceCtorEq, abuiltin, aextract] <;> exact rfl) (by decide) ?_
  refine WpO.nil ?_
  dsimp only [after, leaving]
  repeat refine Wp.seq ?_
  refine Wp.runS (by simp only [runS, stepO, stepW, stepV, keep, guardOf, wantG, wantV, aop, binA, aev, flat, if_true, if_false, Option.bind_some, Option.map_some, Frm.put, look, setk, Nat.reduceLT, Nat.reduceEqDiff, evs, evp, evo, List.getElem?_toArray, List.getElem?_cons_succ, List.getElem?_cons_zero, Bool.false_eq_true, Bool.true_eq_false, beq_self_eq_true, beq_ft, beq_tf, notNil, Bool.not_true, Bool.not_false, reduceCtorEq, abuiltin, aextract, abin_int, ai_geq, decide_eq_true (show (0 : Int) ≤ 64 by omega)] <;> exact rfl) ?_
  dsimp only [after, leaving]
  repeat refine Wp.seq ?_
  refine Wp.condT (by simp only [runS, stepO, stepW, stepV, keep, guardOf, wantG, wantV, aop, binA, aev, flat, if_true, if_false, Option.bind_some, Option.map_some, Frm.put, look, setk, Nat.reduceLT, Nat.reduceEqDiff, evs, evp, evo, List.getElem?_toArray, List.getElem?_cons_succ, List.getElem?_cons_zero, Bool.false_eq_true, Bool.true_eq_false, beq_self_eq_true, beq_ft, beq_tf, notNil, Bool.not_true, Bool.not_false, reduceCtorEq, abuiltin, aextract]) ?_
  have hw1 : IntKind.i64.wrap ((1 : Int)) = 1 := by decide
  repeat refine Wp.seq ?_
  refine Wp.runS (by simp only [runS, stepO, stepW, stepV, keep, guardOf, wantG, wantV, aop, binA, aev, flat, if_true, if_false, Option.bind_some, Option.map_some, Frm.put, look, setk, Nat.reduceLT, Nat.reduceEqDiff, evs, evp, evo, List.getElem?_toArray, List.getElem?_cons_succ, List.getElem?_cons_zero, Bool.false_eq_true, Bool.true_eq_false, beq_self_eq_true, beq_ft, beq_tf, notNil, Bool.not_true, Bool.not_false, reduceCtorEq, abuiltin, aextract] <;> exact rfl) ?_
  dsimp only [after, leaving]
  have base : [(0, Value.string (bs T)), (1, .int .i64 64), (6, .pointer (some ⟨x6, 0, none⟩)), (7, .string (bs so)), (8, vp), (9, .int .i64 a1), (10, .bool okb)] = [(0, Value.string (bs T)), (1, .int .i64 64), (6, .pointer (some ⟨x6, 0, none⟩)), (7, .string (bs so)), (8, vp), (9, .int .i64 a1), (10, .bool okb)] := rfl
  clear base
  repeat refine Wp.seq ?_
  refine Wp.cut (fun fr u h' => u = none ∧ h' = H1 ∧ ∃ n from' : Nat, LimR T n from' ∧ ∃ sl, fr = ⟨92, sl, []⟩ ∧ holds [(0, .string (bs T)), (1, .int .i64 64), (6, .pointer (some ⟨x6, 0, none⟩)), (7, .string (bs so)), (8, vp), (9, .int .i64 a1), (10, .bool okb), (11, .int .i64 n), (12, .int .i64 from')] sl) ?_ ?_
  rotate_left
  · repeat refine Wp.seq ?_
    refine Wp.block ?_
    refine Wp.loopI (X := Nat × Nat) (fun x => [(0, .string (bs T)), (1, .int .i64 64), (6, .pointer (some ⟨x6, 0, none⟩)), (7, .string (bs so)), (8, vp), (9, .int .i64 a1), (10, .bool okb), (11, .int .i64 x.1), (12, .int .i64 x.2)]) (fun _ => H1)
      (fun x => x.1 ≤ 64 ∧ x.2 ≤ T.length + 1 ∧ (T.head? = some 34 → x.2 ≤ T.length ∧ ∃ o f f', o.length = x.1 ∧ scanF 64 f (T.drop x.2) x.2 o = scanQ 64 T ∧ T.length - x.2 < f ∧ scanF (-1) f' (T.drop x.2) x.2 o = scanQ (-1) T ∧ T.length - x.2 < f')) (fun x => 64 - x.1) ⟨0, 1⟩
      ⟨by simp, by simp, fun hq => ⟨by cases T with | nil => cases hq | cons => simp, [], T.length + 1, T.length + 1, rfl, by unfold scanQ; rw [if_pos hq], by simp only []; omega, by unfold scanQ; rw [if_pos hq], by simp only []; omega⟩⟩ ⟨rfl, rfl, rfl, rfl, rfl, rfl, rfl, rfl, rfl, trivial⟩ rfl ?_
    rintro ⟨n, k⟩ ⟨hn, hk, inv⟩
    simp only [] at hn hk inv ⊢
    by_cases h1 : (n : Int) < 64
    case neg =>
      repeat refine Wp.seq ?_
      refine Wp.runS (by simp only [runS, stepO, stepW, stepV, keep, guardOf, wantG, wantV, aop, binA, aev, flat, if_true, if_false, Option.bind_some, Option.map_some, Frm.put, look, setk, Nat.reduceLT, Nat.reduceEqDiff, evs, evp, evo, List.getElem?_toArray, List.getElem?_cons_succ, List.getElem?_cons_zero, Bool.false_eq_true, Bool.true_eq_false, beq_self_eq_true, beq_ft, beq_tf, notNil, Bool.not_true, Bool.not_false, reduceCtorEq, abuiltin, aextract, abin_int, ai_lss, decide_eq_false h1] <;> exact rfl) ?_
      dsimp only [after, leaving]
      repeat refine Wp.seq ?_
      refine Wp.condF (by simp only [runS, stepO, stepW, stepV, keep, guardOf, wantG, wantV, aop, binA, aev, flat, if_true, if_false, Option.bind_some, Option.map_some, Frm.put, look, setk, Nat.reduceLT, Nat.reduceEqDiff, evs, evp, evo, List.getElem?_toArray, List.getElem?_cons_succ, List.getElem?_cons_zero, Bool.false_eq_true, Bool.true_eq_false, beq_self_eq_true, beq_ft, beq_tf, notNil, Bool.not_true, Bool.not_false, reduceCtorEq, abuiltin, aextract]) ?_
      repeat refine Wp.seq ?_
      refine Wp.exit ?_
      simp only [after, leaving, blockExit, if_true, if_false, Nat.reduceEqDiff]
      refine ⟨trivial, trivial, n, k, ⟨hn, fun hq => ?_⟩, _, rfl, rfl, rfl, rfl, rfl, rfl, rfl, rfl, rfl, rfl, trivial⟩
      obtain ⟨hk2, o, f, f', q0, q1, q2, q3, q4⟩ := inv hq
      obtain ⟨f, rfl⟩ : ∃ g, f = g + 1 := ⟨f - 1, by omega⟩
      obtain ⟨f', rfl⟩ : ∃ g, f' = g + 1 := ⟨f' - 1, by omega⟩
      rw [scanF_64, List.head?_drop] at q1
      rw [scanF_free, List.head?_drop] at q3
      constructor
      · rintro ⟨_, e⟩
        rw [if_pos ⟨by omega, e⟩] at q1
        exact q1.symm
      · intro e
        have e2 : T[k]? = some 34 := Classical.not_not.1 fun q => e ⟨by omega, q⟩
        rw [if_neg fun q => q.2 e2, if_pos e2] at q1
        rw [if_pos e2] at q3
        rw [← q1, ← q3]
    by_cases h2 : (k : Int) < (T.length : Int)
    case neg =>
      repeat refine Wp.seq ?_
      refine Wp.runS (by simp only [runS, stepO, stepW, stepV, keep, guardOf, wantG, wantV, aop, binA, aev, flat, if_true, if_false, Option.bind_some, Option.map_some, Frm.put, look, setk, Nat.reduceLT, Nat.reduceEqDiff, evs, evp, evo, List.getElem?_toArray, List.getElem?_cons_succ, List.getElem?_cons_zero, Bool.false_eq_true, Bool.true_eq_false, beq_self_eq_true, beq_ft, beq_tf, notNil, Bool.not_true, Bool.not_false, reduceCtorEq, abuiltin, aextract, abin_int, ai_lss, decide_eq_true h1, alen_str Try.underlying9, bs_size, decide_eq_false h2] <;> exact rfl) ?_
      dsimp only [after, leaving]
      repeat refine Wp.seq ?_
      refine Wp.condF (by simp only [runS, stepO, stepW, stepV, keep, guardOf, wantG, wantV, aop, binA, aev, flat, if_true, if_false, Option.bind_some, Option.map_some, Frm.put, look, setk, Nat.reduceLT, Nat.reduceEqDiff, evs, evp, evo, List.getElem?_toArray, List.getElem?_cons_succ, List.getElem?_cons_zero, Bool.false_eq_true, Bool.true_eq_false, beq_self_eq_true, beq_ft, beq_tf, notNil, Bool.not_true, Bool.not_false, reduceCtorEq, abuiltin, aextract]) ?_
      repeat refine Wp.seq ?_
      refine Wp.exit ?_
      simp only [after, leaving, blockExit, if_true, if_false, Nat.reduceEqDiff]
      refine ⟨trivial, trivial, n, k, ⟨hn, fun hq => ⟨fun e => by omega, fun _ => ?_⟩⟩, _, rfl, rfl, rfl, rfl, rfl, rfl, rfl, rfl, rfl, rfl, trivial⟩
      obtain ⟨hk2, o, f, f', q0, q1, q2, q3, q4⟩ := inv hq
      obtain ⟨f, rfl⟩ : ∃ g, f = g + 1 := ⟨f - 1, by omega⟩
      obtain ⟨f', rfl⟩ : ∃ g, f' = g + 1 := ⟨f' - 1, by omega⟩
      rw [scanF_64, List.drop_eq_nil_of_le (by omega), if_neg (by omega)] at q1
      rw [scanF_free, List.drop_eq_nil_of_le (by omega)] at q3
      rw [← q1, ← q3]; rfl
    obtain ⟨c, hc⟩ : ∃ c, T[k]? = some c := ⟨_, List.getElem?_eq_getElem (by omega)⟩
    by_cases h3 : c = 34
    · have e : ((c.toNat : Int) != 34) = false := by rw [h3]; rfl
      repeat refine Wp.seq ?_
      refine Wp.runS (by simp only [runS, stepO, stepW, stepV, keep, guardOf, wantG, wantV, aop, binA, aev, flat, if_true, if_false, Option.bind_some, Option.map_some, Frm.put, look, setk, Nat.reduceLT, Nat.reduceEqDiff, evs, evp, evo, List.getElem?_toArray, List.getElem?_cons_succ, List.getElem?_cons_zero, Bool.false_eq_true, Bool.true_eq_false, beq_self_eq_true, beq_ft, beq_tf, notNil, Bool.not_true, Bool.not_false, reduceCtorEq, abuiltin, aextract, abin_int, ai_lss, decide_eq_true h1, alen_str Try.underlying9, bs_size, decide_eq_true h2, aindex_bs Try.underlying9 hc, byteV, ai_neq, e] <;> exact rfl) ?_
      dsimp only [after, leaving]
      repeat refine Wp.seq ?_
      refine Wp.condF (by simp only [runS, stepO, stepW, stepV, keep, guardOf, wantG, wantV, aop, binA, aev, flat, if_true, if_false, Option.bind_some, Option.map_some, Frm.put, look, setk, Nat.reduceLT, Nat.reduceEqDiff, evs, evp, evo, List.getElem?_toArray, List.getElem?_cons_succ, List.getElem?_cons_zero, Bool.false_eq_true, Bool.true_eq_false, beq_self_eq_true, beq_ft, beq_tf, notNil, Bool.not_true, Bool.not_false, reduceCtorEq, abuiltin, aextract]) ?_
      repeat refine Wp.seq ?_
      refine Wp.exit ?_
      simp only [after, leaving, blockExit, if_true, if_false, Nat.reduceEqDiff]
      refine ⟨trivial, trivial, n, k, ⟨hn, fun hq => ⟨fun e => by omega, fun _ => ?_⟩⟩, _, rfl, rfl, rfl, rfl, rfl, rfl, rfl, rfl, rfl, rfl, trivial⟩
      obtain ⟨hk2, o, f, f', q0, q1, q2, q3, q4⟩ := inv hq
      obtain ⟨f, rfl⟩ : ∃ g, f = g + 1 := ⟨f - 1, by omega⟩
      obtain ⟨f', rfl⟩ : ∃ g, f' = g + 1 := ⟨f' - 1, by omega⟩
      rw [scanF_64, List.head?_drop, if_neg (by omega), if_pos (by rw [hc, h3])] at q1
      rw [scanF_free, List.head?_drop, if_pos (by rw [hc, h3])] at q3
      rw [← q1, ← q3]
    have e : ((c.toNat : Int) != 34) = true := by
      rw [bne_iff_ne]; intro q; exact h3 ((byte_eq c 34 (by omega)).2 (by omega))
    repeat refine Wp.seq ?_
    refine Wp.runS (by simp only [runS, stepO, stepW, stepV, keep, guardOf, wantG, wantV, aop, binA, aev, flat, if_true, if_false, Option.bind_some, Option.map_some, Frm.put, look, setk, Nat.reduceLT, Nat.reduceEqDiff, evs, evp, evo, List.getElem?_toArray, List.getElem?_cons_succ, List.getElem?_cons_zero, Bool.false_eq_true, Bool.true_eq_false, beq_self_eq_true, beq_ft, beq_tf, notNil, Bool.not_true, Bool.not_false, reduceCtorEq, abuiltin, aextract, abin_int, ai_lss, decide_eq_true h1, alen_str Try.underlying9, bs_size, decide_eq_true h2, aindex_bs Try.underlying9 hc, byteV, ai_neq, e] <;> exact rfl) ?_
    dsimp only [after, leaving]
    repeat refine Wp.seq ?_
    refine Wp.condT (by simp only [runS, stepO, stepW, stepV, keep, guardOf, wantG, wantV, aop, binA, aev, flat, if_true, if_false, Option.bind_some, Option.map_some, Frm.put, look, setk, Nat.reduceLT, Nat.reduceEqDiff, evs, evp, evo, List.getElem?_toArray, List.getElem?_cons_succ, List.getElem?_cons_zero, Bool.false_eq_true, Bool.true_eq_false, beq_self_eq_true, beq_ft, beq_tf, notNil, Bool.not_true, Bool.not_false, reduceCtorEq, abuiltin, aextract]) ?_
    repeat refine Wp.seq ?_
    refine Wp.skip ?_
    dsimp only [after, leaving]
    repeat refine Wp.seq ?_
    refine Wp.block ?_
    have hle := signAt_le (T.drop k)
    rw [List.length_drop] at hle
    have hne : T[k]? ≠ some 34 := by rw [hc]; intro q; cases q; exact h3 rfl
    repeat refine Wp.seq ?_
    refine Wp.regionAs (is := List.range' 0 2 ++ (2 :: (List.range' 3 7 ++ []))) rfl ?_
    refine WpO.runS 2 (by simp only [List.drop_succ_cons, List.drop_zero, List.take_succ_cons, List.take_zero, runS, stepO, stepW, stepV, keep, guardOf, wantG, wantV, aop, binA, aev, flat, if_true, if_false, Option.bind_some, Option.map_some, Frm.put, look, setk, Nat.reduceLT, Nat.reduceEqDiff, evs, evp, evo, List.getElem?_toArray, List.getElem?_cons_succ, List.getElem?_cons_zero, Bool.false_eq_true, Bool.true_eq_false, beq_self_eq_true, beq_ft, beq_tf, notNil, Bool.not_true, Bool.not_false, reduceCtorEq, abuiltin, aextract] <;> exact rfl) (by decide) ?_
    refine WpO.callR (byteAt_spec H1 T k (by omega) (by omega)) rfl (by simp only [runS, stepO, stepW, stepV, keep, guardOf, wantG, wantV, aop, binA, aev, flat, if_true, if_false, Option.bind_some, Option.map_some, Frm.put, look, setk, Nat.reduceLT, Nat.reduceEqDiff, evs, evp, evo, List.getElem?_toArray, List.getElem?_cons_succ, List.getElem?_cons_zero, Bool.false_eq_true, Bool.true_eq_false, beq_self_eq_true, beq_ft, beq_tf, notNil, Bool.not_true, Bool.not_false, reduceCtorEq, abuiltin, aextract, c34]) (by simp only [calleeOf, fnOf, List.append_nil, List.nil_append, runS, stepO, stepW, stepV, keep, guardOf, wantG, wantV, aop, binA, aev, flat, if_true, if_false, Option.bind_some, Option.map_some, Frm.put, look, setk, Nat.reduceLT, Nat.reduceEqDiff, evs, evp, evo, List.getElem?_toArray, List.getElem?_cons_succ, List.getElem?_cons_zero, Bool.false_eq_true, Bool.true_eq_false, beq_self_eq_true, beq_ft, beq_tf, notNil, Bool.not_true, Bool.not_false, reduceCtorEq, abuiltin, aextract, c34] <;> exact rfl) ?_
    rintro _ h9 ⟨rfl, hh9⟩
    obtain rfl := hh9.symm
    clear hh9
    refine ⟨_, _, rfl, by simp only [runS, stepO, stepW, stepV, keep, guardOf, wantG, wantV, aop, binA, aev, flat, if_true, if_false, Option.bind_some, Option.map_some, Frm.put, look, setk, Nat.reduceLT, Nat.reduceEqDiff, evs, evp, evo, List.getElem?_toArray, List.getElem?_cons_succ, List.getElem?_cons_zero, Bool.false_eq_true, Bool.true_eq_false, beq_self_eq_true, beq_ft, beq_tf, notNil, Bool.not_true, Bool.not_false, reduceCtorEq, abuiltin, aextract]; exact rfl, ?_⟩
    cases hs : signAt (T.drop k) with
    | inl j =>
      simp only [byteAtV]
      refine WpO.runS 7 (by simp only [List.drop_succ_cons, List.drop_zero, List.take_succ_cons, List.take_zero, runS, stepO, stepW, stepV, keep, guardOf, wantG, wantV, aop, binA, aev, flat, if_true, if_false, Option.bind_some, Option.map_some, Frm.put, look, setk, Nat.reduceLT, Nat.reduceEqDiff, evs, evp, evo, List.getElem?_toArray, List.getElem?_cons_succ, List.getElem?_cons_zero, Bool.false_eq_true, Bool.true_eq_false, beq_self_eq_true, beq_ft, beq_tf, notNil, Bool.not_true, Bool.not_false, reduceCtorEq, abuiltin, aextract] <;> exact rfl) (by decide) ?_
      refine WpO.nil ?_
      dsimp only [after, leaving]
      repeat refine Wp.seq ?_
      refine Wp.runS (by simp only [runS, stepO, stepW, stepV, keep, guardOf, wantG, wantV, aop, binA, aev, flat, if_true, if_false, Option.bind_some, Option.map_some, Frm.put, look, setk, Nat.reduceLT, Nat.reduceEqDiff, evs, evp, evo, List.getElem?_toArray, List.getElem?_cons_succ, List.getElem?_cons_zero, Bool.false_eq_true, Bool.true_eq_false, beq_self_eq_true, beq_ft, beq_tf, notNil, Bool.not_true, Bool.not_false, reduceCtorEq, abuiltin, aextract] <;> exact rfl) ?_
      dsimp only [after, leaving]
      repeat refine Wp.seq ?_
      refine Wp.condT (by simp only [runS, stepO, stepW, stepV, keep, guardOf, wantG, wantV, aop, binA, aev, flat, if_true, if_false, Option.bind_some, Option.map_some, Frm.put, look, setk, Nat.reduceLT, Nat.reduceEqDiff, evs, evp, evo, List.getElem?_toArray, List.getElem?_cons_succ, List.getElem?_cons_zero, Bool.false_eq_true, Bool.true_eq_false, beq_self_eq_true, beq_ft, beq_tf, notNil, Bool.not_true, Bool.not_false, reduceCtorEq, abuiltin, aextract]) ?_
      repeat refine Wp.seq ?_
      refine Wp.exit ?_
      simp only [after, leaving, blockExit, if_true, if_false, Nat.reduceEqDiff]
      refine ⟨trivial, trivial, n, k, ⟨hn, fun hq => ⟨fun e => by omega, fun _ => ?_⟩⟩, _, rfl, rfl, rfl, rfl, rfl, rfl, rfl, rfl, rfl, rfl, trivial⟩
      obtain ⟨hk2, o, f, f', q0, q1, q2, q3, q4⟩ := inv hq
      obtain ⟨f, rfl⟩ : ∃ g, f = g + 1 := ⟨f - 1, by omega⟩
      obtain ⟨f', rfl⟩ : ∃ g, f' = g + 1 := ⟨f' - 1, by omega⟩
      rw [scanF_64, List.head?_drop, if_neg (by omega), if_neg hne, hs] at q1
      rw [scanF_free, List.head?_drop, if_neg hne, hs] at q3
      rw [← q1, ← q3]
    | inr cn =>
      obtain ⟨c', m⟩ := cn
      have hm := signAt_pos hs
      rw [hs] at hle
      simp only [] at hle
      simp only [byteAtV]
      refine WpO.runS 7 (by simp only [List.drop_succ_cons, List.drop_zero, List.take_succ_cons, List.take_zero, runS, stepO, stepW, stepV, keep, guardOf, wantG, wantV, aop, binA, aev, flat, if_true, if_false, Option.bind_some, Option.map_some, Frm.put, look, setk, Nat.reduceLT, Nat.reduceEqDiff, evs, evp, evo, List.getElem?_toArray, List.getElem?_cons_succ, List.getElem?_cons_zero, Bool.false_eq_true, Bool.true_eq_false, beq_self_eq_true, beq_ft, beq_tf, notNil, Bool.not_true, Bool.not_false, reduceCtorEq, abuiltin, aextract] <;> exact rfl) (by decide) ?_
      refine WpO.nil ?_
      dsimp only [after, leaving]
      repeat refine Wp.seq ?_
      refine Wp.runS (by simp only [runS, stepO, stepW, stepV, keep, guardOf, wantG, wantV, aop, binA, aev, flat, if_true, if_false, Option.bind_some, Option.map_some, Frm.put, look, setk, Nat.reduceLT, Nat.reduceEqDiff, evs, evp, evo, List.getElem?_toArray, List.getElem?_cons_succ, List.getElem?_cons_zero, Bool.false_eq_true, Bool.true_eq_false, beq_self_eq_true, beq_ft, beq_tf, notNil, Bool.not_true, Bool.not_false, reduceCtorEq, abuiltin, aextract] <;> exact rfl) ?_
      dsimp only [after, leaving]
      repeat refine Wp.seq ?_
      refine Wp.condF (by simp only [runS, stepO, stepW, stepV, keep, guardOf, wantG, wantV, aop, binA, aev, flat, if_true, if_false, Option.bind_some, Option.map_some, Frm.put, look, setk, Nat.reduceLT, Nat.reduceEqDiff, evs, evp, evo, List.getElem?_toArray, List.getElem?_cons_succ, List.getElem?_cons_zero, Bool.false_eq_true, Bool.true_eq_false, beq_self_eq_true, beq_ft, beq_tf, notNil, Bool.not_true, Bool.not_false, reduceCtorEq, abuiltin, aextract]) ?_
      repeat refine Wp.seq ?_
      refine Wp.skip ?_
      dsimp only [after, leaving]
      repeat refine Wp.seq ?_
      refine Wp.runS (by simp only [runS, stepO, stepW, stepV, keep, guardOf, wantG, wantV, aop, binA, aev, flat, if_true, if_false, Option.bind_some, Option.map_some, Frm.put, look, setk, Nat.reduceLT, Nat.reduceEqDiff, evs, evp, evo, List.getElem?_toArray, List.getElem?_cons_succ, List.getElem?_cons_zero, Bool.false_eq_true, Bool.true_eq_false, beq_self_eq_true, beq_ft, beq_tf, notNil, Bool.not_true, Bool.not_false, reduceCtorEq, abuiltin, aextract] <;> exact rfl) ?_
      dsimp only [after, leaving]
      have hw : IntKind.i64.wrap ((n : Int) + 1) = ((n + 1 : Nat) : Int) := by rw [wrap_in (by omega) (by omega)]; omega
      repeat refine Wp.seq ?_
      refine Wp.runS (by simp only [runS, stepO, stepW, stepV, keep, guardOf, wantG, wantV, aop, binA, aev, flat, if_true, if_false, Option.bind_some, Option.map_some, Frm.put, look, setk, Nat.reduceLT, Nat.reduceEqDiff, evs, evp, evo, List.getElem?_toArray, List.getElem?_cons_succ, List.getElem?_cons_zero, Bool.false_eq_true, Bool.true_eq_false, beq_self_eq_true, beq_ft, beq_tf, notNil, Bool.not_true, Bool.not_false, reduceCtorEq, abuiltin, aextract, abin_int, ai_add, hw] <;> exact rfl) ?_
      dsimp only [after, leaving]
      refine ⟨⟨n + 1, k + m⟩, _, ⟨by simp only []; omega, by simp only []; omega, fun hq => ⟨by simp only []; omega, ?_⟩⟩, by simp only []; omega, rfl, ⟨rfl, rfl, rfl, rfl, rfl, rfl, rfl, rfl, rfl, trivial⟩, rfl, rfl⟩
      obtain ⟨hk2, o, f, f', q0, q1, q2, q3, q4⟩ := inv hq
      obtain ⟨f, rfl⟩ : ∃ g, f = g + 1 := ⟨f - 1, by omega⟩
      obtain ⟨f', rfl⟩ : ∃ g, f' = g + 1 := ⟨f' - 1, by omega⟩
      rw [scanF_64, List.head?_drop, if_neg (by omega), if_neg hne, hs] at q1
      rw [scanF_free, List.head?_drop, if_neg hne, hs] at q3
      simp only [List.drop_drop] at q1 q3
      exact ⟨o ++ [c'], f, f', by simp; omega, q1, by simp only []; omega, q3, by simp only []; omega⟩
  rintro fr u h9 ⟨rfl, hH, n, k, hlim, sl, rfl, hs⟩
  obtain rfl := hH.symm
  clear hH
  dsimp only [after, leaving]
  refine Wp.weaken (Frm.le_of hs) ?_
  clear hs sl
  refine Wp.seq ?_
  repeat refine Wp.seq ?_
  refine Wp.cut (fun fr u h' => u = none ∧ h' = H1 ∧ ∃ b : Bool, (b = true → scanQ 64 T = .long k) ∧ (b = false → scanQ 64 T = scanQ (-1) T) ∧ ∃ sl, fr = ⟨92, sl, []⟩ ∧ holds [(6, .pointer (some ⟨x6, 0, none⟩)), (7, .string (bs so)), (8, vp), (9, .int .i64 a1), (10, .bool okb), (12, .int .i64 k), (76, .bool b)] sl) ?_ ?_
  rotate_left
  · obtain ⟨hn, hlim⟩ := hlim
    have nohd : ¬ T.head? = some 34 → scanQ 64 T = scanQ (-1) T := fun hq => by unfold scanQ; rw [if_neg hq, if_neg hq]
    by_cases hn64 : n = 64
    case neg =>
      have e : ((n : Int) == 64) = false := by rw [beq_eq_false_iff_ne]; omega
      repeat refine Wp.seq ?_
      refine Wp.runS (by simp only [runS, stepO, stepW, stepV, keep, guardOf, wantG, wantV, aop, binA, aev, flat, if_true, if_false, Option.bind_some, Option.map_some, Frm.put, look, setk, Nat.reduceLT, Nat.reduceEqDiff, evs, evp, evo, List.getElem?_toArray, List.getElem?_cons_succ, List.getElem?_cons_zero, Bool.false_eq_true, Bool.true_eq_false, beq_self_eq_true, beq_ft, beq_tf, notNil, Bool.not_true, Bool.not_false, reduceCtorEq, abuiltin, aextract, abin_int, ai_eql, e] <;> exact rfl) ?_
      dsimp only [after, leaving]
      refine ⟨rfl, rfl, false, fun q => (by cases q), fun _ => ?_, _, rfl, rfl, rfl, rfl, rfl, rfl, rfl, rfl, trivial⟩
      by_cases hq : T.head? = some 34
      · exact (hlim hq).2 (fun q => hn64 q.1)
      · exact nohd hq
    have e : ((n : Int) == 64) = true := by rw [hn64]; rfl
    cases T with
    | nil =>
      repeat refine Wp.seq ?_
      refine Wp.runS (by simp only [runS, stepO, stepW, stepV, keep, guardOf, wantG, wantV, aop, binA, aev, flat, if_true, if_false, Option.bind_some, Option.map_some, Frm.put, look, setk, Nat.reduceLT, Nat.reduceEqDiff, evs, evp, evo, List.getElem?_toArray, List.getElem?_cons_succ, List.getElem?_cons_zero, Bool.false_eq_true, Bool.true_eq_false, beq_self_eq_true, beq_ft, beq_tf, notNil, Bool.not_true, Bool.not_false, reduceCtorEq, abuiltin, aextract, abin_int, ai_eql, e, alen_str Try.underlying9, bs_size, List.length_nil, ai_gtr, decide_eq_false (show ¬ (0 : Int) < ((0 : Nat) : Int) by omega)] <;> exact rfl) ?_
      dsimp only [after, leaving]
      exact ⟨rfl, rfl, false, fun q => (by cases q), fun _ => nohd (by simp), _, rfl, rfl, rfl, rfl, rfl, rfl, rfl, rfl, trivial⟩
    | cons c T =>
    have hix : aindex Try.prog 9 (.string (bs (c :: T))) (.int .i64 0) = some (byteV c) := aindex_bs Try.underlying9 (j := 0) rfl
    have hl0 : decide ((0 : Int) < (((c :: T).length : Nat) : Int)) = true := decide_eq_true (by simp only [List.length_cons]; omega)
    by_cases h34 : c = 34
    case neg =>
      have e2 : ((c.toNat : Int) == 34) = false := by
        rw [beq_eq_false_iff_ne]; intro q; exact h34 ((byte_eq c 34 (by omega)).2 (by omega))
      repeat refine Wp.seq ?_
      refine Wp.runS (by simp only [runS, stepO, stepW, stepV, keep, guardOf, wantG, wantV, aop, binA, aev, flat, if_true, if_false, Option.bind_some, Option.map_some, Frm.put, look, setk, Nat.reduceLT, Nat.reduceEqDiff, evs, evp, evo, List.getElem?_toArray, List.getElem?_cons_succ, List.getElem?_cons_zero, Bool.false_eq_true, Bool.true_eq_false, beq_self_eq_true, beq_ft, beq_tf, notNil, Bool.not_true, Bool.not_false, reduceCtorEq, abuiltin, aextract, abin_int, ai_eql, e, alen_str Try.underlying9, bs_size, ai_gtr, hl0, hix, byteV, e2] <;> exact rfl) ?_
      dsimp only [after, leaving]
      exact ⟨rfl, rfl, false, fun q => (by cases q), fun _ => nohd (by simp [h34]), _, rfl, rfl, rfl, rfl, rfl, rfl, rfl, rfl, trivial⟩
    have e2 : ((c.toNat : Int) == 34) = true := by rw [h34]; rfl
    have hq : (c :: T).head? = some 34 := by rw [h34]; rfl
    generalize hT0 : c :: T = T0 at *
    by_cases hlen : (T0.length : Int) ≤ (k : Int)
    · repeat refine Wp.seq ?_
      refine Wp.runS (by simp only [runS, stepO, stepW, stepV, keep, guardOf, wantG, wantV, aop, binA, aev, flat, if_true, if_false, Option.bind_some, Option.map_some, Frm.put, look, setk, Nat.reduceLT, Nat.reduceEqDiff, evs, evp, evo, List.getElem?_toArray, List.getElem?_cons_succ, List.getElem?_cons_zero, Bool.false_eq_true, Bool.true_eq_false, beq_self_eq_true, beq_ft, beq_tf, notNil, Bool.not_true, Bool.not_false, reduceCtorEq, abuiltin, aextract, abin_int, ai_eql, e, alen_str Try.underlying9, bs_size, ai_gtr, hl0, hix, byteV, e2, ai_geq, decide_eq_true hlen] <;> exact rfl) ?_
      dsimp only [after, leaving]
      exact ⟨rfl, rfl, true, fun _ => (hlim hq).1 ⟨hn64, by rw [List.getElem?_eq_none (by omega)]; simp⟩, fun q => (by cases q), _, rfl, rfl, rfl, rfl, rfl, rfl, rfl, rfl, trivial⟩
    · obtain ⟨y, hy⟩ : ∃ y, T0[k]? = some y := ⟨_, List.getElem?_eq_getElem (by omega)⟩
      by_cases hy34 : y = 34
      · have e3 : ((y.toNat : Int) != 34) = false := by rw [hy34]; rfl
        repeat refine Wp.seq ?_
        refine Wp.runS (by simp only [runS, stepO, stepW, stepV, keep, guardOf, wantG, wantV, aop, binA, aev, flat, if_true, if_false, Option.bind_some, Option.map_some, Frm.put, look, setk, Nat.reduceLT, Nat.reduceEqDiff, evs, evp, evo, List.getElem?_toArray, List.getElem?_cons_succ, List.getElem?_cons_zero, Bool.false_eq_true, Bool.true_eq_false, beq_self_eq_true, beq_ft, beq_tf, notNil, Bool.not_true, Bool.not_false, reduceCtorEq, abuiltin, aextract, abin_int, ai_eql, e, alen_str Try.underlying9, bs_size, ai_gtr, hl0, hix, e2, ai_geq, decide_eq_false hlen, aindex_bs Try.underlying9 hy, byteV, ai_neq, e3] <;> exact rfl) ?_
        dsimp only [after, leaving]
        exact ⟨rfl, rfl, false, fun q => (by cases q), fun _ => (hlim hq).2 (fun q => q.2 (by rw [hy, hy34])), _, rfl, rfl, rfl, rfl, rfl, rfl, rfl, rfl, trivial⟩
      · have e3 : ((y.toNat : Int) != 34) = true := by
          rw [bne_iff_ne]; intro q; exact hy34 ((byte_eq y 34 (by omega)).2 (by omega))
        repeat refine Wp.seq ?_
        refine Wp.runS (by simp only [runS, stepO, stepW, stepV, keep, guardOf, wantG, wantV, aop, binA, aev, flat, if_true, if_false, Option.bind_some, Option.map_some, Frm.put, look, setk, Nat.reduceLT, Nat.reduceEqDiff, evs, evp, evo, List.getElem?_toArray, List.getElem?_cons_succ, List.getElem?_cons_zero, Bool.false_eq_true, Bool.true_eq_false, beq_self_eq_true, beq_ft, beq_tf, notNil, Bool.not_true, Bool.not_false, reduceCtorEq, abuiltin, aextract, abin_int, ai_eql, e, alen_str Try.underlying9, bs_size, ai_gtr, hl0, hix, e2, ai_geq, decide_eq_false hlen, aindex_bs Try.underlying9 hy, byteV, ai_neq, e3] <;> exact rfl) ?_
        dsimp only [after, leaving]
        exact ⟨rfl, rfl, true, fun _ => (hlim hq).1 ⟨hn64, by rw [hy]; intro q; cases q; exact hy34 rfl⟩, fun q => (by cases q), _, rfl, rfl, rfl, rfl, rfl, rfl, rfl, rfl, trivial⟩
  clear hlim
  rintro fr u h9 ⟨rfl, hH, b, hb1, hb2, sl, rfl, hs⟩
  obtain rfl := hH.symm
  clear hH
  dsimp only [after, leaving]
  refine Wp.weaken (Frm.le_of hs) ?_
  clear hs sl
  cases b with
  | true =>
    rw [hb1 rfl]
    repeat refine Wp.seq ?_
    refine Wp.condT (by simp only [runS, stepO, stepW, stepV, keep, guardOf, wantG, wantV, aop, binA, aev, flat, if_true, if_false, Option.bind_some, Option.map_some, Frm.put, look, setk, Nat.reduceLT, Nat.reduceEqDiff, evs, evp, evo, List.getElem?_toArray, List.getElem?_cons_succ, List.getElem?_cons_zero, Bool.false_eq_true, Bool.true_eq_false, beq_self_eq_true, beq_ft, beq_tf, notNil, Bool.not_true, Bool.not_false, reduceCtorEq, abuiltin, aextract]) ?_
    repeat refine Wp.seq ?_
    refine Wp.runS (by simp only [runS, stepO, stepW, stepV, keep, guardOf, wantG, wantV, aop, binA, aev, flat, if_true, if_false, Option.bind_some, Option.map_some, Frm.put, look, setk, Nat.reduceLT, Nat.reduceEqDiff, evs, evp, evo, List.getElem?_toArray, List.getElem?_cons_succ, List.getElem?_cons_zero, Bool.false_eq_true, Bool.true_eq_false, beq_self_eq_true, beq_ft, beq_tf, notNil, Bool.not_true, Bool.not_false, reduceCtorEq, abuiltin, aextract, build27, spot_store g6] <;> exact rfl) ?_
    dsimp only [after, leaving]
    repeat refine Wp.seq ?_
    refine Wp.ret ?_
    dsimp only [after, leaving]
    exact ⟨rfl, rfl, _, ares27 rfl rfl rfl (Heap.get_set_self g6), rfl⟩
  | false =>
    rw [hb2 rfl]
    clear hb1 hb2
    repeat refine Wp.seq ?_
    refine Wp.condF (by simp only [runS, stepO, stepW, stepV, keep, guardOf, wantG, wantV, aop, binA, aev, flat, if_true, if_false, Option.bind_some, Option.map_some, Frm.put, look, setk, Nat.reduceLT, Nat.reduceEqDiff, evs, evp, evo, List.getElem?_toArray, List.getElem?_cons_succ, List.getElem?_cons_zero, Bool.false_eq_true, Bool.true_eq_false, beq_self_eq_true, beq_ft, beq_tf, notNil, Bool.not_true, Bool.not_false, reduceCtorEq, abuiltin, aextract]) ?_
    repeat refine Wp.seq ?_
    refine Wp.skip ?_
    dsimp only [after, leaving]
    cases hs : scanQ (-1) T with
    | long k => rw [hs] at hrel; exact hrel.elim
    | bad k =>
      rw [hs] at hrel
      obtain ⟨rfl, rfl⟩ := hrel
      repeat refine Wp.seq ?_
      refine Wp.runS (by simp only [runS, stepO, stepW, stepV, keep, guardOf, wantG, wantV, aop, binA, aev, flat, if_true, if_false, Option.bind_some, Option.map_some, Frm.put, look, setk, Nat.reduceLT, Nat.reduceEqDiff, evs, evp, evo, List.getElem?_toArray, List.getElem?_cons_succ, List.getElem?_cons_zero, Bool.false_eq_true, Bool.true_eq_false, beq_self_eq_true, beq_ft, beq_tf, notNil, Bool.not_true, Bool.not_false, reduceCtorEq, abuiltin, aextract] <;> exact rfl) ?_
      dsimp only [after, leaving]
      repeat refine Wp.seq ?_
      refine Wp.condT (by simp only [runS, stepO, stepW, stepV, keep, guardOf, wantG, wantV, aop, binA, aev, flat, if_true, if_false, Option.bind_some, Option.map_some, Frm.put, look, setk, Nat.reduceLT, Nat.reduceEqDiff, evs, evp, evo, List.getElem?_toArray, List.getElem?_cons_succ, List.getElem?_cons_zero, Bool.false_eq_true, Bool.true_eq_false, beq_self_eq_true, beq_ft, beq_tf, notNil, Bool.not_true, Bool.not_false, reduceCtorEq, abuiltin, aextract]) ?_
      repeat refine Wp.seq ?_
      refine Wp.regionAs (is := List.range' 0 1 ++ (1 :: (List.range' 2 3 ++ []))) rfl ?_
      refine WpO.runS 1 (by simp only [List.drop_succ_cons, List.drop_zero, List.take_succ_cons, List.take_zero, runS, stepO, stepW, stepV, keep, guardOf, wantG, wantV, aop, binA, aev, flat, if_true, if_false, Option.bind_some, Option.map_some, Frm.put, look, setk, Nat.reduceLT, Nat.reduceEqDiff, evs, evp, evo, List.getElem?_toArray, List.getElem?_cons_succ, List.getElem?_cons_zero, Bool.false_eq_true, Bool.true_eq_false, beq_self_eq_true, beq_ft, beq_tf, notNil, Bool.not_true, Bool.not_false, reduceCtorEq, abuiltin, aextract] <;> exact rfl) (by decide) ?_
      refine WpO.callR (bad_spec H1 a1) rfl (by simp only [runS, stepO, stepW, stepV, keep, guardOf, wantG, wantV, aop, binA, aev, flat, if_true, if_false, Option.bind_some, Option.map_some, Frm.put, look, setk, Nat.reduceLT, Nat.reduceEqDiff, evs, evp, evo, List.getElem?_toArray, List.getElem?_cons_succ, List.getElem?_cons_zero, Bool.false_eq_true, Bool.true_eq_false, beq_self_eq_true, beq_ft, beq_tf, notNil, Bool.not_true, Bool.not_false, reduceCtorEq, abuiltin, aextract, c35]) (by simp only [calleeOf, fnOf, List.append_nil, List.nil_append, runS, stepO, stepW, stepV, keep, guardOf, wantG, wantV, aop, binA, aev, flat, if_true, if_false, Option.bind_some, Option.map_some, Frm.put, look, setk, Nat.reduceLT, Nat.reduceEqDiff, evs, evp, evo, List.getElem?_toArray, List.getElem?_cons_succ, List.getElem?_cons_zero, Bool.false_eq_true, Bool.true_eq_false, beq_self_eq_true, beq_ft, beq_tf, notNil, Bool.not_true, Bool.not_false, reduceCtorEq, abuiltin, aextract, c35] <;> exact rfl) ?_
      rintro _ h9 ⟨rfl, hh9⟩
      obtain rfl := hh9.symm
      clear hh9
      refine ⟨_, _, rfl, by simp only [runS, stepO, stepW, stepV, keep, guardOf, wantG, wantV, aop, binA, aev, flat, if_true, if_false, Option.bind_some, Option.map_some, Frm.put, look, setk, Nat.reduceLT, Nat.reduceEqDiff, evs, evp, evo, List.getElem?_toArray, List.getElem?_cons_succ, List.getElem?_cons_zero, Bool.false_eq_true, Bool.true_eq_false, beq_self_eq_true, beq_ft, beq_tf, notNil, Bool.not_true, Bool.not_false, reduceCtorEq, abuiltin, aextract]; exact rfl, ?_⟩
      have g7 : (H1.alloc (spotRow 6 a1)).get x6 = some (spotRow 0 0) := by rw [Heap.get_alloc_old _ _ (Heap.lt_of_get g6)]; exact g6
      refine WpO.runS 3 (by simp only [List.drop_succ_cons, List.drop_zero, List.take_succ_cons, List.take_zero, runS, stepO, stepW, stepV, keep, guardOf, wantG, wantV, aop, binA, aev, flat, if_true, if_false, Option.bind_some, Option.map_some, Frm.put, look, setk, Nat.reduceLT, Nat.reduceEqDiff, evs, evp, evo, List.getElem?_toArray, List.getElem?_cons_succ, List.getElem?_cons_zero, Bool.false_eq_true, Bool.true_eq_false, beq_self_eq_true, beq_ft, beq_tf, notNil, Bool.not_true, Bool.not_false, reduceCtorEq, abuiltin, aextract, spot_store g7] <;> exact rfl) (by decide) ?_
      refine WpO.nil ?_
      dsimp only [after, leaving]
      repeat refine Wp.seq ?_
      refine Wp.ret ?_
      dsimp only [after, leaving]
      exact ⟨rfl, rfl, _, ares27 rfl rfl rfl (Heap.get_set_self g7), rfl⟩
    | ok out k =>
      rw [hs] at hrel
      obtain ⟨rfl, rfl, ps, hown, hk1, hk2⟩ := hrel
      repeat refine Wp.seq ?_
      refine Wp.runS (by simp only [runS, stepO, stepW, stepV, keep, guardOf, wantG, wantV, aop, binA, aev, flat, if_true, if_false, Option.bind_some, Option.map_some, Frm.put, look, setk, Nat.reduceLT, Nat.reduceEqDiff, evs, evp, evo, List.getElem?_toArray, List.getElem?_cons_succ, List.getElem?_cons_zero, Bool.false_eq_true, Bool.true_eq_false, beq_self_eq_true, beq_ft, beq_tf, notNil, Bool.not_true, Bool.not_false, reduceCtorEq, abuiltin, aextract] <;> exact rfl) ?_
      dsimp only [after, leaving]
      repeat refine Wp.seq ?_
      refine Wp.condF (by simp only [runS, stepO, stepW, stepV, keep, guardOf, wantG, wantV, aop, binA, aev, flat, if_true, if_false, Option.bind_some, Option.map_some, Frm.put, look, setk, Nat.reduceLT, Nat.reduceEqDiff, evs, evp, evo, List.getElem?_toArray, List.getElem?_cons_succ, List.getElem?_cons_zero, Bool.false_eq_true, Bool.true_eq_false, beq_self_eq_true, beq_ft, beq_tf, notNil, Bool.not_true, Bool.not_false, reduceCtorEq, abuiltin, aextract]) ?_
      repeat refine Wp.seq ?_
      refine Wp.skip ?_
      dsimp only [after, leaving]
      rcases hown with ⟨_, h0, _⟩ | ⟨b, rfl, hg⟩
      · simp at h0
      have hlen : (ps ++ [k]).length = ps.length + 1 := by simp
      rw [hlen] at *
      have w1 : IntKind.i64.wrap (((ps.length + 1 : Nat) : Int) - 1) = ((ps.length : Nat) : Int) := by rw [wrap_in (by omega) (by omega)]; omega
      have w2 : IntKind.i64.wrap ((k : Int) + 1) = ((k + 1 : Nat) : Int) := by rw [wrap_in (by omega) (by omega)]; omega
      have hix : ∀ kd, aindexAddr Try.prog 54 (.slice (some ⟨b, 0, none⟩) (ps.length + 1) (ps.length + 1)) (.int kd (ps.length : Nat)) = some (.pointer (some ⟨b, 0 + ps.length * 1, none⟩)) := fun kd => aindexAddr_slice Try.underlying54 sz3 (by omega) (by omega)
      have hld : aload Try.prog H1 3 (.pointer (some ⟨b, 0 + ps.length * 1, none⟩)) = some (.int .i64 (k : Nat)) := by
        rw [aload_cell agg3]
        refine Heap.ld_of hg ?_
        simp [intV]
      repeat refine Wp.seq ?_
      refine Wp.runSD mixed (by kernel_rfl) (by simp only [runSD, stepOD, stepWD, stepVD, isLoud, isPure, isReader, decide_true, Bool.or_true, Bool.true_or, Bool.or_self, Bool.and_self, Bool.and_true, Bool.and_false, Heap.next_set, Heap.next_alloc, runS, stepO, stepW, stepV, keep, guardOf, wantG, wantV, aop, binA, aev, flat, if_true, if_false, Option.bind_some, Option.map_some, Frm.put, look, setk, Nat.reduceLT, Nat.reduceEqDiff, evs, evp, evo, List.getElem?_toArray, List.getElem?_cons_succ, List.getElem?_cons_zero, Bool.false_eq_true, Bool.true_eq_false, beq_self_eq_true, beq_ft, beq_tf, notNil, Bool.not_true, Bool.not_false, reduceCtorEq, abuiltin, aextract, alen_slice Try.underlying54, abin_int, ai_sub, w1, hix, hld, ai_add, w2, build27z, spot_store g6] <;> exact rfl) ?_
      dsimp only [after, leaving]
      repeat refine Wp.seq ?_
      refine Wp.ret ?_
      dsimp only [after, leaving]
      exact ⟨rfl, rfl, _, ares27 rfl rfl rfl (Heap.get_set_self g6), rfl⟩
theorem quotedR_does (h : Heap) (T : List UInt8) (hT : T.length < 1000000) :
    Does Try.prog 0 (GoodE Try.prog (baseM 0)) 27 [.string (bs T), .int .i64 64] h fun r h' => r = .returned (quotedV (scanQ 64 T)) ∧ h' = h :=
  Does.fromBare (by simp [flat]) (quotedV_flat _) (quotedR_spec _ T hT) h
end Go.Mini
