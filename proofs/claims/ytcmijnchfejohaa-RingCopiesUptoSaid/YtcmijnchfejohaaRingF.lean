/-
  RING, part F: the statements' own helpers.
-/
import Derived.Test.YtcmijnchfejohaaRingE
set_option linter.unusedSimpArgs false
set_option maxHeartbeats 2000000
namespace Go.Mini
open Go.Proofs

theorem flat_take {ls : List (List UInt8)} {j : Nat} {l : List UInt8} (h : ls[j]? = some l) : (ls.take (j + 1)).flatten = (ls.take j).flatten ++ l := by
  rw [List.take_add_one, h]; simp
theorem flat_take_le (ls : List (List UInt8)) (j : Nat) : (ls.take j).flatten.length ≤ ls.flatten.length := by
  have := congrArg (fun z => z.flatten.length) (List.take_append_drop j ls)
  simp only [List.flatten_append, List.length_append] at this
  omega
theorem index22 {b k cap n j : Nat} {sp : Option Nat} (hj : j < n) : aindexAddr Try.prog 22 (.slice (some ⟨b, k, sp⟩) n cap) (.int .i64 (j : Int)) = some (.pointer (some ⟨b, k + j, none⟩)) := by
  rw [aindexAddr_slice Try.underlying22 sz9 (by omega) (by omega)]
  simp only [Int.toNat_natCast, Nat.mul_one]

/-- No more than the statements take. -/
def Few (ls : List (List UInt8)) : Prop := ls.length ≤ 2000 ∧ ls.flatten.length ≤ 20000
instance (ls : List (List UInt8)) : Decidable (Few ls) := by unfold Few; exact inferInstance

theorem joined_spec (G : Nat) (h : Heap) (v : Value) (ls : List (List UInt8)) (hs : Strs h v ls) (hz : ∀ l ∈ ls, l.length ≤ 4611686018427387904) (hlen : ls.length ≤ 4611686018427387904) :
    Does Try.prog G NoExt 9 [v] h (fun r h' => r = .returned (.tuple #[.string (bs (if Few ls then ls.flatten else [])), .bool (decide (Few ls))]) ∧ h.more h') := by
  obtain ⟨a, cap, rfl, hs⟩ := hs
  refine Does.body Try.func9 rfl ?_
  have hn : enterF Try.f9 [.slice a ls.length cap] = ⟨42, [(0, .slice a ls.length cap)], []⟩ := rfl
  rw [hn]; clear hn
  repeat refine Wp.seq ?_
  refine Wp.runS (by simp only [runS, stepO, stepW, stepV, keep, guardOf, wantG, wantV, aop, binA, aev, flat, if_true, if_false, Option.bind_some, Option.map_some, Frm.put, look, setk, Nat.reduceLT, Nat.reduceEqDiff, evs, evp, evo, List.getElem?_toArray, List.getElem?_cons_succ, List.getElem?_cons_zero, Bool.false_eq_true, Bool.true_eq_false, beq_self_eq_true, beq_ft, beq_tf, notNil, Bool.not_true, Bool.not_false, reduceCtorEq, abuiltin, aextract] <;> exact rfl) ?_
  dsimp only [after, leaving]
  by_cases hc : (2000 : Int) < (ls.length : Int)
  · repeat refine Wp.seq ?_
    refine Wp.runS (by simp only [runS, stepO, stepW, stepV, keep, guardOf, wantG, wantV, aop, binA, aev, flat, if_true, if_false, Option.bind_some, Option.map_some, Frm.put, look, setk, Nat.reduceLT, Nat.reduceEqDiff, evs, evp, evo, List.getElem?_toArray, List.getElem?_cons_succ, List.getElem?_cons_zero, Bool.false_eq_true, Bool.true_eq_false, beq_self_eq_true, beq_ft, beq_tf, notNil, Bool.not_true, Bool.not_false, reduceCtorEq, abuiltin, aextract, alen_slice Try.underlying22, abin_int, ai_gtr, decide_eq_true hc] <;> exact rfl) ?_
    dsimp only [after, leaving]
    repeat refine Wp.seq ?_
    refine Wp.condT (by simp only [runS, stepO, stepW, stepV, keep, guardOf, wantG, wantV, aop, binA, aev, flat, if_true, if_false, Option.bind_some, Option.map_some, Frm.put, look, setk, Nat.reduceLT, Nat.reduceEqDiff, evs, evp, evo, List.getElem?_toArray, List.getElem?_cons_succ, List.getElem?_cons_zero, Bool.false_eq_true, Bool.true_eq_false, beq_self_eq_true, beq_ft, beq_tf, notNil, Bool.not_true, Bool.not_false, reduceCtorEq, abuiltin, aextract]) ?_
    repeat refine Wp.seq ?_
    refine Wp.runS (by simp only [runS, stepO, stepW, stepV, keep, guardOf, wantG, wantV, aop, binA, aev, flat, if_true, if_false, Option.bind_some, Option.map_some, Frm.put, look, setk, Nat.reduceLT, Nat.reduceEqDiff, evs, evp, evo, List.getElem?_toArray, List.getElem?_cons_succ, List.getElem?_cons_zero, Bool.false_eq_true, Bool.true_eq_false, beq_self_eq_true, beq_ft, beq_tf, notNil, Bool.not_true, Bool.not_false, reduceCtorEq, abuiltin, aextract] <;> exact rfl) ?_
    dsimp only [after, leaving]
    repeat refine Wp.seq ?_
    refine Wp.ret ?_
    dsimp only [after, leaving]
    have hf : ¬ Few ls := by unfold Few; omega
    exact ⟨rfl, rfl, _, rfl, by simp only [hf, if_false, decide_false]; rfl, Heap.more_refl _⟩
  · repeat refine Wp.seq ?_
    refine Wp.runS (by simp only [runS, stepO, stepW, stepV, keep, guardOf, wantG, wantV, aop, binA, aev, flat, if_true, if_false, Option.bind_some, Option.map_some, Frm.put, look, setk, Nat.reduceLT, Nat.reduceEqDiff, evs, evp, evo, List.getElem?_toArray, List.getElem?_cons_succ, List.getElem?_cons_zero, Bool.false_eq_true, Bool.true_eq_false, beq_self_eq_true, beq_ft, beq_tf, notNil, Bool.not_true, Bool.not_false, reduceCtorEq, abuiltin, aextract, alen_slice Try.underlying22, abin_int, ai_gtr, decide_eq_false hc] <;> exact rfl) ?_
    dsimp only [after, leaving]
    repeat refine Wp.seq ?_
    refine Wp.condF (by simp only [runS, stepO, stepW, stepV, keep, guardOf, wantG, wantV, aop, binA, aev, flat, if_true, if_false, Option.bind_some, Option.map_some, Frm.put, look, setk, Nat.reduceLT, Nat.reduceEqDiff, evs, evp, evo, List.getElem?_toArray, List.getElem?_cons_succ, List.getElem?_cons_zero, Bool.false_eq_true, Bool.true_eq_false, beq_self_eq_true, beq_ft, beq_tf, notNil, Bool.not_true, Bool.not_false, reduceCtorEq, abuiltin, aextract]) ?_
    repeat refine Wp.seq ?_
    refine Wp.skip ?_
    dsimp only [after, leaving]
    repeat refine Wp.seq ?_
    refine Wp.runS (by simp only [runS, stepO, stepW, stepV, keep, guardOf, wantG, wantV, aop, binA, aev, flat, if_true, if_false, Option.bind_some, Option.map_some, Frm.put, look, setk, Nat.reduceLT, Nat.reduceEqDiff, evs, evp, evo, List.getElem?_toArray, List.getElem?_cons_succ, List.getElem?_cons_zero, Bool.false_eq_true, Bool.true_eq_false, beq_self_eq_true, beq_ft, beq_tf, notNil, Bool.not_true, Bool.not_false, reduceCtorEq, abuiltin, aextract] <;> exact rfl) ?_
    dsimp only [after, leaving]
    repeat refine Wp.seq ?_
    refine Wp.runS (by simp only [runS, stepO, stepW, stepV, keep, guardOf, wantG, wantV, aop, binA, aev, flat, if_true, if_false, Option.bind_some, Option.map_some, Frm.put, look, setk, Nat.reduceLT, Nat.reduceEqDiff, evs, evp, evo, List.getElem?_toArray, List.getElem?_cons_succ, List.getElem?_cons_zero, Bool.false_eq_true, Bool.true_eq_false, beq_self_eq_true, beq_ft, beq_tf, notNil, Bool.not_true, Bool.not_false, reduceCtorEq, abuiltin, aextract] <;> exact rfl) ?_
    dsimp only [after, leaving]
    refine Wp.cut (fun fr u h' => u = none ∧ h = h' ∧ Few ls ∧ ∃ s, fr = ⟨42, s, []⟩ ∧ look 0 s = some (.slice a ls.length cap) ∧ look 4 s = some (.int .i64 (ls.flatten.length : Nat))) ?_ ?_
    · rintro fr u h' ⟨rfl, rfl, hfew, s, rfl, s0, s4⟩
      dsimp only [after, leaving]
      refine Wp.weaken (fr' := ⟨42, [(0, .slice a ls.length cap), (4, .int .i64 (ls.flatten.length : Nat))], []⟩) (Frm.le_of ⟨s0, s4, trivial⟩) ?_
      have hT := hfew.2
      repeat refine Wp.seq ?_
      refine Wp.runS (by simp only [runS, stepO, stepW, stepV, keep, guardOf, wantG, wantV, aop, binA, aev, flat, if_true, if_false, Option.bind_some, Option.map_some, Frm.put, look, setk, Nat.reduceLT, Nat.reduceEqDiff, evs, evp, evo, List.getElem?_toArray, List.getElem?_cons_succ, List.getElem?_cons_zero, Bool.false_eq_true, Bool.true_eq_false, beq_self_eq_true, beq_ft, beq_tf, notNil, Bool.not_true, Bool.not_false, reduceCtorEq, abuiltin, aextract, make42 h ls.flatten.length (by omega)] <;> exact rfl) ?_
      dsimp only [after, leaving]
      repeat refine Wp.seq ?_
      refine Wp.runS (by simp only [runS, stepO, stepW, stepV, keep, guardOf, wantG, wantV, aop, binA, aev, flat, if_true, if_false, Option.bind_some, Option.map_some, Frm.put, look, setk, Nat.reduceLT, Nat.reduceEqDiff, evs, evp, evo, List.getElem?_toArray, List.getElem?_cons_succ, List.getElem?_cons_zero, Bool.false_eq_true, Bool.true_eq_false, beq_self_eq_true, beq_ft, beq_tf, notNil, Bool.not_true, Bool.not_false, reduceCtorEq, abuiltin, aextract] <;> exact rfl) ?_
      dsimp only [after, leaving]
      refine Wp.cut (fun fr u h' => u = none ∧ h.more h' ∧ h'.get h.next = some (bufRow ls.flatten ls.flatten.length) ∧ ∃ s, fr = ⟨42, s, []⟩ ∧ look 6 s = some (.slice (some ⟨h.next, 0, none⟩) ls.flatten.length ls.flatten.length)) ?_ ?_
      · rintro fr u h' ⟨rfl, hmore, hbuf, s, rfl, s6⟩
        dsimp only [after, leaving]
        refine Wp.weaken (fr' := ⟨42, [(6, .slice (some ⟨h.next, 0, none⟩) ls.flatten.length ls.flatten.length)], []⟩) (Frm.le_of ⟨s6, trivial⟩) ?_
        repeat refine Wp.seq ?_
        refine Wp.runS (by simp only [runS, stepO, stepW, stepV, keep, guardOf, wantG, wantV, aop, binA, aev, flat, if_true, if_false, Option.bind_some, Option.map_some, Frm.put, look, setk, Nat.reduceLT, Nat.reduceEqDiff, evs, evp, evo, List.getElem?_toArray, List.getElem?_cons_succ, List.getElem?_cons_zero, Bool.false_eq_true, Bool.true_eq_false, beq_self_eq_true, beq_ft, beq_tf, notNil, Bool.not_true, Bool.not_false, reduceCtorEq, abuiltin, aextract, noconv, conv_buf hbuf] <;> exact rfl) ?_
        dsimp only [after, leaving]
        repeat refine Wp.seq ?_
        refine Wp.ret ?_
        dsimp only [after, leaving]
        exact ⟨rfl, rfl, _, rfl, by simp only [hfew, if_true, decide_true], hmore⟩
      · refine Wp.block ?_
        refine Wp.loopI (X := Heap × Nat) (fun x => [(0, .slice a ls.length cap), (6, .slice (some ⟨h.next, 0, none⟩) (ls.take x.2).flatten.length ls.flatten.length), (7, .int .i64 (x.2 : Nat))]) (fun x => x.1)
          (fun x => x.2 ≤ ls.length ∧ h.more x.1 ∧ x.1.get h.next = some (bufRow (ls.take x.2).flatten ls.flatten.length)) (fun x => ls.length - x.2) (h.alloc (bufRow [] ls.flatten.length), 0) ⟨by dsimp only; omega, Heap.more_alloc _ _, by simp [Heap.get_alloc_new]⟩ ⟨rfl, rfl, rfl, trivial⟩ rfl ?_
        rintro ⟨H, j⟩ ⟨hj, hmore, hbuf⟩
        dsimp only at hj hmore hbuf ⊢
        repeat refine Wp.seq ?_
        refine Wp.runS (by simp only [runS, stepO, stepW, stepV, keep, guardOf, wantG, wantV, aop, binA, aev, flat, if_true, if_false, Option.bind_some, Option.map_some, Frm.put, look, setk, Nat.reduceLT, Nat.reduceEqDiff, evs, evp, evo, List.getElem?_toArray, List.getElem?_cons_succ, List.getElem?_cons_zero, Bool.false_eq_true, Bool.true_eq_false, beq_self_eq_true, beq_ft, beq_tf, notNil, Bool.not_true, Bool.not_false, reduceCtorEq, abuiltin, aextract, abin_int, ai_lss, alen_slice Try.underlying22] <;> exact rfl) ?_
        dsimp only [after, leaving]
        by_cases hlt : (j : Int) < (ls.length : Int)
        · repeat refine Wp.seq ?_
          refine Wp.condT (by simp only [runS, stepO, stepW, stepV, keep, guardOf, wantG, wantV, aop, binA, aev, flat, if_true, if_false, Option.bind_some, Option.map_some, Frm.put, look, setk, Nat.reduceLT, Nat.reduceEqDiff, evs, evp, evo, List.getElem?_toArray, List.getElem?_cons_succ, List.getElem?_cons_zero, Bool.false_eq_true, Bool.true_eq_false, beq_self_eq_true, beq_ft, beq_tf, notNil, Bool.not_true, Bool.not_false, reduceCtorEq, abuiltin, aextract, decide_eq_true hlt]) ?_
          repeat refine Wp.seq ?_
          refine Wp.skip ?_
          dsimp only [after, leaving]
          obtain ⟨l, hl⟩ : ∃ l, ls[j]? = some l := ⟨_, List.getElem?_eq_getElem (by omega)⟩
          obtain ⟨b, k, sp, rfl, hld⟩ := hs j l hl
          have hft := flat_take hl
          have hle := flat_take_le ls (j + 1)
          rw [hft, List.length_append] at hle
          have hap := app_str hbuf hle
          rw [← List.length_append, ← hft] at hap
          refine Wp.join (fun fr u h' => u = none ∧ h.more h' ∧ h'.get h.next = some (bufRow (ls.take (j + 1)).flatten ls.flatten.length) ∧ ∃ s, fr = ⟨42, s, []⟩ ∧ look 0 s = some (.slice (some ⟨b, k, sp⟩) ls.length cap) ∧ look 6 s = some (.slice (some ⟨h.next, 0, none⟩) (ls.take (j + 1)).flatten.length ls.flatten.length) ∧ look 7 s = some (.int .i64 (j : Nat))) ?_ ?_
          · rintro fr u h' ⟨rfl, hmore, hbuf, s, rfl, s0, s6, s7⟩
            have hwj : IntKind.i64.wrap ((j : Int) + 1) = ((j + 1 : Nat) : Int) := by rw [wrap_in (by omega) (by omega)]; omega
            refine Wp.weaken (fr' := ⟨42, [(0, .slice (some ⟨b, k, sp⟩) ls.length cap), (6, .slice (some ⟨h.next, 0, none⟩) (ls.take (j + 1)).flatten.length ls.flatten.length), (7, .int .i64 (j : Nat))], []⟩) (Frm.le_of ⟨s0, s6, s7, trivial⟩) ?_
            repeat refine Wp.seq ?_
            refine Wp.runS (by simp only [runS, stepO, stepW, stepV, keep, guardOf, wantG, wantV, aop, binA, aev, flat, if_true, if_false, Option.bind_some, Option.map_some, Frm.put, look, setk, Nat.reduceLT, Nat.reduceEqDiff, evs, evp, evo, List.getElem?_toArray, List.getElem?_cons_succ, List.getElem?_cons_zero, Bool.false_eq_true, Bool.true_eq_false, beq_self_eq_true, beq_ft, beq_tf, notNil, Bool.not_true, Bool.not_false, reduceCtorEq, abuiltin, aextract, abin_int, ai_add, hwj] <;> exact rfl) ?_
            dsimp only [after, leaving]
            refine ⟨(h', j + 1), _, ⟨by dsimp only; omega, hmore, hbuf⟩, by dsimp only; omega, rfl, ⟨rfl, rfl, rfl, trivial⟩, rfl, rfl⟩
          · refine Wp.block ?_
            repeat refine Wp.seq ?_
            refine Wp.runS (by simp only [runS, stepO, stepW, stepV, keep, guardOf, wantG, wantV, aop, binA, aev, flat, if_true, if_false, Option.bind_some, Option.map_some, Frm.put, look, setk, Nat.reduceLT, Nat.reduceEqDiff, evs, evp, evo, List.getElem?_toArray, List.getElem?_cons_succ, List.getElem?_cons_zero, Bool.false_eq_true, Bool.true_eq_false, beq_self_eq_true, beq_ft, beq_tf, notNil, Bool.not_true, Bool.not_false, reduceCtorEq, abuiltin, aextract, index22 (show j < ls.length by omega), aload_cell agg9, hmore.ld hld, hap] <;> exact rfl) ?_
            dsimp only [after, leaving]
            refine ⟨rfl, ?_, Heap.get_set_self hbuf, _, rfl, rfl, rfl, rfl⟩
            exact Heap.more_set_new hmore (Nat.le_refl _) _
        · repeat refine Wp.seq ?_
          refine Wp.condF (by simp only [runS, stepO, stepW, stepV, keep, guardOf, wantG, wantV, aop, binA, aev, flat, if_true, if_false, Option.bind_some, Option.map_some, Frm.put, look, setk, Nat.reduceLT, Nat.reduceEqDiff, evs, evp, evo, List.getElem?_toArray, List.getElem?_cons_succ, List.getElem?_cons_zero, Bool.false_eq_true, Bool.true_eq_false, beq_self_eq_true, beq_ft, beq_tf, notNil, Bool.not_true, Bool.not_false, reduceCtorEq, abuiltin, aextract, decide_eq_false hlt]) ?_
          repeat refine Wp.seq ?_
          refine Wp.exit ?_
          simp only [after, leaving, blockExit, if_true, if_false, Nat.reduceEqDiff]
          obtain rfl : j = ls.length := by omega
          rw [List.take_length] at hbuf ⊢
          exact ⟨trivial, hmore, hbuf, _, rfl, rfl⟩
    · refine Wp.block ?_
      refine Wp.loopI (X := Nat) (fun x => [(0, .slice a ls.length cap), (4, .int .i64 ((ls.take x).flatten.length : Nat)), (5, .int .i64 (x : Nat))]) (fun x => h)
        (fun x => x ≤ ls.length ∧ (ls.take x).flatten.length ≤ 20000) (fun x => ls.length - x) 0 ⟨by omega, by simp⟩ ⟨rfl, rfl, rfl, trivial⟩ rfl ?_
      rintro j ⟨hj, hsum⟩
      repeat refine Wp.seq ?_
      refine Wp.runS (by simp only [runS, stepO, stepW, stepV, keep, guardOf, wantG, wantV, aop, binA, aev, flat, if_true, if_false, Option.bind_some, Option.map_some, Frm.put, look, setk, Nat.reduceLT, Nat.reduceEqDiff, evs, evp, evo, List.getElem?_toArray, List.getElem?_cons_succ, List.getElem?_cons_zero, Bool.false_eq_true, Bool.true_eq_false, beq_self_eq_true, beq_ft, beq_tf, notNil, Bool.not_true, Bool.not_false, reduceCtorEq, abuiltin, aextract, abin_int, ai_lss, alen_slice Try.underlying22] <;> exact rfl) ?_
      dsimp only [after, leaving]
      by_cases hlt : (j : Int) < (ls.length : Int)
      · repeat refine Wp.seq ?_
        refine Wp.condT (by simp only [runS, stepO, stepW, stepV, keep, guardOf, wantG, wantV, aop, binA, aev, flat, if_true, if_false, Option.bind_some, Option.map_some, Frm.put, look, setk, Nat.reduceLT, Nat.reduceEqDiff, evs, evp, evo, List.getElem?_toArray, List.getElem?_cons_succ, List.getElem?_cons_zero, Bool.false_eq_true, Bool.true_eq_false, beq_self_eq_true, beq_ft, beq_tf, notNil, Bool.not_true, Bool.not_false, reduceCtorEq, abuiltin, aextract, decide_eq_true hlt]) ?_
        repeat refine Wp.seq ?_
        refine Wp.skip ?_
        dsimp only [after, leaving]
        obtain ⟨l, hl⟩ : ∃ l, ls[j]? = some l := ⟨_, List.getElem?_eq_getElem (by omega)⟩
        obtain ⟨b, k, sp, rfl, hld⟩ := hs j l hl
        have hft := congrArg List.length (flat_take hl)
        rw [List.length_append] at hft
        have hle := flat_take_le ls (j + 1)
        have hll := hz l (List.mem_of_getElem? hl)
        have hwn : IntKind.i64.wrap (((ls.take j).flatten.length : Int) + (l.length : Nat)) = ((ls.take (j + 1)).flatten.length : Int) := by rw [wrap_in (by omega) (by omega)]; omega
        refine Wp.join (fun fr u h' => u = none ∧ h = h' ∧ (ls.take (j + 1)).flatten.length ≤ 20000 ∧ ∃ s, fr = ⟨42, s, []⟩ ∧ look 0 s = some (.slice (some ⟨b, k, sp⟩) ls.length cap) ∧ look 4 s = some (.int .i64 ((ls.take (j + 1)).flatten.length : Nat)) ∧ look 5 s = some (.int .i64 (j : Nat))) ?_ ?_
        · rintro fr u h' ⟨rfl, rfl, hsum, s, rfl, s0, s4, s5⟩
          have hwj : IntKind.i64.wrap ((j : Int) + 1) = ((j + 1 : Nat) : Int) := by rw [wrap_in (by omega) (by omega)]; omega
          refine Wp.weaken (fr' := ⟨42, [(0, .slice (some ⟨b, k, sp⟩) ls.length cap), (4, .int .i64 ((ls.take (j + 1)).flatten.length : Nat)), (5, .int .i64 (j : Nat))], []⟩) (Frm.le_of ⟨s0, s4, s5, trivial⟩) ?_
          repeat refine Wp.seq ?_
          refine Wp.runS (by simp only [runS, stepO, stepW, stepV, keep, guardOf, wantG, wantV, aop, binA, aev, flat, if_true, if_false, Option.bind_some, Option.map_some, Frm.put, look, setk, Nat.reduceLT, Nat.reduceEqDiff, evs, evp, evo, List.getElem?_toArray, List.getElem?_cons_succ, List.getElem?_cons_zero, Bool.false_eq_true, Bool.true_eq_false, beq_self_eq_true, beq_ft, beq_tf, notNil, Bool.not_true, Bool.not_false, reduceCtorEq, abuiltin, aextract, abin_int, ai_add, hwj] <;> exact rfl) ?_
          dsimp only [after, leaving]
          refine ⟨j + 1, _, ⟨by omega, hsum⟩, by omega, rfl, ⟨rfl, rfl, rfl, trivial⟩, rfl, rfl⟩
        · refine Wp.block ?_
          repeat refine Wp.seq ?_
          refine Wp.runS (by simp only [runS, stepO, stepW, stepV, keep, guardOf, wantG, wantV, aop, binA, aev, flat, if_true, if_false, Option.bind_some, Option.map_some, Frm.put, look, setk, Nat.reduceLT, Nat.reduceEqDiff, evs, evp, evo, List.getElem?_toArray, List.getElem?_cons_succ, List.getElem?_cons_zero, Bool.false_eq_true, Bool.true_eq_false, beq_self_eq_true, beq_ft, beq_tf, notNil, Bool.not_true, Bool.not_false, reduceCtorEq, abuiltin, aextract, index22 (show j < ls.length by omega), aload_cell agg9, hld, alen_str Try.underlying9, bs_size, abin_int, ai_add, hwn] <;> exact rfl) ?_
          dsimp only [after, leaving]
          by_cases hbig : (20000 : Int) < ((ls.take (j + 1)).flatten.length : Nat)
          · repeat refine Wp.seq ?_
            refine Wp.runS (by simp only [runS, stepO, stepW, stepV, keep, guardOf, wantG, wantV, aop, binA, aev, flat, if_true, if_false, Option.bind_some, Option.map_some, Frm.put, look, setk, Nat.reduceLT, Nat.reduceEqDiff, evs, evp, evo, List.getElem?_toArray, List.getElem?_cons_succ, List.getElem?_cons_zero, Bool.false_eq_true, Bool.true_eq_false, beq_self_eq_true, beq_ft, beq_tf, notNil, Bool.not_true, Bool.not_false, reduceCtorEq, abuiltin, aextract, abin_int, ai_gtr, decide_eq_true hbig] <;> exact rfl) ?_
            dsimp only [after, leaving]
            repeat refine Wp.seq ?_
            refine Wp.condT (by simp only [runS, stepO, stepW, stepV, keep, guardOf, wantG, wantV, aop, binA, aev, flat, if_true, if_false, Option.bind_some, Option.map_some, Frm.put, look, setk, Nat.reduceLT, Nat.reduceEqDiff, evs, evp, evo, List.getElem?_toArray, List.getElem?_cons_succ, List.getElem?_cons_zero, Bool.false_eq_true, Bool.true_eq_false, beq_self_eq_true, beq_ft, beq_tf, notNil, Bool.not_true, Bool.not_false, reduceCtorEq, abuiltin, aextract]) ?_
            repeat refine Wp.seq ?_
            refine Wp.runS (by simp only [runS, stepO, stepW, stepV, keep, guardOf, wantG, wantV, aop, binA, aev, flat, if_true, if_false, Option.bind_some, Option.map_some, Frm.put, look, setk, Nat.reduceLT, Nat.reduceEqDiff, evs, evp, evo, List.getElem?_toArray, List.getElem?_cons_succ, List.getElem?_cons_zero, Bool.false_eq_true, Bool.true_eq_false, beq_self_eq_true, beq_ft, beq_tf, notNil, Bool.not_true, Bool.not_false, reduceCtorEq, abuiltin, aextract] <;> exact rfl) ?_
            dsimp only [after, leaving]
            repeat refine Wp.seq ?_
            refine Wp.ret ?_
            dsimp only [after, leaving]
            have hf : ¬ Few ls := by unfold Few; omega
            exact ⟨rfl, rfl, _, rfl, by simp only [hf, if_false, decide_false]; rfl, Heap.more_refl _⟩
          · repeat refine Wp.seq ?_
            refine Wp.runS (by simp only [runS, stepO, stepW, stepV, keep, guardOf, wantG, wantV, aop, binA, aev, flat, if_true, if_false, Option.bind_some, Option.map_some, Frm.put, look, setk, Nat.reduceLT, Nat.reduceEqDiff, evs, evp, evo, List.getElem?_toArray, List.getElem?_cons_succ, List.getElem?_cons_zero, Bool.false_eq_true, Bool.true_eq_false, beq_self_eq_true, beq_ft, beq_tf, notNil, Bool.not_true, Bool.not_false, reduceCtorEq, abuiltin, aextract, abin_int, ai_gtr, decide_eq_false hbig] <;> exact rfl) ?_
            dsimp only [after, leaving]
            repeat refine Wp.seq ?_
            refine Wp.condF (by simp only [runS, stepO, stepW, stepV, keep, guardOf, wantG, wantV, aop, binA, aev, flat, if_true, if_false, Option.bind_some, Option.map_some, Frm.put, look, setk, Nat.reduceLT, Nat.reduceEqDiff, evs, evp, evo, List.getElem?_toArray, List.getElem?_cons_succ, List.getElem?_cons_zero, Bool.false_eq_true, Bool.true_eq_false, beq_self_eq_true, beq_ft, beq_tf, notNil, Bool.not_true, Bool.not_false, reduceCtorEq, abuiltin, aextract]) ?_
            repeat refine Wp.seq ?_
            refine Wp.skip ?_
            dsimp only [after, leaving]
            exact ⟨rfl, rfl, by omega, _, rfl, rfl, rfl, rfl⟩
      · repeat refine Wp.seq ?_
        refine Wp.condF (by simp only [runS, stepO, stepW, stepV, keep, guardOf, wantG, wantV, aop, binA, aev, flat, if_true, if_false, Option.bind_some, Option.map_some, Frm.put, look, setk, Nat.reduceLT, Nat.reduceEqDiff, evs, evp, evo, List.getElem?_toArray, List.getElem?_cons_succ, List.getElem?_cons_zero, Bool.false_eq_true, Bool.true_eq_false, beq_self_eq_true, beq_ft, beq_tf, notNil, Bool.not_true, Bool.not_false, reduceCtorEq, abuiltin, aextract, decide_eq_false hlt]) ?_
        repeat refine Wp.seq ?_
        refine Wp.exit ?_
        simp only [after, leaving, blockExit, if_true, if_false, Nat.reduceEqDiff]
        obtain rfl : j = ls.length := by omega
        rw [List.take_length] at hsum ⊢
        exact ⟨trivial, trivial, ⟨by omega, hsum⟩, _, rfl, rfl, rfl⟩
end Go.Mini
