/-
  RING, part C: strings as lists of bytes; Put.
-/
import Derived.Test.YtcmijnchfejohaaRingB
set_option linter.unusedSimpArgs false
set_option maxHeartbeats 2000000
namespace Go.Mini
open Go.Proofs
open Go.Lib (strCells strCells_length strCells_oneCell)

theorem strCells_bs (l : List UInt8) : strCells (bs l) = l.map byteV := rfl
theorem acopy_ring {h : Heap} {i p dl c : Nat} {sp : Option Nat} {ks : Nat → UInt8} {lim e : Nat} {l : List UInt8} (hg : h.get i = some (ringRow ks lim e)) (hl : l ≠ []) (hd : 0 < dl) (hp : p + dl ≤ 1024) :
    acopy Try.prog h 42 (.slice (some ⟨i, p, sp⟩) dl c) (.string (bs l)) = some (.int .i64 ((min l.length dl : Nat) : Int), h.set i (ringRow (puts ks p (l.take (min l.length dl))) lim e)) := by
  obtain ⟨x, h1, h2⟩ := info_some sz5
  have hpos : 0 < l.length := List.length_pos_iff.2 hl
  unfold acopy
  simp only [Try.underlying42, h1, Option.bind_some, alenOf, bs_size, afirst, strCells_bs]
  have hne : (l.map byteV).take (min l.length dl) ≠ [] := by
    intro q
    have := congrArg List.length q
    simp only [List.length_take, List.length_map, List.length_nil] at this
    omega
  have hone : ((l.map byteV).take (min l.length dl)).all one = true := by
    rw [← List.map_take, List.all_map, List.all_eq_true]
    intro x _; rfl
  rw [if_neg hne, if_pos hone, ← List.map_take, Heap.sts_of hg (by simp; omega) rfl rfl]
  simp only [Option.map_some, ringRow]
  rw [ringVs_puts _ _ _ _ _ (by simp; omega)]

theorem store_end {h : Heap} {i : Nat} {ks : Nat → UInt8} {lim e e' : Nat} (hg : h.get i = some (ringRow ks lim e)) :
    astore Try.prog h 3 (.pointer (some ⟨i, 1025, none⟩)) (.int .i64 e') = some (h.set i (ringRow ks lim e')) := by
  rw [astore_cell sz3 rfl, Heap.sts_of hg (by simp) rfl rfl]
  simp only [ringRow, ringVs_setEnd]

/-- The last bytes of T are kept. -/
def Kept (ks : Nat → UInt8) (lim : Nat) (T : List UInt8) : Prop := ∀ q, q < T.length → T.length ≤ q + lim → T[q]? = some (ks (q % lim))

theorem puts_in (ks : Nat → UInt8) (p : Nat) (l : List UInt8) {d : Nat} (hd : d < l.length) : puts ks p l (p + d) = l[d] := by
  simp [puts, hd]
theorem puts_out (ks : Nat → UInt8) (p : Nat) (l : List UInt8) {j : Nat} (hj : j < p ∨ p + l.length ≤ j) : puts ks p l j = ks j := by
  unfold puts
  split
  · rw [List.getElem?_eq_none (by omega)]; rfl
  · rfl

theorem kept_step {ks : Nat → UInt8} {lim e n : Nat} {T : List UInt8} (hl : 1 ≤ lim) (hn : n ≤ lim - e % lim) (he : e + n ≤ T.length) (hk : ∀ q, q < e → T.length ≤ q + lim → T[q]? = some (ks (q % lim))) :
    ∀ q, q < e + n → T.length ≤ q + lim → T[q]? = some (puts ks (e % lim) ((T.drop e).take n) (q % lim)) := by
  intro q hq hT
  have hlen : ((T.drop e).take n).length = n := by simp; omega
  have hm : e % lim < lim := Nat.mod_lt _ (by omega)
  by_cases h : e ≤ q
  · obtain ⟨d, rfl⟩ := Nat.exists_eq_add_of_le h
    have : (e + d) % lim = e % lim + d := by
      rw [Nat.add_mod, Nat.mod_eq_of_lt (a := d) (by omega), Nat.mod_eq_of_lt (by omega)]
    rw [this, puts_in _ _ _ (by omega)]
    rw [List.getElem?_eq_getElem (by omega)]
    simp
  · rw [puts_out, hk q (by omega) hT]
    rw [hlen]
    apply Decidable.byContradiction
    intro hno
    have h1 : e % lim ≤ q % lim ∧ q % lim < e % lim + n := by omega
    have e1 := Nat.div_add_mod e lim
    have e2 := Nat.div_add_mod q lim
    have hle : q / lim ≤ e / lim := Nat.div_le_div_right (by omega)
    rcases Nat.lt_or_ge (q / lim) (e / lim) with h3 | h3
    · have : lim * (q / lim) + lim ≤ lim * (e / lim) := by
        have := Nat.mul_le_mul_left lim (show q / lim + 1 ≤ e / lim by omega)
        rwa [Nat.mul_add, Nat.mul_one] at this
      omega
    · have : q / lim = e / lim := by omega
      rw [this] at e2
      omega

theorem put_spec (G : Nat) (h : Heap) (i : Nat) (ks : Nat → UInt8) (lim : Nat) (out l : List UInt8) (h1 : 1 ≤ lim) (h2 : lim ≤ 1024) (hT : out.length + l.length ≤ 2000000) (hg : h.get i = some (ringRow ks lim out.length)) (hk : Kept ks lim out) :
    Does Try.prog G NoExt 18 [.pointer (some ⟨i, 0, none⟩), .string (bs l)] h (fun r h' => r = .returned (.tuple #[]) ∧ ∃ ks', Kept ks' lim (out ++ l) ∧ h' = h.set i (ringRow ks' lim (out ++ l).length)) := by
  refine Does.body Try.func18 rfl ?_
  have hn : enterF Try.f18 [.pointer (some ⟨i, 0, none⟩), .string (bs l)] = ⟨61, [(0, .pointer (some ⟨i, 0, none⟩)), (1, .string (bs l))], []⟩ := rfl
  rw [hn]; clear hn
  repeat refine Wp.seq ?_
  refine Wp.runS (by simp only [runS, stepO, stepW, stepV, keep, guardOf, wantG, wantV, aop, binA, aev, flat, if_true, if_false, Option.bind_some, Option.map_some, Frm.put, look, setk, Nat.reduceLT, Nat.reduceEqDiff, evs, evp, evo, List.getElem?_toArray, List.getElem?_cons_succ, List.getElem?_cons_zero, Bool.false_eq_true, Bool.true_eq_false, beq_self_eq_true, beq_ft, beq_tf, notNil, Bool.not_true, Bool.not_false, reduceCtorEq, abuiltin, aextract, abin_ptr_nil Try.underlying26, Option.isNone] <;> exact rfl) ?_
  dsimp only [after, leaving]
  repeat refine Wp.seq ?_
  refine Wp.condF (by simp only [runS, stepO, stepW, stepV, keep, guardOf, wantG, wantV, aop, binA, aev, flat, if_true, if_false, Option.bind_some, Option.map_some, Frm.put, look, setk, Nat.reduceLT, Nat.reduceEqDiff, evs, evp, evo, List.getElem?_toArray, List.getElem?_cons_succ, List.getElem?_cons_zero, Bool.false_eq_true, Bool.true_eq_false, beq_self_eq_true, beq_ft, beq_tf, notNil, Bool.not_true, Bool.not_false, reduceCtorEq, abuiltin, aextract]) ?_
  repeat refine Wp.seq ?_
  refine Wp.skip ?_
  dsimp only [after, leaving]
  have hTl : (out ++ l).length = out.length + l.length := List.length_append
  have hw0 : IntKind.i64.wrap ((l.length : Int) - (lim : Int)) = (l.length : Int) - lim := wrap_in (by omega) (by omega)
  refine Wp.join (fun fr u h' => u = none ∧ ∃ e ks0 s, e ≤ (out ++ l).length ∧ (∀ q, q < e → (out ++ l).length ≤ q + lim → (out ++ l)[q]? = some (ks0 (q % lim))) ∧ fr = ⟨61, s, []⟩ ∧ look 0 s = some (.pointer (some ⟨i, 0, none⟩)) ∧ look 1 s = some (.string (bs ((out ++ l).drop e))) ∧ h' = h.set i (ringRow ks0 lim e)) ?_ ?_
  · rintro fr u h' ⟨rfl, e, ks0, s, he, hke, rfl, hs0, hs1, rfl⟩
    refine Wp.block ?_
    refine Wp.loopI (X := Nat × (Nat → UInt8)) (fun x => [(0, .pointer (some ⟨i, 0, none⟩)), (1, .string (bs ((out ++ l).drop x.1)))]) (fun x => h.set i (ringRow x.2 lim x.1))
      (fun x => x.1 ≤ (out ++ l).length ∧ ∀ q, q < x.1 → (out ++ l).length ≤ q + lim → (out ++ l)[q]? = some (x.2 (q % lim))) (fun x => (out ++ l).length - x.1) (e, ks0) ⟨he, hke⟩ ⟨hs0, hs1, trivial⟩ rfl ?_
    rintro ⟨e, ks0⟩ ⟨he, hke⟩
    dsimp only at he hke ⊢
    repeat refine Wp.seq ?_
    refine Wp.runS (by simp only [runS, stepO, stepW, stepV, keep, guardOf, wantG, wantV, aop, binA, aev, flat, if_true, if_false, Option.bind_some, Option.map_some, Frm.put, look, setk, Nat.reduceLT, Nat.reduceEqDiff, evs, evp, evo, List.getElem?_toArray, List.getElem?_cons_succ, List.getElem?_cons_zero, Bool.false_eq_true, Bool.true_eq_false, beq_self_eq_true, beq_ft, beq_tf, notNil, Bool.not_true, Bool.not_false, reduceCtorEq, abuiltin, aextract, abin_int, ai_gtr, alen_str Try.underlying9, bs_size] <;> exact rfl) ?_
    dsimp only [after, leaving]
    by_cases hlt : e < (out ++ l).length
    · have hpos : (0 : Int) < ((List.drop e (out ++ l)).length : Nat) := by simp only [List.length_drop]; omega
      repeat refine Wp.seq ?_
      refine Wp.condT (by simp only [runS, stepO, stepW, stepV, keep, guardOf, wantG, wantV, aop, binA, aev, flat, if_true, if_false, Option.bind_some, Option.map_some, Frm.put, look, setk, Nat.reduceLT, Nat.reduceEqDiff, evs, evp, evo, List.getElem?_toArray, List.getElem?_cons_succ, List.getElem?_cons_zero, Bool.false_eq_true, Bool.true_eq_false, beq_self_eq_true, beq_ft, beq_tf, notNil, Bool.not_true, Bool.not_false, reduceCtorEq, abuiltin, aextract, decide_eq_true hpos]) ?_
      repeat refine Wp.seq ?_
      refine Wp.skip ?_
      dsimp only [after, leaving]
      repeat refine Wp.seq ?_
      refine Wp.block ?_
      have hm : e % lim < lim := Nat.mod_lt _ (by omega)
      have hne : List.drop e (out ++ l) ≠ [] := by
        intro q
        have := congrArg List.length q
        simp only [List.length_drop, List.length_nil] at this
        omega
      have hg0 : (h.set i (ringRow ks0 lim e)).get i = some (ringRow ks0 lim e) := Heap.get_set_self hg
      generalize hRdef : List.drop e (out ++ l) = R at hne hpos ⊢
      have hR : R.length = (out ++ l).length - e := by rw [← hRdef]; simp
      have hrem : ((e : Int)).tmod (lim : Int) = ((e % lim : Nat) : Int) := by rw [Int.ofNat_tmod]
      have hsl : aslice Try.prog (h.set i (ringRow ks0 lim e)) 45 (.pointer (some ⟨i, 0, none⟩)) (some (.int .i64 ((e % lim : Nat) : Int))) (some (.int .i64 (lim : Int))) none = some (.slice (some ⟨i, e % lim, some 0⟩) (lim - e % lim) (1024 - e % lim), h.set i (ringRow ks0 lim e)) := by
        rw [aslice_array Try.underlying45 sz5 (by omega) (by omega) (by omega)]
        simp only [Int.toNat_natCast, Nat.zero_add]
        rw [if_neg (by omega)]
      generalize hndef : min R.length (lim - e % lim) = n
      have hn1 : n ≤ lim - e % lim := by omega
      have hn2 : e + n ≤ (out ++ l).length := by omega
      have hn3 : 0 < n := by have := List.length_pos_iff.2 hne; omega
      have hcp := acopy_ring (p := e % lim) (dl := lim - e % lim) (c := 1024 - e % lim) (sp := some 0) hg0 hne (by omega) (by omega)
      rw [hndef] at hcp
      rw [Heap.set_set] at hcp
      have hll : ¬ (lim : Int) = 0 := by omega
      repeat refine Wp.seq ?_
      refine Wp.runSD mixed (by kernel_rfl) (by simp only [runSD, stepOD, stepWD, stepVD, isLoud, isPure, isReader, decide_true, Bool.or_true, Bool.true_or, Bool.or_self, Bool.and_self, Bool.and_true, Bool.and_false, Heap.next_set, Heap.next_alloc, runS, stepO, stepW, stepV, keep, guardOf, wantG, wantV, aop, binA, aev, flat, if_true, if_false, Option.bind_some, Option.map_some, Frm.put, look, setk, Nat.reduceLT, Nat.reduceEqDiff, evs, evp, evo, List.getElem?_toArray, List.getElem?_cons_succ, List.getElem?_cons_zero, Bool.false_eq_true, Bool.true_eq_false, beq_self_eq_true, beq_ft, beq_tf, notNil, Bool.not_true, Bool.not_false, reduceCtorEq, abuiltin, aextract, fa0, fa1, fa2, Nat.zero_add, aload_cell agg3, Heap.ld_of hg0 (ringVs_end ks0 lim e), Heap.ld_of hg0 (ringVs_lim ks0 lim e), abin_int, ai_rem hll, hrem, hsl, hcp] <;> exact rfl) ?_
      dsimp only [after, leaving]
      have hg1 : (h.set i (ringRow (puts ks0 (e % lim) (R.take n)) lim e)).get i = some (ringRow (puts ks0 (e % lim) (R.take n)) lim e) := Heap.get_set_self hg
      have hwr : IntKind.i64.wrap ((e : Int) + (n : Nat)) = ((e + n : Nat) : Int) := by rw [wrap_in (by omega) (by omega)]; omega
      repeat refine Wp.seq ?_
      refine Wp.runS (by simp only [runS, stepO, stepW, stepV, keep, guardOf, wantG, wantV, aop, binA, aev, flat, if_true, if_false, Option.bind_some, Option.map_some, Frm.put, look, setk, Nat.reduceLT, Nat.reduceEqDiff, evs, evp, evo, List.getElem?_toArray, List.getElem?_cons_succ, List.getElem?_cons_zero, Bool.false_eq_true, Bool.true_eq_false, beq_self_eq_true, beq_ft, beq_tf, notNil, Bool.not_true, Bool.not_false, reduceCtorEq, abuiltin, aextract, fa2, Nat.zero_add, aload_cell agg3, Heap.ld_of hg1 (ringVs_end _ lim e), abin_int, ai_add, hwr, store_end hg1, Heap.set_set] <;> exact rfl) ?_
      dsimp only [after, leaving]
      have hst : aslice Try.prog (h.set i (ringRow (puts ks0 (e % lim) (R.take n)) lim (e + n))) 9 (.string (bs R)) (some (.int .i64 (n : Int))) none none = some (.string (bs (R.drop n)), h.set i (ringRow (puts ks0 (e % lim) (R.take n)) lim (e + n))) := by
        rw [aslice_str Try.underlying9 (by omega) (by simp only [bs_size]; omega), Int.toNat_natCast, bs_size, bs_drop]
      repeat refine Wp.seq ?_
      refine Wp.runS (by simp only [runS, stepO, stepW, stepV, keep, guardOf, wantG, wantV, aop, binA, aev, flat, if_true, if_false, Option.bind_some, Option.map_some, Frm.put, look, setk, Nat.reduceLT, Nat.reduceEqDiff, evs, evp, evo, List.getElem?_toArray, List.getElem?_cons_succ, List.getElem?_cons_zero, Bool.false_eq_true, Bool.true_eq_false, beq_self_eq_true, beq_ft, beq_tf, notNil, Bool.not_true, Bool.not_false, reduceCtorEq, abuiltin, aextract, hst] <;> exact rfl) ?_
      dsimp only [after, leaving]
      refine ⟨(e + n, puts ks0 (e % lim) (R.take n)), _, ⟨hn2, ?_⟩, ?_, rfl, ⟨rfl, ?_, trivial⟩, rfl, rfl⟩
      · rw [← hRdef]; exact kept_step h1 hn1 hn2 hke
      · dsimp only; omega
      · rw [← hRdef, List.drop_drop]; rfl
    · have hpos : ¬ (0 : Int) < ((List.drop e (out ++ l)).length : Nat) := by simp only [List.length_drop]; omega
      repeat refine Wp.seq ?_
      refine Wp.condF (by simp only [runS, stepO, stepW, stepV, keep, guardOf, wantG, wantV, aop, binA, aev, flat, if_true, if_false, Option.bind_some, Option.map_some, Frm.put, look, setk, Nat.reduceLT, Nat.reduceEqDiff, evs, evp, evo, List.getElem?_toArray, List.getElem?_cons_succ, List.getElem?_cons_zero, Bool.false_eq_true, Bool.true_eq_false, beq_self_eq_true, beq_ft, beq_tf, notNil, Bool.not_true, Bool.not_false, reduceCtorEq, abuiltin, aextract, decide_eq_false hpos]) ?_
      repeat refine Wp.seq ?_
      refine Wp.exit ?_
      simp only [after, leaving, blockExit, if_true, if_false, Nat.reduceEqDiff]
      obtain rfl : e = (out ++ l).length := by omega
      refine ⟨trivial, trivial, _, rfl, rfl, ks0, fun q hq hT => hke q hq hT, rfl⟩
  · have hg' : h.set i (ringRow ks lim out.length) = h := Heap.set_same hg
    repeat refine Wp.seq ?_
    refine Wp.runS (by simp only [runS, stepO, stepW, stepV, keep, guardOf, wantG, wantV, aop, binA, aev, flat, if_true, if_false, Option.bind_some, Option.map_some, Frm.put, look, setk, Nat.reduceLT, Nat.reduceEqDiff, evs, evp, evo, List.getElem?_toArray, List.getElem?_cons_succ, List.getElem?_cons_zero, Bool.false_eq_true, Bool.true_eq_false, beq_self_eq_true, beq_ft, beq_tf, notNil, Bool.not_true, Bool.not_false, reduceCtorEq, abuiltin, aextract, alen_str Try.underlying9, bs_size, fa1, Nat.zero_add, aload_cell agg3, Heap.ld_of hg (ringVs_lim ks lim out.length), abin_int, ai_sub, hw0] <;> exact rfl) ?_
    dsimp only [after, leaving]
    repeat refine Wp.seq ?_
    refine Wp.runS (by simp only [runS, stepO, stepW, stepV, keep, guardOf, wantG, wantV, aop, binA, aev, flat, if_true, if_false, Option.bind_some, Option.map_some, Frm.put, look, setk, Nat.reduceLT, Nat.reduceEqDiff, evs, evp, evo, List.getElem?_toArray, List.getElem?_cons_succ, List.getElem?_cons_zero, Bool.false_eq_true, Bool.true_eq_false, beq_self_eq_true, beq_ft, beq_tf, notNil, Bool.not_true, Bool.not_false, reduceCtorEq, abuiltin, aextract, abin_int, ai_gtr] <;> exact rfl) ?_
    dsimp only [after, leaving]
    by_cases hgone : (0 : Int) < (l.length : Int) - lim
    · repeat refine Wp.seq ?_
      refine Wp.condT (by simp only [runS, stepO, stepW, stepV, keep, guardOf, wantG, wantV, aop, binA, aev, flat, if_true, if_false, Option.bind_some, Option.map_some, Frm.put, look, setk, Nat.reduceLT, Nat.reduceEqDiff, evs, evp, evo, List.getElem?_toArray, List.getElem?_cons_succ, List.getElem?_cons_zero, Bool.false_eq_true, Bool.true_eq_false, beq_self_eq_true, beq_ft, beq_tf, notNil, Bool.not_true, Bool.not_false, reduceCtorEq, abuiltin, aextract, decide_eq_true hgone]) ?_
      have hwr : IntKind.i64.wrap ((out.length : Int) + ((l.length : Int) - lim)) = ((out.length + (l.length - lim) : Nat) : Int) := by rw [wrap_in (by omega) (by omega)]; omega
      repeat refine Wp.seq ?_
      refine Wp.runS (by simp only [runS, stepO, stepW, stepV, keep, guardOf, wantG, wantV, aop, binA, aev, flat, if_true, if_false, Option.bind_some, Option.map_some, Frm.put, look, setk, Nat.reduceLT, Nat.reduceEqDiff, evs, evp, evo, List.getElem?_toArray, List.getElem?_cons_succ, List.getElem?_cons_zero, Bool.false_eq_true, Bool.true_eq_false, beq_self_eq_true, beq_ft, beq_tf, notNil, Bool.not_true, Bool.not_false, reduceCtorEq, abuiltin, aextract, fa2, Nat.zero_add, aload_cell agg3, Heap.ld_of hg (ringVs_end ks lim out.length), abin_int, ai_add, hwr, store_end hg] <;> exact rfl) ?_
      dsimp only [after, leaving]
      have hst : ∀ hh, aslice Try.prog hh 9 (.string (bs l)) (some (.int .i64 ((l.length : Int) - lim))) none none = some (.string (bs (l.drop (l.length - lim))), hh) := by
        intro hh
        rw [aslice_str Try.underlying9 (by omega) (by simp only [bs_size]; omega), show ((l.length : Int) - lim).toNat = l.length - lim by omega, bs_size, bs_drop]
      repeat refine Wp.seq ?_
      refine Wp.runS (by simp only [runS, stepO, stepW, stepV, keep, guardOf, wantG, wantV, aop, binA, aev, flat, if_true, if_false, Option.bind_some, Option.map_some, Frm.put, look, setk, Nat.reduceLT, Nat.reduceEqDiff, evs, evp, evo, List.getElem?_toArray, List.getElem?_cons_succ, List.getElem?_cons_zero, Bool.false_eq_true, Bool.true_eq_false, beq_self_eq_true, beq_ft, beq_tf, notNil, Bool.not_true, Bool.not_false, reduceCtorEq, abuiltin, aextract, hst] <;> exact rfl) ?_
      dsimp only [after, leaving]
      refine ⟨rfl, out.length + (l.length - lim), ks, _, by simp, ?_, rfl, rfl, ?_, rfl⟩
      · intro q hq hT
        simp only [List.length_append] at hT
        omega
      · rw [List.drop_append, List.drop_of_length_le (l := out) (by omega), List.nil_append, show out.length + (l.length - lim) - out.length = l.length - lim by omega]
        rfl
    · repeat refine Wp.seq ?_
      refine Wp.condF (by simp only [runS, stepO, stepW, stepV, keep, guardOf, wantG, wantV, aop, binA, aev, flat, if_true, if_false, Option.bind_some, Option.map_some, Frm.put, look, setk, Nat.reduceLT, Nat.reduceEqDiff, evs, evp, evo, List.getElem?_toArray, List.getElem?_cons_succ, List.getElem?_cons_zero, Bool.false_eq_true, Bool.true_eq_false, beq_self_eq_true, beq_ft, beq_tf, notNil, Bool.not_true, Bool.not_false, reduceCtorEq, abuiltin, aextract, decide_eq_false hgone]) ?_
      repeat refine Wp.seq ?_
      refine Wp.skip ?_
      dsimp only [after, leaving]
      refine ⟨rfl, out.length, ks, _, by simp, ?_, rfl, rfl, ?_, hg'.symm⟩
      · intro q hq hT
        simp only [List.length_append] at hT
        rw [List.getElem?_append_left hq]
        exact hk q hq (by omega)
      · simp [look]
end Go.Mini
