/-
  LEX, part V: Scan, as the document tells it.
-/
import Derived.Test.YtbcdlipddmoobaaLexU
set_option linter.unusedSimpArgs false
set_option maxHeartbeats 4000000
namespace Go.Mini
open Go.Proofs

def intV (n : Nat) : Value := .int .i64 n
theorem push3 {H : Heap} {ps : List Nat} {vp : Value} (n : Nat) (o : Own H vp 3 ps.length (ps.map intV)) (hb : ps.length ≤ 1000000) :
    abuildSlice Try.prog H 54 1 [(0, .int .i64 n)] = some (.slice (some ⟨H.next, 0, none⟩) 1 1, H.alloc (.row { vs := [.int .i64 n], elem := 3 })) ∧
    ∃ vp' H', aappend Try.prog (H.alloc (.row { vs := [.int .i64 n], elem := 3 })) 54 54 vp (.slice (some ⟨H.next, 0, none⟩) 1 1) = some (vp', H') ∧ Own H' vp' 3 (ps ++ [n]).length ((ps ++ [n]).map intV) ∧ KeepsE 3 H H' := by
  obtain ⟨h1, v', h', h2, h3, h4, _, _, _⟩ := own_push (w := .int .i64 n) Try.underlying54 elem3 (by omega) o (by simp) rfl rfl (by omega) (by omega)
  exact ⟨h1, v', h', h2, by simpa [Value.cells, intV] using h3, h4⟩
theorem push5 {H : Heap} {o : List UInt8} {vo : Value} (c : UInt8) (q : Own H vo 5 o.length (o.map byteV)) (hb : o.length ≤ 1000000) :
    abuildSlice Try.prog H 49 1 [(0, byteV c)] = some (.slice (some ⟨H.next, 0, none⟩) 1 1, H.alloc (.row { vs := [byteV c], elem := 5 })) ∧
    ∃ vo' H', aappend Try.prog (H.alloc (.row { vs := [byteV c], elem := 5 })) 49 49 vo (.slice (some ⟨H.next, 0, none⟩) 1 1) = some (vo', H') ∧ Own H' vo' 5 (o ++ [c]).length ((o ++ [c]).map byteV) ∧ KeepsE 5 H H' := by
  obtain ⟨h1, v', h', h2, h3, h4, _, _, _⟩ := own_push (w := byteV c) Try.underlying49 elem5 (by omega) q (by simp) rfl rfl (by omega) (by omega)
  exact ⟨h1, v', h', h2, by simpa [Value.cells, byteV] using h3, h4⟩
def ScanRR (R : SR) (r : Ending) (h' : Heap) : Prop := match R with
  | .ok out k => ∃ vp ps, r = .returned (.tuple #[.string (bs out), vp, .int .i64 (k + 1 : Nat), .bool true]) ∧ Own h' vp 3 (ps ++ [k]).length ((ps ++ [k]).map intV) ∧ ps.length < k ∧ k < 1000000
  | .bad k => r = .returned (.tuple #[.string (bs []), .slice none 0 0, .int .i64 k, .bool false])
  | .long _ => False
structure ScanRX where
  k : Nat
  o : List UInt8
  ps : List Nat
  vo : Value
  vp : Value
  H : Heap
theorem scanF_free (f : Nat) (s : List UInt8) (k : Nat) (o : List UInt8) : scanF (-1) (f + 1) s k o = if s.head? = some 34 then .ok o k else match signAt s with
      | .inl j => .bad (k + j)
      | .inr (c, n) => scanF (-1) f (s.drop n) (k + n) (o ++ [c]) := by
  have : ¬ ((o.length : Int) = -1 ∧ s.head? ≠ some 34) := by omega
  rw [scanF, if_neg this]
  split
  · rfl
  · cases signAt s <;> rfl
theorem scanR_spec (h : Heap) (T : List UInt8) (hT : T.length < 1000000) :
    Does Try.prog 0 (GoodE Try.prog (baseM 0)) 33 [.string (bs T), .int .i64 0] h fun r h' => Keeps h h' ∧ ScanRR (scanQ (-1) T) r h' := by
  have c34 : canEnter Try.prog 34 = true := by kernel_rfl
  refine Does.body Try.func33 rfl ?_
  have hn : enterF Try.f33 [.string (bs T), .int .i64 0] = ⟨60, [(0, .string (bs T)), (1, .int .i64 0)], []⟩ := rfl
  rw [hn]; clear hn
  repeat refine Wp.seq ?_
  refine Wp.runS (by simp only [runS, stepO, stepW, stepV, keep, guardOf, wantG, wantV, aop, binA, aev, flat, if_true, if_false, Option.bind_some, Option.map_some, Frm.put, look, setk, Nat.reduceLT, Nat.reduceEqDiff, evs, evp, evo, List.getElem?_toArray, List.getElem?_cons_succ, List.getElem?_cons_zero, Bool.false_eq_true, Bool.true_eq_false, beq_self_eq_true, beq_ft, beq_tf, notNil, Bool.not_true, Bool.not_false, reduceCtorEq, abuiltin, aextract] <;> exact rfl) ?_
  dsimp only [after, leaving]
  by_cases hq : ¬ T.head? = some 34
  · have hR : scanQ (-1) T = .bad 0 := by unfold scanQ; rw [if_neg hq]
    rw [hR]
    cases T with
    | nil =>
      repeat refine Wp.seq ?_
      refine Wp.runS (by simp only [runS, stepO, stepW, stepV, keep, guardOf, wantG, wantV, aop, binA, aev, flat, if_true, if_false, Option.bind_some, Option.map_some, Frm.put, look, setk, Nat.reduceLT, Nat.reduceEqDiff, evs, evp, evo, List.getElem?_toArray, List.getElem?_cons_succ, List.getElem?_cons_zero, Bool.false_eq_true, Bool.true_eq_false, beq_self_eq_true, beq_ft, beq_tf, notNil, Bool.not_true, Bool.not_false, reduceCtorEq, abuiltin, aextract, alen_str Try.underlying9, bs_size, List.length_nil, abin_int, ai_geq, decide_eq_true (show (((0 : Nat) : Int)) ≤ 0 by omega)] <;> exact rfl) ?_
      dsimp only [after, leaving]
      repeat refine Wp.seq ?_
      refine Wp.condT (by simp only [runS, stepO, stepW, stepV, keep, guardOf, wantG, wantV, aop, binA, aev, flat, if_true, if_false, Option.bind_some, Option.map_some, Frm.put, look, setk, Nat.reduceLT, Nat.reduceEqDiff, evs, evp, evo, List.getElem?_toArray, List.getElem?_cons_succ, List.getElem?_cons_zero, Bool.false_eq_true, Bool.true_eq_false, beq_self_eq_true, beq_ft, beq_tf, notNil, Bool.not_true, Bool.not_false, reduceCtorEq, abuiltin, aextract]) ?_
      repeat refine Wp.seq ?_
      refine Wp.runS (by simp only [runS, stepO, stepW, stepV, keep, guardOf, wantG, wantV, aop, binA, aev, flat, if_true, if_false, Option.bind_some, Option.map_some, Frm.put, look, setk, Nat.reduceLT, Nat.reduceEqDiff, evs, evp, evo, List.getElem?_toArray, List.getElem?_cons_succ, List.getElem?_cons_zero, Bool.false_eq_true, Bool.true_eq_false, beq_self_eq_true, beq_ft, beq_tf, notNil, Bool.not_true, Bool.not_false, reduceCtorEq, abuiltin, aextract] <;> exact rfl) ?_
      dsimp only [after, leaving]
      repeat refine Wp.seq ?_
      refine Wp.ret ?_
      dsimp only [after, leaving]
      exact ⟨rfl, rfl, _, rfl, Keeps.refl _, rfl⟩
    | cons c T =>
      have e : ((c.toNat : Int) != 34) = true := by
        rw [bne_iff_ne]; intro q; exact hq (by rw [(byte_eq c 34 (by omega)).2 (by omega)]; rfl)
      have hix : aindex Try.prog 9 (.string (bs (c :: T))) (.int .i64 0) = some (byteV c) := aindex_bs Try.underlying9 (j := 0) rfl
      repeat refine Wp.seq ?_
      refine Wp.runS (by simp only [runS, stepO, stepW, stepV, keep, guardOf, wantG, wantV, aop, binA, aev, flat, if_true, if_false, Option.bind_some, Option.map_some, Frm.put, look, setk, Nat.reduceLT, Nat.reduceEqDiff, evs, evp, evo, List.getElem?_toArray, List.getElem?_cons_succ, List.getElem?_cons_zero, Bool.false_eq_true, Bool.true_eq_false, beq_self_eq_true, beq_ft, beq_tf, notNil, Bool.not_true, Bool.not_false, reduceCtorEq, abuiltin, aextract, alen_str Try.underlying9, bs_size, abin_int, ai_geq, decide_eq_false (show ¬ (((c :: T).length : Nat) : Int) ≤ 0 by simp), hix, byteV, ai_neq, e] <;> exact rfl) ?_
      dsimp only [after, leaving]
      repeat refine Wp.seq ?_
      refine Wp.condT (by simp only [runS, stepO, stepW, stepV, keep, guardOf, wantG, wantV, aop, binA, aev, flat, if_true, if_false, Option.bind_some, Option.map_some, Frm.put, look, setk, Nat.reduceLT, Nat.reduceEqDiff, evs, evp, evo, List.getElem?_toArray, List.getElem?_cons_succ, List.getElem?_cons_zero, Bool.false_eq_true, Bool.true_eq_false, beq_self_eq_true, beq_ft, beq_tf, notNil, Bool.not_true, Bool.not_false, reduceCtorEq, abuiltin, aextract]) ?_
      repeat refine Wp.seq ?_
      refine Wp.runS (by simp only [runS, stepO, stepW, stepV, keep, guardOf, wantG, wantV, aop, binA, aev, flat, if_true, if_false, Option.bind_some, Option.map_some, Frm.put, look, setk, Nat.reduceLT, Nat.reduceEqDiff, evs, evp, evo, List.getElem?_toArray, List.getElem?_cons_succ, List.getElem?_cons_zero, Bool.false_eq_true, Bool.true_eq_false, beq_self_eq_true, beq_ft, beq_tf, notNil, Bool.not_true, Bool.not_false, reduceCtorEq, abuiltin, aextract] <;> exact rfl) ?_
      dsimp only [after, leaving]
      repeat refine Wp.seq ?_
      refine Wp.ret ?_
      dsimp only [after, leaving]
      exact ⟨rfl, rfl, _, rfl, Keeps.refl _, rfl⟩
  replace hq : T.head? = some 34 := Classical.not_not.1 hq
  have h0 : T[0]? = some 34 := by rw [← List.head?_eq_getElem?]; exact hq
  have hlen : 1 ≤ T.length := (List.getElem?_eq_some_iff.1 h0).1
  have hix : aindex Try.prog 9 (.string (bs T)) (.int .i64 0) = some (byteV 34) := aindex_bs Try.underlying9 (j := 0) h0
  have hw0 : IntKind.i64.wrap (0 + 1) = ((1 : Nat) : Int) := by decide
  repeat refine Wp.seq ?_
  refine Wp.runS (by simp only [runS, stepO, stepW, stepV, keep, guardOf, wantG, wantV, aop, binA, aev, flat, if_true, if_false, Option.bind_some, Option.map_some, Frm.put, look, setk, Nat.reduceLT, Nat.reduceEqDiff, evs, evp, evo, List.getElem?_toArray, List.getElem?_cons_succ, List.getElem?_cons_zero, Bool.false_eq_true, Bool.true_eq_false, beq_self_eq_true, beq_ft, beq_tf, notNil, Bool.not_true, Bool.not_false, reduceCtorEq, abuiltin, aextract, alen_str Try.underlying9, bs_size, abin_int, ai_geq, decide_eq_false (show ¬ ((T.length : Nat) : Int) ≤ 0 by omega), hix, byteV, ai_neq, (show (((34 : UInt8).toNat : Int) != 34) = false from rfl)] <;> exact rfl) ?_
  dsimp only [after, leaving]
  repeat refine Wp.seq ?_
  refine Wp.condF (by simp only [runS, stepO, stepW, stepV, keep, guardOf, wantG, wantV, aop, binA, aev, flat, if_true, if_false, Option.bind_some, Option.map_some, Frm.put, look, setk, Nat.reduceLT, Nat.reduceEqDiff, evs, evp, evo, List.getElem?_toArray, List.getElem?_cons_succ, List.getElem?_cons_zero, Bool.false_eq_true, Bool.true_eq_false, beq_self_eq_true, beq_ft, beq_tf, notNil, Bool.not_true, Bool.not_false, reduceCtorEq, abuiltin, aextract]) ?_
  repeat refine Wp.seq ?_
  refine Wp.skip ?_
  dsimp only [after, leaving]
  repeat refine Wp.seq ?_
  refine Wp.runS (by simp only [runS, stepO, stepW, stepV, keep, guardOf, wantG, wantV, aop, binA, aev, flat, if_true, if_false, Option.bind_some, Option.map_some, Frm.put, look, setk, Nat.reduceLT, Nat.reduceEqDiff, evs, evp, evo, List.getElem?_toArray, List.getElem?_cons_succ, List.getElem?_cons_zero, Bool.false_eq_true, Bool.true_eq_false, beq_self_eq_true, beq_ft, beq_tf, notNil, Bool.not_true, Bool.not_false, reduceCtorEq, abuiltin, aextract, abin_int, ai_add, hw0] <;> exact rfl) ?_
  dsimp only [after, leaving]
  repeat refine Wp.seq ?_
  refine Wp.runS (by simp only [runS, stepO, stepW, stepV, keep, guardOf, wantG, wantV, aop, binA, aev, flat, if_true, if_false, Option.bind_some, Option.map_some, Frm.put, look, setk, Nat.reduceLT, Nat.reduceEqDiff, evs, evp, evo, List.getElem?_toArray, List.getElem?_cons_succ, List.getElem?_cons_zero, Bool.false_eq_true, Bool.true_eq_false, beq_self_eq_true, beq_ft, beq_tf, notNil, Bool.not_true, Bool.not_false, reduceCtorEq, abuiltin, aextract] <;> exact rfl) ?_
  dsimp only [after, leaving]
  repeat refine Wp.seq ?_
  refine Wp.runS (by simp only [runS, stepO, stepW, stepV, keep, guardOf, wantG, wantV, aop, binA, aev, flat, if_true, if_false, Option.bind_some, Option.map_some, Frm.put, look, setk, Nat.reduceLT, Nat.reduceEqDiff, evs, evp, evo, List.getElem?_toArray, List.getElem?_cons_succ, List.getElem?_cons_zero, Bool.false_eq_true, Bool.true_eq_false, beq_self_eq_true, beq_ft, beq_tf, notNil, Bool.not_true, Bool.not_false, reduceCtorEq, abuiltin, aextract] <;> exact rfl) ?_
  dsimp only [after, leaving]
  have hR : scanF (-1) (T.length + 1) (T.drop 1) 1 [] = scanQ (-1) T := by unfold scanQ; rw [if_pos hq]
  generalize scanQ (-1) T = R at hR ⊢
  repeat refine Wp.seq ?_
  refine Wp.block ?_
  refine Wp.loopI (X := ScanRX) (fun x => [(0, .string (bs T)), (1, .int .i64 (x.k : Nat)), (8, x.vo), (9, x.vp)]) (fun x => x.H)
    (fun x => Keeps h x.H ∧ Own x.H x.vo 5 x.o.length (x.o.map byteV) ∧ Own x.H x.vp 3 x.ps.length (x.ps.map intV) ∧ x.k ≤ T.length ∧ x.o.length < x.k ∧ x.ps.length < x.k ∧ ∃ f, scanF (-1) f (T.drop x.k) x.k x.o = R ∧ T.length - x.k < f) (fun x => T.length - x.k) ⟨1, [], [], _, _, h⟩
    ⟨Keeps.refl _, Own.nil _ _, Own.nil _ _, hlen, by simp, by simp, T.length + 1, hR, by simp; omega⟩ ⟨rfl, rfl, rfl, rfl, trivial⟩ rfl ?_
  rintro ⟨k, o, ps, vo, vp, H⟩ ⟨hkeep, ho, hp, hk, hol, hps, f, hf, hfuel⟩
  simp only [] at ho hp hk hol hps hf hfuel ⊢
  obtain ⟨f, rfl⟩ : ∃ f', f = f' + 1 := ⟨f - 1, by omega⟩
  rw [scanF_free, List.head?_drop] at hf
  repeat refine Wp.seq ?_
  refine Wp.block ?_
  obtain ⟨a1, vp1, H2, a2, hp2, kp⟩ := push3 k hp (by omega)
  repeat refine Wp.seq ?_
  refine Wp.regionAs (is := List.range' 0 2 ++ (2 :: (3 :: (List.range' 4 1 ++ [])))) rfl ?_
  refine WpO.runS 2 (by simp only [List.drop_succ_cons, List.drop_zero, List.take_succ_cons, List.take_zero, runS, stepO, stepW, stepV, keep, guardOf, wantG, wantV, aop, binA, aev, flat, if_true, if_false, Option.bind_some, Option.map_some, Frm.put, look, setk, Nat.reduceLT, Nat.reduceEqDiff, evs, evp, evo, List.getElem?_toArray, List.getElem?_cons_succ, List.getElem?_cons_zero, Bool.false_eq_true, Bool.true_eq_false, beq_self_eq_true, beq_ft, beq_tf, notNil, Bool.not_true, Bool.not_false, reduceCtorEq, abuiltin, aextract] <;> exact rfl) (by decide) ?_
  refine WpO.valS (aop_bslice rfl (by simp only [evp, aev, look, Option.bind_some, if_true, if_false, Nat.reduceEqDiff] <;> exact rfl) a1) rfl rfl (by simp only [runS, stepO, stepW, stepV, keep, guardOf, wantG, wantV, aop, binA, aev, flat, if_true, if_false, Option.bind_some, Option.map_some, Frm.put, look, setk, Nat.reduceLT, Nat.reduceEqDiff, evs, evp, evo, List.getElem?_toArray, List.getElem?_cons_succ, List.getElem?_cons_zero, Bool.false_eq_true, Bool.true_eq_false, beq_self_eq_true, beq_ft, beq_tf, notNil, Bool.not_true, Bool.not_false, reduceCtorEq, abuiltin, aextract] <;> exact rfl) ?_
  refine WpO.valS (aop_append rfl (by simp only [evs, aev, look, Option.bind_some, if_true, if_false, Nat.reduceEqDiff] <;> exact rfl) a2) rfl rfl (by simp only [runS, stepO, stepW, stepV, keep, guardOf, wantG, wantV, aop, binA, aev, flat, if_true, if_false, Option.bind_some, Option.map_some, Frm.put, look, setk, Nat.reduceLT, Nat.reduceEqDiff, evs, evp, evo, List.getElem?_toArray, List.getElem?_cons_succ, List.getElem?_cons_zero, Bool.false_eq_true, Bool.true_eq_false, beq_self_eq_true, beq_ft, beq_tf, notNil, Bool.not_true, Bool.not_false, reduceCtorEq, abuiltin, aextract] <;> exact rfl) ?_
  refine WpO.runS 1 (by simp only [List.drop_succ_cons, List.drop_zero, List.take_succ_cons, List.take_zero, runS, stepO, stepW, stepV, keep, guardOf, wantG, wantV, aop, binA, aev, flat, if_true, if_false, Option.bind_some, Option.map_some, Frm.put, look, setk, Nat.reduceLT, Nat.reduceEqDiff, evs, evp, evo, List.getElem?_toArray, List.getElem?_cons_succ, List.getElem?_cons_zero, Bool.false_eq_true, Bool.true_eq_false, beq_self_eq_true, beq_ft, beq_tf, notNil, Bool.not_true, Bool.not_false, reduceCtorEq, abuiltin, aextract] <;> exact rfl) (by decide) ?_
  refine WpO.nil ?_
  dsimp only [after, leaving]
  clear a1 a2
  have ho2 := ho.keep kp (by decide)
  replace hkeep := hkeep.trans kp.keeps
  clear ho hp kp
  by_cases hq2 : T[k]? = some 34
  · rw [if_pos hq2] at hf
    have hklt := (List.getElem?_eq_some_iff.1 hq2).1
    obtain ⟨q1, q2⟩ := conv_own Try.underlying49 Try.underlying9 Try.underlying5 ho2
    have hw : IntKind.i64.wrap ((k : Int) + 1) = ((k + 1 : Nat) : Int) := by rw [wrap_in (by omega) (by omega)]; omega
    repeat refine Wp.seq ?_
    refine Wp.runS (by simp only [runS, stepO, stepW, stepV, keep, guardOf, wantG, wantV, aop, binA, aev, flat, if_true, if_false, Option.bind_some, Option.map_some, Frm.put, look, setk, Nat.reduceLT, Nat.reduceEqDiff, evs, evp, evo, List.getElem?_toArray, List.getElem?_cons_succ, List.getElem?_cons_zero, Bool.false_eq_true, Bool.true_eq_false, beq_self_eq_true, beq_ft, beq_tf, notNil, Bool.not_true, Bool.not_false, reduceCtorEq, abuiltin, aextract, alen_str Try.underlying9, bs_size, abin_int, ai_lss, decide_eq_true (show (k : Int) < (T.length : Int) by omega), aindex_bs Try.underlying9 hq2, byteV, ai_eql, (show (((34 : UInt8).toNat : Int) == 34) = true from rfl)] <;> exact rfl) ?_
    dsimp only [after, leaving]
    repeat refine Wp.seq ?_
    refine Wp.condT (by simp only [runS, stepO, stepW, stepV, keep, guardOf, wantG, wantV, aop, binA, aev, flat, if_true, if_false, Option.bind_some, Option.map_some, Frm.put, look, setk, Nat.reduceLT, Nat.reduceEqDiff, evs, evp, evo, List.getElem?_toArray, List.getElem?_cons_succ, List.getElem?_cons_zero, Bool.false_eq_true, Bool.true_eq_false, beq_self_eq_true, beq_ft, beq_tf, notNil, Bool.not_true, Bool.not_false, reduceCtorEq, abuiltin, aextract]) ?_
    repeat refine Wp.seq ?_
    refine Wp.runS (by simp only [runS, stepO, stepW, stepV, keep, guardOf, wantG, wantV, aop, binA, aev, flat, if_true, if_false, Option.bind_some, Option.map_some, Frm.put, look, setk, Nat.reduceLT, Nat.reduceEqDiff, evs, evp, evo, List.getElem?_toArray, List.getElem?_cons_succ, List.getElem?_cons_zero, Bool.false_eq_true, Bool.true_eq_false, beq_self_eq_true, beq_ft, beq_tf, notNil, Bool.not_true, Bool.not_false, reduceCtorEq, abuiltin, aextract, q1, q2, abin_int, ai_add, hw] <;> exact rfl) ?_
    dsimp only [after, leaving]
    repeat refine Wp.seq ?_
    refine Wp.ret ?_
    dsimp only [after, leaving]
    refine ⟨rfl, rfl, _, rfl, ?_⟩
    rw [← hf]
    exact ⟨hkeep, vp1, ps, rfl, hp2, hps, by omega⟩
  rw [if_neg hq2] at hf
  refine Wp.seq ?_
  repeat refine Wp.seq ?_
  refine Wp.cut (fun fr u h' => u = none ∧ h' = H2 ∧ ∃ sl, fr = ⟨60, sl, []⟩ ∧ holds [(0, .string (bs T)), (1, .int .i64 (k : Nat)), (8, vo), (9, vp1), (39, .bool false)] sl) ?_ ?_
  rotate_left
  · by_cases hlt : (k : Int) < (T.length : Int)
    · obtain ⟨c, hc⟩ : ∃ c, T[k]? = some c := ⟨_, List.getElem?_eq_getElem (by omega)⟩
      have e : ((c.toNat : Int) == 34) = false := by
        rw [beq_eq_false_iff_ne]; intro q; exact hq2 (by rw [hc, (byte_eq c 34 (by omega)).2 (by omega)]; rfl)
      repeat refine Wp.seq ?_
      refine Wp.runS (by simp only [runS, stepO, stepW, stepV, keep, guardOf, wantG, wantV, aop, binA, aev, flat, if_true, if_false, Option.bind_some, Option.map_some, Frm.put, look, setk, Nat.reduceLT, Nat.reduceEqDiff, evs, evp, evo, List.getElem?_toArray, List.getElem?_cons_succ, List.getElem?_cons_zero, Bool.false_eq_true, Bool.true_eq_false, beq_self_eq_true, beq_ft, beq_tf, notNil, Bool.not_true, Bool.not_false, reduceCtorEq, abuiltin, aextract, alen_str Try.underlying9, bs_size, abin_int, ai_lss, decide_eq_true hlt, aindex_bs Try.underlying9 hc, byteV, ai_eql, e] <;> exact rfl) ?_
      dsimp only [after, leaving]
      exact ⟨rfl, rfl, _, rfl, rfl, rfl, rfl, rfl, rfl, trivial⟩
    · repeat refine Wp.seq ?_
      refine Wp.runS (by simp only [runS, stepO, stepW, stepV, keep, guardOf, wantG, wantV, aop, binA, aev, flat, if_true, if_false, Option.bind_some, Option.map_some, Frm.put, look, setk, Nat.reduceLT, Nat.reduceEqDiff, evs, evp, evo, List.getElem?_toArray, List.getElem?_cons_succ, List.getElem?_cons_zero, Bool.false_eq_true, Bool.true_eq_false, beq_self_eq_true, beq_ft, beq_tf, notNil, Bool.not_true, Bool.not_false, reduceCtorEq, abuiltin, aextract, alen_str Try.underlying9, bs_size, abin_int, ai_lss, decide_eq_false hlt] <;> exact rfl) ?_
      dsimp only [after, leaving]
      exact ⟨rfl, rfl, _, rfl, rfl, rfl, rfl, rfl, rfl, trivial⟩
  rintro fr u h9 ⟨rfl, hH, sl, rfl, hs⟩
  obtain rfl := hH.symm
  clear hH
  dsimp only [after, leaving]
  refine Wp.weaken (Frm.le_of hs) ?_
  clear hs sl
  repeat refine Wp.seq ?_
  refine Wp.condF (by simp only [runS, stepO, stepW, stepV, keep, guardOf, wantG, wantV, aop, binA, aev, flat, if_true, if_false, Option.bind_some, Option.map_some, Frm.put, look, setk, Nat.reduceLT, Nat.reduceEqDiff, evs, evp, evo, List.getElem?_toArray, List.getElem?_cons_succ, List.getElem?_cons_zero, Bool.false_eq_true, Bool.true_eq_false, beq_self_eq_true, beq_ft, beq_tf, notNil, Bool.not_true, Bool.not_false, reduceCtorEq, abuiltin, aextract]) ?_
  repeat refine Wp.seq ?_
  refine Wp.skip ?_
  dsimp only [after, leaving]
  have hle := signAt_le (T.drop k)
  rw [List.length_drop] at hle
  repeat refine Wp.seq ?_
  refine Wp.regionAs (is := List.range' 0 2 ++ (2 :: (List.range' 3 7 ++ []))) rfl ?_
  refine WpO.runS 2 (by simp only [List.drop_succ_cons, List.drop_zero, List.take_succ_cons, List.take_zero, runS, stepO, stepW, stepV, keep, guardOf, wantG, wantV, aop, binA, aev, flat, if_true, if_false, Option.bind_some, Option.map_some, Frm.put, look, setk, Nat.reduceLT, Nat.reduceEqDiff, evs, evp, evo, List.getElem?_toArray, List.getElem?_cons_succ, List.getElem?_cons_zero, Bool.false_eq_true, Bool.true_eq_false, beq_self_eq_true, beq_ft, beq_tf, notNil, Bool.not_true, Bool.not_false, reduceCtorEq, abuiltin, aextract] <;> exact rfl) (by decide) ?_
  refine WpO.callR (byteAt_spec H2 T k hk (by omega)) rfl (by simp only [runS, stepO, stepW, stepV, keep, guardOf, wantG, wantV, aop, binA, aev, flat, if_true, if_false, Option.bind_some, Option.map_some, Frm.put, look, setk, Nat.reduceLT, Nat.reduceEqDiff, evs, evp, evo, List.getElem?_toArray, List.getElem?_cons_succ, List.getElem?_cons_zero, Bool.false_eq_true, Bool.true_eq_false, beq_self_eq_true, beq_ft, beq_tf, notNil, Bool.not_true, Bool.not_false, reduceCtorEq, abuiltin, aextract, c34]) (by simp only [calleeOf, fnOf, List.append_nil, List.nil_append, runS, stepO, stepW, stepV, keep, guardOf, wantG, wantV, aop, binA, aev, flat, if_true, if_false, Option.bind_some, Option.map_some, Frm.put, look, setk, Nat.reduceLT, Nat.reduceEqDiff, evs, evp, evo, List.getElem?_toArray, List.getElem?_cons_succ, List.getElem?_cons_zero, Bool.false_eq_true, Bool.true_eq_false, beq_self_eq_true, beq_ft, beq_tf, notNil, Bool.not_true, Bool.not_false, reduceCtorEq, abuiltin, aextract, c34] <;> exact rfl) ?_
  rintro _ h9 ⟨rfl, hh9⟩
  obtain rfl := hh9.symm
  clear hh9
  refine ⟨_, _, rfl, by simp only [runS, stepO, stepW, stepV, keep, guardOf, wantG, wantV, aop, binA, aev, flat, if_true, if_false, Option.bind_some, Option.map_some, Frm.put, look, setk, Nat.reduceLT, Nat.reduceEqDiff, evs, evp, evo, List.getElem?_toArray, List.getElem?_cons_succ, List.getElem?_cons_zero, Bool.false_eq_true, Bool.true_eq_false, beq_self_eq_true, beq_ft, beq_tf, notNil, Bool.not_true, Bool.not_false, reduceCtorEq, abuiltin, aextract]; exact rfl, ?_⟩
  cases hs : signAt (T.drop k) with
  | inl j =>
    rw [hs] at hf
    simp only [byteAtV]
    refine WpO.runS 7 (by simp only [List.drop_succ_cons, List.drop_zero, List.take_succ_cons, List.take_zero, runS, stepO, stepW, stepV, keep, guardOf, wantG, wantV, aop, binA, aev, flat, if_true, if_false, Option.bind_some, Option.map_some, Frm.put, look, setk, Nat.reduceLT, Nat.reduceEqDiff, evs, evp, evo, List.getElem?_toArray, List.getElem?_cons_succ, List.getElem?_cons_zero, Bool.false_eq_true, Bool.true_eq_false, beq_self_eq_true, beq_ft, beq_tf, notNil, Bool.not_true, Bool.not_false, reduceCtorEq, abuiltin, aextract] <;> exact rfl) (by decide) ?_
    refine WpO.nil ?_
    dsimp only [after, leaving]
    repeat refine Wp.seq ?_
    refine Wp.runS (by simp only [runS, stepO, stepW, stepV, keep, guardOf, wantG, wantV, aop, binA, aev, flat, if_true, if_false, Option.bind_some, Option.map_some, Frm.put, look, setk, Nat.reduceLT, Nat.reduceEqDiff, evs, evp, evo, List.getElem?_toArray, List.getElem?_cons_succ, List.getElem?_cons_zero, Bool.false_eq_true, Bool.true_eq_false, beq_self_eq_true, beq_ft, beq_tf, notNil, Bool.not_true, Bool.not_false, reduceCtorEq, abuiltin, aextract] <;> exact rfl) ?_
    dsimp only [after, leaving]
    repeat refine Wp.seq ?_
    refine Wp.condT (by simp only [runS, stepO, stepW, stepV, keep, guardOf, wantG, wantV, aop, binA, aev, flat, if_true, if_false, Option.bind_some, Option.map_some, Frm.put, look, setk, Nat.reduceLT, Nat.reduceEqDiff, evs, evp, evo, List.getElem?_toArray, List.getElem?_cons_succ, List.getElem?_cons_zero, Bool.false_eq_true, Bool.true_eq_false, beq_self_eq_true, beq_ft, beq_tf, notNil, Bool.not_true, Bool.not_false, reduceCtorEq, abuiltin, aextract]) ?_
    repeat refine Wp.seq ?_
    refine Wp.runS (by simp only [runS, stepO, stepW, stepV, keep, guardOf, wantG, wantV, aop, binA, aev, flat, if_true, if_false, Option.bind_some, Option.map_some, Frm.put, look, setk, Nat.reduceLT, Nat.reduceEqDiff, evs, evp, evo, List.getElem?_toArray, List.getElem?_cons_succ, List.getElem?_cons_zero, Bool.false_eq_true, Bool.true_eq_false, beq_self_eq_true, beq_ft, beq_tf, notNil, Bool.not_true, Bool.not_false, reduceCtorEq, abuiltin, aextract] <;> exact rfl) ?_
    dsimp only [after, leaving]
    repeat refine Wp.seq ?_
    refine Wp.ret ?_
    dsimp only [after, leaving]
    refine ⟨rfl, rfl, _, rfl, ?_⟩
    rw [← hf]
    exact ⟨hkeep, rfl⟩
  | inr cn =>
    obtain ⟨c, n⟩ := cn
    have hn := signAt_pos hs
    rw [hs] at hf hle
    simp only [] at hf hle
    simp only [byteAtV]
    refine WpO.runS 7 (by simp only [List.drop_succ_cons, List.drop_zero, List.take_succ_cons, List.take_zero, runS, stepO, stepW, stepV, keep, guardOf, wantG, wantV, aop, binA, aev, flat, if_true, if_false, Option.bind_some, Option.map_some, Frm.put, look, setk, Nat.reduceLT, Nat.reduceEqDiff, evs, evp, evo, List.getElem?_toArray, List.getElem?_cons_succ, List.getElem?_cons_zero, Bool.false_eq_true, Bool.true_eq_false, beq_self_eq_true, beq_ft, beq_tf, notNil, Bool.not_true, Bool.not_false, reduceCtorEq, abuiltin, aextract] <;> exact rfl) (by decide) ?_
    refine WpO.nil ?_
    dsimp only [after, leaving]
    repeat refine Wp.seq ?_
    refine Wp.runS (by simp only [runS, stepO, stepW, stepV, keep, guardOf, wantG, wantV, aop, binA, aev, flat, if_true, if_false, Option.bind_some, Option.map_some, Frm.put, look, setk, Nat.reduceLT, Nat.reduceEqDiff, evs, evp, evo, List.getElem?_toArray, List.getElem?_cons_succ, List.getElem?_cons_zero, Bool.false_eq_true, Bool.true_eq_false, beq_self_eq_true, beq_ft, beq_tf, notNil, Bool.not_true, Bool.not_false, reduceCtorEq, abuiltin, aextract] <;> exact rfl) ?_
    dsimp only [after, leaving]
    repeat refine Wp.seq ?_
    refine Wp.condF (by simp only [runS, stepO, stepW, stepV, keep, guardOf, wantG, wantV, aop, binA, aev, flat, if_true, if_false, Option.bind_some, Option.map_some, Frm.put, look, setk, Nat.reduceLT, Nat.reduceEqDiff, evs, evp, evo, List.getElem?_toArray, List.getElem?_cons_succ, List.getElem?_cons_zero, Bool.false_eq_true, Bool.true_eq_false, beq_self_eq_true, beq_ft, beq_tf, notNil, Bool.not_true, Bool.not_false, reduceCtorEq, abuiltin, aextract]) ?_
    repeat refine Wp.seq ?_
    refine Wp.skip ?_
    dsimp only [after, leaving]
    obtain ⟨a1, vo1, H3, a2, ho3, kp⟩ := push5 c ho2 (by omega)
    repeat refine Wp.seq ?_
    refine Wp.regionAs (is := List.range' 0 2 ++ (2 :: (3 :: (List.range' 4 1 ++ [])))) rfl ?_
    refine WpO.runS 2 (by simp only [List.drop_succ_cons, List.drop_zero, List.take_succ_cons, List.take_zero, runS, stepO, stepW, stepV, keep, guardOf, wantG, wantV, aop, binA, aev, flat, if_true, if_false, Option.bind_some, Option.map_some, Frm.put, look, setk, Nat.reduceLT, Nat.reduceEqDiff, evs, evp, evo, List.getElem?_toArray, List.getElem?_cons_succ, List.getElem?_cons_zero, Bool.false_eq_true, Bool.true_eq_false, beq_self_eq_true, beq_ft, beq_tf, notNil, Bool.not_true, Bool.not_false, reduceCtorEq, abuiltin, aextract] <;> exact rfl) (by decide) ?_
    refine WpO.valS (aop_bslice rfl (by simp only [evp, aev, look, Option.bind_some, if_true, if_false, Nat.reduceEqDiff] <;> exact rfl) a1) rfl rfl (by simp only [runS, stepO, stepW, stepV, keep, guardOf, wantG, wantV, aop, binA, aev, flat, if_true, if_false, Option.bind_some, Option.map_some, Frm.put, look, setk, Nat.reduceLT, Nat.reduceEqDiff, evs, evp, evo, List.getElem?_toArray, List.getElem?_cons_succ, List.getElem?_cons_zero, Bool.false_eq_true, Bool.true_eq_false, beq_self_eq_true, beq_ft, beq_tf, notNil, Bool.not_true, Bool.not_false, reduceCtorEq, abuiltin, aextract] <;> exact rfl) ?_
    refine WpO.valS (aop_append rfl (by simp only [evs, aev, look, Option.bind_some, if_true, if_false, Nat.reduceEqDiff] <;> exact rfl) a2) rfl rfl (by simp only [runS, stepO, stepW, stepV, keep, guardOf, wantG, wantV, aop, binA, aev, flat, if_true, if_false, Option.bind_some, Option.map_some, Frm.put, look, setk, Nat.reduceLT, Nat.reduceEqDiff, evs, evp, evo, List.getElem?_toArray, List.getElem?_cons_succ, List.getElem?_cons_zero, Bool.false_eq_true, Bool.true_eq_false, beq_self_eq_true, beq_ft, beq_tf, notNil, Bool.not_true, Bool.not_false, reduceCtorEq, abuiltin, aextract] <;> exact rfl) ?_
    refine WpO.runS 1 (by simp only [List.drop_succ_cons, List.drop_zero, List.take_succ_cons, List.take_zero, runS, stepO, stepW, stepV, keep, guardOf, wantG, wantV, aop, binA, aev, flat, if_true, if_false, Option.bind_some, Option.map_some, Frm.put, look, setk, Nat.reduceLT, Nat.reduceEqDiff, evs, evp, evo, List.getElem?_toArray, List.getElem?_cons_succ, List.getElem?_cons_zero, Bool.false_eq_true, Bool.true_eq_false, beq_self_eq_true, beq_ft, beq_tf, notNil, Bool.not_true, Bool.not_false, reduceCtorEq, abuiltin, aextract] <;> exact rfl) (by decide) ?_
    refine WpO.nil ?_
    dsimp only [after, leaving]
    repeat refine Wp.seq ?_
    refine Wp.runS (by simp only [runS, stepO, stepW, stepV, keep, guardOf, wantG, wantV, aop, binA, aev, flat, if_true, if_false, Option.bind_some, Option.map_some, Frm.put, look, setk, Nat.reduceLT, Nat.reduceEqDiff, evs, evp, evo, List.getElem?_toArray, List.getElem?_cons_succ, List.getElem?_cons_zero, Bool.false_eq_true, Bool.true_eq_false, beq_self_eq_true, beq_ft, beq_tf, notNil, Bool.not_true, Bool.not_false, reduceCtorEq, abuiltin, aextract] <;> exact rfl) ?_
    dsimp only [after, leaving]
    rw [List.drop_drop] at hf
    exact ⟨⟨k + n, o ++ [c], ps ++ [k], vo1, vp1, H3⟩, _, ⟨hkeep.trans kp.keeps, ho3, hp2.keep kp (by decide), by simp only []; omega, by simp; omega, by simp; omega, f, hf, by simp only []; omega⟩, by simp only []; omega, rfl, ⟨rfl, rfl, rfl, rfl, trivial⟩, rfl, rfl⟩
end Go.Mini
