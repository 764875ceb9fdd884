/-
  LEX, part Y: the tokens of a text, as the document tells them.
-/
import Derived.Test.YtbcdlipddmoobaaLexX
set_option linter.unusedSimpArgs false
set_option maxHeartbeats 8000000
namespace Go.Mini
open Go.Proofs

theorem skipR_take (T : List UInt8) (a : Nat) (ha : a ≤ T.length) : skipR T a = a + ((T.drop a).takeWhile fun b => b != 10).length := by
  have key : ∀ X : List UInt8, (if 0 ≤ Lib.indexByte X 10 then (Lib.indexByte X 10).toNat else X.length) = (X.takeWhile fun b => b != 10).length := by
    intro X
    induction X with
    | nil => rfl
    | cons x X ih =>
      have h1 := indexByte_ge 10 X
      rw [Lib.indexByte, List.takeWhile_cons]
      by_cases hx : x = 10
      · simp [hx]
      · have e1 : (x == 10) = false := by simpa using hx
        have e2 : (x != 10) = true := by simpa using hx
        rw [e1, e2]
        simp only [Bool.false_eq_true, if_false, if_true, List.length_cons, ← ih]
        by_cases hn : Lib.indexByte X 10 = -1
        · simp [hn]
        · have e3 : (Lib.indexByte X 10 == -1) = false := by simpa using hn
          rw [e3]
          simp only [Bool.false_eq_true, if_false]
          rw [if_pos (by omega), if_pos (by omega)]
          omega
  have := key (T.drop a)
  unfold skipR
  rw [← this]
  split
  · rfl
  · rw [List.length_drop]; omega

structure LexSR (h H : Heap) (o : List Tok) (vo : Value) : Prop where
  x : H.get h.next = some (spotRow 0 0)
  o : OwnF (h.next + 1) H vo 31 o.length (o.flatMap Tok.cells)
  more : h.more H
  next : h.next + 1 ≤ H.next
section
variable {h H : Heap} {o : List Tok} {vo : Value} (st : LexSR h H o vo)
include st
theorem LexSR.later {H' : Heap} (m : H.more H') : LexSR h H' o vo :=
  ⟨m.get st.x, st.o.keep (fun j p q _ => m.get q), st.more.trans m, by have := st.next; have := m.1; omega⟩
theorem LexSR.push (t : Tok) (hb : o.length ≤ 1000000) :
    abuildSlice Try.prog H 24 1 [(0, t.val)] = some (.slice (some ⟨H.next, 0, none⟩) 1 1, H.alloc (.row { vs := t.cells, elem := 31 })) ∧
    ∃ v H', aappend Try.prog (H.alloc (.row { vs := t.cells, elem := 31 })) 24 24 vo (.slice (some ⟨H.next, 0, none⟩) 1 1) = some (v, H') ∧ LexSR h H' (o ++ [t]) v := by
  obtain ⟨h1, v', h', h2, h3, h4, h5, h6⟩ := own_pushF (w := t.val) Try.underlying24 elem31 (by omega) st.o st.next (cells_len o) rfl rfl (by omega) (by omega)
  refine ⟨h1, v', h', h2, h5 _ _ st.x rfl, ?_, ⟨by have := st.more.1; omega, fun j hj => ?_⟩, by have := st.next; omega⟩
  · have : OwnF (h.next + 1) h' v' 31 (o ++ [t]).length ((o ++ [t]).flatMap Tok.cells) := by
      rw [List.flatMap_append, List.length_append]
      simpa [Tok.val, Value.cells] using h3
    exact this
  · rw [h6 j (by omega)]; exact st.more.2 j hj
end
theorem ares10 {s : List (Nat × Value)} {d : List Deferred} {h : Heap} {c : Nat} {v : Value} {e p : Int} (s2 : look 2 s = some v) (s3 : look 3 s = some (.pointer (some ⟨c, 0, none⟩))) (gc : h.get c = some (spotRow e p)) :
    ares Try.prog Try.f10 ⟨83, s, d⟩ h = some (.tuple #[v, .agg #[.int .i64 e, .int .i64 p]]) := by
  have hr : Try.f10.results.toList = [.tmp 2, .cell 3 27] := rfl
  unfold ares
  rw [hr]
  simp only [aresults, aresult, s2, s3, Option.bind_some, aload_agg agg27 sz27, Heap.lds_of gc (k := 0) (n := 2) (by simp), Option.map_some]
  rfl
/-- What it comes to. -/
def LexRR (h : Heap) (R : Except (Nat × Nat) (List Tok)) (r : Ending) (h' : Heap) : Prop := h.more h' ∧ match R with
  | .ok o => ∃ v, r = .returned (.tuple #[v, .agg #[.int .i64 0, .int .i64 0]]) ∧ Toks h' v o
  | .error (e, p) => r = .returned (.tuple #[.slice none 0 0, .agg #[.int .i64 e, .int .i64 p]])
structure LexRX where
  a : Nat
  sm : Bool
  o : List Tok
  vo : Value
  H : Heap
theorem lexR_spec (h : Heap) (T : List UInt8) (hTT : T.length ≤ 65536) :
    Does Try.prog 0 (GoodE Try.prog (baseM 0)) 10 [.string (bs T)] h fun r h' => LexRR h (lexS T) r h' := by
  have c16 : canEnter Try.prog 16 = true := by kernel_rfl
  refine Does.body Try.func10 rfl ?_
  have hn : enterF Try.f10 [.string (bs T)] = ⟨83, [(0, .string (bs T))], []⟩ := rfl
  rw [hn]; clear hn
  repeat refine Wp.seq ?_
  refine Wp.runS (by simp only [runS, stepO, stepW, stepV, keep, guardOf, wantG, wantV, aop, binA, aev, flat, if_true, if_false, Option.bind_some, Option.map_some, Frm.put, look, setk, Nat.reduceLT, Nat.reduceEqDiff, evs, evp, evo, List.getElem?_toArray, List.getElem?_cons_succ, List.getElem?_cons_zero, Bool.false_eq_true, Bool.true_eq_false, beq_self_eq_true, beq_ft, beq_tf, notNil, Bool.not_true, Bool.not_false, reduceCtorEq, abuiltin, aextract, alloc27, Heap.new] <;> exact rfl) ?_
  dsimp only [after, leaving]
  have gx0 : (h.alloc (spotRow 0 0)).get h.next = some (spotRow 0 0) := Heap.get_alloc_new _ _
  rw [lexS_eq]
  by_cases hlong : 2048 < T.length
  · rw [if_pos hlong]
    repeat refine Wp.seq ?_
    refine Wp.runS (by simp only [runS, stepO, stepW, stepV, keep, guardOf, wantG, wantV, aop, binA, aev, flat, if_true, if_false, Option.bind_some, Option.map_some, Frm.put, look, setk, Nat.reduceLT, Nat.reduceEqDiff, evs, evp, evo, List.getElem?_toArray, List.getElem?_cons_succ, List.getElem?_cons_zero, Bool.false_eq_true, Bool.true_eq_false, beq_self_eq_true, beq_ft, beq_tf, notNil, Bool.not_true, Bool.not_false, reduceCtorEq, abuiltin, aextract, alen_str Try.underlying9, bs_size, abin_int, ai_gtr, decide_eq_true (show (2048 : Int) < (T.length : Int) by omega)] <;> exact rfl) ?_
    dsimp only [after, leaving]
    repeat refine Wp.seq ?_
    refine Wp.condT (by simp only [runS, stepO, stepW, stepV, keep, guardOf, wantG, wantV, aop, binA, aev, flat, if_true, if_false, Option.bind_some, Option.map_some, Frm.put, look, setk, Nat.reduceLT, Nat.reduceEqDiff, evs, evp, evo, List.getElem?_toArray, List.getElem?_cons_succ, List.getElem?_cons_zero, Bool.false_eq_true, Bool.true_eq_false, beq_self_eq_true, beq_ft, beq_tf, notNil, Bool.not_true, Bool.not_false, reduceCtorEq, abuiltin, aextract]) ?_
    repeat refine Wp.seq ?_
    refine Wp.runS (by simp only [runS, stepO, stepW, stepV, keep, guardOf, wantG, wantV, aop, binA, aev, flat, if_true, if_false, Option.bind_some, Option.map_some, Frm.put, look, setk, Nat.reduceLT, Nat.reduceEqDiff, evs, evp, evo, List.getElem?_toArray, List.getElem?_cons_succ, List.getElem?_cons_zero, Bool.false_eq_true, Bool.true_eq_false, beq_self_eq_true, beq_ft, beq_tf, notNil, Bool.not_true, Bool.not_false, reduceCtorEq, abuiltin, aextract, build27, spot_store gx0] <;> exact rfl) ?_
    dsimp only [after, leaving]
    repeat refine Wp.seq ?_
    refine Wp.ret ?_
    dsimp only [after, leaving]
    exact ⟨rfl, rfl, _, ares10 rfl rfl (Heap.get_set_self gx0), Heap.more_set_new (Heap.more_alloc _ _) (Nat.le_refl _) _, rfl⟩
  rw [if_neg hlong]
  repeat refine Wp.seq ?_
  refine Wp.runS (by simp only [runS, stepO, stepW, stepV, keep, guardOf, wantG, wantV, aop, binA, aev, flat, if_true, if_false, Option.bind_some, Option.map_some, Frm.put, look, setk, Nat.reduceLT, Nat.reduceEqDiff, evs, evp, evo, List.getElem?_toArray, List.getElem?_cons_succ, List.getElem?_cons_zero, Bool.false_eq_true, Bool.true_eq_false, beq_self_eq_true, beq_ft, beq_tf, notNil, Bool.not_true, Bool.not_false, reduceCtorEq, abuiltin, aextract, alen_str Try.underlying9, bs_size, abin_int, ai_gtr, decide_eq_false (show ¬ (2048 : Int) < (T.length : Int) by omega)] <;> exact rfl) ?_
  dsimp only [after, leaving]
  repeat refine Wp.seq ?_
  refine Wp.condF (by simp only [runS, stepO, stepW, stepV, keep, guardOf, wantG, wantV, aop, binA, aev, flat, if_true, if_false, Option.bind_some, Option.map_some, Frm.put, look, setk, Nat.reduceLT, Nat.reduceEqDiff, evs, evp, evo, List.getElem?_toArray, List.getElem?_cons_succ, List.getElem?_cons_zero, Bool.false_eq_true, Bool.true_eq_false, beq_self_eq_true, beq_ft, beq_tf, notNil, Bool.not_true, Bool.not_false, reduceCtorEq, abuiltin, aextract]) ?_
  repeat refine Wp.seq ?_
  refine Wp.skip ?_
  dsimp only [after, leaving]
  repeat refine Wp.seq ?_
  refine Wp.runS (by simp only [runS, stepO, stepW, stepV, keep, guardOf, wantG, wantV, aop, binA, aev, flat, if_true, if_false, Option.bind_some, Option.map_some, Frm.put, look, setk, Nat.reduceLT, Nat.reduceEqDiff, evs, evp, evo, List.getElem?_toArray, List.getElem?_cons_succ, List.getElem?_cons_zero, Bool.false_eq_true, Bool.true_eq_false, beq_self_eq_true, beq_ft, beq_tf, notNil, Bool.not_true, Bool.not_false, reduceCtorEq, abuiltin, aextract] <;> exact rfl) ?_
  dsimp only [after, leaving]
  repeat refine Wp.seq ?_
  refine Wp.runS (by simp only [runS, stepO, stepW, stepV, keep, guardOf, wantG, wantV, aop, binA, aev, flat, if_true, if_false, Option.bind_some, Option.map_some, Frm.put, look, setk, Nat.reduceLT, Nat.reduceEqDiff, evs, evp, evo, List.getElem?_toArray, List.getElem?_cons_succ, List.getElem?_cons_zero, Bool.false_eq_true, Bool.true_eq_false, beq_self_eq_true, beq_ft, beq_tf, notNil, Bool.not_true, Bool.not_false, reduceCtorEq, abuiltin, aextract] <;> exact rfl) ?_
  dsimp only [after, leaving]
  repeat refine Wp.seq ?_
  refine Wp.runS (by simp only [runS, stepO, stepW, stepV, keep, guardOf, wantG, wantV, aop, binA, aev, flat, if_true, if_false, Option.bind_some, Option.map_some, Frm.put, look, setk, Nat.reduceLT, Nat.reduceEqDiff, evs, evp, evo, List.getElem?_toArray, List.getElem?_cons_succ, List.getElem?_cons_zero, Bool.false_eq_true, Bool.true_eq_false, beq_self_eq_true, beq_ft, beq_tf, notNil, Bool.not_true, Bool.not_false, reduceCtorEq, abuiltin, aextract] <;> exact rfl) ?_
  dsimp only [after, leaving]
  have st0 : LexSR h (h.alloc (spotRow 0 0)) [] (.slice none 0 0) := ⟨gx0, OwnF.nil _ _ _, Heap.more_alloc _ _, by simp⟩
  generalize h.alloc (spotRow 0 0) = H0 at st0 ⊢
  generalize hR : lexA T 0 false [] = R
  repeat refine Wp.seq ?_
  refine Wp.block ?_
  refine Wp.loopI (X := LexRX) (fun x => [(0, .string (bs T)), (3, .pointer (some ⟨h.next, 0, none⟩)), (4, x.vo), (5, .int .i64 x.a), (6, .bool x.sm)]) (fun x => x.H)
    (fun x => LexSR h x.H x.o x.vo ∧ x.a ≤ T.length + 1 ∧ x.o.length ≤ x.a ∧ (x.a ≤ T.length → lexA T x.a x.sm x.o = R) ∧ (T.length < x.a → R = .ok x.o)) (fun x => T.length + 1 - x.a) ⟨0, false, [], _, H0⟩
    ⟨st0, by simp, by simp, fun _ => hR, fun q => by simp at q⟩ ⟨rfl, rfl, rfl, rfl, rfl, trivial⟩ rfl ?_
  rintro ⟨a, sm, o, vo, H⟩ ⟨st, ha, ho, hf, hend⟩
  simp only [] at st ha ho hf hend ⊢
  by_cases hle : (a : Int) ≤ (T.length : Int)
  case neg =>
    repeat refine Wp.seq ?_
    refine Wp.runS (by simp only [runS, stepO, stepW, stepV, keep, guardOf, wantG, wantV, aop, binA, aev, flat, if_true, if_false, Option.bind_some, Option.map_some, Frm.put, look, setk, Nat.reduceLT, Nat.reduceEqDiff, evs, evp, evo, List.getElem?_toArray, List.getElem?_cons_succ, List.getElem?_cons_zero, Bool.false_eq_true, Bool.true_eq_false, beq_self_eq_true, beq_ft, beq_tf, notNil, Bool.not_true, Bool.not_false, reduceCtorEq, abuiltin, aextract, alen_str Try.underlying9, bs_size, abin_int, ai_leq, decide_eq_false hle] <;> exact rfl) ?_
    dsimp only [after, leaving]
    repeat refine Wp.seq ?_
    refine Wp.condF (by simp only [runS, stepO, stepW, stepV, keep, guardOf, wantG, wantV, aop, binA, aev, flat, if_true, if_false, Option.bind_some, Option.map_some, Frm.put, look, setk, Nat.reduceLT, Nat.reduceEqDiff, evs, evp, evo, List.getElem?_toArray, List.getElem?_cons_succ, List.getElem?_cons_zero, Bool.false_eq_true, Bool.true_eq_false, beq_self_eq_true, beq_ft, beq_tf, notNil, Bool.not_true, Bool.not_false, reduceCtorEq, abuiltin, aextract]) ?_
    repeat refine Wp.seq ?_
    refine Wp.exit ?_
    simp only [after, leaving, blockExit, if_true, if_false, Nat.reduceEqDiff]
    rw [hend (by omega)]
    repeat refine Wp.seq ?_
    refine Wp.runS (by simp only [runS, stepO, stepW, stepV, keep, guardOf, wantG, wantV, aop, binA, aev, flat, if_true, if_false, Option.bind_some, Option.map_some, Frm.put, look, setk, Nat.reduceLT, Nat.reduceEqDiff, evs, evp, evo, List.getElem?_toArray, List.getElem?_cons_succ, List.getElem?_cons_zero, Bool.false_eq_true, Bool.true_eq_false, beq_self_eq_true, beq_ft, beq_tf, notNil, Bool.not_true, Bool.not_false, reduceCtorEq, abuiltin, aextract, build27z, spot_store st.x] <;> exact rfl) ?_
    dsimp only [after, leaving]
    repeat refine Wp.seq ?_
    refine Wp.ret ?_
    dsimp only [after, leaving]
    refine ⟨rfl, rfl, _, ares10 rfl rfl (Heap.get_set_self st.x), Heap.more_set_new st.more (Nat.le_refl _) _, vo, rfl, ?_⟩
    have := st.o.keep (h' := H.set h.next (spotRow 0 0)) (fun j p q hp => by rw [Heap.get_set_ne (ne_of_plain st.x q rfl hp)]; exact q)
    rcases this with ⟨q1, q2, _⟩ | ⟨b, _, _, q1, q2⟩
    · exact .inl ⟨List.eq_nil_of_length_eq_zero q2, q1⟩
    · exact .inr ⟨b, _, q2, rfl, q1⟩
  have ha2 : a ≤ T.length := by omega
  replace hf := hf ha2
  rw [lexA_eq ha2] at hf
  have hw : IntKind.i64.wrap ((a : Int) + 1) = ((a + 1 : Nat) : Int) := by rw [wrap_in (by omega) (by omega)]; omega
  have lt10 : peekB T a ≠ 10 → a < T.length := peek_lt
  repeat refine Wp.seq ?_
  refine Wp.runS (by simp only [runS, stepO, stepW, stepV, keep, guardOf, wantG, wantV, aop, binA, aev, flat, if_true, if_false, Option.bind_some, Option.map_some, Frm.put, look, setk, Nat.reduceLT, Nat.reduceEqDiff, evs, evp, evo, List.getElem?_toArray, List.getElem?_cons_succ, List.getElem?_cons_zero, Bool.false_eq_true, Bool.true_eq_false, beq_self_eq_true, beq_ft, beq_tf, notNil, Bool.not_true, Bool.not_false, reduceCtorEq, abuiltin, aextract, alen_str Try.underlying9, bs_size, abin_int, ai_leq, decide_eq_true hle] <;> exact rfl) ?_
  dsimp only [after, leaving]
  repeat refine Wp.seq ?_
  refine Wp.condT (by simp only [runS, stepO, stepW, stepV, keep, guardOf, wantG, wantV, aop, binA, aev, flat, if_true, if_false, Option.bind_some, Option.map_some, Frm.put, look, setk, Nat.reduceLT, Nat.reduceEqDiff, evs, evp, evo, List.getElem?_toArray, List.getElem?_cons_succ, List.getElem?_cons_zero, Bool.false_eq_true, Bool.true_eq_false, beq_self_eq_true, beq_ft, beq_tf, notNil, Bool.not_true, Bool.not_false, reduceCtorEq, abuiltin, aextract]) ?_
  repeat refine Wp.seq ?_
  refine Wp.skip ?_
  dsimp only [after, leaving]
  repeat refine Wp.seq ?_
  refine Wp.block ?_
  by_cases h10 : peekB T a = 10
  · have hf2 : (if a = T.length then (.ok (if sm then o ++ [⟨6, [], 0, a⟩] else o) : Except (Nat × Nat) (List Tok)) else lexA T (a + 1) false (if sm then o ++ [⟨6, [], 0, a⟩] else o)) = R := by
      rw [h10] at hf
      simpa only [if_neg (show ¬ ((10 : UInt8) = 32 ∨ (10 : UInt8) = 9) by decide), if_neg (show ¬ (10 : UInt8) = 35 by decide), if_true] using hf
    clear hf
    refine Wp.seq ?_
    repeat refine Wp.seq ?_
    refine Wp.cut (fun fr u h' => u = none ∧ h' = H ∧ ∃ sl, fr = ⟨83, sl, []⟩ ∧ holds [(0, .string (bs T)), (3, .pointer (some ⟨h.next, 0, none⟩)), (4, vo), (5, .int .i64 a), (6, .bool sm), (27, .bool true)] sl) ?_ ?_
    rotate_left
    · by_cases hal : a = T.length
      · have e : ((a : Int) == (T.length : Int)) = true := by simp [hal]
        repeat refine Wp.seq ?_
        refine Wp.runS (by simp only [runS, stepO, stepW, stepV, keep, guardOf, wantG, wantV, aop, binA, aev, flat, if_true, if_false, Option.bind_some, Option.map_some, Frm.put, look, setk, Nat.reduceLT, Nat.reduceEqDiff, evs, evp, evo, List.getElem?_toArray, List.getElem?_cons_succ, List.getElem?_cons_zero, Bool.false_eq_true, Bool.true_eq_false, beq_self_eq_true, beq_ft, beq_tf, notNil, Bool.not_true, Bool.not_false, reduceCtorEq, abuiltin, aextract, alen_str Try.underlying9, bs_size, abin_int, ai_eql, e] <;> exact rfl) ?_
        dsimp only [after, leaving]
        exact ⟨rfl, rfl, _, rfl, rfl, rfl, rfl, rfl, rfl, rfl, trivial⟩
      · have e : ((a : Int) == (T.length : Int)) = false := by rw [beq_eq_false_iff_ne]; omega
        obtain ⟨b, hb⟩ : ∃ b, T[a]? = some b := ⟨_, List.getElem?_eq_getElem (by omega)⟩
        have hb10 : b = 10 := by unfold peekB at h10; rw [hb] at h10; exact h10
        have e2 : ((b.toNat : Int) == 10) = true := by rw [hb10]; rfl
        repeat refine Wp.seq ?_
        refine Wp.runS (by simp only [runS, stepO, stepW, stepV, keep, guardOf, wantG, wantV, aop, binA, aev, flat, if_true, if_false, Option.bind_some, Option.map_some, Frm.put, look, setk, Nat.reduceLT, Nat.reduceEqDiff, evs, evp, evo, List.getElem?_toArray, List.getElem?_cons_succ, List.getElem?_cons_zero, Bool.false_eq_true, Bool.true_eq_false, beq_self_eq_true, beq_ft, beq_tf, notNil, Bool.not_true, Bool.not_false, reduceCtorEq, abuiltin, aextract, alen_str Try.underlying9, bs_size, abin_int, ai_eql, e, aindex_bs Try.underlying9 hb, byteV, e2] <;> exact rfl) ?_
        dsimp only [after, leaving]
        exact ⟨rfl, rfl, _, rfl, rfl, rfl, rfl, rfl, rfl, rfl, trivial⟩
    rintro fr u h9 ⟨rfl, hH, sl, rfl, hs⟩
    obtain rfl := hH.symm
    clear hH
    dsimp only [after, leaving]
    refine Wp.weaken (Frm.le_of hs) ?_
    clear hs sl
    repeat refine Wp.seq ?_
    refine Wp.condT (by simp only [runS, stepO, stepW, stepV, keep, guardOf, wantG, wantV, aop, binA, aev, flat, if_true, if_false, Option.bind_some, Option.map_some, Frm.put, look, setk, Nat.reduceLT, Nat.reduceEqDiff, evs, evp, evo, List.getElem?_toArray, List.getElem?_cons_succ, List.getElem?_cons_zero, Bool.false_eq_true, Bool.true_eq_false, beq_self_eq_true, beq_ft, beq_tf, notNil, Bool.not_true, Bool.not_false, reduceCtorEq, abuiltin, aextract]) ?_
    repeat refine Wp.seq ?_
    refine Wp.runS (by simp only [runS, stepO, stepW, stepV, keep, guardOf, wantG, wantV, aop, binA, aev, flat, if_true, if_false, Option.bind_some, Option.map_some, Frm.put, look, setk, Nat.reduceLT, Nat.reduceEqDiff, evs, evp, evo, List.getElem?_toArray, List.getElem?_cons_succ, List.getElem?_cons_zero, Bool.false_eq_true, Bool.true_eq_false, beq_self_eq_true, beq_ft, beq_tf, notNil, Bool.not_true, Bool.not_false, reduceCtorEq, abuiltin, aextract] <;> exact rfl) ?_
    dsimp only [after, leaving]
    generalize ho' : (if sm then o ++ [⟨6, [], 0, a⟩] else o) = o' at hf2
    repeat refine Wp.seq ?_
    refine Wp.cut (fun fr u h' => u = none ∧ ∃ vo', LexSR h h' o' vo' ∧ o'.length ≤ a + 1 ∧ ∃ sl, fr = ⟨83, sl, []⟩ ∧ holds [(0, .string (bs T)), (3, .pointer (some ⟨h.next, 0, none⟩)), (4, vo'), (5, .int .i64 a)] sl) ?_ ?_
    rotate_left
    · cases sm with
      | false =>
        simp only [Bool.false_eq_true, if_false] at ho'
        subst ho'
        repeat refine Wp.seq ?_
        refine Wp.condF (by simp only [runS, stepO, stepW, stepV, keep, guardOf, wantG, wantV, aop, binA, aev, flat, if_true, if_false, Option.bind_some, Option.map_some, Frm.put, look, setk, Nat.reduceLT, Nat.reduceEqDiff, evs, evp, evo, List.getElem?_toArray, List.getElem?_cons_succ, List.getElem?_cons_zero, Bool.false_eq_true, Bool.true_eq_false, beq_self_eq_true, beq_ft, beq_tf, notNil, Bool.not_true, Bool.not_false, reduceCtorEq, abuiltin, aextract]) ?_
        repeat refine Wp.seq ?_
        refine Wp.skip ?_
        dsimp only [after, leaving]
        exact ⟨rfl, vo, st, by omega, _, rfl, rfl, rfl, rfl, rfl, trivial⟩
      | true =>
        simp only [if_true] at ho'
        subst ho'
        repeat refine Wp.seq ?_
        refine Wp.condT (by simp only [runS, stepO, stepW, stepV, keep, guardOf, wantG, wantV, aop, binA, aev, flat, if_true, if_false, Option.bind_some, Option.map_some, Frm.put, look, setk, Nat.reduceLT, Nat.reduceEqDiff, evs, evp, evo, List.getElem?_toArray, List.getElem?_cons_succ, List.getElem?_cons_zero, Bool.false_eq_true, Bool.true_eq_false, beq_self_eq_true, beq_ft, beq_tf, notNil, Bool.not_true, Bool.not_false, reduceCtorEq, abuiltin, aextract]) ?_
        obtain ⟨a1, v1, H1, a2, st1⟩ := st.push ⟨6, [], 0, a⟩ (by omega)
        repeat refine Wp.seq ?_
        refine Wp.regionAs (is := List.range' 0 3 ++ (3 :: (4 :: (List.range' 5 1 ++ [])))) rfl ?_
        refine WpO.runS 3 (by simp only [List.drop_succ_cons, List.drop_zero, List.take_succ_cons, List.take_zero, runS, stepO, stepW, stepV, keep, guardOf, wantG, wantV, aop, binA, aev, flat, if_true, if_false, Option.bind_some, Option.map_some, Frm.put, look, setk, Nat.reduceLT, Nat.reduceEqDiff, evs, evp, evo, List.getElem?_toArray, List.getElem?_cons_succ, List.getElem?_cons_zero, Bool.false_eq_true, Bool.true_eq_false, beq_self_eq_true, beq_ft, beq_tf, notNil, Bool.not_true, Bool.not_false, reduceCtorEq, abuiltin, aextract, build31e] <;> exact rfl) (by decide) ?_
        refine WpO.valS (aop_bslice rfl (by simp only [evp, aev, look, Option.bind_some, if_true, if_false, Nat.reduceEqDiff] <;> exact rfl) a1) rfl rfl (by simp only [runS, stepO, stepW, stepV, keep, guardOf, wantG, wantV, aop, binA, aev, flat, if_true, if_false, Option.bind_some, Option.map_some, Frm.put, look, setk, Nat.reduceLT, Nat.reduceEqDiff, evs, evp, evo, List.getElem?_toArray, List.getElem?_cons_succ, List.getElem?_cons_zero, Bool.false_eq_true, Bool.true_eq_false, beq_self_eq_true, beq_ft, beq_tf, notNil, Bool.not_true, Bool.not_false, reduceCtorEq, abuiltin, aextract] <;> exact rfl) ?_
        refine WpO.valS (aop_append rfl (by simp only [evs, aev, look, Option.bind_some, if_true, if_false, Nat.reduceEqDiff] <;> exact rfl) a2) rfl rfl (by simp only [runS, stepO, stepW, stepV, keep, guardOf, wantG, wantV, aop, binA, aev, flat, if_true, if_false, Option.bind_some, Option.map_some, Frm.put, look, setk, Nat.reduceLT, Nat.reduceEqDiff, evs, evp, evo, List.getElem?_toArray, List.getElem?_cons_succ, List.getElem?_cons_zero, Bool.false_eq_true, Bool.true_eq_false, beq_self_eq_true, beq_ft, beq_tf, notNil, Bool.not_true, Bool.not_false, reduceCtorEq, abuiltin, aextract] <;> exact rfl) ?_
        refine WpO.runS 1 (by simp only [List.drop_succ_cons, List.drop_zero, List.take_succ_cons, List.take_zero, runS, stepO, stepW, stepV, keep, guardOf, wantG, wantV, aop, binA, aev, flat, if_true, if_false, Option.bind_some, Option.map_some, Frm.put, look, setk, Nat.reduceLT, Nat.reduceEqDiff, evs, evp, evo, List.getElem?_toArray, List.getElem?_cons_succ, List.getElem?_cons_zero, Bool.false_eq_true, Bool.true_eq_false, beq_self_eq_true, beq_ft, beq_tf, notNil, Bool.not_true, Bool.not_false, reduceCtorEq, abuiltin, aextract] <;> exact rfl) (by decide) ?_
        refine WpO.nil ?_
        dsimp only [after, leaving]
        exact ⟨rfl, v1, st1, by simp; omega, _, rfl, rfl, rfl, rfl, rfl, trivial⟩
    rintro fr u H1 ⟨rfl, vo1, st1, ho1, sl, rfl, hs⟩
    dsimp only [after, leaving]
    refine Wp.weaken (Frm.le_of hs) ?_
    clear hs sl
    repeat refine Wp.seq ?_
    refine Wp.runS (by simp only [runS, stepO, stepW, stepV, keep, guardOf, wantG, wantV, aop, binA, aev, flat, if_true, if_false, Option.bind_some, Option.map_some, Frm.put, look, setk, Nat.reduceLT, Nat.reduceEqDiff, evs, evp, evo, List.getElem?_toArray, List.getElem?_cons_succ, List.getElem?_cons_zero, Bool.false_eq_true, Bool.true_eq_false, beq_self_eq_true, beq_ft, beq_tf, notNil, Bool.not_true, Bool.not_false, reduceCtorEq, abuiltin, aextract] <;> exact rfl) ?_
    dsimp only [after, leaving]
    repeat refine Wp.seq ?_
    refine Wp.runS (by simp only [runS, stepO, stepW, stepV, keep, guardOf, wantG, wantV, aop, binA, aev, flat, if_true, if_false, Option.bind_some, Option.map_some, Frm.put, look, setk, Nat.reduceLT, Nat.reduceEqDiff, evs, evp, evo, List.getElem?_toArray, List.getElem?_cons_succ, List.getElem?_cons_zero, Bool.false_eq_true, Bool.true_eq_false, beq_self_eq_true, beq_ft, beq_tf, notNil, Bool.not_true, Bool.not_false, reduceCtorEq, abuiltin, aextract, abin_int, ai_add, hw] <;> exact rfl) ?_
    dsimp only [after, leaving]
    repeat refine Wp.seq ?_
    refine Wp.exit ?_
    simp only [after, leaving, blockExit, if_true, if_false, Nat.reduceEqDiff]
    refine ⟨⟨a + 1, false, o', vo1, H1⟩, _, ⟨st1, by simp only []; omega, ho1, fun q => ?_, fun q => ?_⟩, by simp only []; omega, rfl, ⟨rfl, rfl, rfl, rfl, rfl, trivial⟩, trivial, rfl⟩
    · simp only [] at q ⊢
      rw [if_neg (by omega)] at hf2
      exact hf2
    · simp only [] at q ⊢
      rw [if_pos (by omega)] at hf2
      exact hf2.symm
  have hlt := lt10 h10
  obtain ⟨b, hb⟩ : ∃ b, T[a]? = some b := ⟨_, List.getElem?_eq_getElem hlt⟩
  have hpk : peekB T a = b := by unfold peekB; rw [hb]; rfl
  rw [hpk] at hf h10
  have el : ((a : Int) == (T.length : Int)) = false := by rw [beq_eq_false_iff_ne]; omega
  have e10 : ((b.toNat : Int) == 10) = false := by rw [beq_eq_false_iff_ne]; intro q; exact h10 ((byte_eq b 10 (by omega)).2 (by omega))
  repeat refine Wp.seq ?_
  refine Wp.runS (by simp only [runS, stepO, stepW, stepV, keep, guardOf, wantG, wantV, aop, binA, aev, flat, if_true, if_false, Option.bind_some, Option.map_some, Frm.put, look, setk, Nat.reduceLT, Nat.reduceEqDiff, evs, evp, evo, List.getElem?_toArray, List.getElem?_cons_succ, List.getElem?_cons_zero, Bool.false_eq_true, Bool.true_eq_false, beq_self_eq_true, beq_ft, beq_tf, notNil, Bool.not_true, Bool.not_false, reduceCtorEq, abuiltin, aextract, alen_str Try.underlying9, bs_size, abin_int, ai_eql, el, aindex_bs Try.underlying9 hb, byteV, e10] <;> exact rfl) ?_
  dsimp only [after, leaving]
  repeat refine Wp.seq ?_
  refine Wp.condF (by simp only [runS, stepO, stepW, stepV, keep, guardOf, wantG, wantV, aop, binA, aev, flat, if_true, if_false, Option.bind_some, Option.map_some, Frm.put, look, setk, Nat.reduceLT, Nat.reduceEqDiff, evs, evp, evo, List.getElem?_toArray, List.getElem?_cons_succ, List.getElem?_cons_zero, Bool.false_eq_true, Bool.true_eq_false, beq_self_eq_true, beq_ft, beq_tf, notNil, Bool.not_true, Bool.not_false, reduceCtorEq, abuiltin, aextract]) ?_
  repeat refine Wp.seq ?_
  refine Wp.skip ?_
  dsimp only [after, leaving]
  by_cases h32 : b = 32
  · have e : ((b.toNat : Int) == 32) = true := by rw [h32]; rfl
    rw [if_pos (.inl h32)] at hf
    repeat refine Wp.seq ?_
    refine Wp.runS (by simp only [runS, stepO, stepW, stepV, keep, guardOf, wantG, wantV, aop, binA, aev, flat, if_true, if_false, Option.bind_some, Option.map_some, Frm.put, look, setk, Nat.reduceLT, Nat.reduceEqDiff, evs, evp, evo, List.getElem?_toArray, List.getElem?_cons_succ, List.getElem?_cons_zero, Bool.false_eq_true, Bool.true_eq_false, beq_self_eq_true, beq_ft, beq_tf, notNil, Bool.not_true, Bool.not_false, reduceCtorEq, abuiltin, aextract, aindex_bs Try.underlying9 hb, byteV, abin_int, ai_eql, e] <;> exact rfl) ?_
    dsimp only [after, leaving]
    repeat refine Wp.seq ?_
    refine Wp.condT (by simp only [runS, stepO, stepW, stepV, keep, guardOf, wantG, wantV, aop, binA, aev, flat, if_true, if_false, Option.bind_some, Option.map_some, Frm.put, look, setk, Nat.reduceLT, Nat.reduceEqDiff, evs, evp, evo, List.getElem?_toArray, List.getElem?_cons_succ, List.getElem?_cons_zero, Bool.false_eq_true, Bool.true_eq_false, beq_self_eq_true, beq_ft, beq_tf, notNil, Bool.not_true, Bool.not_false, reduceCtorEq, abuiltin, aextract]) ?_
    repeat refine Wp.seq ?_
    refine Wp.runS (by simp only [runS, stepO, stepW, stepV, keep, guardOf, wantG, wantV, aop, binA, aev, flat, if_true, if_false, Option.bind_some, Option.map_some, Frm.put, look, setk, Nat.reduceLT, Nat.reduceEqDiff, evs, evp, evo, List.getElem?_toArray, List.getElem?_cons_succ, List.getElem?_cons_zero, Bool.false_eq_true, Bool.true_eq_false, beq_self_eq_true, beq_ft, beq_tf, notNil, Bool.not_true, Bool.not_false, reduceCtorEq, abuiltin, aextract, abin_int, ai_add, hw] <;> exact rfl) ?_
    dsimp only [after, leaving]
    repeat refine Wp.seq ?_
    refine Wp.exit ?_
    simp only [after, leaving, blockExit, if_true, if_false, Nat.reduceEqDiff]
    exact ⟨⟨a + 1, sm, o, vo, H⟩, _, ⟨st, by simp only []; omega, by simp only []; omega, fun _ => hf, fun q => by simp only [] at q; omega⟩, by simp only []; omega, rfl, ⟨rfl, rfl, rfl, rfl, rfl, trivial⟩, trivial, rfl⟩
  have e32 : ((b.toNat : Int) == 32) = false := by rw [beq_eq_false_iff_ne]; intro q; exact h32 ((byte_eq b 32 (by omega)).2 (by omega))
  by_cases h9 : b = 9
  · have e : ((b.toNat : Int) == 9) = true := by rw [h9]; rfl
    rw [if_pos (.inr h9)] at hf
    repeat refine Wp.seq ?_
    refine Wp.runS (by simp only [runS, stepO, stepW, stepV, keep, guardOf, wantG, wantV, aop, binA, aev, flat, if_true, if_false, Option.bind_some, Option.map_some, Frm.put, look, setk, Nat.reduceLT, Nat.reduceEqDiff, evs, evp, evo, List.getElem?_toArray, List.getElem?_cons_succ, List.getElem?_cons_zero, Bool.false_eq_true, Bool.true_eq_false, beq_self_eq_true, beq_ft, beq_tf, notNil, Bool.not_true, Bool.not_false, reduceCtorEq, abuiltin, aextract, aindex_bs Try.underlying9 hb, byteV, abin_int, ai_eql, e32, e] <;> exact rfl) ?_
    dsimp only [after, leaving]
    repeat refine Wp.seq ?_
    refine Wp.condT (by simp only [runS, stepO, stepW, stepV, keep, guardOf, wantG, wantV, aop, binA, aev, flat, if_true, if_false, Option.bind_some, Option.map_some, Frm.put, look, setk, Nat.reduceLT, Nat.reduceEqDiff, evs, evp, evo, List.getElem?_toArray, List.getElem?_cons_succ, List.getElem?_cons_zero, Bool.false_eq_true, Bool.true_eq_false, beq_self_eq_true, beq_ft, beq_tf, notNil, Bool.not_true, Bool.not_false, reduceCtorEq, abuiltin, aextract]) ?_
    repeat refine Wp.seq ?_
    refine Wp.runS (by simp only [runS, stepO, stepW, stepV, keep, guardOf, wantG, wantV, aop, binA, aev, flat, if_true, if_false, Option.bind_some, Option.map_some, Frm.put, look, setk, Nat.reduceLT, Nat.reduceEqDiff, evs, evp, evo, List.getElem?_toArray, List.getElem?_cons_succ, List.getElem?_cons_zero, Bool.false_eq_true, Bool.true_eq_false, beq_self_eq_true, beq_ft, beq_tf, notNil, Bool.not_true, Bool.not_false, reduceCtorEq, abuiltin, aextract, abin_int, ai_add, hw] <;> exact rfl) ?_
    dsimp only [after, leaving]
    repeat refine Wp.seq ?_
    refine Wp.exit ?_
    simp only [after, leaving, blockExit, if_true, if_false, Nat.reduceEqDiff]
    exact ⟨⟨a + 1, sm, o, vo, H⟩, _, ⟨st, by simp only []; omega, by simp only []; omega, fun _ => hf, fun q => by simp only [] at q; omega⟩, by simp only []; omega, rfl, ⟨rfl, rfl, rfl, rfl, rfl, trivial⟩, trivial, rfl⟩
  have e9 : ((b.toNat : Int) == 9) = false := by rw [beq_eq_false_iff_ne]; intro q; exact h9 ((byte_eq b 9 (by omega)).2 (by omega))
  rw [if_neg fun q => q.elim h32 h9] at hf
  repeat refine Wp.seq ?_
  refine Wp.runS (by simp only [runS, stepO, stepW, stepV, keep, guardOf, wantG, wantV, aop, binA, aev, flat, if_true, if_false, Option.bind_some, Option.map_some, Frm.put, look, setk, Nat.reduceLT, Nat.reduceEqDiff, evs, evp, evo, List.getElem?_toArray, List.getElem?_cons_succ, List.getElem?_cons_zero, Bool.false_eq_true, Bool.true_eq_false, beq_self_eq_true, beq_ft, beq_tf, notNil, Bool.not_true, Bool.not_false, reduceCtorEq, abuiltin, aextract, aindex_bs Try.underlying9 hb, byteV, abin_int, ai_eql, e32, e9] <;> exact rfl) ?_
  dsimp only [after, leaving]
  repeat refine Wp.seq ?_
  refine Wp.condF (by simp only [runS, stepO, stepW, stepV, keep, guardOf, wantG, wantV, aop, binA, aev, flat, if_true, if_false, Option.bind_some, Option.map_some, Frm.put, look, setk, Nat.reduceLT, Nat.reduceEqDiff, evs, evp, evo, List.getElem?_toArray, List.getElem?_cons_succ, List.getElem?_cons_zero, Bool.false_eq_true, Bool.true_eq_false, beq_self_eq_true, beq_ft, beq_tf, notNil, Bool.not_true, Bool.not_false, reduceCtorEq, abuiltin, aextract]) ?_
  repeat refine Wp.seq ?_
  refine Wp.skip ?_
  dsimp only [after, leaving]
  by_cases h35 : b = 35
  · have e : ((b.toNat : Int) == 35) = true := by rw [h35]; rfl
    rw [if_pos h35] at hf
    obtain ⟨g1, g2⟩ := skipR_gt (T := T) (a := a) (by rw [hpk]; exact h35)
    have hsk := skipR_take T a ha2
    repeat refine Wp.seq ?_
    refine Wp.runS (by simp only [runS, stepO, stepW, stepV, keep, guardOf, wantG, wantV, aop, binA, aev, flat, if_true, if_false, Option.bind_some, Option.map_some, Frm.put, look, setk, Nat.reduceLT, Nat.reduceEqDiff, evs, evp, evo, List.getElem?_toArray, List.getElem?_cons_succ, List.getElem?_cons_zero, Bool.false_eq_true, Bool.true_eq_false, beq_self_eq_true, beq_ft, beq_tf, notNil, Bool.not_true, Bool.not_false, reduceCtorEq, abuiltin, aextract, aindex_bs Try.underlying9 hb, byteV, abin_int, ai_eql, e] <;> exact rfl) ?_
    dsimp only [after, leaving]
    repeat refine Wp.seq ?_
    refine Wp.condT (by simp only [runS, stepO, stepW, stepV, keep, guardOf, wantG, wantV, aop, binA, aev, flat, if_true, if_false, Option.bind_some, Option.map_some, Frm.put, look, setk, Nat.reduceLT, Nat.reduceEqDiff, evs, evp, evo, List.getElem?_toArray, List.getElem?_cons_succ, List.getElem?_cons_zero, Bool.false_eq_true, Bool.true_eq_false, beq_self_eq_true, beq_ft, beq_tf, notNil, Bool.not_true, Bool.not_false, reduceCtorEq, abuiltin, aextract]) ?_
    refine Wp.seq ?_
    repeat refine Wp.seq ?_
    refine Wp.cut (fun fr u h' => u = none ∧ h' = H ∧ ∃ sl, fr = ⟨83, sl, []⟩ ∧ holds [(0, .string (bs T)), (3, .pointer (some ⟨h.next, 0, none⟩)), (4, vo), (5, .int .i64 (skipR T a : Nat)), (6, .bool sm)] sl) ?_ ?_
    rotate_left
    · repeat refine Wp.seq ?_
      refine Wp.block ?_
      refine Wp.loopI (X := Nat) (fun to => [(0, .string (bs T)), (3, .pointer (some ⟨h.next, 0, none⟩)), (4, vo), (5, .int .i64 to), (6, .bool sm)]) (fun _ => H)
        (fun to => RunTo (fun b => b != 10) T a to) (fun to => T.length - to) a (RunTo.zero ha2) ⟨rfl, rfl, rfl, rfl, rfl, trivial⟩ rfl ?_
      intro to hr
      have hr1 := hr.1
      have hr2 := hr.2.1
      by_cases hl : (to : Int) < (T.length : Int)
      case neg =>
        repeat refine Wp.seq ?_
        refine Wp.runS (by simp only [runS, stepO, stepW, stepV, keep, guardOf, wantG, wantV, aop, binA, aev, flat, if_true, if_false, Option.bind_some, Option.map_some, Frm.put, look, setk, Nat.reduceLT, Nat.reduceEqDiff, evs, evp, evo, List.getElem?_toArray, List.getElem?_cons_succ, List.getElem?_cons_zero, Bool.false_eq_true, Bool.true_eq_false, beq_self_eq_true, beq_ft, beq_tf, notNil, Bool.not_true, Bool.not_false, reduceCtorEq, abuiltin, aextract, alen_str Try.underlying9, bs_size, abin_int, ai_lss, decide_eq_false hl] <;> exact rfl) ?_
        dsimp only [after, leaving]
        repeat refine Wp.seq ?_
        refine Wp.condF (by simp only [runS, stepO, stepW, stepV, keep, guardOf, wantG, wantV, aop, binA, aev, flat, if_true, if_false, Option.bind_some, Option.map_some, Frm.put, look, setk, Nat.reduceLT, Nat.reduceEqDiff, evs, evp, evo, List.getElem?_toArray, List.getElem?_cons_succ, List.getElem?_cons_zero, Bool.false_eq_true, Bool.true_eq_false, beq_self_eq_true, beq_ft, beq_tf, notNil, Bool.not_true, Bool.not_false, reduceCtorEq, abuiltin, aextract]) ?_
        repeat refine Wp.seq ?_
        refine Wp.exit ?_
        simp only [after, leaving, blockExit, if_true, if_false, Nat.reduceEqDiff]
        have hto : skipR T a = to := by
          have := hr.2.2
          rw [List.drop_eq_nil_of_le (show T.length ≤ to by omega)] at this
          simp at this; omega
        rw [hto]
        exact ⟨trivial, trivial, _, rfl, rfl, rfl, rfl, rfl, rfl, trivial⟩
      obtain ⟨c, hc⟩ : ∃ c, T[to]? = some c := ⟨_, List.getElem?_eq_getElem (by omega)⟩
      by_cases hc10 : c = 10
      · have e : ((c.toNat : Int) != 10) = false := by rw [hc10]; rfl
        repeat refine Wp.seq ?_
        refine Wp.runS (by simp only [runS, stepO, stepW, stepV, keep, guardOf, wantG, wantV, aop, binA, aev, flat, if_true, if_false, Option.bind_some, Option.map_some, Frm.put, look, setk, Nat.reduceLT, Nat.reduceEqDiff, evs, evp, evo, List.getElem?_toArray, List.getElem?_cons_succ, List.getElem?_cons_zero, Bool.false_eq_true, Bool.true_eq_false, beq_self_eq_true, beq_ft, beq_tf, notNil, Bool.not_true, Bool.not_false, reduceCtorEq, abuiltin, aextract, alen_str Try.underlying9, bs_size, abin_int, ai_lss, decide_eq_true hl, aindex_bs Try.underlying9 hc, byteV, ai_neq, e] <;> exact rfl) ?_
        dsimp only [after, leaving]
        repeat refine Wp.seq ?_
        refine Wp.condF (by simp only [runS, stepO, stepW, stepV, keep, guardOf, wantG, wantV, aop, binA, aev, flat, if_true, if_false, Option.bind_some, Option.map_some, Frm.put, look, setk, Nat.reduceLT, Nat.reduceEqDiff, evs, evp, evo, List.getElem?_toArray, List.getElem?_cons_succ, List.getElem?_cons_zero, Bool.false_eq_true, Bool.true_eq_false, beq_self_eq_true, beq_ft, beq_tf, notNil, Bool.not_true, Bool.not_false, reduceCtorEq, abuiltin, aextract]) ?_
        repeat refine Wp.seq ?_
        refine Wp.exit ?_
        simp only [after, leaving, blockExit, if_true, if_false, Nat.reduceEqDiff]
        have hto : skipR T a = to := by
          have := hr.2.2
          rw [drop_cons hc, List.takeWhile_cons, hc10] at this
          simp at this; omega
        rw [hto]
        exact ⟨trivial, trivial, _, rfl, rfl, rfl, rfl, rfl, rfl, trivial⟩
      · have e : ((c.toNat : Int) != 10) = true := by rw [bne_iff_ne]; intro q; exact hc10 ((byte_eq c 10 (by omega)).2 (by omega))
        repeat refine Wp.seq ?_
        refine Wp.runS (by simp only [runS, stepO, stepW, stepV, keep, guardOf, wantG, wantV, aop, binA, aev, flat, if_true, if_false, Option.bind_some, Option.map_some, Frm.put, look, setk, Nat.reduceLT, Nat.reduceEqDiff, evs, evp, evo, List.getElem?_toArray, List.getElem?_cons_succ, List.getElem?_cons_zero, Bool.false_eq_true, Bool.true_eq_false, beq_self_eq_true, beq_ft, beq_tf, notNil, Bool.not_true, Bool.not_false, reduceCtorEq, abuiltin, aextract, alen_str Try.underlying9, bs_size, abin_int, ai_lss, decide_eq_true hl, aindex_bs Try.underlying9 hc, byteV, ai_neq, e] <;> exact rfl) ?_
        dsimp only [after, leaving]
        repeat refine Wp.seq ?_
        refine Wp.condT (by simp only [runS, stepO, stepW, stepV, keep, guardOf, wantG, wantV, aop, binA, aev, flat, if_true, if_false, Option.bind_some, Option.map_some, Frm.put, look, setk, Nat.reduceLT, Nat.reduceEqDiff, evs, evp, evo, List.getElem?_toArray, List.getElem?_cons_succ, List.getElem?_cons_zero, Bool.false_eq_true, Bool.true_eq_false, beq_self_eq_true, beq_ft, beq_tf, notNil, Bool.not_true, Bool.not_false, reduceCtorEq, abuiltin, aextract]) ?_
        repeat refine Wp.seq ?_
        refine Wp.skip ?_
        dsimp only [after, leaving]
        repeat refine Wp.seq ?_
        refine Wp.block ?_
        have hw2 : IntKind.i64.wrap ((to : Int) + 1) = ((to + 1 : Nat) : Int) := by rw [wrap_in (by omega) (by omega)]; omega
        repeat refine Wp.seq ?_
        refine Wp.runS (by simp only [runS, stepO, stepW, stepV, keep, guardOf, wantG, wantV, aop, binA, aev, flat, if_true, if_false, Option.bind_some, Option.map_some, Frm.put, look, setk, Nat.reduceLT, Nat.reduceEqDiff, evs, evp, evo, List.getElem?_toArray, List.getElem?_cons_succ, List.getElem?_cons_zero, Bool.false_eq_true, Bool.true_eq_false, beq_self_eq_true, beq_ft, beq_tf, notNil, Bool.not_true, Bool.not_false, reduceCtorEq, abuiltin, aextract, abin_int, ai_add, hw2] <;> exact rfl) ?_
        dsimp only [after, leaving]
        exact ⟨to + 1, _, hr.next hc (by simpa using hc10), by omega, rfl, ⟨rfl, rfl, rfl, rfl, rfl, trivial⟩, rfl, rfl⟩
    rintro fr u h9 ⟨rfl, hH, sl, rfl, hs⟩
    obtain rfl := hH.symm
    clear hH
    dsimp only [after, leaving]
    refine Wp.weaken (Frm.le_of hs) ?_
    clear hs sl
    repeat refine Wp.seq ?_
    refine Wp.exit ?_
    simp only [after, leaving, blockExit, if_true, if_false, Nat.reduceEqDiff]
    exact ⟨⟨skipR T a, sm, o, vo, H⟩, _, ⟨st, by simp only []; omega, by simp only []; omega, fun _ => hf, fun q => by simp only [] at q; omega⟩, by simp only []; omega, rfl, ⟨rfl, rfl, rfl, rfl, rfl, trivial⟩, trivial, rfl⟩
  have e35 : ((b.toNat : Int) == 35) = false := by rw [beq_eq_false_iff_ne]; intro q; exact h35 ((byte_eq b 35 (by omega)).2 (by omega))
  rw [if_neg h35, if_neg h10] at hf
  repeat refine Wp.seq ?_
  refine Wp.runS (by simp only [runS, stepO, stepW, stepV, keep, guardOf, wantG, wantV, aop, binA, aev, flat, if_true, if_false, Option.bind_some, Option.map_some, Frm.put, look, setk, Nat.reduceLT, Nat.reduceEqDiff, evs, evp, evo, List.getElem?_toArray, List.getElem?_cons_succ, List.getElem?_cons_zero, Bool.false_eq_true, Bool.true_eq_false, beq_self_eq_true, beq_ft, beq_tf, notNil, Bool.not_true, Bool.not_false, reduceCtorEq, abuiltin, aextract, aindex_bs Try.underlying9 hb, byteV, abin_int, ai_eql, e35] <;> exact rfl) ?_
  dsimp only [after, leaving]
  repeat refine Wp.seq ?_
  refine Wp.condF (by simp only [runS, stepO, stepW, stepV, keep, guardOf, wantG, wantV, aop, binA, aev, flat, if_true, if_false, Option.bind_some, Option.map_some, Frm.put, look, setk, Nat.reduceLT, Nat.reduceEqDiff, evs, evp, evo, List.getElem?_toArray, List.getElem?_cons_succ, List.getElem?_cons_zero, Bool.false_eq_true, Bool.true_eq_false, beq_self_eq_true, beq_ft, beq_tf, notNil, Bool.not_true, Bool.not_false, reduceCtorEq, abuiltin, aextract]) ?_
  repeat refine Wp.seq ?_
  refine Wp.skip ?_
  dsimp only [after, leaving]
  repeat refine Wp.seq ?_
  refine Wp.regionAs (is := List.range' 0 2 ++ (2 :: (List.range' 3 8 ++ []))) rfl ?_
  refine WpO.runS 2 (by simp only [List.drop_succ_cons, List.drop_zero, List.take_succ_cons, List.take_zero, runS, stepO, stepW, stepV, keep, guardOf, wantG, wantV, aop, binA, aev, flat, if_true, if_false, Option.bind_some, Option.map_some, Frm.put, look, setk, Nat.reduceLT, Nat.reduceEqDiff, evs, evp, evo, List.getElem?_toArray, List.getElem?_cons_succ, List.getElem?_cons_zero, Bool.false_eq_true, Bool.true_eq_false, beq_self_eq_true, beq_ft, beq_tf, notNil, Bool.not_true, Bool.not_false, reduceCtorEq, abuiltin, aextract] <;> exact rfl) (by decide) ?_
  refine WpO.callS rfl (by simp only [runS, stepO, stepW, stepV, keep, guardOf, wantG, wantV, aop, binA, aev, flat, if_true, if_false, Option.bind_some, Option.map_some, Frm.put, look, setk, Nat.reduceLT, Nat.reduceEqDiff, evs, evp, evo, List.getElem?_toArray, List.getElem?_cons_succ, List.getElem?_cons_zero, Bool.false_eq_true, Bool.true_eq_false, beq_self_eq_true, beq_ft, beq_tf, notNil, Bool.not_true, Bool.not_false, reduceCtorEq, abuiltin, aextract, c16]) (by simp only [calleeOf, fnOf, List.append_nil, List.nil_append, runS, stepO, stepW, stepV, keep, guardOf, wantG, wantV, aop, binA, aev, flat, if_true, if_false, Option.bind_some, Option.map_some, Frm.put, look, setk, Nat.reduceLT, Nat.reduceEqDiff, evs, evp, evo, List.getElem?_toArray, List.getElem?_cons_succ, List.getElem?_cons_zero, Bool.false_eq_true, Bool.true_eq_false, beq_self_eq_true, beq_ft, beq_tf, notNil, Bool.not_true, Bool.not_false, reduceCtorEq, abuiltin, aextract, c16] <;> exact rfl) ((tokenR_spec H T a hTT hlt).mono ?_)
  intro r H1 ⟨hm, hr⟩
  have st1 := st.later hm
  cases ht : tokS T a with
  | error ep =>
    obtain ⟨e, p⟩ := ep
    rw [ht] at hr hf
    obtain ⟨t, rfl⟩ := hr
    simp only [] at hf
    have he := tokS_err ht
    refine ⟨_, by simp only [runS, stepO, stepW, stepV, keep, guardOf, wantG, wantV, aop, binA, aev, flat, if_true, if_false, Option.bind_some, Option.map_some, Frm.put, look, setk, Nat.reduceLT, Nat.reduceEqDiff, evs, evp, evo, List.getElem?_toArray, List.getElem?_cons_succ, List.getElem?_cons_zero, Bool.false_eq_true, Bool.true_eq_false, beq_self_eq_true, beq_ft, beq_tf, notNil, Bool.not_true, Bool.not_false, reduceCtorEq, abuiltin, aextract] <;> exact rfl, ?_⟩
    refine WpO.runS 8 (by simp only [List.drop_succ_cons, List.drop_zero, List.take_succ_cons, List.take_zero, runS, stepO, stepW, stepV, keep, guardOf, wantG, wantV, aop, binA, aev, flat, if_true, if_false, Option.bind_some, Option.map_some, Frm.put, look, setk, Nat.reduceLT, Nat.reduceEqDiff, evs, evp, evo, List.getElem?_toArray, List.getElem?_cons_succ, List.getElem?_cons_zero, Bool.false_eq_true, Bool.true_eq_false, beq_self_eq_true, beq_ft, beq_tf, notNil, Bool.not_true, Bool.not_false, reduceCtorEq, abuiltin, aextract, alloc31, Heap.new, tok_put] <;> exact rfl) (by decide) ?_
    refine WpO.nil ?_
    dsimp only [after, leaving]
    have st2 := st1.later (Heap.more_alloc H1 t.row)
    generalize H1.alloc t.row = H2 at st2 ⊢
    have e5 : ((e : Int) != 0) = true := by rw [bne_iff_ne]; omega
    repeat refine Wp.seq ?_
    refine Wp.runS (by simp only [runS, stepO, stepW, stepV, keep, guardOf, wantG, wantV, aop, binA, aev, flat, if_true, if_false, Option.bind_some, Option.map_some, Frm.put, look, setk, Nat.reduceLT, Nat.reduceEqDiff, evs, evp, evo, List.getElem?_toArray, List.getElem?_cons_succ, List.getElem?_cons_zero, Bool.false_eq_true, Bool.true_eq_false, beq_self_eq_true, beq_ft, beq_tf, notNil, Bool.not_true, Bool.not_false, reduceCtorEq, abuiltin, aextract, abin_int, ai_neq, e5] <;> exact rfl) ?_
    dsimp only [after, leaving]
    repeat refine Wp.seq ?_
    refine Wp.condT (by simp only [runS, stepO, stepW, stepV, keep, guardOf, wantG, wantV, aop, binA, aev, flat, if_true, if_false, Option.bind_some, Option.map_some, Frm.put, look, setk, Nat.reduceLT, Nat.reduceEqDiff, evs, evp, evo, List.getElem?_toArray, List.getElem?_cons_succ, List.getElem?_cons_zero, Bool.false_eq_true, Bool.true_eq_false, beq_self_eq_true, beq_ft, beq_tf, notNil, Bool.not_true, Bool.not_false, reduceCtorEq, abuiltin, aextract]) ?_
    repeat refine Wp.seq ?_
    refine Wp.runS (by simp only [runS, stepO, stepW, stepV, keep, guardOf, wantG, wantV, aop, binA, aev, flat, if_true, if_false, Option.bind_some, Option.map_some, Frm.put, look, setk, Nat.reduceLT, Nat.reduceEqDiff, evs, evp, evo, List.getElem?_toArray, List.getElem?_cons_succ, List.getElem?_cons_zero, Bool.false_eq_true, Bool.true_eq_false, beq_self_eq_true, beq_ft, beq_tf, notNil, Bool.not_true, Bool.not_false, reduceCtorEq, abuiltin, aextract, build27, spot_store st2.x] <;> exact rfl) ?_
    dsimp only [after, leaving]
    repeat refine Wp.seq ?_
    refine Wp.ret ?_
    dsimp only [after, leaving]
    rw [← hf]
    exact ⟨rfl, rfl, _, ares10 rfl rfl (Heap.get_set_self st2.x), Heap.more_set_new st2.more (Nat.le_refl _) _, rfl⟩
  | ok tt =>
    obtain ⟨t, to⟩ := tt
    have hgt := tokS_gt ht
    have hto := tokS_le ht
    rw [ht] at hr hf
    obtain rfl := hr
    simp only [] at hf
    refine ⟨_, by simp only [runS, stepO, stepW, stepV, keep, guardOf, wantG, wantV, aop, binA, aev, flat, if_true, if_false, Option.bind_some, Option.map_some, Frm.put, look, setk, Nat.reduceLT, Nat.reduceEqDiff, evs, evp, evo, List.getElem?_toArray, List.getElem?_cons_succ, List.getElem?_cons_zero, Bool.false_eq_true, Bool.true_eq_false, beq_self_eq_true, beq_ft, beq_tf, notNil, Bool.not_true, Bool.not_false, reduceCtorEq, abuiltin, aextract] <;> exact rfl, ?_⟩
    refine WpO.runS 8 (by simp only [List.drop_succ_cons, List.drop_zero, List.take_succ_cons, List.take_zero, runS, stepO, stepW, stepV, keep, guardOf, wantG, wantV, aop, binA, aev, flat, if_true, if_false, Option.bind_some, Option.map_some, Frm.put, look, setk, Nat.reduceLT, Nat.reduceEqDiff, evs, evp, evo, List.getElem?_toArray, List.getElem?_cons_succ, List.getElem?_cons_zero, Bool.false_eq_true, Bool.true_eq_false, beq_self_eq_true, beq_ft, beq_tf, notNil, Bool.not_true, Bool.not_false, reduceCtorEq, abuiltin, aextract, alloc31, Heap.new, tok_put] <;> exact rfl) (by decide) ?_
    refine WpO.nil ?_
    dsimp only [after, leaving]
    have st2 := st1.later (Heap.more_alloc H1 t.row)
    have g7 : (H1.alloc t.row).get H1.next = some t.row := Heap.get_alloc_new _ _
    generalize H1.alloc t.row = H2 at st2 g7 ⊢
    repeat refine Wp.seq ?_
    refine Wp.runS (by simp only [runS, stepO, stepW, stepV, keep, guardOf, wantG, wantV, aop, binA, aev, flat, if_true, if_false, Option.bind_some, Option.map_some, Frm.put, look, setk, Nat.reduceLT, Nat.reduceEqDiff, evs, evp, evo, List.getElem?_toArray, List.getElem?_cons_succ, List.getElem?_cons_zero, Bool.false_eq_true, Bool.true_eq_false, beq_self_eq_true, beq_ft, beq_tf, notNil, Bool.not_true, Bool.not_false, reduceCtorEq, abuiltin, aextract, abin_int, ai_neq, (show ((0 : Int) != 0) = false from rfl)] <;> exact rfl) ?_
    dsimp only [after, leaving]
    repeat refine Wp.seq ?_
    refine Wp.condF (by simp only [runS, stepO, stepW, stepV, keep, guardOf, wantG, wantV, aop, binA, aev, flat, if_true, if_false, Option.bind_some, Option.map_some, Frm.put, look, setk, Nat.reduceLT, Nat.reduceEqDiff, evs, evp, evo, List.getElem?_toArray, List.getElem?_cons_succ, List.getElem?_cons_zero, Bool.false_eq_true, Bool.true_eq_false, beq_self_eq_true, beq_ft, beq_tf, notNil, Bool.not_true, Bool.not_false, reduceCtorEq, abuiltin, aextract]) ?_
    repeat refine Wp.seq ?_
    refine Wp.skip ?_
    dsimp only [after, leaving]
    obtain ⟨a1, v1, H3, a2, st3⟩ := st2.push t (by omega)
    repeat refine Wp.seq ?_
    refine Wp.regionAs (is := List.range' 0 2 ++ (2 :: (3 :: (List.range' 4 1 ++ [])))) rfl ?_
    refine WpO.runS 2 (by simp only [List.drop_succ_cons, List.drop_zero, List.take_succ_cons, List.take_zero, runS, stepO, stepW, stepV, keep, guardOf, wantG, wantV, aop, binA, aev, flat, if_true, if_false, Option.bind_some, Option.map_some, Frm.put, look, setk, Nat.reduceLT, Nat.reduceEqDiff, evs, evp, evo, List.getElem?_toArray, List.getElem?_cons_succ, List.getElem?_cons_zero, Bool.false_eq_true, Bool.true_eq_false, beq_self_eq_true, beq_ft, beq_tf, notNil, Bool.not_true, Bool.not_false, reduceCtorEq, abuiltin, aextract, tok_load g7] <;> exact rfl) (by decide) ?_
    refine WpO.valS (aop_bslice rfl (by simp only [evp, aev, look, Option.bind_some, if_true, if_false, Nat.reduceEqDiff] <;> exact rfl) a1) rfl rfl (by simp only [runS, stepO, stepW, stepV, keep, guardOf, wantG, wantV, aop, binA, aev, flat, if_true, if_false, Option.bind_some, Option.map_some, Frm.put, look, setk, Nat.reduceLT, Nat.reduceEqDiff, evs, evp, evo, List.getElem?_toArray, List.getElem?_cons_succ, List.getElem?_cons_zero, Bool.false_eq_true, Bool.true_eq_false, beq_self_eq_true, beq_ft, beq_tf, notNil, Bool.not_true, Bool.not_false, reduceCtorEq, abuiltin, aextract] <;> exact rfl) ?_
    refine WpO.valS (aop_append rfl (by simp only [evs, aev, look, Option.bind_some, if_true, if_false, Nat.reduceEqDiff] <;> exact rfl) a2) rfl rfl (by simp only [runS, stepO, stepW, stepV, keep, guardOf, wantG, wantV, aop, binA, aev, flat, if_true, if_false, Option.bind_some, Option.map_some, Frm.put, look, setk, Nat.reduceLT, Nat.reduceEqDiff, evs, evp, evo, List.getElem?_toArray, List.getElem?_cons_succ, List.getElem?_cons_zero, Bool.false_eq_true, Bool.true_eq_false, beq_self_eq_true, beq_ft, beq_tf, notNil, Bool.not_true, Bool.not_false, reduceCtorEq, abuiltin, aextract] <;> exact rfl) ?_
    refine WpO.runS 1 (by simp only [List.drop_succ_cons, List.drop_zero, List.take_succ_cons, List.take_zero, runS, stepO, stepW, stepV, keep, guardOf, wantG, wantV, aop, binA, aev, flat, if_true, if_false, Option.bind_some, Option.map_some, Frm.put, look, setk, Nat.reduceLT, Nat.reduceEqDiff, evs, evp, evo, List.getElem?_toArray, List.getElem?_cons_succ, List.getElem?_cons_zero, Bool.false_eq_true, Bool.true_eq_false, beq_self_eq_true, beq_ft, beq_tf, notNil, Bool.not_true, Bool.not_false, reduceCtorEq, abuiltin, aextract] <;> exact rfl) (by decide) ?_
    refine WpO.nil ?_
    dsimp only [after, leaving]
    repeat refine Wp.seq ?_
    refine Wp.runS (by simp only [runS, stepO, stepW, stepV, keep, guardOf, wantG, wantV, aop, binA, aev, flat, if_true, if_false, Option.bind_some, Option.map_some, Frm.put, look, setk, Nat.reduceLT, Nat.reduceEqDiff, evs, evp, evo, List.getElem?_toArray, List.getElem?_cons_succ, List.getElem?_cons_zero, Bool.false_eq_true, Bool.true_eq_false, beq_self_eq_true, beq_ft, beq_tf, notNil, Bool.not_true, Bool.not_false, reduceCtorEq, abuiltin, aextract] <;> exact rfl) ?_
    dsimp only [after, leaving]
    repeat refine Wp.seq ?_
    refine Wp.runS (by simp only [runS, stepO, stepW, stepV, keep, guardOf, wantG, wantV, aop, binA, aev, flat, if_true, if_false, Option.bind_some, Option.map_some, Frm.put, look, setk, Nat.reduceLT, Nat.reduceEqDiff, evs, evp, evo, List.getElem?_toArray, List.getElem?_cons_succ, List.getElem?_cons_zero, Bool.false_eq_true, Bool.true_eq_false, beq_self_eq_true, beq_ft, beq_tf, notNil, Bool.not_true, Bool.not_false, reduceCtorEq, abuiltin, aextract] <;> exact rfl) ?_
    dsimp only [after, leaving]
    exact ⟨⟨to, true, o ++ [t], v1, H3⟩, _, ⟨st3, by simp only []; omega, by simp; omega, fun _ => hf, fun q => by simp only [] at q; omega⟩, by simp only []; omega, rfl, ⟨rfl, rfl, rfl, rfl, rfl, trivial⟩, rfl, rfl⟩
end Go.Mini
