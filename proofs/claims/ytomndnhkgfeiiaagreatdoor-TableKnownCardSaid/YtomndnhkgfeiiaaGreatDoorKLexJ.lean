/-
  LEX, part J: the tokens of a text.
-/
import Derived.Test.YtomndnhkgfeiiaaGreatDoorKLexI
import Derived.Lib.IndexLaws
set_option linter.unusedSimpArgs false
set_option maxHeartbeats 8000000
set_option maxRecDepth 100000
namespace Go.Mini
open Go.Proofs

/-- Behind a remark: the next line's end, or the text's end. -/
def skipR (T : List UInt8) (a : Nat) : Nat := if 0 ≤ Lib.indexByte (T.drop a) 10 then a + (Lib.indexByte (T.drop a) 10).toNat else T.length
/-- The tokens from a place on. -/
def lexF (T : List UInt8) : Nat → Nat → Bool → List Tok → Except (Nat × Nat) (List Tok)
  | 0, a, _, _ => .error (0, a)
  | f + 1, a, sm, o =>
    let b := peekB T a
    if b = 32 ∨ b = 9 then lexF T f (a + 1) sm o
    else if b = 35 then lexF T f (skipR T a) sm o
    else if b = 10 then
      let o' := if sm then o ++ [⟨6, [], 0, a⟩] else o
      if a = T.length then .ok o' else lexF T f (a + 1) false o'
    else match tokS T a with
      | .error e => .error e
      | .ok (t, to) => lexF T f to true (o ++ [t])
def lexS (T : List UInt8) : Except (Nat × Nat) (List Tok) := if 2048 < T.length then .error (3, 2048) else lexF T (T.length + 1) 0 false []

theorem skipR_gt {T : List UInt8} {a : Nat} (h : peekB T a = 35) : a < skipR T a ∧ skipR T a ≤ T.length := by
  have hlt := peek_lt (by rw [h]; decide)
  have hc : T[a]? = some 35 := by
    unfold peekB at h
    cases hd : T[a]? with
    | none => have := List.getElem?_eq_none_iff.1 hd; omega
    | some c => rw [hd] at h; simp at h; rw [h]
  unfold skipR
  split
  · rename_i hk
    obtain ⟨o, ho⟩ : ∃ o : Nat, Lib.indexByte (T.drop a) 10 = o := ⟨(Lib.indexByte (T.drop a) 10).toNat, by omega⟩
    obtain ⟨h1, _⟩ := Lib.indexByte_some ho
    rw [List.getElem?_drop] at h1
    have hne : o ≠ 0 := by rintro rfl; rw [Nat.add_zero, hc] at h1; cases h1
    have := (List.getElem?_eq_some_iff.1 h1).1
    rw [ho]
    simp only [Int.toNat_natCast]
    omega
  · omega
theorem tokBody_gt {T : List UInt8} {a : Nat} {kd : Nat} {s : List UInt8} {n to : Nat} (h : tokBody T a = .ok (kd, s, n, to)) : a < to := by
  have run0 : ∀ (p : UInt8 → Bool) (m : Nat), 0 < m → p (peekB T a) = true → peekB T a ≠ 10 → (runP p m T a).2.1 = true → a < (runP p m T a).2.2 := by
    intro p m hm hp hb hr
    have hlt := peek_lt hb
    have hc : T[a]? = some (peekB T a) := by unfold peekB; rw [List.getElem?_eq_getElem hlt]; rfl
    have hd : T.drop a = peekB T a :: T.drop (a + 1) := drop_cons hc
    unfold runP at hr ⊢
    split at hr
    · cases hr
    · rename_i hno
      rw [if_neg hno, hd, List.takeWhile_cons, if_pos hp]
      simp
  unfold tokBody at h
  simp only [] at h
  generalize hb : peekB T a = b at h run0
  split at h
  · rename_i k
    split at h
    · rename_i hr
      have := run0 smallB 16 (by omega) (by unfold smallB; simp [k]) (by rintro rfl; revert k; decide) hr
      split at h <;> cases h <;> omega
    · cases h
  · split at h
    · cases h; omega
    · split at h
      · rename_i k
        split at h
        · rename_i hr
          have := run0 digitB 4 (by omega) (by unfold digitB; simp; omega) (by rintro rfl; revert k; decide) hr
          cases h; omega
        · cases h
      · split at h
        · split at h <;> cases h
          omega
        · split at h <;> cases h
          omega
theorem tokS_gt {T : List UInt8} {a : Nat} {t : Tok} {to : Nat} (h : tokS T a = .ok (t, to)) : a < to := by
  unfold tokS at h
  split at h
  · cases h
  · rename_i hb
    split at h
    · cases h; exact tokBody_gt hb
    · cases h

theorem tokS_err {T : List UInt8} {a e p : Nat} (h : tokS T a = .error (e, p)) : e = 3 ∨ e = 6 := by
  unfold tokS at h
  split at h
  · rename_i ep hb
    cases h
    unfold tokBody at hb
    simp only [] at hb
    repeat' split at hb
    all_goals first
      | (cases hb; done)
      | (cases hb; simp)
  · split at h
    · cases h
    · cases h; simp
theorem elem31 : elemOk Tryz.prog 217 4 40 = true := by kernel_rfl
theorem sz24 : (Tryz.prog.info? 208).map (·.size) = some 1 := by kernel_rfl
theorem build35 (T : List UInt8) : abuild Tryz.prog 274 [(0, .string (bs T))] = some (.agg #[.string (bs T), .int .i64 0, .slice none 0 0, .int .i64 0, .int .i64 0]) := by kernel_rfl
theorem build31e (a : Nat) : abuild Tryz.prog 217 [(0, .int .i64 6), (3, .int .i64 a)] = some (Tok.val ⟨6, [], 0, a⟩) := by kernel_rfl
theorem build27 (e p : Int) : abuild Tryz.prog 28 [(0, .int .i64 e), (1, .int .i64 p)] = some (.agg #[.int .i64 e, .int .i64 p]) := by kernel_rfl
theorem build27z : abuild Tryz.prog 28 [] = some (.agg #[.int .i64 0, .int .i64 0]) := by kernel_rfl
theorem spot_store {H : Heap} {j : Nat} {e0 p0 : Int} (g : H.get j = some (spotRow e0 p0)) (e p : Int) : astore Tryz.prog H 28 (.pointer (some ⟨j, 0, none⟩)) (.agg #[.int .i64 e, .int .i64 p]) = some (H.set j (spotRow e p)) := by
  have := astore_agg (P := Tryz.prog) (h := H) (i := j) (k := 0) (cs := [.int .i64 e, .int .i64 p]) sz27 rfl rfl
  rw [this, Heap.sts_of g (by simp) rfl rfl]; rfl
theorem out_store {H : Heap} {j : Nat} {T : List UInt8} {a : Nat} {v : Value} (g : H.get j = some (readerRow T a v)) (s : Option Addr) (l c : Nat) : astore Tryz.prog H 208 (.pointer (some ⟨j, 2, none⟩)) (.slice s l c) = some (H.set j (readerRow T a (.slice s l c))) := by
  rw [astore_cell sz24 rfl, Heap.sts_of g (by simp) rfl rfl]; rfl
theorem ares9 {s : List (Nat × Value)} {d : List Deferred} {h : Heap} {c : Nat} {v : Value} {e p : Int} (s2 : look 2 s = some v) (s3 : look 3 s = some (.pointer (some ⟨c, 0, none⟩))) (gc : h.get c = some (spotRow e p)) :
    ares Tryz.prog Tryz.f92 ⟨113, s, d⟩ h = some (.tuple #[v, .agg #[.int .i64 e, .int .i64 p]]) := by
  have hr : Tryz.f92.results.toList = [.tmp 2, .cell 3 28] := rfl
  unfold ares
  rw [hr]
  simp only [aresults, aresult, s2, s3, Option.bind_some, aload_agg agg27 sz27, Heap.lds_of gc (k := 0) (n := 2) (by simp), Option.map_some]
  rfl

/-- What holds while a text is read. -/
structure LexSt (h H : Heap) (T : List UInt8) (a : Nat) (o : List Tok) (vo : Value) : Prop where
  r : H.get (h.next + 1) = some (readerRow T a vo)
  x : H.get h.next = some (spotRow 0 0)
  o : OwnF (h.next + 2) H vo 217 o.length (o.flatMap Tok.cells)
  more : h.more H
  next : h.next + 2 ≤ H.next
theorem cells_len (o : List Tok) : (o.flatMap Tok.cells).length = o.length * 4 := by
  induction o with
  | nil => rfl
  | cons t o ih => rw [List.flatMap_cons, List.length_append, ih, List.length_cons]; simp [Tok.cells]; omega
section
variable {h H : Heap} {T : List UInt8} {a : Nat} {o : List Tok} {vo : Value} (st : LexSt h H T a o vo)
include st
theorem LexSt.at (a' : Nat) : LexSt h (H.set (h.next + 1) (readerRow T a' vo)) T a' o vo :=
  ⟨Heap.get_set_self st.r, by rw [Heap.get_set_ne (by omega)]; exact st.x, st.o.keep (fun j p q hp => by rw [Heap.get_set_ne (ne_of_plain st.r q rfl hp)]; exact q), Heap.more_set_new st.more (by omega) _, by simpa using st.next⟩
theorem LexSt.alloc (p : AObj) : LexSt h (H.alloc p) T a o vo :=
  ⟨by rw [Heap.get_alloc_old _ _ (Heap.lt_of_get st.r)]; exact st.r, by rw [Heap.get_alloc_old _ _ (Heap.lt_of_get st.x)]; exact st.x, st.o.keep (fun j p q _ => by rw [Heap.get_alloc_old _ _ (Heap.lt_of_get q)]; exact q), st.more.trans (Heap.more_alloc _ _), by have := st.next; simp; omega⟩
/-- Behind a call that turns the reader alone. -/
theorem LexSt.but {H' : Heap} {to : Nat} (hr : H'.get (h.next + 1) = some (readerRow T to vo)) (b : H.but (h.next + 1) H') : LexSt h H' T to o vo :=
  ⟨hr, by rw [b.2 _ (Heap.lt_of_get st.x) (by omega)]; exact st.x, st.o.keep (fun j p q hp => by rw [b.2 _ (Heap.lt_of_get q) (ne_of_plain st.r q rfl hp)]; exact q),
    ⟨by have := st.next; have := b.1; omega, fun j hj => by rw [b.2 _ (by have := st.next; omega) (by omega)]; exact st.more.2 j hj⟩, by have := st.next; have := b.1; omega⟩
theorem LexSt.push (t : Tok) (hb : o.length ≤ 1000000) :
    abuildSlice Tryz.prog H 208 1 [(0, t.val)] = some (.slice (some ⟨H.next, 0, none⟩) 1 1, H.alloc (.row { vs := t.cells, elem := 217 })) ∧
    ∃ s l c H', aappend Tryz.prog (H.alloc (.row { vs := t.cells, elem := 217 })) 208 208 vo (.slice (some ⟨H.next, 0, none⟩) 1 1) = some (.slice s l c, H') ∧ H'.get (h.next + 1) = some (readerRow T a vo) ∧
      LexSt h (H'.set (h.next + 1) (readerRow T a (.slice s l c))) T a (o ++ [t]) (.slice s l c) := by
  obtain ⟨h1, v', h', h2, h3, h4, h5, h6⟩ := own_pushF (w := t.val) Tryz.underlying208 elem31 (by omega) st.o st.next (cells_len o) rfl rfl (by omega) (by omega)
  obtain ⟨s, rfl⟩ := h3.form
  have hr := h5 _ _ st.r rfl
  refine ⟨h1, _, _, _, h', h2, hr, Heap.get_set_self hr, by rw [Heap.get_set_ne (by omega)]; exact h5 _ _ st.x rfl, ?_, ?_, by have := st.next; simp; omega⟩
  · have : OwnF (h.next + 2) h' (.slice s (o.length + 1) (o.length + 1)) 217 (o ++ [t]).length ((o ++ [t]).flatMap Tok.cells) := by
      rw [List.flatMap_append, List.length_append]
      simpa [Tok.val, Value.cells] using h3
    exact this.keep fun j p q hp => by rw [Heap.get_set_ne (ne_of_plain hr q rfl hp)]; exact q
  · refine Heap.more_set_new ⟨by have := st.more.1; omega, fun j hj => ?_⟩ (by omega) _
    rw [h6 j (by omega)]; exact st.more.2 j hj
end
/-- What Lex comes to. -/
def LexR (h : Heap) (R : Except (Nat × Nat) (List Tok)) (r : Ending) (h' : Heap) : Prop := match R with
  | .ok o => ∃ v, r = .returned (.tuple #[v, .agg #[.int .i64 0, .int .i64 0]]) ∧ OwnF (h.next + 2) h' v 217 o.length (o.flatMap Tok.cells) ∧ h.more h'
  | .error (e, p) => r = .returned (.tuple #[.slice none 0 0, .agg #[.int .i64 e, .int .i64 p]]) ∧ h.more h'
structure LexX where
  a : Nat
  sm : Bool
  o : List Tok
  vo : Value
  H : Heap

theorem lex_spec (G : Nat) (B : Base Tryz.prog G) (h : Heap) (T : List UInt8) (hTT : T.length ≤ 281474976710656) :
    Does Tryz.prog G (GoodE Tryz.prog B) 92 [.string (bs T)] h (LexR h (lexS T)) := by
  have c13 : canEnter Tryz.prog 132 = true := by kernel_rfl
  have c14 : canEnter Tryz.prog 133 = true := by kernel_rfl
  have c15 : canEnter Tryz.prog 134 = true := by kernel_rfl
  refine Does.body Tryz.func92 rfl ?_
  have hn : enterF Tryz.f92 [.string (bs T)] = ⟨113, [(0, .string (bs T))], []⟩ := rfl
  rw [hn]; clear hn
  repeat refine Wp.seq ?_
  refine Wp.runS (by simp only [runS, stepO, stepW, stepV, keep, guardOf, wantG, wantV, aop, binA, aev, flat, if_true, if_false, Option.bind_some, Option.map_some, Frm.put, look, setk, Nat.reduceLT, Nat.reduceEqDiff, evs, evp, evo, List.getElem?_toArray, List.getElem?_cons_succ, List.getElem?_cons_zero, Bool.false_eq_true, Bool.true_eq_false, beq_self_eq_true, beq_ft, beq_tf, notNil, Bool.not_true, Bool.not_false, reduceCtorEq, abuiltin, aextract, alloc27, Heap.new] <;> exact rfl) ?_
  dsimp only [after, leaving]
  have gx0 : (h.alloc (spotRow 0 0)).get h.next = some (spotRow 0 0) := Heap.get_alloc_new _ _
  by_cases hlong : 2048 < T.length
  · repeat refine Wp.seq ?_
    refine Wp.runS (by simp only [runS, stepO, stepW, stepV, keep, guardOf, wantG, wantV, aop, binA, aev, flat, if_true, if_false, Option.bind_some, Option.map_some, Frm.put, look, setk, Nat.reduceLT, Nat.reduceEqDiff, evs, evp, evo, List.getElem?_toArray, List.getElem?_cons_succ, List.getElem?_cons_zero, Bool.false_eq_true, Bool.true_eq_false, beq_self_eq_true, beq_ft, beq_tf, notNil, Bool.not_true, Bool.not_false, reduceCtorEq, abuiltin, aextract, alen_str Tryz.underlying9, bs_size, abin_int, ai_gtr, decide_eq_true (show (2048 : Int) < (T.length : Int) by omega)] <;> exact rfl) ?_
    dsimp only [after, leaving]
    repeat refine Wp.seq ?_
    refine Wp.condT (by simp only [runS, stepO, stepW, stepV, keep, guardOf, wantG, wantV, aop, binA, aev, flat, if_true, if_false, Option.bind_some, Option.map_some, Frm.put, look, setk, Nat.reduceLT, Nat.reduceEqDiff, evs, evp, evo, List.getElem?_toArray, List.getElem?_cons_succ, List.getElem?_cons_zero, Bool.false_eq_true, Bool.true_eq_false, beq_self_eq_true, beq_ft, beq_tf, notNil, Bool.not_true, Bool.not_false, reduceCtorEq, abuiltin, aextract]) ?_
    repeat refine Wp.seq ?_
    refine Wp.runS (by simp only [runS, stepO, stepW, stepV, keep, guardOf, wantG, wantV, aop, binA, aev, flat, if_true, if_false, Option.bind_some, Option.map_some, Frm.put, look, setk, Nat.reduceLT, Nat.reduceEqDiff, evs, evp, evo, List.getElem?_toArray, List.getElem?_cons_succ, List.getElem?_cons_zero, Bool.false_eq_true, Bool.true_eq_false, beq_self_eq_true, beq_ft, beq_tf, notNil, Bool.not_true, Bool.not_false, reduceCtorEq, abuiltin, aextract, build27, spot_store gx0] <;> exact rfl) ?_
    dsimp only [after, leaving]
    repeat refine Wp.seq ?_
    refine Wp.ret ?_
    dsimp only [after, leaving]
    refine ⟨rfl, rfl, _, ares9 rfl rfl (Heap.get_set_self gx0), ?_⟩
    unfold lexS
    rw [if_pos hlong]
    exact ⟨rfl, Heap.more_set_new (Heap.more_alloc _ _) (Nat.le_refl _) _⟩
  repeat refine Wp.seq ?_
  refine Wp.runS (by simp only [runS, stepO, stepW, stepV, keep, guardOf, wantG, wantV, aop, binA, aev, flat, if_true, if_false, Option.bind_some, Option.map_some, Frm.put, look, setk, Nat.reduceLT, Nat.reduceEqDiff, evs, evp, evo, List.getElem?_toArray, List.getElem?_cons_succ, List.getElem?_cons_zero, Bool.false_eq_true, Bool.true_eq_false, beq_self_eq_true, beq_ft, beq_tf, notNil, Bool.not_true, Bool.not_false, reduceCtorEq, abuiltin, aextract, alen_str Tryz.underlying9, bs_size, abin_int, ai_gtr, decide_eq_false (show ¬ (2048 : Int) < (T.length : Int) by omega)] <;> exact rfl) ?_
  dsimp only [after, leaving]
  repeat refine Wp.seq ?_
  refine Wp.condF (by simp only [runS, stepO, stepW, stepV, keep, guardOf, wantG, wantV, aop, binA, aev, flat, if_true, if_false, Option.bind_some, Option.map_some, Frm.put, look, setk, Nat.reduceLT, Nat.reduceEqDiff, evs, evp, evo, List.getElem?_toArray, List.getElem?_cons_succ, List.getElem?_cons_zero, Bool.false_eq_true, Bool.true_eq_false, beq_self_eq_true, beq_ft, beq_tf, notNil, Bool.not_true, Bool.not_false, reduceCtorEq, abuiltin, aextract]) ?_
  repeat refine Wp.seq ?_
  refine Wp.skip ?_
  dsimp only [after, leaving]
  repeat refine Wp.seq ?_
  refine Wp.runS (by simp only [runS, stepO, stepW, stepV, keep, guardOf, wantG, wantV, aop, binA, aev, flat, if_true, if_false, Option.bind_some, Option.map_some, Frm.put, look, setk, Nat.reduceLT, Nat.reduceEqDiff, evs, evp, evo, List.getElem?_toArray, List.getElem?_cons_succ, List.getElem?_cons_zero, Bool.false_eq_true, Bool.true_eq_false, beq_self_eq_true, beq_ft, beq_tf, notNil, Bool.not_true, Bool.not_false, reduceCtorEq, abuiltin, aextract, build35, abox, Heap.new, Heap.next_alloc] <;> exact rfl) ?_
  dsimp only [after, leaving]
  repeat refine Wp.seq ?_
  refine Wp.runS (by simp only [runS, stepO, stepW, stepV, keep, guardOf, wantG, wantV, aop, binA, aev, flat, if_true, if_false, Option.bind_some, Option.map_some, Frm.put, look, setk, Nat.reduceLT, Nat.reduceEqDiff, evs, evp, evo, List.getElem?_toArray, List.getElem?_cons_succ, List.getElem?_cons_zero, Bool.false_eq_true, Bool.true_eq_false, beq_self_eq_true, beq_ft, beq_tf, notNil, Bool.not_true, Bool.not_false, reduceCtorEq, abuiltin, aextract] <;> exact rfl) ?_
  dsimp only [after, leaving]
  have hT : T.length ≤ 2048 := by omega
  have st0 : LexSt h ((h.alloc (spotRow 0 0)).alloc (readerRow T 0 (.slice none 0 0))) T 0 [] (.slice none 0 0) :=
    ⟨by have := Heap.get_alloc_new (h.alloc (spotRow 0 0)) (readerRow T 0 (.slice none 0 0)); simpa using this, by rw [Heap.get_alloc_old _ _ (by simp)]; exact gx0, OwnF.nil _ _ _, (Heap.more_alloc _ _).trans (Heap.more_alloc _ _), by simp⟩
  change Wp _ _ _ _ _ _ ((h.alloc (spotRow 0 0)).alloc (readerRow T 0 (.slice none 0 0))) _
  generalize (h.alloc (spotRow 0 0)).alloc (readerRow T 0 (.slice none 0 0)) = H0 at st0 ⊢
  have hR : lexF T (T.length + 1) 0 false [] = lexS T := by unfold lexS; rw [if_neg hlong]
  generalize lexS T = R at hR ⊢
  repeat refine Wp.seq ?_
  refine Wp.block ?_
  refine Wp.loopI (X := LexX) (fun x => [(0, .string (bs T)), (3, .pointer (some ⟨h.next, 0, none⟩)), (4, .pointer (some ⟨h.next + 1, 0, none⟩)), (5, .bool x.sm)]) (fun x => x.H)
    (fun x => LexSt h x.H T x.a x.o x.vo ∧ x.a ≤ T.length ∧ x.o.length ≤ x.a ∧ ∃ f, lexF T f x.a x.sm x.o = R ∧ T.length - x.a < f) (fun x => T.length - x.a) ⟨0, false, [], _, H0⟩
    ⟨st0, Nat.zero_le _, Nat.le_refl _, _, hR, by simp⟩ ⟨rfl, rfl, rfl, rfl, trivial⟩ rfl ?_
  rintro ⟨a, sm, o, vo, H⟩ ⟨st, ha, ho, f, hf, hfuel⟩
  simp only [] at st ha ho hf hfuel ⊢
  obtain ⟨f, rfl⟩ : ∃ f', f = f' + 1 := ⟨f - 1, by omega⟩
  repeat refine Wp.seq ?_
  refine Wp.block ?_
  repeat refine Wp.seq ?_
  refine Wp.regionAs (is := List.range' 0 1 ++ (1 :: (List.range' 2 1 ++ []))) rfl ?_
  refine WpO.runS 1 (by simp only [List.drop_succ_cons, List.drop_zero, List.take_succ_cons, List.take_zero, runS, stepO, stepW, stepV, keep, guardOf, wantG, wantV, aop, binA, aev, flat, if_true, if_false, Option.bind_some, Option.map_some, Frm.put, look, setk, Nat.reduceLT, Nat.reduceEqDiff, evs, evp, evo, List.getElem?_toArray, List.getElem?_cons_succ, List.getElem?_cons_zero, Bool.false_eq_true, Bool.true_eq_false, beq_self_eq_true, beq_ft, beq_tf, notNil, Bool.not_true, Bool.not_false, reduceCtorEq, abuiltin, aextract] <;> exact rfl) (by decide) ?_
  refine WpO.callR (peek_spec G H (h.next + 1) T a vo st.r) rfl (by simp only [runS, stepO, stepW, stepV, keep, guardOf, wantG, wantV, aop, binA, aev, flat, if_true, if_false, Option.bind_some, Option.map_some, Frm.put, look, setk, Nat.reduceLT, Nat.reduceEqDiff, evs, evp, evo, List.getElem?_toArray, List.getElem?_cons_succ, List.getElem?_cons_zero, Bool.false_eq_true, Bool.true_eq_false, beq_self_eq_true, beq_ft, beq_tf, notNil, Bool.not_true, Bool.not_false, reduceCtorEq, abuiltin, aextract, c13]) (by simp only [calleeOf, fnOf, List.append_nil, List.nil_append, runS, stepO, stepW, stepV, keep, guardOf, wantG, wantV, aop, binA, aev, flat, if_true, if_false, Option.bind_some, Option.map_some, Frm.put, look, setk, Nat.reduceLT, Nat.reduceEqDiff, evs, evp, evo, List.getElem?_toArray, List.getElem?_cons_succ, List.getElem?_cons_zero, Bool.false_eq_true, Bool.true_eq_false, beq_self_eq_true, beq_ft, beq_tf, notNil, Bool.not_true, Bool.not_false, reduceCtorEq, abuiltin, aextract, c13] <;> exact rfl) ?_
  rintro _ h9 ⟨rfl, hh9⟩
  obtain rfl := hh9.symm
  clear hh9
  refine ⟨_, _, rfl, by simp only [runS, stepO, stepW, stepV, keep, guardOf, wantG, wantV, aop, binA, aev, flat, if_true, if_false, Option.bind_some, Option.map_some, Frm.put, look, setk, Nat.reduceLT, Nat.reduceEqDiff, evs, evp, evo, List.getElem?_toArray, List.getElem?_cons_succ, List.getElem?_cons_zero, Bool.false_eq_true, Bool.true_eq_false, beq_self_eq_true, beq_ft, beq_tf, notNil, Bool.not_true, Bool.not_false, reduceCtorEq, abuiltin, aextract]; exact rfl, ?_⟩
  refine WpO.runS 1 (by simp only [List.drop_succ_cons, List.drop_zero, List.take_succ_cons, List.take_zero, runS, stepO, stepW, stepV, keep, guardOf, wantG, wantV, aop, binA, aev, flat, if_true, if_false, Option.bind_some, Option.map_some, Frm.put, look, setk, Nat.reduceLT, Nat.reduceEqDiff, evs, evp, evo, List.getElem?_toArray, List.getElem?_cons_succ, List.getElem?_cons_zero, Bool.false_eq_true, Bool.true_eq_false, beq_self_eq_true, beq_ft, beq_tf, notNil, Bool.not_true, Bool.not_false, reduceCtorEq, abuiltin, aextract] <;> exact rfl) (by decide) ?_
  refine WpO.nil ?_
  dsimp only [after, leaving]
  have hf2 : (if peekB T a = 32 ∨ peekB T a = 9 then lexF T f (a + 1) sm o
    else if peekB T a = 35 then lexF T f (skipR T a) sm o
    else if peekB T a = 10 then (if a = T.length then .ok (if sm then o ++ [⟨6, [], 0, a⟩] else o) else lexF T f (a + 1) false (if sm then o ++ [⟨6, [], 0, a⟩] else o))
    else match tokS T a with
      | .error e => .error e
      | .ok (t, to) => lexF T f to true (o ++ [t])) = R := hf
  clear hf
  generalize hb : peekB T a = b at hf2 ⊢
  have lt10 : b ≠ 10 → a < T.length := fun q => peek_lt (by rw [hb]; exact q)
  have hw : IntKind.i64.wrap ((a : Int) + 1) = ((a + 1 : Nat) : Int) := by rw [wrap_in (by omega) (by omega)]; omega
  repeat refine Wp.seq ?_
  refine Wp.runS (by simp only [runS, stepO, stepW, stepV, keep, guardOf, wantG, wantV, aop, binA, aev, flat, if_true, if_false, Option.bind_some, Option.map_some, Frm.put, look, setk, Nat.reduceLT, Nat.reduceEqDiff, evs, evp, evo, List.getElem?_toArray, List.getElem?_cons_succ, List.getElem?_cons_zero, Bool.false_eq_true, Bool.true_eq_false, beq_self_eq_true, beq_ft, beq_tf, notNil, Bool.not_true, Bool.not_false, reduceCtorEq, abuiltin, aextract] <;> exact rfl) ?_
  dsimp only [after, leaving]
  repeat refine Wp.seq ?_
  refine Wp.block ?_
  by_cases k1 : b = 32
  · have e1 : ((b.toNat : Int) == 32) = true := by rw [k1]; rfl
    rw [if_pos (.inl k1)] at hf2
    have hlt := lt10 (by rw [k1]; decide)
    repeat refine Wp.seq ?_
    refine Wp.runS (by simp only [runS, stepO, stepW, stepV, keep, guardOf, wantG, wantV, aop, binA, aev, flat, if_true, if_false, Option.bind_some, Option.map_some, Frm.put, look, setk, Nat.reduceLT, Nat.reduceEqDiff, evs, evp, evo, List.getElem?_toArray, List.getElem?_cons_succ, List.getElem?_cons_zero, Bool.false_eq_true, Bool.true_eq_false, beq_self_eq_true, beq_ft, beq_tf, notNil, Bool.not_true, Bool.not_false, reduceCtorEq, abuiltin, aextract, byteV, abin_int, ai_eql, e1] <;> exact rfl) ?_
    dsimp only [after, leaving]
    repeat refine Wp.seq ?_
    refine Wp.condT (by simp only [runS, stepO, stepW, stepV, keep, guardOf, wantG, wantV, aop, binA, aev, flat, if_true, if_false, Option.bind_some, Option.map_some, Frm.put, look, setk, Nat.reduceLT, Nat.reduceEqDiff, evs, evp, evo, List.getElem?_toArray, List.getElem?_cons_succ, List.getElem?_cons_zero, Bool.false_eq_true, Bool.true_eq_false, beq_self_eq_true, beq_ft, beq_tf, notNil, Bool.not_true, Bool.not_false, reduceCtorEq, abuiltin, aextract]) ?_
    repeat refine Wp.seq ?_
    refine Wp.skip ?_
    dsimp only [after, leaving]
    repeat refine Wp.seq ?_
    refine Wp.condT (by simp only [runS, stepO, stepW, stepV, keep, guardOf, wantG, wantV, aop, binA, aev, flat, if_true, if_false, Option.bind_some, Option.map_some, Frm.put, look, setk, Nat.reduceLT, Nat.reduceEqDiff, evs, evp, evo, List.getElem?_toArray, List.getElem?_cons_succ, List.getElem?_cons_zero, Bool.false_eq_true, Bool.true_eq_false, beq_self_eq_true, beq_ft, beq_tf, notNil, Bool.not_true, Bool.not_false, reduceCtorEq, abuiltin, aextract]) ?_
    have st1 := st.at (a + 1)
    repeat refine Wp.seq ?_
    refine Wp.runS (by simp only [runS, stepO, stepW, stepV, keep, guardOf, wantG, wantV, aop, binA, aev, flat, if_true, if_false, Option.bind_some, Option.map_some, Frm.put, look, setk, Nat.reduceLT, Nat.reduceEqDiff, evs, evp, evo, List.getElem?_toArray, List.getElem?_cons_succ, List.getElem?_cons_zero, Bool.false_eq_true, Bool.true_eq_false, beq_self_eq_true, beq_ft, beq_tf, notNil, Bool.not_true, Bool.not_false, reduceCtorEq, abuiltin, aextract, r1, aload_cell agg3, Nat.zero_add, Heap.ld_of st.r (k := 1) rfl, abin_int, ai_add, hw, storeAt st.r] <;> exact rfl) ?_
    dsimp only [after, leaving]
    repeat refine Wp.seq ?_
    refine Wp.exit ?_
    simp only [after, leaving, blockExit, if_true, if_false, Nat.reduceEqDiff]
    exact ⟨⟨a + 1, sm, o, vo, _⟩, _, ⟨st1, by simp only []; omega, by simp only []; omega, f, hf2, by simp only []; omega⟩, by simp only []; omega, rfl, ⟨rfl, rfl, rfl, rfl, trivial⟩, trivial, rfl⟩
  have e1 : ((b.toNat : Int) == 32) = false := by rw [beq_eq_false_iff_ne]; intro q; exact k1 ((byte_eq _ 32 (by omega)).2 (by omega))
  by_cases k2 : b = 9
  · have e2 : ((b.toNat : Int) == 9) = true := by rw [k2]; rfl
    rw [if_pos (.inr k2)] at hf2
    have hlt := lt10 (by rw [k2]; decide)
    repeat refine Wp.seq ?_
    refine Wp.runS (by simp only [runS, stepO, stepW, stepV, keep, guardOf, wantG, wantV, aop, binA, aev, flat, if_true, if_false, Option.bind_some, Option.map_some, Frm.put, look, setk, Nat.reduceLT, Nat.reduceEqDiff, evs, evp, evo, List.getElem?_toArray, List.getElem?_cons_succ, List.getElem?_cons_zero, Bool.false_eq_true, Bool.true_eq_false, beq_self_eq_true, beq_ft, beq_tf, notNil, Bool.not_true, Bool.not_false, reduceCtorEq, abuiltin, aextract, byteV, abin_int, ai_eql, e1] <;> exact rfl) ?_
    dsimp only [after, leaving]
    repeat refine Wp.seq ?_
    refine Wp.condF (by simp only [runS, stepO, stepW, stepV, keep, guardOf, wantG, wantV, aop, binA, aev, flat, if_true, if_false, Option.bind_some, Option.map_some, Frm.put, look, setk, Nat.reduceLT, Nat.reduceEqDiff, evs, evp, evo, List.getElem?_toArray, List.getElem?_cons_succ, List.getElem?_cons_zero, Bool.false_eq_true, Bool.true_eq_false, beq_self_eq_true, beq_ft, beq_tf, notNil, Bool.not_true, Bool.not_false, reduceCtorEq, abuiltin, aextract]) ?_
    repeat refine Wp.seq ?_
    refine Wp.runS (by simp only [runS, stepO, stepW, stepV, keep, guardOf, wantG, wantV, aop, binA, aev, flat, if_true, if_false, Option.bind_some, Option.map_some, Frm.put, look, setk, Nat.reduceLT, Nat.reduceEqDiff, evs, evp, evo, List.getElem?_toArray, List.getElem?_cons_succ, List.getElem?_cons_zero, Bool.false_eq_true, Bool.true_eq_false, beq_self_eq_true, beq_ft, beq_tf, notNil, Bool.not_true, Bool.not_false, reduceCtorEq, abuiltin, aextract, byteV, abin_int, ai_eql, e2] <;> exact rfl) ?_
    dsimp only [after, leaving]
    repeat refine Wp.seq ?_
    refine Wp.condT (by simp only [runS, stepO, stepW, stepV, keep, guardOf, wantG, wantV, aop, binA, aev, flat, if_true, if_false, Option.bind_some, Option.map_some, Frm.put, look, setk, Nat.reduceLT, Nat.reduceEqDiff, evs, evp, evo, List.getElem?_toArray, List.getElem?_cons_succ, List.getElem?_cons_zero, Bool.false_eq_true, Bool.true_eq_false, beq_self_eq_true, beq_ft, beq_tf, notNil, Bool.not_true, Bool.not_false, reduceCtorEq, abuiltin, aextract]) ?_
    have st1 := st.at (a + 1)
    repeat refine Wp.seq ?_
    refine Wp.runS (by simp only [runS, stepO, stepW, stepV, keep, guardOf, wantG, wantV, aop, binA, aev, flat, if_true, if_false, Option.bind_some, Option.map_some, Frm.put, look, setk, Nat.reduceLT, Nat.reduceEqDiff, evs, evp, evo, List.getElem?_toArray, List.getElem?_cons_succ, List.getElem?_cons_zero, Bool.false_eq_true, Bool.true_eq_false, beq_self_eq_true, beq_ft, beq_tf, notNil, Bool.not_true, Bool.not_false, reduceCtorEq, abuiltin, aextract, r1, aload_cell agg3, Nat.zero_add, Heap.ld_of st.r (k := 1) rfl, abin_int, ai_add, hw, storeAt st.r] <;> exact rfl) ?_
    dsimp only [after, leaving]
    repeat refine Wp.seq ?_
    refine Wp.exit ?_
    simp only [after, leaving, blockExit, if_true, if_false, Nat.reduceEqDiff]
    exact ⟨⟨a + 1, sm, o, vo, _⟩, _, ⟨st1, by simp only []; omega, by simp only []; omega, f, hf2, by simp only []; omega⟩, by simp only []; omega, rfl, ⟨rfl, rfl, rfl, rfl, trivial⟩, trivial, rfl⟩
  have e2 : ((b.toNat : Int) == 9) = false := by rw [beq_eq_false_iff_ne]; intro q; exact k2 ((byte_eq _ 9 (by omega)).2 (by omega))
  rw [if_neg fun q => q.elim k1 k2] at hf2
  repeat refine Wp.seq ?_
  refine Wp.runS (by simp only [runS, stepO, stepW, stepV, keep, guardOf, wantG, wantV, aop, binA, aev, flat, if_true, if_false, Option.bind_some, Option.map_some, Frm.put, look, setk, Nat.reduceLT, Nat.reduceEqDiff, evs, evp, evo, List.getElem?_toArray, List.getElem?_cons_succ, List.getElem?_cons_zero, Bool.false_eq_true, Bool.true_eq_false, beq_self_eq_true, beq_ft, beq_tf, notNil, Bool.not_true, Bool.not_false, reduceCtorEq, abuiltin, aextract, byteV, abin_int, ai_eql, e1] <;> exact rfl) ?_
  dsimp only [after, leaving]
  repeat refine Wp.seq ?_
  refine Wp.condF (by simp only [runS, stepO, stepW, stepV, keep, guardOf, wantG, wantV, aop, binA, aev, flat, if_true, if_false, Option.bind_some, Option.map_some, Frm.put, look, setk, Nat.reduceLT, Nat.reduceEqDiff, evs, evp, evo, List.getElem?_toArray, List.getElem?_cons_succ, List.getElem?_cons_zero, Bool.false_eq_true, Bool.true_eq_false, beq_self_eq_true, beq_ft, beq_tf, notNil, Bool.not_true, Bool.not_false, reduceCtorEq, abuiltin, aextract]) ?_
  repeat refine Wp.seq ?_
  refine Wp.runS (by simp only [runS, stepO, stepW, stepV, keep, guardOf, wantG, wantV, aop, binA, aev, flat, if_true, if_false, Option.bind_some, Option.map_some, Frm.put, look, setk, Nat.reduceLT, Nat.reduceEqDiff, evs, evp, evo, List.getElem?_toArray, List.getElem?_cons_succ, List.getElem?_cons_zero, Bool.false_eq_true, Bool.true_eq_false, beq_self_eq_true, beq_ft, beq_tf, notNil, Bool.not_true, Bool.not_false, reduceCtorEq, abuiltin, aextract, byteV, abin_int, ai_eql, e2] <;> exact rfl) ?_
  dsimp only [after, leaving]
  repeat refine Wp.seq ?_
  refine Wp.condF (by simp only [runS, stepO, stepW, stepV, keep, guardOf, wantG, wantV, aop, binA, aev, flat, if_true, if_false, Option.bind_some, Option.map_some, Frm.put, look, setk, Nat.reduceLT, Nat.reduceEqDiff, evs, evp, evo, List.getElem?_toArray, List.getElem?_cons_succ, List.getElem?_cons_zero, Bool.false_eq_true, Bool.true_eq_false, beq_self_eq_true, beq_ft, beq_tf, notNil, Bool.not_true, Bool.not_false, reduceCtorEq, abuiltin, aextract]) ?_
  by_cases k3 : b = 35
  · -- a remark
    have e3 : ((b.toNat : Int) == 35) = true := by rw [k3]; rfl
    rw [if_pos k3] at hf2
    have hlt := lt10 (by rw [k3]; decide)
    obtain ⟨g1, g2⟩ := skipR_gt (by rw [hb]; exact k3)
    repeat refine Wp.seq ?_
    refine Wp.runS (by simp only [runS, stepO, stepW, stepV, keep, guardOf, wantG, wantV, aop, binA, aev, flat, if_true, if_false, Option.bind_some, Option.map_some, Frm.put, look, setk, Nat.reduceLT, Nat.reduceEqDiff, evs, evp, evo, List.getElem?_toArray, List.getElem?_cons_succ, List.getElem?_cons_zero, Bool.false_eq_true, Bool.true_eq_false, beq_self_eq_true, beq_ft, beq_tf, notNil, Bool.not_true, Bool.not_false, reduceCtorEq, abuiltin, aextract, byteV, abin_int, ai_eql, e3] <;> exact rfl) ?_
    dsimp only [after, leaving]
    repeat refine Wp.seq ?_
    refine Wp.condT (by simp only [runS, stepO, stepW, stepV, keep, guardOf, wantG, wantV, aop, binA, aev, flat, if_true, if_false, Option.bind_some, Option.map_some, Frm.put, look, setk, Nat.reduceLT, Nat.reduceEqDiff, evs, evp, evo, List.getElem?_toArray, List.getElem?_cons_succ, List.getElem?_cons_zero, Bool.false_eq_true, Bool.true_eq_false, beq_self_eq_true, beq_ft, beq_tf, notNil, Bool.not_true, Bool.not_false, reduceCtorEq, abuiltin, aextract]) ?_
    have hsl : aslice Tryz.prog H 9 (.string (bs T)) (some (.int .i64 (a : Nat))) none none = some (.string (bs (T.drop a)), H) := by
      rw [aslice_str Tryz.underlying9 (by omega) (by simp only [bs_size]; omega), Int.toNat_natCast]
      exact congrArg (fun x => some (Value.string x, H)) (bs_drop T a)
    have hix : firstIdx (bs (T.drop a)) ((10 : Int)).toNat.toUInt8 = Lib.indexByte (T.drop a) 10 := by rw [Lib.firstIdx_eq]; rfl
    repeat refine Wp.seq ?_
    refine Wp.regionAs (is := List.range' 0 6 ++ (6 :: (List.range' 7 1 ++ []))) rfl ?_
    refine WpO.runS 6 (by simp only [List.drop_succ_cons, List.drop_zero, List.take_succ_cons, List.take_zero, runS, stepO, stepW, stepV, keep, guardOf, wantG, wantV, aop, binA, aev, flat, if_true, if_false, Option.bind_some, Option.map_some, Frm.put, look, setk, Nat.reduceLT, Nat.reduceEqDiff, evs, evp, evo, List.getElem?_toArray, List.getElem?_cons_succ, List.getElem?_cons_zero, Bool.false_eq_true, Bool.true_eq_false, beq_self_eq_true, beq_ft, beq_tf, notNil, Bool.not_true, Bool.not_false, reduceCtorEq, abuiltin, aextract, r1, Nat.zero_add, aload_cell agg3, Heap.ld_of st.r (k := 1) rfl, hsl] <;> exact rfl) (by decide) ?_
    refine WpO.callR (indexByte_spec G H (bs (T.drop a)) 10) rfl (by simp only [runS, stepO, stepW, stepV, keep, guardOf, wantG, wantV, aop, binA, aev, flat, if_true, if_false, Option.bind_some, Option.map_some, Frm.put, look, setk, Nat.reduceLT, Nat.reduceEqDiff, evs, evp, evo, List.getElem?_toArray, List.getElem?_cons_succ, List.getElem?_cons_zero, Bool.false_eq_true, Bool.true_eq_false, beq_self_eq_true, beq_ft, beq_tf, notNil, Bool.not_true, Bool.not_false, reduceCtorEq, abuiltin, aextract, c14]) (by simp only [calleeOf, fnOf, List.append_nil, List.nil_append, runS, stepO, stepW, stepV, keep, guardOf, wantG, wantV, aop, binA, aev, flat, if_true, if_false, Option.bind_some, Option.map_some, Frm.put, look, setk, Nat.reduceLT, Nat.reduceEqDiff, evs, evp, evo, List.getElem?_toArray, List.getElem?_cons_succ, List.getElem?_cons_zero, Bool.false_eq_true, Bool.true_eq_false, beq_self_eq_true, beq_ft, beq_tf, notNil, Bool.not_true, Bool.not_false, reduceCtorEq, abuiltin, aextract, c14] <;> exact rfl) ?_
    rintro _ h9 ⟨rfl, hh9⟩
    obtain rfl := hh9.symm
    clear hh9
    refine ⟨_, _, rfl, by simp only [runS, stepO, stepW, stepV, keep, guardOf, wantG, wantV, aop, binA, aev, flat, if_true, if_false, Option.bind_some, Option.map_some, Frm.put, look, setk, Nat.reduceLT, Nat.reduceEqDiff, evs, evp, evo, List.getElem?_toArray, List.getElem?_cons_succ, List.getElem?_cons_zero, Bool.false_eq_true, Bool.true_eq_false, beq_self_eq_true, beq_ft, beq_tf, notNil, Bool.not_true, Bool.not_false, reduceCtorEq, abuiltin, aextract]; exact rfl, ?_⟩
    rw [hix]
    refine WpO.runS 1 (by simp only [List.drop_succ_cons, List.drop_zero, List.take_succ_cons, List.take_zero, runS, stepO, stepW, stepV, keep, guardOf, wantG, wantV, aop, binA, aev, flat, if_true, if_false, Option.bind_some, Option.map_some, Frm.put, look, setk, Nat.reduceLT, Nat.reduceEqDiff, evs, evp, evo, List.getElem?_toArray, List.getElem?_cons_succ, List.getElem?_cons_zero, Bool.false_eq_true, Bool.true_eq_false, beq_self_eq_true, beq_ft, beq_tf, notNil, Bool.not_true, Bool.not_false, reduceCtorEq, abuiltin, aextract] <;> exact rfl) (by decide) ?_
    refine WpO.nil ?_
    dsimp only [after, leaving]
    have st1 := st.at (skipR T a)
    by_cases hneg : 0 ≤ Lib.indexByte (T.drop a) 10
    · have hsk : skipR T a = a + (Lib.indexByte (T.drop a) 10).toNat := by unfold skipR; rw [if_pos hneg]
      have hw2 : IntKind.i64.wrap ((a : Int) + Lib.indexByte (T.drop a) 10) = ((skipR T a : Nat) : Int) := by rw [wrap_in (by omega) (by omega)]; omega
      repeat refine Wp.seq ?_
      refine Wp.runS (by simp only [runS, stepO, stepW, stepV, keep, guardOf, wantG, wantV, aop, binA, aev, flat, if_true, if_false, Option.bind_some, Option.map_some, Frm.put, look, setk, Nat.reduceLT, Nat.reduceEqDiff, evs, evp, evo, List.getElem?_toArray, List.getElem?_cons_succ, List.getElem?_cons_zero, Bool.false_eq_true, Bool.true_eq_false, beq_self_eq_true, beq_ft, beq_tf, notNil, Bool.not_true, Bool.not_false, reduceCtorEq, abuiltin, aextract, abin_int, ai_geq, decide_eq_true hneg] <;> exact rfl) ?_
      dsimp only [after, leaving]
      repeat refine Wp.seq ?_
      refine Wp.condT (by simp only [runS, stepO, stepW, stepV, keep, guardOf, wantG, wantV, aop, binA, aev, flat, if_true, if_false, Option.bind_some, Option.map_some, Frm.put, look, setk, Nat.reduceLT, Nat.reduceEqDiff, evs, evp, evo, List.getElem?_toArray, List.getElem?_cons_succ, List.getElem?_cons_zero, Bool.false_eq_true, Bool.true_eq_false, beq_self_eq_true, beq_ft, beq_tf, notNil, Bool.not_true, Bool.not_false, reduceCtorEq, abuiltin, aextract]) ?_
      repeat refine Wp.seq ?_
      refine Wp.runS (by simp only [runS, stepO, stepW, stepV, keep, guardOf, wantG, wantV, aop, binA, aev, flat, if_true, if_false, Option.bind_some, Option.map_some, Frm.put, look, setk, Nat.reduceLT, Nat.reduceEqDiff, evs, evp, evo, List.getElem?_toArray, List.getElem?_cons_succ, List.getElem?_cons_zero, Bool.false_eq_true, Bool.true_eq_false, beq_self_eq_true, beq_ft, beq_tf, notNil, Bool.not_true, Bool.not_false, reduceCtorEq, abuiltin, aextract, r1, aload_cell agg3, Nat.zero_add, Heap.ld_of st.r (k := 1) rfl, abin_int, ai_add, hw2, storeAt st.r] <;> exact rfl) ?_
      dsimp only [after, leaving]
      repeat refine Wp.seq ?_
      refine Wp.exit ?_
      simp only [after, leaving, blockExit, if_true, if_false, Nat.reduceEqDiff]
      exact ⟨⟨skipR T a, sm, o, vo, _⟩, _, ⟨st1, g2, by simp only []; omega, f, hf2, by simp only []; omega⟩, by simp only []; omega, rfl, ⟨rfl, rfl, rfl, rfl, trivial⟩, trivial, rfl⟩
    · have hsk : skipR T a = T.length := by unfold skipR; rw [if_neg hneg]
      repeat refine Wp.seq ?_
      refine Wp.runS (by simp only [runS, stepO, stepW, stepV, keep, guardOf, wantG, wantV, aop, binA, aev, flat, if_true, if_false, Option.bind_some, Option.map_some, Frm.put, look, setk, Nat.reduceLT, Nat.reduceEqDiff, evs, evp, evo, List.getElem?_toArray, List.getElem?_cons_succ, List.getElem?_cons_zero, Bool.false_eq_true, Bool.true_eq_false, beq_self_eq_true, beq_ft, beq_tf, notNil, Bool.not_true, Bool.not_false, reduceCtorEq, abuiltin, aextract, abin_int, ai_geq, decide_eq_false hneg] <;> exact rfl) ?_
      dsimp only [after, leaving]
      repeat refine Wp.seq ?_
      refine Wp.condF (by simp only [runS, stepO, stepW, stepV, keep, guardOf, wantG, wantV, aop, binA, aev, flat, if_true, if_false, Option.bind_some, Option.map_some, Frm.put, look, setk, Nat.reduceLT, Nat.reduceEqDiff, evs, evp, evo, List.getElem?_toArray, List.getElem?_cons_succ, List.getElem?_cons_zero, Bool.false_eq_true, Bool.true_eq_false, beq_self_eq_true, beq_ft, beq_tf, notNil, Bool.not_true, Bool.not_false, reduceCtorEq, abuiltin, aextract]) ?_
      repeat refine Wp.seq ?_
      refine Wp.runS (by simp only [runS, stepO, stepW, stepV, keep, guardOf, wantG, wantV, aop, binA, aev, flat, if_true, if_false, Option.bind_some, Option.map_some, Frm.put, look, setk, Nat.reduceLT, Nat.reduceEqDiff, evs, evp, evo, List.getElem?_toArray, List.getElem?_cons_succ, List.getElem?_cons_zero, Bool.false_eq_true, Bool.true_eq_false, beq_self_eq_true, beq_ft, beq_tf, notNil, Bool.not_true, Bool.not_false, reduceCtorEq, abuiltin, aextract, r1, Nat.zero_add, alen_str Tryz.underlying9, bs_size, storeAt st.r] <;> exact rfl) ?_
      dsimp only [after, leaving]
      repeat refine Wp.seq ?_
      refine Wp.exit ?_
      simp only [after, leaving, blockExit, if_true, if_false, Nat.reduceEqDiff]
      rw [hsk] at st1 hf2
      exact ⟨⟨T.length, sm, o, vo, _⟩, _, ⟨st1, Nat.le_refl _, by simp only []; omega, f, hf2, by simp only []; omega⟩, by simp only []; omega, rfl, ⟨rfl, rfl, rfl, rfl, trivial⟩, trivial, rfl⟩
  have e3 : ((b.toNat : Int) == 35) = false := by rw [beq_eq_false_iff_ne]; intro q; exact k3 ((byte_eq _ 35 (by omega)).2 (by omega))
  rw [if_neg k3] at hf2
  repeat refine Wp.seq ?_
  refine Wp.runS (by simp only [runS, stepO, stepW, stepV, keep, guardOf, wantG, wantV, aop, binA, aev, flat, if_true, if_false, Option.bind_some, Option.map_some, Frm.put, look, setk, Nat.reduceLT, Nat.reduceEqDiff, evs, evp, evo, List.getElem?_toArray, List.getElem?_cons_succ, List.getElem?_cons_zero, Bool.false_eq_true, Bool.true_eq_false, beq_self_eq_true, beq_ft, beq_tf, notNil, Bool.not_true, Bool.not_false, reduceCtorEq, abuiltin, aextract, byteV, abin_int, ai_eql, e3] <;> exact rfl) ?_
  dsimp only [after, leaving]
  repeat refine Wp.seq ?_
  refine Wp.condF (by simp only [runS, stepO, stepW, stepV, keep, guardOf, wantG, wantV, aop, binA, aev, flat, if_true, if_false, Option.bind_some, Option.map_some, Frm.put, look, setk, Nat.reduceLT, Nat.reduceEqDiff, evs, evp, evo, List.getElem?_toArray, List.getElem?_cons_succ, List.getElem?_cons_zero, Bool.false_eq_true, Bool.true_eq_false, beq_self_eq_true, beq_ft, beq_tf, notNil, Bool.not_true, Bool.not_false, reduceCtorEq, abuiltin, aextract]) ?_
  have ldo : ∀ H' : Heap, H'.get (h.next + 1) = some (readerRow T a vo) → H'.ld (h.next + 1) 2 = some vo := fun H' g => Heap.ld_of g rfl
  by_cases k4 : b = 10
  · have e4 : ((b.toNat : Int) == 10) = true := by rw [k4]; rfl
    rw [if_pos k4] at hf2
    repeat refine Wp.seq ?_
    refine Wp.runS (by simp only [runS, stepO, stepW, stepV, keep, guardOf, wantG, wantV, aop, binA, aev, flat, if_true, if_false, Option.bind_some, Option.map_some, Frm.put, look, setk, Nat.reduceLT, Nat.reduceEqDiff, evs, evp, evo, List.getElem?_toArray, List.getElem?_cons_succ, List.getElem?_cons_zero, Bool.false_eq_true, Bool.true_eq_false, beq_self_eq_true, beq_ft, beq_tf, notNil, Bool.not_true, Bool.not_false, reduceCtorEq, abuiltin, aextract, byteV, abin_int, ai_eql, e4] <;> exact rfl) ?_
    dsimp only [after, leaving]
    repeat refine Wp.seq ?_
    refine Wp.condT (by simp only [runS, stepO, stepW, stepV, keep, guardOf, wantG, wantV, aop, binA, aev, flat, if_true, if_false, Option.bind_some, Option.map_some, Frm.put, look, setk, Nat.reduceLT, Nat.reduceEqDiff, evs, evp, evo, List.getElem?_toArray, List.getElem?_cons_succ, List.getElem?_cons_zero, Bool.false_eq_true, Bool.true_eq_false, beq_self_eq_true, beq_ft, beq_tf, notNil, Bool.not_true, Bool.not_false, reduceCtorEq, abuiltin, aextract]) ?_
    generalize ho' : (if sm then o ++ [⟨6, [], 0, a⟩] else o) = o' at hf2
    repeat refine Wp.seq ?_
    refine Wp.cut (fun fr u h' => u = none ∧ h' = H ∧ ∃ sl, fr = ⟨113, sl, []⟩ ∧ holds [(0, .string (bs T)), (3, .pointer (some ⟨h.next, 0, none⟩)), (4, .pointer (some ⟨h.next + 1, 0, none⟩)), (56, .bool sm)] sl) ?_ ?_
    rotate_left
    · repeat refine Wp.seq ?_
      refine Wp.runS (by simp only [runS, stepO, stepW, stepV, keep, guardOf, wantG, wantV, aop, binA, aev, flat, if_true, if_false, Option.bind_some, Option.map_some, Frm.put, look, setk, Nat.reduceLT, Nat.reduceEqDiff, evs, evp, evo, List.getElem?_toArray, List.getElem?_cons_succ, List.getElem?_cons_zero, Bool.false_eq_true, Bool.true_eq_false, beq_self_eq_true, beq_ft, beq_tf, notNil, Bool.not_true, Bool.not_false, reduceCtorEq, abuiltin, aextract] <;> exact rfl) ?_
      dsimp only [after, leaving]
      exact ⟨rfl, rfl, _, rfl, rfl, rfl, rfl, rfl, trivial⟩
    rintro fr u h9 ⟨rfl, hH, sl, rfl, hs⟩
    obtain rfl := hH.symm
    clear hH
    dsimp only [after, leaving]
    refine Wp.weaken (Frm.le_of hs) ?_
    clear hs sl
    refine Wp.cut (fun fr u h' => u = none ∧ ∃ vo', LexSt h h' T a o' vo' ∧ o'.length ≤ a + 1 ∧ ∃ sl, fr = ⟨113, sl, []⟩ ∧ holds [(0, .string (bs T)), (3, .pointer (some ⟨h.next, 0, none⟩)), (4, .pointer (some ⟨h.next + 1, 0, none⟩))] sl) ?_ ?_
    rotate_left
    · cases sm with
      | false =>
        repeat refine Wp.seq ?_
        refine Wp.condF (by simp only [runS, stepO, stepW, stepV, keep, guardOf, wantG, wantV, aop, binA, aev, flat, if_true, if_false, Option.bind_some, Option.map_some, Frm.put, look, setk, Nat.reduceLT, Nat.reduceEqDiff, evs, evp, evo, List.getElem?_toArray, List.getElem?_cons_succ, List.getElem?_cons_zero, Bool.false_eq_true, Bool.true_eq_false, beq_self_eq_true, beq_ft, beq_tf, notNil, Bool.not_true, Bool.not_false, reduceCtorEq, abuiltin, aextract]) ?_
        repeat refine Wp.seq ?_
        refine Wp.skip ?_
        dsimp only [after, leaving]
        simp only [Bool.false_eq_true, if_false] at ho'
        subst ho'
        exact ⟨rfl, vo, st, by omega, _, rfl, rfl, rfl, rfl, trivial⟩
      | true =>
        simp only [if_true] at ho'
        subst ho'
        repeat refine Wp.seq ?_
        refine Wp.condT (by simp only [runS, stepO, stepW, stepV, keep, guardOf, wantG, wantV, aop, binA, aev, flat, if_true, if_false, Option.bind_some, Option.map_some, Frm.put, look, setk, Nat.reduceLT, Nat.reduceEqDiff, evs, evp, evo, List.getElem?_toArray, List.getElem?_cons_succ, List.getElem?_cons_zero, Bool.false_eq_true, Bool.true_eq_false, beq_self_eq_true, beq_ft, beq_tf, notNil, Bool.not_true, Bool.not_false, reduceCtorEq, abuiltin, aextract]) ?_
        obtain ⟨a1, s, l, c, H1, a2, hr1, st1⟩ := st.push ⟨6, [], 0, a⟩ (by omega)
        repeat refine Wp.seq ?_
        refine Wp.drawAs [61] [] 4 (fun H' => H'.get (h.next + 1) = some (readerRow T a vo)) mixed (by kernel_rfl) st.r ?_
        refine DrT.run 4 (by simp only [List.take_succ_cons, List.take_zero, runSD, stepOD, stepWD, stepVD, isLoud, isPure, isReader, isEqOp, isConstO, decide_true, Bool.or_true, Bool.true_or, Bool.or_self, Bool.and_self, Bool.and_true, Bool.and_false, Bool.false_and, Bool.true_and, Heap.next_set, Heap.next_alloc, runS, stepO, stepW, stepV, keep, guardOf, wantG, wantV, aop, binA, aev, flat, if_true, if_false, Option.bind_some, Option.map_some, Frm.put, look, setk, Nat.reduceLT, Nat.reduceEqDiff, evs, evp, evo, List.getElem?_toArray, List.getElem?_cons_succ, List.getElem?_cons_zero, Bool.false_eq_true, Bool.true_eq_false, beq_self_eq_true, beq_ft, beq_tf, notNil, Bool.not_true, Bool.not_false, reduceCtorEq, abuiltin, aextract, r2, Nat.zero_add] <;> exact rfl) rfl ?_
        try simp only [List.drop_succ_cons, List.drop_zero]
        refine DrT.read rfl rfl (by simp only [runS, stepO, stepW, stepV, keep, guardOf, wantG, wantV, aop, binA, aev, flat, if_true, if_false, Option.bind_some, Option.map_some, Frm.put, look, setk, Nat.reduceLT, Nat.reduceEqDiff, evs, evp, evo, List.getElem?_toArray, List.getElem?_cons_succ, List.getElem?_cons_zero, Bool.false_eq_true, Bool.true_eq_false, beq_self_eq_true, beq_ft, beq_tf, notNil, Bool.not_true, Bool.not_false, reduceCtorEq, abuiltin, aextract]) (by simp only [runS, stepO, stepW, stepV, keep, guardOf, wantG, wantV, aop, binA, aev, flat, if_true, if_false, Option.bind_some, Option.map_some, Frm.put, look, setk, Nat.reduceLT, Nat.reduceEqDiff, evs, evp, evo, List.getElem?_toArray, List.getElem?_cons_succ, List.getElem?_cons_zero, Bool.false_eq_true, Bool.true_eq_false, beq_self_eq_true, beq_ft, beq_tf, notNil, Bool.not_true, Bool.not_false, reduceCtorEq, abuiltin, aextract, aload_cell agg24, ldo H st.r] <;> exact rfl) (fun H hK2 => by simp only [runS, stepO, stepW, stepV, keep, guardOf, wantG, wantV, aop, binA, aev, flat, if_true, if_false, Option.bind_some, Option.map_some, Frm.put, look, setk, Nat.reduceLT, Nat.reduceEqDiff, evs, evp, evo, List.getElem?_toArray, List.getElem?_cons_succ, List.getElem?_cons_zero, Bool.false_eq_true, Bool.true_eq_false, beq_self_eq_true, beq_ft, beq_tf, notNil, Bool.not_true, Bool.not_false, reduceCtorEq, abuiltin, aextract, aload_cell agg24, ldo H hK2] <;> exact rfl) (by simp only [runS, stepO, stepW, stepV, keep, guardOf, wantG, wantV, aop, binA, aev, flat, if_true, if_false, Option.bind_some, Option.map_some, Frm.put, look, setk, Nat.reduceLT, Nat.reduceEqDiff, evs, evp, evo, List.getElem?_toArray, List.getElem?_cons_succ, List.getElem?_cons_zero, Bool.false_eq_true, Bool.true_eq_false, beq_self_eq_true, beq_ft, beq_tf, notNil, Bool.not_true, Bool.not_false, reduceCtorEq, abuiltin, aextract] <;> exact rfl) ?_
        refine DrT.run 5 (by simp only [List.take_succ_cons, List.take_zero, runSD, stepOD, stepWD, stepVD, isLoud, isPure, isReader, isEqOp, isConstO, decide_true, Bool.or_true, Bool.true_or, Bool.or_self, Bool.and_self, Bool.and_true, Bool.and_false, Bool.false_and, Bool.true_and, Heap.next_set, Heap.next_alloc, runS, stepO, stepW, stepV, keep, guardOf, wantG, wantV, aop, binA, aev, flat, if_true, if_false, Option.bind_some, Option.map_some, Frm.put, look, setk, Nat.reduceLT, Nat.reduceEqDiff, evs, evp, evo, List.getElem?_toArray, List.getElem?_cons_succ, List.getElem?_cons_zero, Bool.false_eq_true, Bool.true_eq_false, beq_self_eq_true, beq_ft, beq_tf, notNil, Bool.not_true, Bool.not_false, reduceCtorEq, abuiltin, aextract, r1, Nat.zero_add, aload_cell agg3, Heap.ld_of st.r (k := 1) rfl, build31e] <;> exact rfl) rfl ?_
        try simp only [List.drop_succ_cons, List.drop_zero]
        refine DrT.val (aop_bslice rfl (by simp only [evp, aev, look, Option.bind_some, if_true, if_false, Nat.reduceEqDiff] <;> exact rfl) a1) rfl rfl (by simp only [runS, stepO, stepW, stepV, keep, guardOf, wantG, wantV, aop, binA, aev, flat, if_true, if_false, Option.bind_some, Option.map_some, Frm.put, look, setk, Nat.reduceLT, Nat.reduceEqDiff, evs, evp, evo, List.getElem?_toArray, List.getElem?_cons_succ, List.getElem?_cons_zero, Bool.false_eq_true, Bool.true_eq_false, beq_self_eq_true, beq_ft, beq_tf, notNil, Bool.not_true, Bool.not_false, reduceCtorEq, abuiltin, aextract]) (by simp only [runS, stepO, stepW, stepV, keep, guardOf, wantG, wantV, aop, binA, aev, flat, if_true, if_false, Option.bind_some, Option.map_some, Frm.put, look, setk, Nat.reduceLT, Nat.reduceEqDiff, evs, evp, evo, List.getElem?_toArray, List.getElem?_cons_succ, List.getElem?_cons_zero, Bool.false_eq_true, Bool.true_eq_false, beq_self_eq_true, beq_ft, beq_tf, notNil, Bool.not_true, Bool.not_false, reduceCtorEq, abuiltin, aextract] <;> exact rfl) (fun _ => by rw [Heap.get_alloc_old _ _ (Heap.lt_of_get st.r)]; exact st.r) ?_
        try simp only [List.drop_succ_cons, List.drop_zero]
        refine DrT.val (aop_append rfl (by simp only [evs, aev, look, Option.bind_some, if_true, if_false, Nat.reduceEqDiff] <;> exact rfl) a2) rfl rfl (by simp only [runS, stepO, stepW, stepV, keep, guardOf, wantG, wantV, aop, binA, aev, flat, if_true, if_false, Option.bind_some, Option.map_some, Frm.put, look, setk, Nat.reduceLT, Nat.reduceEqDiff, evs, evp, evo, List.getElem?_toArray, List.getElem?_cons_succ, List.getElem?_cons_zero, Bool.false_eq_true, Bool.true_eq_false, beq_self_eq_true, beq_ft, beq_tf, notNil, Bool.not_true, Bool.not_false, reduceCtorEq, abuiltin, aextract]) (by simp only [runS, stepO, stepW, stepV, keep, guardOf, wantG, wantV, aop, binA, aev, flat, if_true, if_false, Option.bind_some, Option.map_some, Frm.put, look, setk, Nat.reduceLT, Nat.reduceEqDiff, evs, evp, evo, List.getElem?_toArray, List.getElem?_cons_succ, List.getElem?_cons_zero, Bool.false_eq_true, Bool.true_eq_false, beq_self_eq_true, beq_ft, beq_tf, notNil, Bool.not_true, Bool.not_false, reduceCtorEq, abuiltin, aextract] <;> exact rfl) (fun hq => absurd hq (by decide)) ?_
        try simp only [List.drop_succ_cons, List.drop_zero]
        refine DrT.run 2 (by simp only [List.take_succ_cons, List.take_zero, runSD, stepOD, stepWD, stepVD, isLoud, isPure, isReader, isEqOp, isConstO, decide_true, Bool.or_true, Bool.true_or, Bool.or_self, Bool.and_self, Bool.and_true, Bool.and_false, Bool.false_and, Bool.true_and, Heap.next_set, Heap.next_alloc, runS, stepO, stepW, stepV, keep, guardOf, wantG, wantV, aop, binA, aev, flat, if_true, if_false, Option.bind_some, Option.map_some, Frm.put, look, setk, Nat.reduceLT, Nat.reduceEqDiff, evs, evp, evo, List.getElem?_toArray, List.getElem?_cons_succ, List.getElem?_cons_zero, Bool.false_eq_true, Bool.true_eq_false, beq_self_eq_true, beq_ft, beq_tf, notNil, Bool.not_true, Bool.not_false, reduceCtorEq, abuiltin, aextract, r2, Nat.zero_add] <;> exact rfl) rfl ?_
        try simp only [List.drop_succ_cons, List.drop_zero]
        refine DrT.skip (by simp only [runS, stepO, stepW, stepV, keep, guardOf, wantG, wantV, aop, binA, aev, flat, if_true, if_false, Option.bind_some, Option.map_some, Frm.put, look, setk, Nat.reduceLT, Nat.reduceEqDiff, evs, evp, evo, List.getElem?_toArray, List.getElem?_cons_succ, List.getElem?_cons_zero, Bool.false_eq_true, Bool.true_eq_false, beq_self_eq_true, beq_ft, beq_tf, notNil, Bool.not_true, Bool.not_false, reduceCtorEq, abuiltin, aextract, out_store hr1] <;> exact rfl) rfl rfl (by simp only [runS, stepO, stepW, stepV, keep, guardOf, wantG, wantV, aop, binA, aev, flat, if_true, if_false, Option.bind_some, Option.map_some, Frm.put, look, setk, Nat.reduceLT, Nat.reduceEqDiff, evs, evp, evo, List.getElem?_toArray, List.getElem?_cons_succ, List.getElem?_cons_zero, Bool.false_eq_true, Bool.true_eq_false, beq_self_eq_true, beq_ft, beq_tf, notNil, Bool.not_true, Bool.not_false, reduceCtorEq, abuiltin, aextract]) (by simp only [runS, stepO, stepW, stepV, keep, guardOf, wantG, wantV, aop, binA, aev, flat, if_true, if_false, Option.bind_some, Option.map_some, Frm.put, look, setk, Nat.reduceLT, Nat.reduceEqDiff, evs, evp, evo, List.getElem?_toArray, List.getElem?_cons_succ, List.getElem?_cons_zero, Bool.false_eq_true, Bool.true_eq_false, beq_self_eq_true, beq_ft, beq_tf, notNil, Bool.not_true, Bool.not_false, reduceCtorEq, abuiltin, aextract] <;> exact rfl) (fun hq => absurd hq (by decide)) ?_
        refine DrT.nil ?_
        dsimp only [after, leaving]
        exact ⟨rfl, _, st1, by simp; omega, _, rfl, rfl, rfl, rfl, trivial⟩
    rintro fr u H1 ⟨rfl, vo1, st1, ho1, sl, rfl, hs⟩
    dsimp only [after, leaving]
    refine Wp.weaken (Frm.le_of hs) ?_
    clear hs sl
    by_cases hend : a = T.length
    · rw [if_pos hend] at hf2
      have e5 : ((a : Int) == (T.length : Int)) = true := by simp [hend]
      repeat refine Wp.seq ?_
      refine Wp.runS (by simp only [runS, stepO, stepW, stepV, keep, guardOf, wantG, wantV, aop, binA, aev, flat, if_true, if_false, Option.bind_some, Option.map_some, Frm.put, look, setk, Nat.reduceLT, Nat.reduceEqDiff, evs, evp, evo, List.getElem?_toArray, List.getElem?_cons_succ, List.getElem?_cons_zero, Bool.false_eq_true, Bool.true_eq_false, beq_self_eq_true, beq_ft, beq_tf, notNil, Bool.not_true, Bool.not_false, reduceCtorEq, abuiltin, aextract, r1, Nat.zero_add, aload_cell agg3, Heap.ld_of st1.r (k := 1) rfl, alen_str Tryz.underlying9, bs_size, abin_int, ai_eql, e5] <;> exact rfl) ?_
      dsimp only [after, leaving]
      repeat refine Wp.seq ?_
      refine Wp.condT (by simp only [runS, stepO, stepW, stepV, keep, guardOf, wantG, wantV, aop, binA, aev, flat, if_true, if_false, Option.bind_some, Option.map_some, Frm.put, look, setk, Nat.reduceLT, Nat.reduceEqDiff, evs, evp, evo, List.getElem?_toArray, List.getElem?_cons_succ, List.getElem?_cons_zero, Bool.false_eq_true, Bool.true_eq_false, beq_self_eq_true, beq_ft, beq_tf, notNil, Bool.not_true, Bool.not_false, reduceCtorEq, abuiltin, aextract]) ?_
      repeat refine Wp.seq ?_
      refine Wp.runS (by simp only [runS, stepO, stepW, stepV, keep, guardOf, wantG, wantV, aop, binA, aev, flat, if_true, if_false, Option.bind_some, Option.map_some, Frm.put, look, setk, Nat.reduceLT, Nat.reduceEqDiff, evs, evp, evo, List.getElem?_toArray, List.getElem?_cons_succ, List.getElem?_cons_zero, Bool.false_eq_true, Bool.true_eq_false, beq_self_eq_true, beq_ft, beq_tf, notNil, Bool.not_true, Bool.not_false, reduceCtorEq, abuiltin, aextract, r2, Nat.zero_add, aload_cell agg24, Heap.ld_of st1.r (k := 2) rfl, build27z, spot_store st1.x] <;> exact rfl) ?_
      dsimp only [after, leaving]
      repeat refine Wp.seq ?_
      refine Wp.ret ?_
      dsimp only [after, leaving]
      refine ⟨rfl, rfl, _, ares9 rfl rfl (Heap.get_set_self st1.x), ?_⟩
      rw [← hf2]
      exact ⟨vo1, rfl, st1.o.keep (fun j p q hp => by rw [Heap.get_set_ne (ne_of_plain st1.x q rfl hp)]; exact q), Heap.more_set_new st1.more (Nat.le_refl _) _⟩
    · rw [if_neg hend] at hf2
      have e5 : ((a : Int) == (T.length : Int)) = false := by rw [beq_eq_false_iff_ne]; omega
      repeat refine Wp.seq ?_
      refine Wp.runS (by simp only [runS, stepO, stepW, stepV, keep, guardOf, wantG, wantV, aop, binA, aev, flat, if_true, if_false, Option.bind_some, Option.map_some, Frm.put, look, setk, Nat.reduceLT, Nat.reduceEqDiff, evs, evp, evo, List.getElem?_toArray, List.getElem?_cons_succ, List.getElem?_cons_zero, Bool.false_eq_true, Bool.true_eq_false, beq_self_eq_true, beq_ft, beq_tf, notNil, Bool.not_true, Bool.not_false, reduceCtorEq, abuiltin, aextract, r1, Nat.zero_add, aload_cell agg3, Heap.ld_of st1.r (k := 1) rfl, alen_str Tryz.underlying9, bs_size, abin_int, ai_eql, e5] <;> exact rfl) ?_
      dsimp only [after, leaving]
      repeat refine Wp.seq ?_
      refine Wp.condF (by simp only [runS, stepO, stepW, stepV, keep, guardOf, wantG, wantV, aop, binA, aev, flat, if_true, if_false, Option.bind_some, Option.map_some, Frm.put, look, setk, Nat.reduceLT, Nat.reduceEqDiff, evs, evp, evo, List.getElem?_toArray, List.getElem?_cons_succ, List.getElem?_cons_zero, Bool.false_eq_true, Bool.true_eq_false, beq_self_eq_true, beq_ft, beq_tf, notNil, Bool.not_true, Bool.not_false, reduceCtorEq, abuiltin, aextract]) ?_
      repeat refine Wp.seq ?_
      refine Wp.skip ?_
      dsimp only [after, leaving]
      repeat refine Wp.seq ?_
      refine Wp.runS (by simp only [runS, stepO, stepW, stepV, keep, guardOf, wantG, wantV, aop, binA, aev, flat, if_true, if_false, Option.bind_some, Option.map_some, Frm.put, look, setk, Nat.reduceLT, Nat.reduceEqDiff, evs, evp, evo, List.getElem?_toArray, List.getElem?_cons_succ, List.getElem?_cons_zero, Bool.false_eq_true, Bool.true_eq_false, beq_self_eq_true, beq_ft, beq_tf, notNil, Bool.not_true, Bool.not_false, reduceCtorEq, abuiltin, aextract] <;> exact rfl) ?_
      dsimp only [after, leaving]
      have st2 := st1.at (a + 1)
      repeat refine Wp.seq ?_
      refine Wp.runS (by simp only [runS, stepO, stepW, stepV, keep, guardOf, wantG, wantV, aop, binA, aev, flat, if_true, if_false, Option.bind_some, Option.map_some, Frm.put, look, setk, Nat.reduceLT, Nat.reduceEqDiff, evs, evp, evo, List.getElem?_toArray, List.getElem?_cons_succ, List.getElem?_cons_zero, Bool.false_eq_true, Bool.true_eq_false, beq_self_eq_true, beq_ft, beq_tf, notNil, Bool.not_true, Bool.not_false, reduceCtorEq, abuiltin, aextract, r1, aload_cell agg3, Nat.zero_add, Heap.ld_of st1.r (k := 1) rfl, abin_int, ai_add, hw, storeAt st1.r] <;> exact rfl) ?_
      dsimp only [after, leaving]
      repeat refine Wp.seq ?_
      refine Wp.exit ?_
      simp only [after, leaving, blockExit, if_true, if_false, Nat.reduceEqDiff]
      exact ⟨⟨a + 1, false, o', vo1, _⟩, _, ⟨st2, by simp only []; omega, by simp only []; omega, f, hf2, by simp only []; omega⟩, by simp only []; omega, rfl, ⟨rfl, rfl, rfl, rfl, trivial⟩, trivial, rfl⟩
  have e4 : ((b.toNat : Int) == 10) = false := by rw [beq_eq_false_iff_ne]; intro q; exact k4 ((byte_eq _ 10 (by omega)).2 (by omega))
  rw [if_neg k4] at hf2
  have hlt := lt10 k4
  repeat refine Wp.seq ?_
  refine Wp.runS (by simp only [runS, stepO, stepW, stepV, keep, guardOf, wantG, wantV, aop, binA, aev, flat, if_true, if_false, Option.bind_some, Option.map_some, Frm.put, look, setk, Nat.reduceLT, Nat.reduceEqDiff, evs, evp, evo, List.getElem?_toArray, List.getElem?_cons_succ, List.getElem?_cons_zero, Bool.false_eq_true, Bool.true_eq_false, beq_self_eq_true, beq_ft, beq_tf, notNil, Bool.not_true, Bool.not_false, reduceCtorEq, abuiltin, aextract, byteV, abin_int, ai_eql, e4] <;> exact rfl) ?_
  dsimp only [after, leaving]
  repeat refine Wp.seq ?_
  refine Wp.condF (by simp only [runS, stepO, stepW, stepV, keep, guardOf, wantG, wantV, aop, binA, aev, flat, if_true, if_false, Option.bind_some, Option.map_some, Frm.put, look, setk, Nat.reduceLT, Nat.reduceEqDiff, evs, evp, evo, List.getElem?_toArray, List.getElem?_cons_succ, List.getElem?_cons_zero, Bool.false_eq_true, Bool.true_eq_false, beq_self_eq_true, beq_ft, beq_tf, notNil, Bool.not_true, Bool.not_false, reduceCtorEq, abuiltin, aextract]) ?_
  repeat refine Wp.seq ?_
  refine Wp.skip ?_
  dsimp only [after, leaving]
  repeat refine Wp.seq ?_
  refine Wp.regionAs (is := List.range' 0 1 ++ (1 :: (List.range' 2 6 ++ []))) rfl ?_
  refine WpO.runS 1 (by simp only [List.drop_succ_cons, List.drop_zero, List.take_succ_cons, List.take_zero, runS, stepO, stepW, stepV, keep, guardOf, wantG, wantV, aop, binA, aev, flat, if_true, if_false, Option.bind_some, Option.map_some, Frm.put, look, setk, Nat.reduceLT, Nat.reduceEqDiff, evs, evp, evo, List.getElem?_toArray, List.getElem?_cons_succ, List.getElem?_cons_zero, Bool.false_eq_true, Bool.true_eq_false, beq_self_eq_true, beq_ft, beq_tf, notNil, Bool.not_true, Bool.not_false, reduceCtorEq, abuiltin, aextract] <;> exact rfl) (by decide) ?_
  refine WpO.callR (token_spec G B H (h.next + 1) T a vo (by omega) ha st.r) rfl (by simp only [runS, stepO, stepW, stepV, keep, guardOf, wantG, wantV, aop, binA, aev, flat, if_true, if_false, Option.bind_some, Option.map_some, Frm.put, look, setk, Nat.reduceLT, Nat.reduceEqDiff, evs, evp, evo, List.getElem?_toArray, List.getElem?_cons_succ, List.getElem?_cons_zero, Bool.false_eq_true, Bool.true_eq_false, beq_self_eq_true, beq_ft, beq_tf, notNil, Bool.not_true, Bool.not_false, reduceCtorEq, abuiltin, aextract, c15]) (by simp only [calleeOf, fnOf, List.append_nil, List.nil_append, runS, stepO, stepW, stepV, keep, guardOf, wantG, wantV, aop, binA, aev, flat, if_true, if_false, Option.bind_some, Option.map_some, Frm.put, look, setk, Nat.reduceLT, Nat.reduceEqDiff, evs, evp, evo, List.getElem?_toArray, List.getElem?_cons_succ, List.getElem?_cons_zero, Bool.false_eq_true, Bool.true_eq_false, beq_self_eq_true, beq_ft, beq_tf, notNil, Bool.not_true, Bool.not_false, reduceCtorEq, abuiltin, aextract, c15] <;> exact rfl) ?_
  intro r H2 hr
  cases hts : tokS T a with
  | error ep =>
    obtain ⟨e, p⟩ := ep
    rw [hts] at hr hf2
    obtain ⟨t, rfl, q1, q2, q3⟩ := hr
    simp only [] at hf2
    have st1 := st.but q1 q2
    have he := tokS_err hts
    refine ⟨_, _, rfl, by simp only [runS, stepO, stepW, stepV, keep, guardOf, wantG, wantV, aop, binA, aev, flat, if_true, if_false, Option.bind_some, Option.map_some, Frm.put, look, setk, Nat.reduceLT, Nat.reduceEqDiff, evs, evp, evo, List.getElem?_toArray, List.getElem?_cons_succ, List.getElem?_cons_zero, Bool.false_eq_true, Bool.true_eq_false, beq_self_eq_true, beq_ft, beq_tf, notNil, Bool.not_true, Bool.not_false, reduceCtorEq, abuiltin, aextract]; exact rfl, ?_⟩
    have hsto : astore Tryz.prog (H2.alloc (Tok.row ⟨0, [], 0, 0⟩)) 217 (.pointer (some ⟨H2.next, 0, none⟩)) t.val = some (H2.alloc t.row) := by
      rw [tok_all (Heap.get_alloc_new H2 (Tok.row ⟨0, [], 0, 0⟩)), Heap.set_alloc]
    refine WpO.runS 6 (by simp only [List.drop_succ_cons, List.drop_zero, List.take_succ_cons, List.take_zero, runS, stepO, stepW, stepV, keep, guardOf, wantG, wantV, aop, binA, aev, flat, if_true, if_false, Option.bind_some, Option.map_some, Frm.put, look, setk, Nat.reduceLT, Nat.reduceEqDiff, evs, evp, evo, List.getElem?_toArray, List.getElem?_cons_succ, List.getElem?_cons_zero, Bool.false_eq_true, Bool.true_eq_false, beq_self_eq_true, beq_ft, beq_tf, notNil, Bool.not_true, Bool.not_false, reduceCtorEq, abuiltin, aextract, alloc31, Heap.new, hsto] <;> exact rfl) (by decide) ?_
    refine WpO.nil ?_
    dsimp only [after, leaving]
    have st2 := st1.alloc t.row
    generalize H2.alloc t.row = H3 at st2 ⊢
    have e5 : ((e : Int) != 0) = true := by rw [bne_iff_ne]; omega
    repeat refine Wp.seq ?_
    refine Wp.runS (by simp only [runS, stepO, stepW, stepV, keep, guardOf, wantG, wantV, aop, binA, aev, flat, if_true, if_false, Option.bind_some, Option.map_some, Frm.put, look, setk, Nat.reduceLT, Nat.reduceEqDiff, evs, evp, evo, List.getElem?_toArray, List.getElem?_cons_succ, List.getElem?_cons_zero, Bool.false_eq_true, Bool.true_eq_false, beq_self_eq_true, beq_ft, beq_tf, notNil, Bool.not_true, Bool.not_false, reduceCtorEq, abuiltin, aextract, abin_int, ai_neq, e5] <;> exact rfl) ?_
    dsimp only [after, leaving]
    repeat refine Wp.seq ?_
    refine Wp.condT (by simp only [runS, stepO, stepW, stepV, keep, guardOf, wantG, wantV, aop, binA, aev, flat, if_true, if_false, Option.bind_some, Option.map_some, Frm.put, look, setk, Nat.reduceLT, Nat.reduceEqDiff, evs, evp, evo, List.getElem?_toArray, List.getElem?_cons_succ, List.getElem?_cons_zero, Bool.false_eq_true, Bool.true_eq_false, beq_self_eq_true, beq_ft, beq_tf, notNil, Bool.not_true, Bool.not_false, reduceCtorEq, abuiltin, aextract]) ?_
    repeat refine Wp.seq ?_
    refine Wp.runSD mixed (by kernel_rfl) (by simp only [runSD, stepOD, stepWD, stepVD, isLoud, isPure, isReader, decide_true, Bool.or_true, Bool.true_or, Bool.or_self, Bool.and_self, Bool.and_true, Bool.and_false, Heap.next_set, Heap.next_alloc, runS, stepO, stepW, stepV, keep, guardOf, wantG, wantV, aop, binA, aev, flat, if_true, if_false, Option.bind_some, Option.map_some, Frm.put, look, setk, Nat.reduceLT, Nat.reduceEqDiff, evs, evp, evo, List.getElem?_toArray, List.getElem?_cons_succ, List.getElem?_cons_zero, Bool.false_eq_true, Bool.true_eq_false, beq_self_eq_true, beq_ft, beq_tf, notNil, Bool.not_true, Bool.not_false, reduceCtorEq, abuiltin, aextract, r1, Nat.zero_add, aload_cell agg3, Heap.ld_of st2.r (k := 1) rfl, build27, spot_store st2.x] <;> exact rfl) ?_
    dsimp only [after, leaving]
    repeat refine Wp.seq ?_
    refine Wp.ret ?_
    dsimp only [after, leaving]
    refine ⟨rfl, rfl, _, ares9 rfl rfl (Heap.get_set_self st2.x), ?_⟩
    rw [← hf2]
    exact ⟨rfl, Heap.more_set_new st2.more (Nat.le_refl _) _⟩
  | ok tt =>
    obtain ⟨t, to⟩ := tt
    have hgt := tokS_gt hts
    rw [hts] at hr hf2
    obtain ⟨rfl, q1, q2, q3⟩ := hr
    simp only [] at hf2
    have st1 := st.but q1 q2
    refine ⟨_, _, rfl, by simp only [runS, stepO, stepW, stepV, keep, guardOf, wantG, wantV, aop, binA, aev, flat, if_true, if_false, Option.bind_some, Option.map_some, Frm.put, look, setk, Nat.reduceLT, Nat.reduceEqDiff, evs, evp, evo, List.getElem?_toArray, List.getElem?_cons_succ, List.getElem?_cons_zero, Bool.false_eq_true, Bool.true_eq_false, beq_self_eq_true, beq_ft, beq_tf, notNil, Bool.not_true, Bool.not_false, reduceCtorEq, abuiltin, aextract]; exact rfl, ?_⟩
    have hsto : astore Tryz.prog (H2.alloc (Tok.row ⟨0, [], 0, 0⟩)) 217 (.pointer (some ⟨H2.next, 0, none⟩)) t.val = some (H2.alloc t.row) := by
      rw [tok_all (Heap.get_alloc_new H2 (Tok.row ⟨0, [], 0, 0⟩)), Heap.set_alloc]
    refine WpO.runS 6 (by simp only [List.drop_succ_cons, List.drop_zero, List.take_succ_cons, List.take_zero, runS, stepO, stepW, stepV, keep, guardOf, wantG, wantV, aop, binA, aev, flat, if_true, if_false, Option.bind_some, Option.map_some, Frm.put, look, setk, Nat.reduceLT, Nat.reduceEqDiff, evs, evp, evo, List.getElem?_toArray, List.getElem?_cons_succ, List.getElem?_cons_zero, Bool.false_eq_true, Bool.true_eq_false, beq_self_eq_true, beq_ft, beq_tf, notNil, Bool.not_true, Bool.not_false, reduceCtorEq, abuiltin, aextract, alloc31, Heap.new, hsto] <;> exact rfl) (by decide) ?_
    refine WpO.nil ?_
    dsimp only [after, leaving]
    have st2 := st1.alloc t.row
    have g8 : (H2.alloc t.row).get H2.next = some t.row := Heap.get_alloc_new _ _
    generalize H2.alloc t.row = H3 at st2 g8 ⊢
    repeat refine Wp.seq ?_
    refine Wp.runS (by simp only [runS, stepO, stepW, stepV, keep, guardOf, wantG, wantV, aop, binA, aev, flat, if_true, if_false, Option.bind_some, Option.map_some, Frm.put, look, setk, Nat.reduceLT, Nat.reduceEqDiff, evs, evp, evo, List.getElem?_toArray, List.getElem?_cons_succ, List.getElem?_cons_zero, Bool.false_eq_true, Bool.true_eq_false, beq_self_eq_true, beq_ft, beq_tf, notNil, Bool.not_true, Bool.not_false, reduceCtorEq, abuiltin, aextract, abin_int, ai_neq, (show ((0 : Int) != 0) = false from rfl)] <;> exact rfl) ?_
    dsimp only [after, leaving]
    repeat refine Wp.seq ?_
    refine Wp.condF (by simp only [runS, stepO, stepW, stepV, keep, guardOf, wantG, wantV, aop, binA, aev, flat, if_true, if_false, Option.bind_some, Option.map_some, Frm.put, look, setk, Nat.reduceLT, Nat.reduceEqDiff, evs, evp, evo, List.getElem?_toArray, List.getElem?_cons_succ, List.getElem?_cons_zero, Bool.false_eq_true, Bool.true_eq_false, beq_self_eq_true, beq_ft, beq_tf, notNil, Bool.not_true, Bool.not_false, reduceCtorEq, abuiltin, aextract]) ?_
    repeat refine Wp.seq ?_
    refine Wp.skip ?_
    dsimp only [after, leaving]
    have ldo2 : ∀ H' : Heap, H'.get (h.next + 1) = some (readerRow T to vo) → H'.ld (h.next + 1) 2 = some vo := fun H' g => Heap.ld_of g rfl
    obtain ⟨a1, s, l, c, H4, a2, hr4, st4⟩ := st2.push t (by omega)
    repeat refine Wp.seq ?_
    refine Wp.drawAs [107] [] 4 (fun H' => H'.get (h.next + 1) = some (readerRow T to vo)) mixed (by kernel_rfl) st2.r ?_
    refine DrT.run 4 (by simp only [List.take_succ_cons, List.take_zero, runSD, stepOD, stepWD, stepVD, isLoud, isPure, isReader, isEqOp, isConstO, decide_true, Bool.or_true, Bool.true_or, Bool.or_self, Bool.and_self, Bool.and_true, Bool.and_false, Bool.false_and, Bool.true_and, Heap.next_set, Heap.next_alloc, runS, stepO, stepW, stepV, keep, guardOf, wantG, wantV, aop, binA, aev, flat, if_true, if_false, Option.bind_some, Option.map_some, Frm.put, look, setk, Nat.reduceLT, Nat.reduceEqDiff, evs, evp, evo, List.getElem?_toArray, List.getElem?_cons_succ, List.getElem?_cons_zero, Bool.false_eq_true, Bool.true_eq_false, beq_self_eq_true, beq_ft, beq_tf, notNil, Bool.not_true, Bool.not_false, reduceCtorEq, abuiltin, aextract, r2, Nat.zero_add] <;> exact rfl) rfl ?_
    try simp only [List.drop_succ_cons, List.drop_zero]
    refine DrT.read rfl rfl (by simp only [runS, stepO, stepW, stepV, keep, guardOf, wantG, wantV, aop, binA, aev, flat, if_true, if_false, Option.bind_some, Option.map_some, Frm.put, look, setk, Nat.reduceLT, Nat.reduceEqDiff, evs, evp, evo, List.getElem?_toArray, List.getElem?_cons_succ, List.getElem?_cons_zero, Bool.false_eq_true, Bool.true_eq_false, beq_self_eq_true, beq_ft, beq_tf, notNil, Bool.not_true, Bool.not_false, reduceCtorEq, abuiltin, aextract]) (by simp only [runS, stepO, stepW, stepV, keep, guardOf, wantG, wantV, aop, binA, aev, flat, if_true, if_false, Option.bind_some, Option.map_some, Frm.put, look, setk, Nat.reduceLT, Nat.reduceEqDiff, evs, evp, evo, List.getElem?_toArray, List.getElem?_cons_succ, List.getElem?_cons_zero, Bool.false_eq_true, Bool.true_eq_false, beq_self_eq_true, beq_ft, beq_tf, notNil, Bool.not_true, Bool.not_false, reduceCtorEq, abuiltin, aextract, aload_cell agg24, ldo2 H3 st2.r] <;> exact rfl) (fun H hK2 => by simp only [runS, stepO, stepW, stepV, keep, guardOf, wantG, wantV, aop, binA, aev, flat, if_true, if_false, Option.bind_some, Option.map_some, Frm.put, look, setk, Nat.reduceLT, Nat.reduceEqDiff, evs, evp, evo, List.getElem?_toArray, List.getElem?_cons_succ, List.getElem?_cons_zero, Bool.false_eq_true, Bool.true_eq_false, beq_self_eq_true, beq_ft, beq_tf, notNil, Bool.not_true, Bool.not_false, reduceCtorEq, abuiltin, aextract, aload_cell agg24, ldo2 H hK2] <;> exact rfl) (by simp only [runS, stepO, stepW, stepV, keep, guardOf, wantG, wantV, aop, binA, aev, flat, if_true, if_false, Option.bind_some, Option.map_some, Frm.put, look, setk, Nat.reduceLT, Nat.reduceEqDiff, evs, evp, evo, List.getElem?_toArray, List.getElem?_cons_succ, List.getElem?_cons_zero, Bool.false_eq_true, Bool.true_eq_false, beq_self_eq_true, beq_ft, beq_tf, notNil, Bool.not_true, Bool.not_false, reduceCtorEq, abuiltin, aextract] <;> exact rfl) ?_
    refine DrT.run 1 (by simp only [List.take_succ_cons, List.take_zero, runSD, stepOD, stepWD, stepVD, isLoud, isPure, isReader, isEqOp, isConstO, decide_true, Bool.or_true, Bool.true_or, Bool.or_self, Bool.and_self, Bool.and_true, Bool.and_false, Bool.false_and, Bool.true_and, Heap.next_set, Heap.next_alloc, runS, stepO, stepW, stepV, keep, guardOf, wantG, wantV, aop, binA, aev, flat, if_true, if_false, Option.bind_some, Option.map_some, Frm.put, look, setk, Nat.reduceLT, Nat.reduceEqDiff, evs, evp, evo, List.getElem?_toArray, List.getElem?_cons_succ, List.getElem?_cons_zero, Bool.false_eq_true, Bool.true_eq_false, beq_self_eq_true, beq_ft, beq_tf, notNil, Bool.not_true, Bool.not_false, reduceCtorEq, abuiltin, aextract, tok_load g8] <;> exact rfl) rfl ?_
    try simp only [List.drop_succ_cons, List.drop_zero]
    refine DrT.val (aop_bslice rfl (by simp only [evp, aev, look, Option.bind_some, if_true, if_false, Nat.reduceEqDiff] <;> exact rfl) a1) rfl rfl (by simp only [runS, stepO, stepW, stepV, keep, guardOf, wantG, wantV, aop, binA, aev, flat, if_true, if_false, Option.bind_some, Option.map_some, Frm.put, look, setk, Nat.reduceLT, Nat.reduceEqDiff, evs, evp, evo, List.getElem?_toArray, List.getElem?_cons_succ, List.getElem?_cons_zero, Bool.false_eq_true, Bool.true_eq_false, beq_self_eq_true, beq_ft, beq_tf, notNil, Bool.not_true, Bool.not_false, reduceCtorEq, abuiltin, aextract]) (by simp only [runS, stepO, stepW, stepV, keep, guardOf, wantG, wantV, aop, binA, aev, flat, if_true, if_false, Option.bind_some, Option.map_some, Frm.put, look, setk, Nat.reduceLT, Nat.reduceEqDiff, evs, evp, evo, List.getElem?_toArray, List.getElem?_cons_succ, List.getElem?_cons_zero, Bool.false_eq_true, Bool.true_eq_false, beq_self_eq_true, beq_ft, beq_tf, notNil, Bool.not_true, Bool.not_false, reduceCtorEq, abuiltin, aextract] <;> exact rfl) (fun _ => by rw [Heap.get_alloc_old _ _ (Heap.lt_of_get st2.r)]; exact st2.r) ?_
    try simp only [List.drop_succ_cons, List.drop_zero]
    refine DrT.val (aop_append rfl (by simp only [evs, aev, look, Option.bind_some, if_true, if_false, Nat.reduceEqDiff] <;> exact rfl) a2) rfl rfl (by simp only [runS, stepO, stepW, stepV, keep, guardOf, wantG, wantV, aop, binA, aev, flat, if_true, if_false, Option.bind_some, Option.map_some, Frm.put, look, setk, Nat.reduceLT, Nat.reduceEqDiff, evs, evp, evo, List.getElem?_toArray, List.getElem?_cons_succ, List.getElem?_cons_zero, Bool.false_eq_true, Bool.true_eq_false, beq_self_eq_true, beq_ft, beq_tf, notNil, Bool.not_true, Bool.not_false, reduceCtorEq, abuiltin, aextract]) (by simp only [runS, stepO, stepW, stepV, keep, guardOf, wantG, wantV, aop, binA, aev, flat, if_true, if_false, Option.bind_some, Option.map_some, Frm.put, look, setk, Nat.reduceLT, Nat.reduceEqDiff, evs, evp, evo, List.getElem?_toArray, List.getElem?_cons_succ, List.getElem?_cons_zero, Bool.false_eq_true, Bool.true_eq_false, beq_self_eq_true, beq_ft, beq_tf, notNil, Bool.not_true, Bool.not_false, reduceCtorEq, abuiltin, aextract] <;> exact rfl) (fun hq => absurd hq (by decide)) ?_
    try simp only [List.drop_succ_cons, List.drop_zero]
    refine DrT.run 2 (by simp only [List.take_succ_cons, List.take_zero, runSD, stepOD, stepWD, stepVD, isLoud, isPure, isReader, isEqOp, isConstO, decide_true, Bool.or_true, Bool.true_or, Bool.or_self, Bool.and_self, Bool.and_true, Bool.and_false, Bool.false_and, Bool.true_and, Heap.next_set, Heap.next_alloc, runS, stepO, stepW, stepV, keep, guardOf, wantG, wantV, aop, binA, aev, flat, if_true, if_false, Option.bind_some, Option.map_some, Frm.put, look, setk, Nat.reduceLT, Nat.reduceEqDiff, evs, evp, evo, List.getElem?_toArray, List.getElem?_cons_succ, List.getElem?_cons_zero, Bool.false_eq_true, Bool.true_eq_false, beq_self_eq_true, beq_ft, beq_tf, notNil, Bool.not_true, Bool.not_false, reduceCtorEq, abuiltin, aextract, r2, Nat.zero_add] <;> exact rfl) rfl ?_
    try simp only [List.drop_succ_cons, List.drop_zero]
    refine DrT.skip (by simp only [runS, stepO, stepW, stepV, keep, guardOf, wantG, wantV, aop, binA, aev, flat, if_true, if_false, Option.bind_some, Option.map_some, Frm.put, look, setk, Nat.reduceLT, Nat.reduceEqDiff, evs, evp, evo, List.getElem?_toArray, List.getElem?_cons_succ, List.getElem?_cons_zero, Bool.false_eq_true, Bool.true_eq_false, beq_self_eq_true, beq_ft, beq_tf, notNil, Bool.not_true, Bool.not_false, reduceCtorEq, abuiltin, aextract, out_store hr4] <;> exact rfl) rfl rfl (by simp only [runS, stepO, stepW, stepV, keep, guardOf, wantG, wantV, aop, binA, aev, flat, if_true, if_false, Option.bind_some, Option.map_some, Frm.put, look, setk, Nat.reduceLT, Nat.reduceEqDiff, evs, evp, evo, List.getElem?_toArray, List.getElem?_cons_succ, List.getElem?_cons_zero, Bool.false_eq_true, Bool.true_eq_false, beq_self_eq_true, beq_ft, beq_tf, notNil, Bool.not_true, Bool.not_false, reduceCtorEq, abuiltin, aextract]) (by simp only [runS, stepO, stepW, stepV, keep, guardOf, wantG, wantV, aop, binA, aev, flat, if_true, if_false, Option.bind_some, Option.map_some, Frm.put, look, setk, Nat.reduceLT, Nat.reduceEqDiff, evs, evp, evo, List.getElem?_toArray, List.getElem?_cons_succ, List.getElem?_cons_zero, Bool.false_eq_true, Bool.true_eq_false, beq_self_eq_true, beq_ft, beq_tf, notNil, Bool.not_true, Bool.not_false, reduceCtorEq, abuiltin, aextract] <;> exact rfl) (fun hq => absurd hq (by decide)) ?_
    refine DrT.nil ?_
    dsimp only [after, leaving]
    repeat refine Wp.seq ?_
    refine Wp.runS (by simp only [runS, stepO, stepW, stepV, keep, guardOf, wantG, wantV, aop, binA, aev, flat, if_true, if_false, Option.bind_some, Option.map_some, Frm.put, look, setk, Nat.reduceLT, Nat.reduceEqDiff, evs, evp, evo, List.getElem?_toArray, List.getElem?_cons_succ, List.getElem?_cons_zero, Bool.false_eq_true, Bool.true_eq_false, beq_self_eq_true, beq_ft, beq_tf, notNil, Bool.not_true, Bool.not_false, reduceCtorEq, abuiltin, aextract] <;> exact rfl) ?_
    dsimp only [after, leaving]
    exact ⟨⟨to, true, o ++ [t], _, _⟩, _, ⟨st4, q3, by simp; omega, f, hf2, by simp only []; omega⟩, by simp only []; omega, rfl, ⟨rfl, rfl, rfl, rfl, trivial⟩, rfl, rfl⟩
end Go.Mini
