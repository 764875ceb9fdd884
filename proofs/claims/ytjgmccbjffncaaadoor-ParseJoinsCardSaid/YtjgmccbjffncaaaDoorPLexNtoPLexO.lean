/-
  Parts PLexN to PLexO.
-/
import Derived.Test.YtjgmccbjffncaaaDoorPLexK
import Derived.Test.YtjgmccbjffncaaaDoorPLexLtoPLexMa
section
/-
  LEX, part N: of two texts with a line's end between: the tokens of the first one, and those of the second one, at their places.
-/
set_option linter.unusedSimpArgs false
set_option maxHeartbeats 4000000
set_option maxRecDepth 100000
set_option maxRecDepth 100000
namespace Go.Mini
open Go.Proofs

theorem tokBody_le {T : List UInt8} {a kd : Nat} {s : List UInt8} {n to : Nat} (h : tokBody T a = .ok (kd, s, n, to)) : to ≤ T.length := by
  unfold tokBody at h
  simp only [] at h
  have hlt : peekB T a ≠ 10 → a < T.length := peek_lt
  split at h
  · rename_i k
    have hlt := hlt (by intro q; rw [q] at k; revert k; decide)
    have hr := runP_le smallB 16 T a (by omega)
    split at h
    · split at h
      · rename_i hp
        have := peek_lt (T := T) (a := (runP smallB 16 T a).2.2) (by rw [hp]; decide)
        cases h; omega
      · cases h; omega
    · cases h
  · split at h
    · rename_i hb
      have hlt := hlt (by rw [hb]; decide)
      cases h; omega
    · split at h
      · rename_i k
        have hlt := hlt (by intro q; rw [q] at k; revert k; decide)
        have hr := runP_le digitB 4 T a (by omega)
        split at h
        · cases h; omega
        · cases h
      · split at h
        · rename_i hb
          have hq := scanQ_le 64 (T.drop a)
          split at h
          · rename_i s k hs
            rw [hs] at hq
            have hlt := hlt (by rw [hb]; decide)
            simp only [SR.place, List.length_drop] at hq
            cases h; omega
          · cases h
          · cases h
        · split at h
          · rename_i hb
            have hlt := hlt (by rcases hb with q | q | q <;> rw [q] <;> decide)
            cases h; omega
          · cases h
theorem tokS_le {T : List UInt8} {a : Nat} {t : Tok} {to : Nat} (h : tokS T a = .ok (t, to)) : to ≤ T.length := by
  unfold tokS at h
  split at h
  · cases h
  · rename_i hb
    split at h
    · cases h; exact tokBody_le hb
    · cases h
/-! The tokens from a place on, without fuel. -/
theorem lexF_fuel (T : List UInt8) : ∀ (f g a : Nat) (sm : Bool) (o : List Tok), a ≤ T.length → T.length - a < f → T.length - a < g → lexF T f a sm o = lexF T g a sm o
  | 0, _, _, _, _, _, h, _ => by omega
  | _ + 1, 0, _, _, _, _, _, h => by omega
  | f + 1, g + 1, a, sm, o, ha, h1, h2 => by
    have lt10 : peekB T a ≠ 10 → a < T.length := peek_lt
    rw [lexF, lexF]
    simp only []
    split
    · rename_i hb
      have := lt10 (by rcases hb with q | q <;> rw [q] <;> decide)
      exact lexF_fuel T f g _ _ _ (by omega) (by omega) (by omega)
    · split
      · rename_i _ hb
        have := lt10 (by rw [hb]; decide)
        obtain ⟨q1, q2⟩ := skipR_gt hb
        exact lexF_fuel T f g _ _ _ q2 (by omega) (by omega)
      · split
        · rename_i _ _ hb
          split
          · rfl
          · exact lexF_fuel T f g _ _ _ (by omega) (by omega) (by omega)
        · rename_i _ _ hb
          have := lt10 hb
          cases ht : tokS T a with
          | error e => rfl
          | ok tt =>
            obtain ⟨t, to⟩ := tt
            have := tokS_gt ht
            have := tokS_le ht
            exact lexF_fuel T f g _ _ _ this (by omega) (by omega)
def lexA (T : List UInt8) (a : Nat) (sm : Bool) (o : List Tok) : Except (Nat × Nat) (List Tok) := lexF T (T.length + 1 - a) a sm o
theorem lexA_eq {T : List UInt8} {a : Nat} (ha : a ≤ T.length) (sm : Bool) (o : List Tok) : lexA T a sm o =
    if peekB T a = 32 ∨ peekB T a = 9 then lexA T (a + 1) sm o
    else if peekB T a = 35 then lexA T (skipR T a) sm o
    else if peekB T a = 10 then (if a = T.length then .ok (if sm then o ++ [⟨6, [], 0, a⟩] else o) else lexA T (a + 1) false (if sm then o ++ [⟨6, [], 0, a⟩] else o))
    else match tokS T a with
      | .error e => .error e
      | .ok (t, to) => lexA T to true (o ++ [t]) := by
  have lt10 : peekB T a ≠ 10 → a < T.length := peek_lt
  unfold lexA
  rw [show T.length + 1 - a = (T.length - a) + 1 by omega, lexF]
  simp only []
  split
  · rename_i hb
    have := lt10 (by rcases hb with q | q <;> rw [q] <;> decide)
    exact lexF_fuel T _ _ _ _ _ (by omega) (by omega) (by omega)
  · split
    · rename_i _ hb
      have := lt10 (by rw [hb]; decide)
      obtain ⟨q1, q2⟩ := skipR_gt hb
      exact lexF_fuel T _ _ _ _ _ q2 (by omega) (by omega)
    · split
      · split
        · rfl
        · exact lexF_fuel T _ _ _ _ _ (by omega) (by omega) (by omega)
      · rename_i _ _ hb
        have := lt10 hb
        cases ht : tokS T a with
        | error e => rfl
        | ok tt =>
          obtain ⟨t, to⟩ := tt
          have := tokS_gt ht
          have := tokS_le ht
          exact lexF_fuel T _ _ _ _ _ this (by omega) (by omega)
theorem lexS_eq (T : List UInt8) : lexS T = if 2048 < T.length then .error (3, 2048) else lexA T 0 false [] := rfl

/-! A text behind another one. -/
section
variable {T B : List UInt8} {d : Nat} (hd : T.drop d = B) (hl : d ≤ T.length)
include hd
theorem drop_shift (k : Nat) : T.drop (d + k) = B.drop k := by rw [← hd, List.drop_drop]
theorem peekB_shift (k : Nat) : peekB T (d + k) = peekB B k := by unfold peekB; rw [← hd, List.getElem?_drop]
theorem runP_shift (p : UInt8 → Bool) (m k : Nat) : runP p m T (d + k) = ((runP p m B k).1, (runP p m B k).2.1, d + (runP p m B k).2.2) := by
  unfold runP
  rw [drop_shift hd k]
  split <;> simp [Nat.add_assoc]
def movedB (d : Nat) : Except (Nat × Nat) (Nat × List UInt8 × Nat × Nat) → Except (Nat × Nat) (Nat × List UInt8 × Nat × Nat)
  | .ok (kd, s, n, to) => .ok (kd, s, n, d + to)
  | .error (e, p) => .error (e, d + p)
theorem tokBody_shift (k : Nat) : tokBody T (d + k) = movedB d (tokBody B k) := by
  unfold tokBody
  simp only [peekB_shift hd k, runP_shift hd, drop_shift hd k]
  rw [peekB_shift hd]
  split
  · split
    · split <;> simp [movedB, Nat.add_assoc]
    · simp [movedB]
  · split
    · simp [movedB, Nat.add_assoc]
    · split
      · split <;> simp [movedB]
      · split
        · split <;> simp [movedB, Nat.add_assoc]
        · split <;> simp [movedB, Nat.add_assoc]
def Tok.moved (d : Nat) (t : Tok) : Tok := { t with at' := d + t.at' }
def movedT (d : Nat) : Except (Nat × Nat) (Tok × Nat) → Except (Nat × Nat) (Tok × Nat)
  | .ok (t, to) => .ok (t.moved d, d + to)
  | .error (e, p) => .error (e, d + p)
theorem tokS_shift (k : Nat) : tokS T (d + k) = movedT d (tokS B k) := by
  unfold tokS
  rw [tokBody_shift hd k]
  cases tokBody B k with
  | error ep => obtain ⟨e, p⟩ := ep; rfl
  | ok r =>
    obtain ⟨kd, s, n, to⟩ := r
    simp only [movedB, peekB_shift hd]
    split <;> simp [movedT, Tok.moved]
include hl
theorem len_shift : T.length = d + B.length := by rw [← hd, List.length_drop]; omega
theorem skipR_shift (k : Nat) : skipR T (d + k) = d + skipR B k := by
  unfold skipR
  rw [drop_shift hd k, len_shift hd hl]
  split <;> omega
def movedL (d : Nat) (o : List Tok) : Except (Nat × Nat) (List Tok) → Except (Nat × Nat) (List Tok)
  | .ok l => .ok (o ++ l.map (Tok.moved d))
  | .error (e, p) => .error (e, d + p)
theorem lexA_shift (o : List Tok) : ∀ (n k : Nat) (sm : Bool) (o' : List Tok), B.length - k ≤ n → k ≤ B.length → lexA T (d + k) sm (o ++ o'.map (Tok.moved d)) = movedL d o (lexA B k sm o') := by
  intro n
  induction n with
  | zero =>
    intro k sm o' h1 h2
    obtain rfl : k = B.length := by omega
    have hT := len_shift hd hl
    have hb : peekB B B.length = 10 := by unfold peekB; simp
    rw [lexA_eq (by omega), lexA_eq h2, peekB_shift hd, hb]
    simp only [if_neg (show ¬ ((10 : UInt8) = 32 ∨ (10 : UInt8) = 9) by decide), if_neg (show ¬ (10 : UInt8) = 35 by decide), if_true, if_pos hT.symm]
    cases sm <;> simp [movedL, Tok.moved]
  | succ n ih =>
    intro k sm o' h1 h2
    have hT := len_shift hd hl
    have lt10 : peekB B k ≠ 10 → k < B.length := peek_lt
    rw [lexA_eq (by omega), lexA_eq h2, peekB_shift hd]
    split
    · rename_i hb
      have := lt10 (by rcases hb with q | q <;> rw [q] <;> decide)
      exact ih (k + 1) sm o' (by omega) (by omega)
    · split
      · rename_i _ hb
        have := lt10 (by rw [hb]; decide)
        obtain ⟨q1, q2⟩ := skipR_gt hb
        rw [skipR_shift hd hl]
        exact ih _ sm o' (by omega) q2
      · split
        · by_cases hk : k = B.length
          · rw [if_pos (by omega), if_pos hk]
            cases sm <;> simp [movedL, Tok.moved]
          · rw [if_neg (by omega), if_neg hk]
            have := ih (k + 1) false (if sm then o' ++ [⟨6, [], 0, k⟩] else o') (by omega) (by omega)
            rw [← this]
            cases sm <;> simp [Tok.moved, Nat.add_assoc]
        · rename_i _ _ hb
          have := lt10 hb
          rw [tokS_shift hd]
          cases ht : tokS B k with
          | error ep => obtain ⟨e, p⟩ := ep; rfl
          | ok tt =>
            obtain ⟨t, to⟩ := tt
            have := tokS_gt ht
            have := tokS_le ht
            have := ih to true (o' ++ [t]) (by omega) this
            simp only [movedT]
            rw [← this, List.map_append, ← List.append_assoc]
            rfl
end

/-! A text ahead of a line's end. -/
theorem takeWhile_pre {p : UInt8 → Bool} (hp : p 10 = false) (B : List UInt8) : ∀ X : List UInt8, (X ++ 10 :: B).takeWhile p = X.takeWhile p
  | [] => by simp [List.takeWhile_cons, hp]
  | x :: X => by
    rw [List.cons_append, List.takeWhile_cons, List.takeWhile_cons]
    split
    · rw [takeWhile_pre hp B X]
    · rfl
theorem signAt_pre (B : List UInt8) (X : List UInt8) : signAt (X ++ 10 :: B) = signAt X := by
  have e1 : plainB 10 = false := by decide
  have e2 : escB 10 = false := by decide
  have e3 : highB 10 = false := by decide
  have e4 : ∀ hi, lowB hi 10 = false := by
    intro hi; unfold lowB; have : hexV 10 = -1 := by decide
    rw [this]; rfl
  match X with
  | [] => simp [signAt_cons, e1, signAt]
  | c :: r =>
    rw [List.cons_append, signAt_cons, signAt_cons]
    split
    · match r with
      | [] => simp [e2]
      | e :: r' =>
        simp only [List.cons_append]
        split
        · split
          · match r' with
            | [] => simp [e3]
            | hi :: r2 =>
              simp only [List.cons_append]
              split
              · match r2 with
                | [] => simp [e4]
                | lo :: _ => simp
              · rfl
          · rfl
        · rfl
    · rfl
theorem signAt_pos {s : List UInt8} {c : UInt8} {n : Nat} (h : signAt s = .inr (c, n)) : 0 < n := by
  unfold signAt at h
  repeat' split at h
  all_goals first
    | (cases h; done)
    | (cases h; omega)
theorem scanF_pre (most : Int) (B : List UInt8) : ∀ (f g : Nat) (s : List UInt8) (k : Nat) (o : List UInt8), s.length < f → s.length < g → scanF most f (s ++ 10 :: B) k o = scanF most g s k o
  | 0, _, s, _, _, h, _ => by omega
  | _ + 1, 0, s, _, _, _, h => by omega
  | f + 1, g + 1, s, k, o, h1, h2 => by
    have hh : (s ++ 10 :: B).head? = some 34 ↔ s.head? = some 34 := by cases s <;> simp
    unfold scanF
    simp only [hh, ne_eq, signAt_pre]
    split
    · rfl
    · split
      · rfl
      · cases hs : signAt s with
        | inl j => rfl
        | inr cn =>
          obtain ⟨c, n⟩ := cn
          have q1 := signAt_pos hs
          have q2 := signAt_le s
          rw [hs] at q2
          simp only [] at q2 ⊢
          rw [List.drop_append_of_le_length q2]
          exact scanF_pre most B f g _ _ _ (by rw [List.length_drop]; omega) (by rw [List.length_drop]; omega)
theorem scanQ_pre (most : Int) (B X : List UInt8) : scanQ most (X ++ 10 :: B) = scanQ most X := by
  unfold scanQ
  cases X with
  | nil => simp
  | cons x X =>
    simp only [List.cons_append, List.head?_cons, List.drop_succ_cons, List.drop_zero]
    split
    · exact scanF_pre most B _ _ X 1 [] (by simp only [List.length_append, List.length_cons]; omega) (by simp only [List.length_cons]; omega)
    · rfl
section
variable {A B : List UInt8} {a : Nat} (ha : a ≤ A.length)
include ha
theorem drop_pre : (A ++ 10 :: B).drop a = A.drop a ++ 10 :: B := List.drop_append_of_le_length ha
theorem peekB_pre : peekB (A ++ 10 :: B) a = peekB A a := by
  unfold peekB
  rcases Nat.lt_or_ge a A.length with h | h
  · rw [List.getElem?_append_left h]
  · obtain rfl : a = A.length := by omega
    simp
theorem runP_pre {p : UInt8 → Bool} (hp : p 10 = false) (m : Nat) : runP p m (A ++ 10 :: B) a = runP p m A a := by
  unfold runP
  rw [drop_pre ha, takeWhile_pre hp]
theorem tokBody_pre : tokBody (A ++ 10 :: B) a = tokBody A a := by
  unfold tokBody
  simp only [peekB_pre ha, runP_pre ha (show smallB 10 = false by decide), runP_pre ha (show digitB 10 = false by decide), drop_pre ha, scanQ_pre]
  rw [peekB_pre (runP_le smallB 16 A a ha)]
theorem tokS_pre : tokS (A ++ 10 :: B) a = tokS A a := by
  unfold tokS
  rw [tokBody_pre ha]
  cases hb : tokBody A a with
  | error ep => rfl
  | ok r =>
    obtain ⟨kd, s, n, to⟩ := r
    simp only [peekB_pre (tokBody_le hb)]
end
theorem indexByte_ge (c : UInt8) : ∀ X : List UInt8, -1 ≤ Lib.indexByte X c
  | [] => by simp [Lib.indexByte]
  | x :: X => by
    have := indexByte_ge c X
    unfold Lib.indexByte
    split
    · omega
    · split <;> omega
theorem indexByte_pre (B : List UInt8) : ∀ X : List UInt8, Lib.indexByte (X ++ 10 :: B) 10 = if 0 ≤ Lib.indexByte X 10 then Lib.indexByte X 10 else X.length
  | [] => by simp [Lib.indexByte]
  | x :: X => by
    have ih := indexByte_pre B X
    have h1 := indexByte_ge 10 X
    rw [List.cons_append, Lib.indexByte, Lib.indexByte]
    split
    · simp
    · rw [ih]
      by_cases hx : 0 ≤ Lib.indexByte X 10
      · have e1 : (Lib.indexByte X 10 == -1) = false := by rw [beq_eq_false_iff_ne]; omega
        simp only [if_pos hx, e1, Bool.false_eq_true, if_false]
        rw [if_pos (by omega)]
      · have e1 : (Lib.indexByte X 10 == -1) = true := by rw [beq_iff_eq]; omega
        have e2 : (((X.length : Nat) : Int) == -1) = false := by rw [beq_eq_false_iff_ne]; omega
        simp only [if_neg hx, e1, e2, Bool.false_eq_true, if_false, if_true]
        rw [if_neg (by omega), List.length_cons]
        omega
theorem skipR_pre {A B : List UInt8} {a : Nat} (ha : a ≤ A.length) : skipR (A ++ 10 :: B) a = skipR A a := by
  unfold skipR
  rw [drop_pre ha, indexByte_pre]
  have := List.length_drop (i := a) (l := A)
  by_cases h : 0 ≤ Lib.indexByte (A.drop a) 10
  · simp only [if_pos h]
  · simp only [if_neg h]
    rw [if_pos (by omega)]
    omega
theorem lexA_pre (A B : List UInt8) : ∀ (n a : Nat) (sm : Bool) (o : List Tok), A.length - a ≤ n → a ≤ A.length → lexA (A ++ 10 :: B) a sm o = (match lexA A a sm o with
    | .error e => .error e
    | .ok o' => lexA (A ++ 10 :: B) (A.length + 1) false o') := by
  intro n
  have hT : (A ++ 10 :: B).length = A.length + 1 + B.length := by rw [List.length_append, List.length_cons]; omega
  induction n with
  | zero =>
    intro a sm o h1 h2
    obtain rfl : a = A.length := by omega
    have hb : peekB A A.length = 10 := by unfold peekB; simp
    rw [lexA_eq (by omega), lexA_eq h2, peekB_pre h2, hb]
    simp only [if_neg (show ¬ ((10 : UInt8) = 32 ∨ (10 : UInt8) = 9) by decide), if_neg (show ¬ (10 : UInt8) = 35 by decide), if_true]
    rw [if_neg (by omega)]
  | succ n ih =>
    intro a sm o h1 h2
    have lt10 : peekB A a ≠ 10 → a < A.length := peek_lt
    rw [lexA_eq (by omega), lexA_eq h2, peekB_pre h2]
    split
    · rename_i hb
      have := lt10 (by rcases hb with q | q <;> rw [q] <;> decide)
      exact ih (a + 1) sm o (by omega) (by omega)
    · split
      · rename_i _ hb
        have := lt10 (by rw [hb]; decide)
        obtain ⟨q1, q2⟩ := skipR_gt hb
        rw [skipR_pre h2]
        exact ih _ sm o (by omega) q2
      · split
        · by_cases hk : a = A.length
          · rw [if_neg (by omega), if_pos hk, hk]
          · rw [if_neg (by omega), if_neg hk]
            exact ih _ _ _ (by omega) (by omega)
        · rename_i _ _ hb
          have := lt10 hb
          rw [tokS_pre h2]
          cases ht : tokS A a with
          | error ep => rfl
          | ok tt =>
            obtain ⟨t, to⟩ := tt
            have := tokS_gt ht
            have := tokS_le ht
            exact ih _ _ _ (by omega) this
/-- The law. -/
theorem lexS_lines (A B : List UInt8) (h : A.length + 1 + B.length ≤ 2048) : lexS (A ++ 10 :: B) = (match lexS A with
    | .error e => .error e
    | .ok oa => movedL (A.length + 1) oa (lexS B)) := by
  have hT : (A ++ 10 :: B).length = A.length + 1 + B.length := by rw [List.length_append, List.length_cons]; omega
  rw [lexS_eq, lexS_eq, lexS_eq, if_neg (by omega), if_neg (by omega), if_neg (by omega), lexA_pre A B A.length 0 false [] (by omega) (by omega)]
  cases lexA A 0 false [] with
  | error e => rfl
  | ok oa =>
    have hd : (A ++ 10 :: B).drop (A.length + 1) = B := by rw [List.drop_append]; simp
    have := lexA_shift hd (by omega) oa B.length 0 false [] (by omega) (by omega)
    simpa using this
end Go.Mini
end
section
/-
  LEX, part O: what a law needs: tokens in memory, told apart; what Lex hands back; what the law leans on.
-/
set_option linter.unusedSimpArgs false
set_option maxHeartbeats 4000000
set_option maxRecDepth 100000
set_option maxRecDepth 100000
namespace Go.Mini
open Go.Proofs

theorem strEq_bs (a b : List UInt8) : strEq (bs a) (bs b) = decide (a = b) := by
  rw [strEq_decide]
  exact decide_eq_decide.2 bs_inj
theorem tok_ext (t u : Tok) : t = u ↔ t.kind = u.kind ∧ t.text = u.text ∧ t.n = u.n ∧ t.at' = u.at' := by
  cases t; cases u; simp
instance : DecidableEq Tok := fun t u => decidable_of_iff _ (tok_ext t u).symm
/-- Tokens in memory. -/
def Toks (H : Heap) (v : Value) (o : List Tok) : Prop :=
  (o = [] ∧ v = .slice none 0 0) ∨ ∃ b r, H.get b = some (.row r) ∧ r.vs = o.flatMap Tok.cells ∧ v = .slice (some ⟨b, 0, none⟩) o.length o.length
theorem cells_at : ∀ (o : List Tok) (i : Nat) (t : Tok), o[i]? = some t → ((o.flatMap Tok.cells).drop (i * 4)).take 4 = t.cells
  | [], _, _, h => by simp at h
  | u :: o, 0, t, h => by
    simp at h; subst h
    simp [List.flatMap_cons, Tok.cells]
  | u :: o, i + 1, t, h => by
    rw [List.flatMap_cons, show (i + 1) * 4 = u.cells.length + i * 4 by simp [Tok.cells]; omega, ← List.drop_drop, List.drop_left]
    exact cells_at o i t (by simpa using h)
theorem Toks.len {H : Heap} {v : Value} {o : List Tok} (h : Toks H v o) : alen Tryd.prog H 56 v = some (.int .i64 (o.length : Nat)) := by
  rcases h with ⟨rfl, rfl⟩ | ⟨b, r, _, _, rfl⟩
  · exact alen_slice Tryd.underlying56 _ _ _
  · exact alen_slice Tryd.underlying56 _ _ _
theorem Toks.at {H : Heap} {v : Value} {o : List Tok} (h : Toks H v o) {i : Nat} {t : Tok} (ht : o[i]? = some t) :
    ∃ p, (∀ kd, aindexAddr Tryd.prog 56 v (.int kd (i : Nat)) = some p) ∧ aload Tryd.prog H 65 p = some t.val := by
  rcases h with ⟨rfl, _⟩ | ⟨b, r, hg, hr, rfl⟩
  · simp at ht
  · have hlt := (List.getElem?_eq_some_iff.1 ht).1
    refine ⟨_, fun kd => aindexAddr_slice Tryd.underlying56 sz31 (by omega) (by omega), ?_⟩
    rw [aload_agg agg31 sz31, Heap.lds_of hg (by rw [hr, cells_len]; simp only [Int.toNat_natCast]; omega), hr]
    simp only [Int.toNat_natCast, Nat.zero_add, cells_at o i t ht]
    rfl
theorem Toks.more {H H' : Heap} {v : Value} {o : List Tok} (h : Toks H v o) (k : H.more H') : Toks H' v o := by
  rcases h with h | ⟨b, r, hg, hr, hv⟩
  · exact .inl h
  · exact .inr ⟨b, r, k.get hg, hr, hv⟩
theorem spot_put (H : Heap) (e p : Int) : astore Tryd.prog (H.alloc (spotRow 0 0)) 31 (.pointer (some ⟨H.next, 0, none⟩)) (.agg #[.int .i64 e, .int .i64 p]) = some (H.alloc (spotRow e p)) := by
  rw [spot_store (Heap.get_alloc_new H (spotRow 0 0)), Heap.set_alloc]
theorem t3 (i k : Nat) : afieldAddr Tryd.prog 65 (.pointer (some ⟨i, k, none⟩)) 3 = some (.pointer (some ⟨i, k + 3, none⟩)) := afieldAddr_eq Tryd.underlying65 (by rfl) (s := 0) (by kernel_rfl) i k
theorem tok_put (H : Heap) (t : Tok) : astore Tryd.prog (H.alloc (Tok.row ⟨0, [], 0, 0⟩)) 65 (.pointer (some ⟨H.next, 0, none⟩)) t.val = some (H.alloc t.row) := by
  rw [tok_all (Heap.get_alloc_new H (Tok.row ⟨0, [], 0, 0⟩)), Heap.set_alloc]

end Go.Mini
end
