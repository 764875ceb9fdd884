import Derived.Test.YtjgmccbjffncaaaDoorPLexJtoPLexN
import Derived.Lib.ItoaNum
set_option maxHeartbeats 4000000
set_option linter.unusedSimpArgs false
namespace Go.Mini
def signB (c : UInt8) : List UInt8 := if plainB c then [c] else match shortB c with
 | some x => [92, x]
 | none => [92, 120, digitsL.getD (c.toNat / 16) 0, digitsL.getD (c.toNat % 16) 0]
def quoteS (s : List UInt8) : List UInt8 := 34 :: (s.flatMap signB ++ [34])
theorem all_bytes {p : UInt8 → Prop} (h : ∀ n, n < 256 → p n.toUInt8) (b : UInt8) : p b := by
 have := h b.toNat b.toNat_lt
 simpa using this
theorem sign_hex : ∀ c : UInt8, plainB c = false → shortB c = none → highB (digitsL.getD (c.toNat / 16) 0) = true ∧ lowB (digitsL.getD (c.toNat / 16) 0) (digitsL.getD (c.toNat % 16) 0) = true ∧ hexB (digitsL.getD (c.toNat / 16) 0) (digitsL.getD (c.toNat % 16) 0) = c := by
 refine all_bytes ?_
 decide +kernel
theorem sign_head : ∀ c : UInt8, (signB c).head? ≠ some 34 ∧ signB c ≠ [] := by
 refine all_bytes ?_
 decide +kernel
theorem short_sign : ∀ c : UInt8, ∀ x, shortB c = some x → escB x = true ∧ x ≠ 120 ∧ (if x = 110 then (10 : UInt8) else if x = 114 then 13 else if x = 116 then 9 else x) = c := by
 intro c x h
 unfold shortB at h
 split at h
 ·rename_i hc
  cases h
  rcases hc with rfl | rfl <;> decide
 ·split at h
  ·rename_i hc; cases h; subst hc; decide
  ·split at h
   ·rename_i hc; cases h; subst hc; decide
   ·split at h
    ·rename_i hc; cases h; subst hc; decide
    ·cases h
theorem signAt_sign (c : UInt8) (R : List UInt8) : signAt (signB c ++ R) = .inr (c, (signB c).length) := by
 unfold signB
 cases hp : plainB c with
 | true =>
  have h92 : ¬ c = 92 := by rintro rfl; revert hp; decide
  simp only [if_true, List.cons_append, List.nil_append, signAt_cons, if_neg h92, hp, List.length_cons, List.length_nil]
 | false =>
  simp only [Bool.false_eq_true, if_false]
  cases hs : shortB c with
  | some x =>
   obtain ⟨h1, h2, h3⟩ := short_sign c x hs
   simp only [List.cons_append, List.nil_append, signAt_cons, if_true, h1, if_neg h2, h3, List.length_cons, List.length_nil]
  | none =>
   obtain ⟨h1, h2, h3⟩ := sign_hex c hp hs
   have h4 : escB 120 = true := by decide
   simp only [List.cons_append, List.nil_append, signAt_cons, if_true, h4, h1, h2, h3, List.length_cons, List.length_nil]
theorem esc_sign : ∀ e : UInt8, escB e = true → e ≠ 120 → signB (if e = 110 then (10 : UInt8) else if e = 114 then 13 else if e = 116 then 9 else e) = [92, e] := by
 refine all_bytes ?_
 decide +kernel
def highs : List UInt8 := [48, 49, 55, 56, 57, 97, 98, 99, 100, 101, 102]
theorem high_mem : ∀ b : UInt8, highB b = true → b ∈ highs := by
 refine all_bytes ?_
 decide +kernel
theorem hex_mem : ∀ b : UInt8, 0 ≤ hexV b → b ∈ digitsL := by
 refine all_bytes ?_
 decide +kernel
theorem hex_sign (hi lo : UInt8) (h1 : highB hi = true) (h2 : lowB hi lo = true) : signB (hexB hi lo) = [92, 120, hi, lo] := by
 have key : ∀ hi ∈ highs, ∀ lo ∈ digitsL, lowB hi lo = true → signB (hexB hi lo) = [92, 120, hi, lo] := by decide +kernel
 refine key hi (high_mem hi h1) lo (hex_mem lo ?_) h2
 unfold lowB at h2
 simp only [Bool.and_eq_true, decide_eq_true_eq] at h2
 exact h2.1.1
theorem signAt_inv {s : List UInt8} {c : UInt8} {n : Nat} (h : signAt s = .inr (c, n)) : s = signB c ++ s.drop n ∧ n = (signB c).length := by
 match s, h with
 | [], h => simp [signAt] at h
 | a :: r, h =>
  rw [signAt_cons] at h
  split at h
  ·rename_i ha
   subst ha
   split at h
   ·cases h
   ·rename_i e r'
    split at h
    ·rename_i he
     split at h
     ·rename_i h120
      subst h120
      split at h
      ·cases h
      ·rename_i hi r2
       split at h
       ·rename_i hh
        split at h
        ·cases h
        ·rename_i lo r3
         split at h
         ·rename_i hl
          cases h
          rw [hex_sign hi lo hh hl]
          simp
         ·cases h
       ·cases h
     ·rename_i h120
      cases h
      rw [esc_sign e he h120]
      simp
    ·cases h
  ·split at h
   ·rename_i hp
    cases h
    have : signB c = [c] := by unfold signB; rw [if_pos hp]
    rw [this]
    simp
   ·cases h
theorem scanF_quote (m : Nat) (R : List UInt8) : ∀ (s : List UInt8) (f k : Nat) (o : List UInt8), s.length < f → o.length + s.length ≤ m →
  scanF (m : Int) f (s.flatMap signB ++ 34 :: R) k o = .ok (o ++ s) (k + (s.flatMap signB).length)
 | [], f, k, o, hf, hm => by
  obtain ⟨f, rfl⟩ : ∃ g, f = g + 1 := ⟨f - 1, by simp at hf; omega⟩
  simp [scanF]
 | c :: s, f, k, o, hf, hm => by
  obtain ⟨f, rfl⟩ : ∃ g, f = g + 1 := ⟨f - 1, by simp at hf; omega⟩
  simp only [List.length_cons] at hf hm
  obtain ⟨h1, h2⟩ := sign_head c
  have hh : ((c :: s).flatMap signB ++ 34 :: R).head? ≠ some 34 := by
   rw [List.flatMap_cons, List.append_assoc]
   cases hsc : signB c with
   | nil => exact absurd hsc h2
   | cons x y => rw [hsc] at h1; simpa using h1
  rw [scanF, if_neg (by rintro ⟨q, _⟩; omega), if_neg hh]
  rw [List.flatMap_cons, List.append_assoc, signAt_sign]
  simp only []
  rw [List.drop_left, scanF_quote m R s f _ _ (by omega) (by simp; omega)]
  simp
  omega
theorem scanF_inv (m : Nat) : ∀ (f : Nat) (s : List UInt8) (k : Nat) (o out : List UInt8) (k' : Nat), o.length ≤ m → scanF (m : Int) f s k o = .ok out k' →
  ∃ w R, out = o ++ w ∧ s = w.flatMap signB ++ 34 :: R ∧ k' = k + (w.flatMap signB).length ∧ out.length ≤ m
 | 0, _, _, _, _, _, _, h => by simp [scanF] at h
 | f + 1, s, k, o, out, k', hm, h => by
  rw [scanF] at h
  split at h
  ·cases h
  ·rename_i hn
   split at h
   ·rename_i hh
    cases h
    cases s with
    | nil => simp at hh
    | cons a r => simp at hh; subst hh; exact ⟨[], r, by simp, by simp, by simp, hm⟩
   ·rename_i hh
    split at h
    ·cases h
    ·rename_i c n hs
     obtain ⟨e1, e2⟩ := signAt_inv hs
     have hlt : o.length < m := by
      refine Nat.lt_of_le_of_ne hm fun q => hn ⟨by rw [q], hh⟩
     obtain ⟨w, R, q1, q2, q3, q4⟩ := scanF_inv m f _ _ _ _ _ (by simp; omega) h
     refine ⟨c :: w, R, by rw [q1]; simp, ?_, by rw [q3, List.flatMap_cons, List.length_append]; omega, q4⟩
     rw [List.flatMap_cons, List.append_assoc, ← q2, ← e1]
theorem scanQ_quote (s R : List UInt8) (hs : s.length ≤ 64) : scanQ 64 (quoteS s ++ R) = .ok s (1 + (s.flatMap signB).length) := by
 unfold scanQ quoteS
 have hlen : s.length ≤ (s.flatMap signB).length := by
  have key : ∀ s : List UInt8, s.length ≤ (s.flatMap signB).length := by
   intro s
   induction s with
   | nil => simp
   | cons c s ih =>
    have := List.length_pos_iff.2 (sign_head c).2
    rw [List.flatMap_cons, List.length_append, List.length_cons]; omega
  exact key s
 rw [if_pos (by simp)]
 have := scanF_quote 64 R s ((34 :: (s.flatMap signB ++ [34]) ++ R).length + 1) 1 [] (by simp only [List.length_append, List.length_cons]; omega) (by simpa using hs)
 simpa using this
theorem scanQ_inv {T s : List UInt8} {k : Nat} (h : scanQ 64 T = .ok s k) : s.length ≤ 64 ∧ (∃ R, T = quoteS s ++ R) ∧ k + 1 = (quoteS s).length := by
 unfold scanQ at h
 split at h
 ·rename_i hh
  cases T with
  | nil => simp at hh
  | cons a r =>
   simp at hh; subst hh
   obtain ⟨w, R, q1, q2, q3, q4⟩ := scanF_inv 64 _ _ _ _ _ _ (by simp) h
   simp at q1; subst q1
   refine ⟨q4, ⟨R, ?_⟩, ?_⟩
   ·unfold quoteS
    simp at q2
    rw [q2]; simp
   ·rw [q3]; unfold quoteS; simp; omega
 ·cases h
def dig4 (n : Nat) : List UInt8 :=
 if n < 10 then [UInt8.ofNat (48 + n)]
 else if n < 100 then [UInt8.ofNat (48 + n / 10), UInt8.ofNat (48 + n % 10)]
 else if n < 1000 then [UInt8.ofNat (48 + n / 100), UInt8.ofNat (48 + n / 10 % 10), UInt8.ofNat (48 + n % 10)]
 else [UInt8.ofNat (48 + n / 1000), UInt8.ofNat (48 + n / 100 % 10), UInt8.ofNat (48 + n / 10 % 10), UInt8.ofNat (48 + n % 10)]
theorem dig4_eq {n : Nat} (h : n < 10000) : Lib.decDigits n = dig4 n := by
 unfold dig4
 by_cases h1 : n < 10
 ·rw [Lib.decDigits, dif_pos h1, if_pos h1]
 ·rw [Lib.decDigits, dif_neg h1, if_neg h1]
  by_cases h2 : n < 100
  ·rw [if_pos h2, Lib.decDigits, dif_pos (by omega)]; rfl
  ·rw [if_neg h2, Lib.decDigits, dif_neg (by omega)]
   by_cases h3 : n < 1000
   ·rw [if_pos h3, Lib.decDigits, dif_pos (by omega), Nat.div_div_eq_div_mul]; rfl
   ·rw [if_neg h3, Lib.decDigits, dif_neg (by omega), Lib.decDigits, dif_pos (by omega), Nat.div_div_eq_div_mul, Nat.div_div_eq_div_mul]; simp [Nat.div_div_eq_div_mul]
theorem digit_nat {d : Nat} (h : d < 10) : (UInt8.ofNat (48 + d)).toNat = 48 + d := by
 simp [UInt8.toNat_ofNat']; omega
theorem digit_b {d : Nat} (h : d < 10) : digitB (UInt8.ofNat (48 + d)) = true := by
 unfold digitB; rw [digit_nat h]; simp; omega
theorem dig4_props {n : Nat} (h : n < 10000) (h0 : n ≠ 0) : (∃ b r, dig4 n = b :: r ∧ 49 ≤ b.toNat ∧ b.toNat ≤ 57) ∧ (dig4 n).length ≤ 4 ∧ (∀ b ∈ dig4 n, digitB b = true) ∧ numOf (dig4 n) = n := by
 unfold dig4
 split
 ·refine ⟨⟨_, _, rfl, ?_⟩, by simp, ?_, ?_⟩
  ·rw [digit_nat (by omega)]; omega
  ·simp only [List.mem_cons, List.not_mem_nil, or_false]; rintro b rfl; exact digit_b (by omega)
  ·simp only [numOf, List.foldl_cons, List.foldl_nil, digit_nat (show n < 10 by omega)]; omega
 ·split
  ·refine ⟨⟨_, _, rfl, ?_⟩, by simp, ?_, ?_⟩
   ·rw [digit_nat (by omega)]; omega
   ·simp only [List.mem_cons, List.not_mem_nil, or_false]; rintro b (rfl | rfl) <;> exact digit_b (by omega)
   ·simp only [numOf, List.foldl_cons, List.foldl_nil, digit_nat (show n / 10 < 10 by omega), digit_nat (show n % 10 < 10 by omega)]; omega
  ·split
   ·refine ⟨⟨_, _, rfl, ?_⟩, by simp, ?_, ?_⟩
    ·rw [digit_nat (by omega)]; omega
    ·simp only [List.mem_cons, List.not_mem_nil, or_false]; rintro b (rfl | rfl | rfl) <;> exact digit_b (by omega)
    ·simp only [numOf, List.foldl_cons, List.foldl_nil, digit_nat (show n / 100 < 10 by omega), digit_nat (show n / 10 % 10 < 10 by omega), digit_nat (show n % 10 < 10 by omega)]; omega
   ·refine ⟨⟨_, _, rfl, ?_⟩, by simp, ?_, ?_⟩
    ·rw [digit_nat (by omega)]; omega
    ·simp only [List.mem_cons, List.not_mem_nil, or_false]; rintro b (rfl | rfl | rfl | rfl) <;> exact digit_b (by omega)
    ·simp only [numOf, List.foldl_cons, List.foldl_nil, digit_nat (show n / 1000 < 10 by omega), digit_nat (show n / 100 % 10 < 10 by omega), digit_nat (show n / 10 % 10 < 10 by omega), digit_nat (show n % 10 < 10 by omega)]; omega
theorem digit_eq {b : UInt8} {d : Nat} (h : b.toNat = 48 + d) (hd : d < 10) : UInt8.ofNat (48 + d) = b := by
 rw [← UInt8.toNat_inj, digit_nat hd, h]
theorem dig4_num {w : List UInt8} {b : UInt8} {r : List UInt8} (hw : w = b :: r) (h1 : 49 ≤ b.toNat) (h2 : b.toNat ≤ 57) (hl : w.length ≤ 4) (hd : ∀ b ∈ w, digitB b = true) : dig4 (numOf w) = w ∧ numOf w < 10000 ∧ numOf w ≠ 0 := by
 have dig : ∀ b ∈ w, 48 ≤ b.toNat ∧ b.toNat ≤ 57 := fun b hb => by have := hd b hb; unfold digitB at this; simpa using this
 subst hw
 match r, hl, dig with
 | [], _, dig =>
  have e : numOf [b] = b.toNat - 48 := by simp [numOf]
  rw [e]
  refine ⟨?_, by omega, by omega⟩
  unfold dig4
  rw [if_pos (by omega), digit_eq (b := b) (by omega) (by omega)]
 | [c], _, dig =>
  have hc := dig c (by simp)
  have e : numOf [b, c] = 10 * (b.toNat - 48) + (c.toNat - 48) := by simp [numOf]
  rw [e]
  refine ⟨?_, by omega, by omega⟩
  unfold dig4
  rw [if_neg (by omega), if_pos (by omega), digit_eq (b := b) (by omega) (by omega), digit_eq (b := c) (by omega) (by omega)]
 | [c, d], _, dig =>
  have hc := dig c (by simp)
  have hd := dig d (by simp)
  have e : numOf [b, c, d] = 10 * (10 * (b.toNat - 48) + (c.toNat - 48)) + (d.toNat - 48) := by simp [numOf]
  rw [e]
  refine ⟨?_, by omega, by omega⟩
  unfold dig4
  rw [if_neg (by omega), if_neg (by omega), if_pos (by omega), digit_eq (b := b) (by omega) (by omega), digit_eq (b := c) (by omega) (by omega), digit_eq (b := d) (by omega) (by omega)]
 | [c, d, e'], _, dig =>
  have hc := dig c (by simp)
  have hd := dig d (by simp)
  have he := dig e' (by simp)
  have e : numOf [b, c, d, e'] = 10 * (10 * (10 * (b.toNat - 48) + (c.toNat - 48)) + (d.toNat - 48)) + (e'.toNat - 48) := by simp [numOf]
  rw [e]
  refine ⟨?_, by omega, by omega⟩
  unfold dig4
  rw [if_neg (by omega), if_neg (by omega), if_neg (by omega), digit_eq (b := b) (by omega) (by omega), digit_eq (b := c) (by omega) (by omega), digit_eq (b := d) (by omega) (by omega), digit_eq (b := e') (by omega) (by omega)]
 | c :: d :: e' :: g :: r, hl, _ => simp at hl
def okTok (kd : Nat) (s : List UInt8) (n : Nat) : Prop :=
 (kd = 1 ∨ kd = 2) ∧ n = 0 ∧ s.length ≤ 16 ∧ (∀ b ∈ s, smallB b = true) ∧ (∃ b r, s = b :: r ∧ 97 ≤ b.toNat ∧ b.toNat ≤ 122) ∨
 kd = 3 ∧ s = [] ∧ n < 10000 ∨ kd = 4 ∧ n = 0 ∧ s.length ≤ 64 ∨ kd = 5 ∧ n = 0 ∧ (s = [60] ∨ s = [123] ∨ s = [125])
def wordS (kd : Nat) (s : List UInt8) (n : Nat) : List UInt8 :=
 if kd = 2 then s ++ [58] else if kd = 3 then dig4 n else if kd = 4 then quoteS s else s
def Tok.word (t : Tok) : List UInt8 := wordS t.kind t.text t.n
theorem takeWhile_all {p : UInt8 → Bool} {s : List UInt8} {R : List UInt8} (hs : ∀ b ∈ s, p b = true) (hR : ∀ b r, R = b :: r → p b = false) : (s ++ R).takeWhile p = s := by
 induction s with
 | nil =>
  cases R with
  | nil => rfl
  | cons b r => simp [List.takeWhile_cons, hR b r rfl]
 | cons a s ih =>
  rw [List.cons_append, List.takeWhile_cons, if_pos (hs a (by simp)), ih fun b hb => hs b (by simp [hb])]
theorem peek_drop {T : List UInt8} {a : Nat} {b : UInt8} {r : List UInt8} (h : T.drop a = b :: r) : peekB T a = b ∧ a < T.length ∧ T.drop (a + 1) = r := by
 have h2 : T[a]? = some b := by have := List.getElem?_drop (xs := T) (i := a) (j := 0); rw [h] at this; simpa using this.symm
 refine ⟨by unfold peekB; rw [h2]; rfl, (List.getElem?_eq_some_iff.1 h2).1, ?_⟩
 rw [← List.drop_drop, h]; rfl
theorem peek_at {T : List UInt8} {a : Nat} {w R : List UInt8} (h : T.drop a = w ++ R) : peekB T (a + w.length) = (R.head?).getD 10 := by
 unfold peekB
 rw [← List.getElem?_drop, h, List.getElem?_append_right (Nat.le_refl _), Nat.sub_self, List.head?_eq_getElem?]
def endsB (R : List UInt8) : Prop := ∀ b r, R = b :: r → blankB b = true
theorem endsB_peek {T : List UInt8} {a : Nat} {w R : List UInt8} (h : T.drop a = w ++ R) (hR : endsB R) : blankB (peekB T (a + w.length)) = true := by
 rw [peek_at h]
 cases R with
 | nil => decide
 | cons b r => exact hR b r rfl
theorem blank_small : ∀ b : UInt8, blankB b = true → smallB b = false ∧ digitB b = false ∧ b ≠ 58 := by
 refine all_bytes ?_
 decide +kernel
theorem runP_word {p : UInt8 → Bool} {T s R : List UInt8} {a most : Nat} (h : T.drop a = s ++ R) (hs : ∀ b ∈ s, p b = true) (hR : ∀ b r, R = b :: r → p b = false) (hm : s.length ≤ most) : runP p most T a = (s, true, a + s.length) := by
 unfold runP
 rw [h, takeWhile_all hs hR, if_neg (by omega)]
theorem tokS_word {T R : List UInt8} {a kd n : Nat} {s : List UInt8} (h : T.drop a = wordS kd s n ++ R) (hk : okTok kd s n) (hR : endsB R) : tokS T a = .ok (⟨kd, s, n, a⟩, a + (wordS kd s n).length) := by
 have hb := endsB_peek h hR
 suffices hbody : tokBody T a = .ok (kd, s, n, a + (wordS kd s n).length) by
  unfold tokS
  rw [hbody]
  simp only [hb, if_true]
 rcases hk with ⟨hkd, rfl, hl, hs, c, r, hc, h1, h2⟩ | ⟨rfl, rfl, hn⟩ | ⟨rfl, rfl, hl⟩ | ⟨rfl, rfl, hs⟩
 ·have hpk : ∃ r', T.drop a = c :: r' := by
   rw [h]; unfold wordS
   rcases hkd with rfl | rfl
   ·simp [hc]
   ·simp [hc]
  obtain ⟨r', hr'⟩ := hpk
  have hp := (peek_drop hr').1
  unfold tokBody
  simp only [hp, h1, h2, and_self, if_true]
  rcases hkd with rfl | rfl
  ·have hw : wordS 1 s 0 = s := rfl
   rw [hw] at h hb ⊢
   rw [runP_word h hs (fun b r q => (blank_small b (hR b r q)).1) hl]
   simp only [if_true]
   rw [if_neg (blank_small _ hb).2.2]
  ·have hw : wordS 2 s 0 = s ++ [58] := rfl
   rw [hw, List.append_assoc] at h
   rw [hw]
   rw [runP_word h hs (fun b r q => by simp at q; rw [← q.1]; decide) hl]
   simp only [if_true]
   have : peekB T (a + s.length) = 58 := by rw [peek_at h]; rfl
   rw [if_pos this, List.length_append]
   rfl
 ·have hw : wordS 3 [] n = dig4 n := rfl
  rw [hw] at h ⊢
  by_cases h0 : n = 0
  ·subst h0
   have : dig4 0 = [48] := by decide
   rw [this] at h ⊢
   have hp := (peek_drop h).1
   unfold tokBody
   rw [hp]
   rfl
  ·obtain ⟨⟨b, r, q0, q1, q2⟩, q3, q4, q5⟩ := dig4_props hn h0
   have hp : peekB T a = b := by rw [q0] at h; exact (peek_drop h).1
   unfold tokBody
   simp only [hp]
   rw [if_neg (by omega), if_neg (by rintro rfl; revert q1; decide), if_pos ⟨q1, q2⟩, runP_word h q4 (fun b r q => (blank_small b (hR b r q)).2.1) q3]
   simp only [if_true, q5]
 ·have hw : wordS 4 s 0 = quoteS s := rfl
  rw [hw] at h ⊢
  have hp : peekB T a = 34 := (peek_drop (show T.drop a = 34 :: _ from h)).1
  unfold tokBody
  simp only [hp]
  rw [h, scanQ_quote s R hl]
  simp only [show ¬ (97 ≤ (34 : UInt8).toNat ∧ (34 : UInt8).toNat ≤ 122) by decide, show ¬ (34 : UInt8) = 48 by decide, show ¬ (49 ≤ (34 : UInt8).toNat ∧ (34 : UInt8).toNat ≤ 57) by decide, if_false, if_true]
  unfold quoteS
  simp
  omega
 ·have hw : wordS 5 s 0 = s := rfl
  rw [hw] at h ⊢
  unfold tokBody
  rcases hs with rfl | rfl | rfl
  all_goals
   have hp := (peek_drop h).1
   rw [hp]
   rfl
theorem takeWhile_small {p : UInt8 → Bool} (l : List UInt8) : ∀ b ∈ l.takeWhile p, p b = true := fun b hb => List.all_eq_true.1 List.all_takeWhile b hb
theorem tokBody_inv {T : List UInt8} {a kd n to : Nat} {s : List UInt8} (h : tokBody T a = .ok (kd, s, n, to)) : okTok kd s n ∧ T.drop a = wordS kd s n ++ T.drop to ∧ to = a + (wordS kd s n).length := by
 have lt10 : peekB T a ≠ 10 → T.drop a = peekB T a :: T.drop (a + 1) := fun q => by
  have hlt := peek_lt q
  rw [List.drop_eq_getElem_cons hlt]
  unfold peekB
  rw [List.getElem?_eq_getElem hlt]; rfl
 unfold tokBody at h
 simp only [] at h
 split at h
 ·rename_i hb
  have hd := lt10 (by rintro q; rw [q] at hb; revert hb; decide)
  have hsm : smallB (peekB T a) = true := by unfold smallB; simp [hb.1, hb.2]
  split at h
  ·rename_i hr
   have hrr : (runP smallB 16 T a) = ((T.drop a).takeWhile smallB, true, a + ((T.drop a).takeWhile smallB).length) ∧ ((T.drop a).takeWhile smallB).length ≤ 16 := by
    unfold runP at hr ⊢
    split
    ·rename_i q; rw [if_pos q] at hr; cases hr
    ·exact ⟨rfl, by omega⟩
   obtain ⟨e1, e2⟩ := hrr
   have hpre : T.drop a = (T.drop a).takeWhile smallB ++ T.drop (a + ((T.drop a).takeWhile smallB).length) := by
    have := List.prefix_iff_eq_append.1 (List.takeWhile_prefix smallB (l := T.drop a))
    rw [List.drop_drop] at this
    exact this.symm
   have hcons : ∃ b r, (T.drop a).takeWhile smallB = b :: r ∧ 97 ≤ b.toNat ∧ b.toNat ≤ 122 := by
    rw [hd, List.takeWhile_cons, if_pos hsm]
    exact ⟨_, _, rfl, hb.1, hb.2⟩
   rw [e1] at h
   simp only [] at h
   split at h
   ·rename_i h58
    cases h
    refine ⟨.inl ⟨.inr rfl, rfl, e2, takeWhile_small _, hcons⟩, ?_, ?_⟩
    ·show T.drop a = ((T.drop a).takeWhile smallB ++ [58]) ++ T.drop (a + ((T.drop a).takeWhile smallB).length + 1)
     conv => lhs; rw [hpre]
     rw [List.append_assoc]
     congr 1
     have hlt := peek_lt (T := T) (a := a + ((T.drop a).takeWhile smallB).length) (by rw [h58]; decide)
     rw [List.drop_eq_getElem_cons hlt]
     unfold peekB at h58
     rw [List.getElem?_eq_getElem hlt] at h58
     simp only [Option.getD_some] at h58
     rw [h58]; rfl
    ·show _ = a + ((T.drop a).takeWhile smallB ++ [58]).length
     simp; omega
   ·cases h
    exact ⟨.inl ⟨.inl rfl, rfl, e2, takeWhile_small _, hcons⟩, hpre, rfl⟩
  ·cases h
 ·split at h
  ·rename_i hb
   cases h
   have hd := lt10 (by rw [hb]; decide)
   refine ⟨.inr (.inl ⟨rfl, rfl, by decide⟩), ?_, rfl⟩
   rw [hd, hb]; rfl
  ·split at h
   ·rename_i _ hb
    have hd := lt10 (by rintro q; rw [q] at hb; revert hb; decide)
    have hsm : digitB (peekB T a) = true := by unfold digitB; simp; omega
    split at h
    ·rename_i hr
     have hrr : (runP digitB 4 T a) = ((T.drop a).takeWhile digitB, true, a + ((T.drop a).takeWhile digitB).length) ∧ ((T.drop a).takeWhile digitB).length ≤ 4 := by
      unfold runP at hr ⊢
      split
      ·rename_i q; rw [if_pos q] at hr; cases hr
      ·exact ⟨rfl, by omega⟩
     obtain ⟨e1, e2⟩ := hrr
     have hpre : T.drop a = (T.drop a).takeWhile digitB ++ T.drop (a + ((T.drop a).takeWhile digitB).length) := by
      have := List.prefix_iff_eq_append.1 (List.takeWhile_prefix digitB (l := T.drop a))
      rw [List.drop_drop] at this
      exact this.symm
     have hcons : (T.drop a).takeWhile digitB = peekB T a :: (T.drop (a + 1)).takeWhile digitB := by
      conv => lhs; rw [hd, List.takeWhile_cons, if_pos hsm]
     rw [e1] at h
     cases h
     obtain ⟨q1, q2, q3⟩ := dig4_num hcons hb.1 hb.2 e2 (takeWhile_small _)
     have hw : wordS 3 [] (numOf ((T.drop a).takeWhile digitB)) = (T.drop a).takeWhile digitB := q1
     exact ⟨.inr (.inl ⟨rfl, rfl, q2⟩), by rw [hw]; exact hpre, by rw [hw]⟩
    ·cases h
   ·split at h
    ·rename_i hb
     split at h
     ·rename_i s' k hs
      cases h
      obtain ⟨q1, ⟨R, q2⟩, q3⟩ := scanQ_inv hs
      have hw : wordS 4 s 0 = quoteS s := rfl
      refine ⟨.inr (.inr (.inl ⟨rfl, rfl, q1⟩)), ?_, by rw [hw, ← q3]⟩
      rw [hw, q3, ← List.drop_drop, q2, List.drop_left]
     ·cases h
     ·cases h
    ·split at h
     ·rename_i _ _ _ _ hb
      cases h
      have hd := lt10 (by rintro q; rw [q] at hb; revert hb; decide)
      refine ⟨.inr (.inr (.inr ⟨rfl, rfl, ?_⟩)), hd, rfl⟩
      rcases hb with q | q | q <;> rw [q] <;> simp
     ·cases h
theorem tokS_inv {T : List UInt8} {a to : Nat} {t : Tok} (h : tokS T a = .ok (t, to)) : okTok t.kind t.text t.n ∧ t.at' = a ∧ T.drop a = t.word ++ T.drop to ∧ to = a + t.word.length ∧ blankB (peekB T to) = true := by
 unfold tokS at h
 split at h
 ·cases h
 ·rename_i hb
  obtain ⟨q1, q2, q3⟩ := tokBody_inv hb
  split at h
  ·rename_i hbl
   cases h
   exact ⟨q1, rfl, q2, q3, hbl⟩
  ·cases h
theorem okTok_kind {kd n : Nat} {s : List UInt8} (h : okTok kd s n) : kd ≠ 6 := by
 rcases h with ⟨h, _⟩ | ⟨h, _⟩ | ⟨h, _⟩ | ⟨h, _⟩ <;> omega
end Go.Mini
