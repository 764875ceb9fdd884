import Derived.Test.YtjgmccbjffncaaaDoorPLexJtoPLexN
import Derived.Lib.ItoaNum
set_option maxHeartbeats 4000000
set_option linter.unusedSimpArgs false
namespace Go.Mini
def signB (c : UInt8) : List UInt8 := if plainB c then [c] else match shortB c with
 | some x => [92, x]
 | none => [92, 120, digitsL.getD (c.toNat / 16) 0, digitsL.getD (c.toNat % 16) 0]
def quoteS (s : List UInt8) : List UInt8 := 34 :: (s.flatMap signB ++ [34])
theorem all_bytes {p : UInt8 → Prop} (h : ∀ n, n < 256 → p n.toUInt8) (b : UInt8) : p b := by
 have := h b.toNat b.toNat_lt
 simpa using this
theorem sign_head : ∀ c : UInt8, (signB c).head? ≠ some 34 ∧ signB c ≠ [] := by
 refine all_bytes ?_
 decide +kernel
theorem esc_sign : ∀ e : UInt8, escB e = true → e ≠ 120 → signB (if e = 110 then (10 : UInt8) else if e = 114 then 13 else if e = 116 then 9 else e) = [92, e] := by
 refine all_bytes ?_
 decide +kernel
def highs : List UInt8 := [48, 49, 55, 56, 57, 97, 98, 99, 100, 101, 102]
theorem high_mem : ∀ b : UInt8, highB b = true → b ∈ highs := by
 refine all_bytes ?_
 decide +kernel
theorem hex_mem : ∀ b : UInt8, 0 ≤ hexV b → b ∈ digitsL := by
 refine all_bytes ?_
 decide +kernel
theorem hex_sign (hi lo : UInt8) (h1 : highB hi = true) (h2 : lowB hi lo = true) : signB (hexB hi lo) = [92, 120, hi, lo] := by
 have key : ∀ hi ∈ highs, ∀ lo ∈ digitsL, lowB hi lo = true → signB (hexB hi lo) = [92, 120, hi, lo] := by decide +kernel
 refine key hi (high_mem hi h1) lo (hex_mem lo ?_) h2
 unfold lowB at h2
 simp only [Bool.and_eq_true, decide_eq_true_eq] at h2
 exact h2.1.1
theorem signAt_inv {s : List UInt8} {c : UInt8} {n : Nat} (h : signAt s = .inr (c, n)) : s = signB c ++ s.drop n ∧ n = (signB c).length := by
 match s, h with
 | [], h => simp [signAt] at h
 | a :: r, h =>
  rw [signAt_cons] at h
  split at h
  ·rename_i ha
   subst ha
   split at h
   ·cases h
   ·rename_i e r'
    split at h
    ·rename_i he
     split at h
     ·rename_i h120
      subst h120
      split at h
      ·cases h
      ·rename_i hi r2
       split at h
       ·rename_i hh
        split at h
        ·cases h
        ·rename_i lo r3
         split at h
         ·rename_i hl
          cases h
          rw [hex_sign hi lo hh hl]
          simp
         ·cases h
       ·cases h
     ·rename_i h120
      cases h
      rw [esc_sign e he h120]
      simp
    ·cases h
  ·split at h
   ·rename_i hp
    cases h
    have : signB c = [c] := by unfold signB; rw [if_pos hp]
    rw [this]
    simp
   ·cases h
theorem scanF_inv (m : Nat) : ∀ (f : Nat) (s : List UInt8) (k : Nat) (o out : List UInt8) (k' : Nat), o.length ≤ m → scanF (m : Int) f s k o = .ok out k' →
  ∃ w R, out = o ++ w ∧ s = w.flatMap signB ++ 34 :: R ∧ k' = k + (w.flatMap signB).length ∧ out.length ≤ m
 | 0, _, _, _, _, _, _, h => by simp [scanF] at h
 | f + 1, s, k, o, out, k', hm, h => by
  rw [scanF] at h
  split at h
  ·cases h
  ·rename_i hn
   split at h
   ·rename_i hh
    cases h
    cases s with
    | nil => simp at hh
    | cons a r => simp at hh; subst hh; exact ⟨[], r, by simp, by simp, by simp, hm⟩
   ·rename_i hh
    split at h
    ·cases h
    ·rename_i c n hs
     obtain ⟨e1, e2⟩ := signAt_inv hs
     have hlt : o.length < m := by
      refine Nat.lt_of_le_of_ne hm fun q => hn ⟨by rw [q], hh⟩
     obtain ⟨w, R, q1, q2, q3, q4⟩ := scanF_inv m f _ _ _ _ _ (by simp; omega) h
     refine ⟨c :: w, R, by rw [q1]; simp, ?_, by rw [q3, List.flatMap_cons, List.length_append]; omega, q4⟩
     rw [List.flatMap_cons, List.append_assoc, ← q2, ← e1]
theorem scanQ_inv {T s : List UInt8} {k : Nat} (h : scanQ 64 T = .ok s k) : s.length ≤ 64 ∧ (∃ R, T = quoteS s ++ R) ∧ k + 1 = (quoteS s).length := by
 unfold scanQ at h
 split at h
 ·rename_i hh
  cases T with
  | nil => simp at hh
  | cons a r =>
   simp at hh; subst hh
   obtain ⟨w, R, q1, q2, q3, q4⟩ := scanF_inv 64 _ _ _ _ _ _ (by simp) h
   simp at q1; subst q1
   refine ⟨q4, ⟨R, ?_⟩, ?_⟩
   ·unfold quoteS
    simp at q2
    rw [q2]; simp
   ·rw [q3]; unfold quoteS; simp; omega
 ·cases h
def dig4 (n : Nat) : List UInt8 :=
 if n < 10 then [UInt8.ofNat (48 + n)]
 else if n < 100 then [UInt8.ofNat (48 + n / 10), UInt8.ofNat (48 + n % 10)]
 else if n < 1000 then [UInt8.ofNat (48 + n / 100), UInt8.ofNat (48 + n / 10 % 10), UInt8.ofNat (48 + n % 10)]
 else [UInt8.ofNat (48 + n / 1000), UInt8.ofNat (48 + n / 100 % 10), UInt8.ofNat (48 + n / 10 % 10), UInt8.ofNat (48 + n % 10)]
theorem digit_nat {d : Nat} (h : d < 10) : (UInt8.ofNat (48 + d)).toNat = 48 + d := by
 simp [UInt8.toNat_ofNat']; omega
theorem digit_eq {b : UInt8} {d : Nat} (h : b.toNat = 48 + d) (hd : d < 10) : UInt8.ofNat (48 + d) = b := by
 rw [← UInt8.toNat_inj, digit_nat hd, h]
theorem dig4_num {w : List UInt8} {b : UInt8} {r : List UInt8} (hw : w = b :: r) (h1 : 49 ≤ b.toNat) (h2 : b.toNat ≤ 57) (hl : w.length ≤ 4) (hd : ∀ b ∈ w, digitB b = true) : dig4 (numOf w) = w ∧ numOf w < 10000 ∧ numOf w ≠ 0 := by
 have dig : ∀ b ∈ w, 48 ≤ b.toNat ∧ b.toNat ≤ 57 := fun b hb => by have := hd b hb; unfold digitB at this; simpa using this
 subst hw
 match r, hl, dig with
 | [], _, dig =>
  have e : numOf [b] = b.toNat - 48 := by simp [numOf]
  rw [e]
  refine ⟨?_, by omega, by omega⟩
  unfold dig4
  rw [if_pos (by omega), digit_eq (b := b) (by omega) (by omega)]
 | [c], _, dig =>
  have hc := dig c (by simp)
  have e : numOf [b, c] = 10 * (b.toNat - 48) + (c.toNat - 48) := by simp [numOf]
  rw [e]
  refine ⟨?_, by omega, by omega⟩
  unfold dig4
  rw [if_neg (by omega), if_pos (by omega), digit_eq (b := b) (by omega) (by omega), digit_eq (b := c) (by omega) (by omega)]
 | [c, d], _, dig =>
  have hc := dig c (by simp)
  have hd := dig d (by simp)
  have e : numOf [b, c, d] = 10 * (10 * (b.toNat - 48) + (c.toNat - 48)) + (d.toNat - 48) := by simp [numOf]
  rw [e]
  refine ⟨?_, by omega, by omega⟩
  unfold dig4
  rw [if_neg (by omega), if_neg (by omega), if_pos (by omega), digit_eq (b := b) (by omega) (by omega), digit_eq (b := c) (by omega) (by omega), digit_eq (b := d) (by omega) (by omega)]
 | [c, d, e'], _, dig =>
  have hc := dig c (by simp)
  have hd := dig d (by simp)
  have he := dig e' (by simp)
  have e : numOf [b, c, d, e'] = 10 * (10 * (10 * (b.toNat - 48) + (c.toNat - 48)) + (d.toNat - 48)) + (e'.toNat - 48) := by simp [numOf]
  rw [e]
  refine ⟨?_, by omega, by omega⟩
  unfold dig4
  rw [if_neg (by omega), if_neg (by omega), if_neg (by omega), digit_eq (b := b) (by omega) (by omega), digit_eq (b := c) (by omega) (by omega), digit_eq (b := d) (by omega) (by omega), digit_eq (b := e') (by omega) (by omega)]
 | c :: d :: e' :: g :: r, hl, _ => simp at hl
def okTok (kd : Nat) (s : List UInt8) (n : Nat) : Prop :=
 (kd = 1 ∨ kd = 2) ∧ n = 0 ∧ s.length ≤ 16 ∧ (∀ b ∈ s, smallB b = true) ∧ (∃ b r, s = b :: r ∧ 97 ≤ b.toNat ∧ b.toNat ≤ 122) ∨
 kd = 3 ∧ s = [] ∧ n < 10000 ∨ kd = 4 ∧ n = 0 ∧ s.length ≤ 64 ∨ kd = 5 ∧ n = 0 ∧ (s = [60] ∨ s = [123] ∨ s = [125])
def wordS (kd : Nat) (s : List UInt8) (n : Nat) : List UInt8 :=
 if kd = 2 then s ++ [58] else if kd = 3 then dig4 n else if kd = 4 then quoteS s else s
def Tok.word (t : Tok) : List UInt8 := wordS t.kind t.text t.n
theorem takeWhile_small {p : UInt8 → Bool} (l : List UInt8) : ∀ b ∈ l.takeWhile p, p b = true := fun b hb => List.all_eq_true.1 List.all_takeWhile b hb
theorem tokBody_inv {T : List UInt8} {a kd n to : Nat} {s : List UInt8} (h : tokBody T a = .ok (kd, s, n, to)) : okTok kd s n ∧ T.drop a = wordS kd s n ++ T.drop to ∧ to = a + (wordS kd s n).length := by
 have lt10 : peekB T a ≠ 10 → T.drop a = peekB T a :: T.drop (a + 1) := fun q => by
  have hlt := peek_lt q
  rw [List.drop_eq_getElem_cons hlt]
  unfold peekB
  rw [List.getElem?_eq_getElem hlt]; rfl
 unfold tokBody at h
 simp only [] at h
 split at h
 ·rename_i hb
  have hd := lt10 (by rintro q; rw [q] at hb; revert hb; decide)
  have hsm : smallB (peekB T a) = true := by unfold smallB; simp [hb.1, hb.2]
  split at h
  ·rename_i hr
   have hrr : (runP smallB 16 T a) = ((T.drop a).takeWhile smallB, true, a + ((T.drop a).takeWhile smallB).length) ∧ ((T.drop a).takeWhile smallB).length ≤ 16 := by
    unfold runP at hr ⊢
    split
    ·rename_i q; rw [if_pos q] at hr; cases hr
    ·exact ⟨rfl, by omega⟩
   obtain ⟨e1, e2⟩ := hrr
   have hpre : T.drop a = (T.drop a).takeWhile smallB ++ T.drop (a + ((T.drop a).takeWhile smallB).length) := by
    have := List.prefix_iff_eq_append.1 (List.takeWhile_prefix smallB (l := T.drop a))
    rw [List.drop_drop] at this
    exact this.symm
   have hcons : ∃ b r, (T.drop a).takeWhile smallB = b :: r ∧ 97 ≤ b.toNat ∧ b.toNat ≤ 122 := by
    rw [hd, List.takeWhile_cons, if_pos hsm]
    exact ⟨_, _, rfl, hb.1, hb.2⟩
   rw [e1] at h
   simp only [] at h
   split at h
   ·rename_i h58
    cases h
    refine ⟨.inl ⟨.inr rfl, rfl, e2, takeWhile_small _, hcons⟩, ?_, ?_⟩
    ·show T.drop a = ((T.drop a).takeWhile smallB ++ [58]) ++ T.drop (a + ((T.drop a).takeWhile smallB).length + 1)
     conv => lhs; rw [hpre]
     rw [List.append_assoc]
     congr 1
     have hlt := peek_lt (T := T) (a := a + ((T.drop a).takeWhile smallB).length) (by rw [h58]; decide)
     rw [List.drop_eq_getElem_cons hlt]
     unfold peekB at h58
     rw [List.getElem?_eq_getElem hlt] at h58
     simp only [Option.getD_some] at h58
     rw [h58]; rfl
    ·show _ = a + ((T.drop a).takeWhile smallB ++ [58]).length
     simp; omega
   ·cases h
    exact ⟨.inl ⟨.inl rfl, rfl, e2, takeWhile_small _, hcons⟩, hpre, rfl⟩
  ·cases h
 ·split at h
  ·rename_i hb
   cases h
   have hd := lt10 (by rw [hb]; decide)
   refine ⟨.inr (.inl ⟨rfl, rfl, by decide⟩), ?_, rfl⟩
   rw [hd, hb]; rfl
  ·split at h
   ·rename_i _ hb
    have hd := lt10 (by rintro q; rw [q] at hb; revert hb; decide)
    have hsm : digitB (peekB T a) = true := by unfold digitB; simp; omega
    split at h
    ·rename_i hr
     have hrr : (runP digitB 4 T a) = ((T.drop a).takeWhile digitB, true, a + ((T.drop a).takeWhile digitB).length) ∧ ((T.drop a).takeWhile digitB).length ≤ 4 := by
      unfold runP at hr ⊢
      split
      ·rename_i q; rw [if_pos q] at hr; cases hr
      ·exact ⟨rfl, by omega⟩
     obtain ⟨e1, e2⟩ := hrr
     have hpre : T.drop a = (T.drop a).takeWhile digitB ++ T.drop (a + ((T.drop a).takeWhile digitB).length) := by
      have := List.prefix_iff_eq_append.1 (List.takeWhile_prefix digitB (l := T.drop a))
      rw [List.drop_drop] at this
      exact this.symm
     have hcons : (T.drop a).takeWhile digitB = peekB T a :: (T.drop (a + 1)).takeWhile digitB := by
      conv => lhs; rw [hd, List.takeWhile_cons, if_pos hsm]
     rw [e1] at h
     cases h
     obtain ⟨q1, q2, q3⟩ := dig4_num hcons hb.1 hb.2 e2 (takeWhile_small _)
     have hw : wordS 3 [] (numOf ((T.drop a).takeWhile digitB)) = (T.drop a).takeWhile digitB := q1
     exact ⟨.inr (.inl ⟨rfl, rfl, q2⟩), by rw [hw]; exact hpre, by rw [hw]⟩
    ·cases h
   ·split at h
    ·rename_i hb
     split at h
     ·rename_i s' k hs
      cases h
      obtain ⟨q1, ⟨R, q2⟩, q3⟩ := scanQ_inv hs
      have hw : wordS 4 s 0 = quoteS s := rfl
      refine ⟨.inr (.inr (.inl ⟨rfl, rfl, q1⟩)), ?_, by rw [hw, ← q3]⟩
      rw [hw, q3, ← List.drop_drop, q2, List.drop_left]
     ·cases h
     ·cases h
    ·split at h
     ·rename_i _ _ _ _ hb
      cases h
      have hd := lt10 (by rintro q; rw [q] at hb; revert hb; decide)
      refine ⟨.inr (.inr (.inr ⟨rfl, rfl, ?_⟩)), hd, rfl⟩
      rcases hb with q | q | q <;> rw [q] <;> simp
     ·cases h
theorem tokS_inv {T : List UInt8} {a to : Nat} {t : Tok} (h : tokS T a = .ok (t, to)) : okTok t.kind t.text t.n ∧ t.at' = a ∧ T.drop a = t.word ++ T.drop to ∧ to = a + t.word.length ∧ blankB (peekB T to) = true := by
 unfold tokS at h
 split at h
 ·cases h
 ·rename_i hb
  obtain ⟨q1, q2, q3⟩ := tokBody_inv hb
  split at h
  ·rename_i hbl
   cases h
   exact ⟨q1, rfl, q2, q3, hbl⟩
  ·cases h
theorem okTok_kind {kd n : Nat} {s : List UInt8} (h : okTok kd s n) : kd ≠ 6 := by
 rcases h with ⟨h, _⟩ | ⟨h, _⟩ | ⟨h, _⟩ | ⟨h, _⟩ <;> omega
end Go.Mini
