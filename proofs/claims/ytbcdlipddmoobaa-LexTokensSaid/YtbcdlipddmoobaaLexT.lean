/-
  LEX, part T: the sign of a byte, by trial of all of them.
-/
import Derived.Test.YtbcdlipddmoobaaLexS
set_option linter.unusedSimpArgs false
set_option maxHeartbeats 4000000
namespace Go.Mini
open Go.Proofs

def hiOf (b : UInt8) : UInt8 := digitsL.getD (b.toNat / 16) 0
def loOf (b : UInt8) : UInt8 := digitsL.getD (b.toNat % 16) 0
/-- What stands for a byte in quotes. -/
def signOf (b : UInt8) : List UInt8 := match shortB b with
  | some k => [92, k]
  | none => if plainB b then [b] else [92, 120, hiOf b, loOf b]
def unesc (e : UInt8) : UInt8 := if e = 110 then 10 else if e = 114 then 13 else if e = 116 then 9 else e
set_option maxRecDepth 100000 in
theorem sign_ok : byteOk Try.prog (fun _ _ _ => none) 45 (fun b => .string (bs (signOf b))) 256 = true := by kernel_rfl
theorem sign_does {G : Nat} (B : Base Try.prog G) (b : UInt8) (h : Heap) : Does Try.prog G (GoodE Try.prog B) 45 [byteV b] h fun r h' => r = .returned (.string (bs (signOf b))) ∧ h' = h := byteFn (noKnown _ _ _) sign_ok b h
theorem allBytes {p : UInt8 → Bool} (h : (List.range 256).all (fun n => p n.toUInt8) = true) (b : UInt8) : p b = true := by
  have := List.all_eq_true.1 h b.toNat (by have := b.toNat_lt; simp; omega)
  simpa using this
theorem sg_plain (b : UInt8) (h : plainB b = true) : shortB b = none ∧ b ≠ 92 := by
  have := allBytes (p := fun b => !plainB b || (shortB b == none && b != 92)) (by decide +kernel) b
  simpa [h] using this
theorem sg_short (b k : UInt8) (h : shortB b = some k) : escB k = true ∧ k ≠ 120 ∧ unesc k = b := by
  have := allBytes (p := fun b => match shortB b with | some k => escB k && k != 120 && unesc k == b | none => true) (by decide +kernel) b
  simp only [h] at this
  simpa [and_assoc] using this
theorem sg_esc (k : UInt8) (h : escB k = true) (hk : k ≠ 120) : shortB (unesc k) = some k := by
  have := allBytes (p := fun k => !escB k || k == 120 || shortB (unesc k) == some k) (by decide +kernel) k
  simpa [h, hk] using this
theorem sg_hex (b : UInt8) (h1 : shortB b = none) (h2 : plainB b = false) : highB (hiOf b) = true ∧ lowB (hiOf b) (loOf b) = true ∧ hexB (hiOf b) (loOf b) = b := by
  have := allBytes (p := fun b => shortB b != none || plainB b || (highB (hiOf b) && lowB (hiOf b) (loOf b) && hexB (hiOf b) (loOf b) == b)) (by decide +kernel) b
  simpa [h1, h2, and_assoc] using this
theorem sg_pair (hi lo : UInt8) (h1 : highB hi = true) (h2 : lowB hi lo = true) : shortB (hexB hi lo) = none ∧ plainB (hexB hi lo) = false ∧ hiOf (hexB hi lo) = hi ∧ loOf (hexB hi lo) = lo := by
  have := allBytes (p := fun hi => !highB hi || (List.range 256).all fun n => !lowB hi n.toUInt8 || (shortB (hexB hi n.toUInt8) == none && plainB (hexB hi n.toUInt8) == false && hiOf (hexB hi n.toUInt8) == hi && loOf (hexB hi n.toUInt8) == n.toUInt8)) (by decide +kernel) hi
  rw [h1] at this
  simp only [Bool.not_true, Bool.false_or] at this
  have := List.all_eq_true.1 this lo.toNat (by have := lo.toNat_lt; simp; omega)
  simp only [show lo.toNat.toUInt8 = lo by simp, h2, Bool.not_true, Bool.false_or] at this
  simpa [and_assoc] using this
theorem sg_top (hi : UInt8) (h1 : highB hi = true) : lowB hi 102 = true := by
  have := allBytes (p := fun hi => !highB hi || lowB hi 102) (by decide +kernel) hi
  simpa [h1] using this

/-- How many bytes two texts begin alike. -/
def lcp : List UInt8 → List UInt8 → Nat
  | a :: x, b :: y => if a = b then lcp x y + 1 else 0
  | _, _ => 0
theorem lcp_nil (y : List UInt8) : lcp [] y = 0 := by cases y <;> rfl
theorem lcp_nil' (x : List UInt8) : lcp x [] = 0 := by cases x <;> rfl
theorem lcp_cons (a b : UInt8) (x y : List UInt8) : lcp (a :: x) (b :: y) = if a = b then lcp x y + 1 else 0 := rfl
theorem lcp_le : ∀ (x y : List UInt8), lcp x y ≤ y.length ∧ lcp x y ≤ x.length
  | [], y => by simp [lcp_nil]
  | a :: x, [] => by simp [lcp_nil']
  | a :: x, b :: y => by
    have := lcp_le x y
    rw [lcp_cons]
    split <;> simp <;> omega
theorem signOf_cases (b : UInt8) : (plainB b = true ∧ b ≠ 92 ∧ signOf b = [b]) ∨ (∃ k, shortB b = some k ∧ signOf b = [92, k]) ∨ (shortB b = none ∧ plainB b = false ∧ signOf b = [92, 120, hiOf b, loOf b]) := by
  unfold signOf
  cases hs : shortB b with
  | some k => exact .inr (.inl ⟨k, rfl, rfl⟩)
  | none =>
    cases hp : plainB b with
    | true => exact .inl ⟨rfl, (sg_plain b hp).2, rfl⟩
    | false => exact .inr (.inr ⟨rfl, rfl, rfl⟩)
theorem signOf_plain {b : UInt8} (h : plainB b = true) : signOf b = [b] := by unfold signOf; rw [(sg_plain b h).1]; simp [h]
theorem signOf_esc {k : UInt8} (h : escB k = true) (hk : k ≠ 120) : signOf (unesc k) = [92, k] := by unfold signOf; rw [sg_esc k h hk]
theorem signOf_pair {hi lo : UInt8} (h1 : highB hi = true) (h2 : lowB hi lo = true) : signOf (hexB hi lo) = [92, 120, hi, lo] := by
  obtain ⟨q1, q2, q3, q4⟩ := sg_pair hi lo h1 h2
  unfold signOf; rw [q1, q3, q4]; simp [q2]
def TrialR (X : List UInt8) : Sum Nat (UInt8 × Nat) → Prop
  | .inr (c, n) => (signOf c).length = n ∧ lcp X (signOf c) = n ∧ ∀ b, b ≠ c → lcp X (signOf b) < (signOf b).length
  | .inl j => (∀ b, lcp X (signOf b) < (signOf b).length ∧ lcp X (signOf b) ≤ j) ∧ ∃ b, lcp X (signOf b) = j
theorem trial (X : List UInt8) : TrialR X (signAt X) := by
  match X with
  | [] =>
    refine ⟨fun b => ?_, 0, lcp_nil _⟩
    rw [lcp_nil]
    rcases signOf_cases b with ⟨_, _, h⟩ | ⟨k, _, h⟩ | ⟨_, _, h⟩ <;> rw [h] <;> simp
  | x :: r =>
    rw [signAt_cons]
    by_cases hx : x = 92
    · subst hx
      rw [if_pos rfl]
      have hpl : ∀ b, b ≠ 92 → ∀ y, lcp (92 :: y) [b] = 0 := fun b hb y => by rw [lcp_cons, if_neg (Ne.symm hb)]
      match r with
      | [] =>
        refine ⟨fun b => ?_, 34, by decide⟩
        rcases signOf_cases b with ⟨_, hb, h⟩ | ⟨k, _, h⟩ | ⟨_, _, h⟩ <;> rw [h]
        · rw [hpl b hb]; simp
        · simp [lcp_cons, lcp_nil]
        · simp [lcp_cons, lcp_nil]
      | e :: r' =>
        simp only []
        cases he : escB e with
        | false =>
          have ne34 : e ≠ 34 := by rintro rfl; revert he; decide
          have ne120 : e ≠ 120 := by rintro rfl; revert he; decide
          refine ⟨fun b => ?_, 34, by rw [show signOf 34 = [92, 34] by decide]; simp [lcp_cons, ne34]⟩
          rcases signOf_cases b with ⟨_, hb, h⟩ | ⟨k, hk, h⟩ | ⟨_, _, h⟩ <;> rw [h]
          · rw [hpl b hb]; simp
          · have : e ≠ k := by rintro rfl; rw [(sg_short b e hk).1] at he; cases he
            simp [lcp_cons, this]
          · simp [lcp_cons, ne120]
        | true =>
          rw [if_pos rfl]
          by_cases h120 : e = 120
          · subst h120
            rw [if_pos rfl]
            have hsh : ∀ b k, shortB b = some k → ∀ y, lcp (92 :: 120 :: y) [92, k] = 1 := fun b k hk y => by
              have := (sg_short b k hk).2.1
              simp [lcp_cons, Ne.symm this]
            match r' with
            | [] =>
              refine ⟨fun b => ?_, 0, by decide⟩
              rcases signOf_cases b with ⟨_, hb, h⟩ | ⟨k, hk, h⟩ | ⟨_, _, h⟩ <;> rw [h]
              · rw [hpl b hb]; simp
              · rw [hsh b k hk]; simp
              · simp [lcp_cons, lcp_nil]
            | hi :: r2 =>
              simp only []
              cases hh : highB hi with
              | false =>
                have h48 : hi ≠ 48 := by rintro rfl; revert hh; decide
                refine ⟨fun b => ?_, 0, by rw [show signOf 0 = [92, 120, 48, 48] by decide]; simp [lcp_cons, h48]⟩
                rcases signOf_cases b with ⟨_, hb, h⟩ | ⟨k, hk, h⟩ | ⟨h1, h2, h⟩ <;> rw [h]
                · rw [hpl b hb]; simp
                · rw [hsh b k hk]; simp
                · have : hi ≠ hiOf b := by rintro rfl; rw [(sg_hex b h1 h2).1] at hh; cases hh
                  simp [lcp_cons, this]
              | true =>
                rw [if_pos rfl]
                match r2 with
                | [] =>
                  refine ⟨fun b => ?_, hexB hi 102, by rw [signOf_pair hh (sg_top hi hh)]; simp [lcp_cons, lcp_nil]⟩
                  rcases signOf_cases b with ⟨_, hb, h⟩ | ⟨k, hk, h⟩ | ⟨h1, h2, h⟩ <;> rw [h]
                  · rw [hpl b hb]; simp
                  · rw [hsh b k hk]; simp
                  · simp only [lcp_cons, lcp_nil, if_true, List.length_cons, List.length_nil]
                    split <;> omega
                | lo :: r3 =>
                  simp only []
                  cases hl : lowB hi lo with
                  | true =>
                    rw [if_pos rfl]
                    refine ⟨by rw [signOf_pair hh hl]; rfl, by rw [signOf_pair hh hl]; simp [lcp_cons, lcp_nil'], fun b hb => ?_⟩
                    rcases signOf_cases b with ⟨_, hb2, h⟩ | ⟨k, hk, h⟩ | ⟨h1, h2, h⟩ <;> rw [h]
                    · rw [hpl b hb2]; simp
                    · rw [hsh b k hk]; simp
                    · simp only [lcp_cons, lcp_nil', if_true, List.length_cons, List.length_nil]
                      split
                      · split
                        · rename_i e1 e2
                          exfalso; apply hb
                          rw [← (sg_hex b h1 h2).2.2, ← e1, ← e2]
                        · omega
                      · omega
                  | false =>
                    simp only [Bool.false_eq_true, if_false]
                    have ne : ∀ b, shortB b = none → plainB b = false → hi = hiOf b → lo ≠ loOf b := by
                      rintro b h1 h2 e1 e2
                      have := (sg_hex b h1 h2).2.1
                      rw [← e1, ← e2, hl] at this; cases this
                    have n102 : lo ≠ 102 := by rintro rfl; rw [sg_top hi hh] at hl; cases hl
                    refine ⟨fun b => ?_, hexB hi 102, by rw [signOf_pair hh (sg_top hi hh)]; simp [lcp_cons, lcp_nil, n102]⟩
                    rcases signOf_cases b with ⟨_, hb, h⟩ | ⟨k, hk, h⟩ | ⟨h1, h2, h⟩ <;> rw [h]
                    · rw [hpl b hb]; simp
                    · rw [hsh b k hk]; simp
                    · simp only [lcp_cons, lcp_nil', if_true, List.length_cons, List.length_nil]
                      split
                      · rename_i e1
                        rw [if_neg (ne b h1 h2 e1)]; omega
                      · omega
          · rw [if_neg h120]
            change TrialR _ (.inr (unesc e, 2))
            refine ⟨by rw [signOf_esc he h120]; rfl, by rw [signOf_esc he h120]; simp [lcp_cons, lcp_nil'], fun b hb => ?_⟩
            rcases signOf_cases b with ⟨_, hb2, h⟩ | ⟨k, hk, h⟩ | ⟨_, _, h⟩ <;> rw [h]
            · rw [hpl b hb2]; simp
            · have : e ≠ k := by rintro rfl; exact hb (sg_short b e hk).2.2.symm
              simp [lcp_cons, this]
            · simp [lcp_cons, h120]
    · rw [if_neg hx]
      cases hp : plainB x with
      | true =>
        rw [if_pos rfl]
        refine ⟨by rw [signOf_plain hp]; rfl, by rw [signOf_plain hp]; simp [lcp_cons, lcp_nil'], fun b hb => ?_⟩
        rcases signOf_cases b with ⟨_, _, h⟩ | ⟨k, _, h⟩ | ⟨_, _, h⟩ <;> rw [h]
        · rw [lcp_cons, if_neg (Ne.symm hb)]; simp
        · rw [lcp_cons, if_neg hx]; simp
        · rw [lcp_cons, if_neg hx]; simp
      | false =>
        simp only [Bool.false_eq_true, if_false]
        refine ⟨fun b => ?_, 34, by rw [show signOf 34 = [92, 34] by decide, lcp_cons, if_neg hx]⟩
        rcases signOf_cases b with ⟨hb, _, h⟩ | ⟨k, _, h⟩ | ⟨_, _, h⟩ <;> rw [h]
        · have : x ≠ b := by rintro rfl; rw [hb] at hp; cases hp
          rw [lcp_cons, if_neg this]; simp
        · rw [lcp_cons, if_neg hx]; simp
        · rw [lcp_cons, if_neg hx]; simp
end Go.Mini
