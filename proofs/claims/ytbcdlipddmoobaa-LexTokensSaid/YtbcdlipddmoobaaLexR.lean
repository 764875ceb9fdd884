/-
  LEX, part R: is a text one of the words?
-/
import Derived.Test.YtbcdlipddmoobaaLexO
set_option linter.unusedSimpArgs false
set_option maxHeartbeats 4000000
namespace Go.Mini
open Go.Proofs

def wordsL : List (List UInt8) := [[115, 101, 110, 100], [115, 101, 116], [105, 110, 99], [105, 102], [103, 111, 116, 111], [101, 120, 105, 116], [101, 120, 112, 101, 99, 116], [116, 105, 109, 101, 111, 117, 116], [103, 108, 111, 98], [114, 101]]
theorem contains_iff (s sub : List UInt8) : Lib.contains s sub = true ↔ ∃ i, i ≤ s.length ∧ Lib.occAt s sub i = true := by
  unfold Lib.contains
  rcases Lib.index_spec s sub with ⟨h1, h2⟩ | ⟨i, h1, h2, h3, _⟩
  · rw [h1]
    constructor
    · intro h; exact absurd h (by decide)
    · rintro ⟨i, hi, ho⟩
      rw [h2 i hi] at ho; cases ho
  · rw [h1]
    constructor
    · intro _; exact ⟨i, h2, h3⟩
    · intro _; simp
theorem take_blank : ∀ {T R : List UInt8}, (∀ b ∈ T, b ≠ 32) → (T ++ 32 :: R).takeWhile (fun b => b != 32) = T
  | [], R, _ => by simp
  | t :: T, R, h => by
    rw [List.cons_append, List.takeWhile_cons, if_pos (by simpa using h t (by simp)), take_blank fun b hb => h b (by simp [hb])]
theorem isWord_iff {T : List UInt8} (hne : T ≠ []) (hb : ∀ b ∈ T, b ≠ 32) : isWord T = true ↔ T ∈ wordsL := by
  unfold isWord
  rw [contains_iff]
  constructor
  · rintro ⟨i, hi, ho⟩
    unfold Lib.occAt at ho
    rw [List.isPrefixOf_iff_prefix] at ho
    obtain ⟨R, hR⟩ := ho
    have hd : wordsB.drop i = 32 :: (T ++ 32 :: R) := by rw [← hR]; simp
    have key : ∀ i, i ≤ wordsB.length → (wordsB.drop i).head? = some 32 → ((wordsB.drop i).tail.takeWhile fun b => b != 32) ∈ wordsL ∨ ((wordsB.drop i).tail.takeWhile fun b => b != 32) = [] := by decide
    have := key i hi (by rw [hd]; rfl)
    rw [hd, List.tail_cons, take_blank hb] at this
    exact this.resolve_right hne
  · intro h
    have key : ∀ w ∈ wordsL, ∃ i, i ≤ wordsB.length ∧ Lib.occAt wordsB (32 :: (w ++ [32])) i = true := by decide
    exact key T h
theorem small_blank {T : List UInt8} (h : T.all smallB = true) : ∀ b ∈ T, b ≠ 32 := by
  intro b hb q
  have := List.all_eq_true.1 h b hb
  rw [q] at this
  revert this; decide
/-- As the document tells it. -/
def nameR (T : List UInt8) : Bool := match T with
  | [] => false
  | b :: r => decide ((b :: r).length ≤ 16) && decide (97 ≤ b.toNat ∧ b.toNat ≤ 122) && (b :: r).all smallB && !wordsL.contains (b :: r)
theorem nameR_eq (T : List UInt8) : nameR T = nameS T := by
  cases T with
  | nil => rfl
  | cons b r =>
    rw [nameS_cons]
    unfold nameR
    simp only []
    cases hs : (b :: r).all smallB with
    | false => simp
    | true =>
      have hw : isWord (b :: r) = wordsL.contains (b :: r) := by
        rw [Bool.eq_iff_iff, isWord_iff (by simp) (small_blank hs), List.contains_iff_mem]
      rw [hw, Bool.decide_and]
      cases decide (97 ≤ b.toNat) <;> cases decide (b.toNat ≤ 122) <;> cases wordsL.contains (b :: r) <;> simp
set_option maxRecDepth 100000 in
theorem first_ok : byteOk Try.prog (fun _ _ _ => none) 19 (fun b => .bool (decide (97 ≤ b.toNat ∧ b.toNat ≤ 122))) 256 = true := by kernel_rfl
set_option maxRecDepth 100000 in
theorem in_ok : byteOk Try.prog (fun _ _ _ => none) 20 (fun b => .bool (smallB b)) 256 = true := by kernel_rfl
set_option maxRecDepth 100000 in
theorem number_ok : byteOk Try.prog (fun _ _ _ => none) 26 (fun b => .bool (digitB b)) 256 = true := by kernel_rfl
theorem first_does {G : Nat} (B : Base Try.prog G) (b : UInt8) (h : Heap) : Does Try.prog G (GoodE Try.prog B) 19 [byteV b] h fun r h' => r = .returned (.bool (decide (97 ≤ b.toNat ∧ b.toNat ≤ 122))) ∧ h' = h := byteFn (noKnown _ _ _) first_ok b h
theorem in_does {G : Nat} (B : Base Try.prog G) (b : UInt8) (h : Heap) : Does Try.prog G (GoodE Try.prog B) 20 [byteV b] h fun r h' => r = .returned (.bool (smallB b)) ∧ h' = h := byteFn (noKnown _ _ _) in_ok b h
theorem number_does {G : Nat} (B : Base Try.prog G) (b : UInt8) (h : Heap) : Does Try.prog G (GoodE Try.prog B) 26 [byteV b] h fun r h' => r = .returned (.bool (digitB b)) ∧ h' = h := byteFn (noKnown _ _ _) number_ok b h
end Go.Mini
