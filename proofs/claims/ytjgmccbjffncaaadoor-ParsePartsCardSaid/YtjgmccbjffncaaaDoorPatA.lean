import Derived.Test.YtjgmccbjffncaaaDoorMiniZFtoZJ
set_option maxHeartbeats 4000000
set_option linter.unusedSimpArgs false
namespace Go.Mini
def globS (T : List UInt8) : Nat → Nat → Option Nat
 | 0, _ => none
 | f + 1, a => match T[a]? with
  | none => none
  | some c => if c = 92 then (if a + 1 = T.length then some (a + 1) else globS T f (a + 2)) else globS T f (a + 1)
def memberS (T : List UInt8) (a : Nat) : Except Nat (UInt8 × Nat) := match T[a]? with
 | none => .error a
 | some c => if c = 92 then (match T[a + 1]? with | none => .error (a + 1) | some d => .ok (d, a + 2)) else if c = 91 ∨ c = 93 ∨ c = 94 ∨ c = 45 then .error a else .ok (c, a + 1)
def classL (T : List UInt8) : Nat → Bool → Nat → Except Nat Nat
 | 0, _, a => .error a
 | f + 1, first, a => if T[a]? = some 93 ∧ first = false then .ok (a + 1) else match memberS T a with
  | .error e => .error e
  | .ok (lo, b) => if T[b]? = some 45 then (match memberS T (b + 1) with
    | .error e => .error e
    | .ok (hi, c) => if hi < lo then .error (c - 1) else classL T f false c)
   else classL T f false b
def classFrom (T : List UInt8) (a : Nat) : Nat := if T[a]? = some 94 then a + 1 else a
def classS (T : List UInt8) (a : Nat) : Except Nat Nat := classL T (T.length + 1) true (classFrom T a)
def postB (T : List UInt8) (b : Nat) : Bool := match T[b]? with | some c => c == 42 || c == 43 || c == 63 | none => false
def reS (T : List UInt8) : Nat → Nat → Nat → Except Nat Nat
 | 0, _, a => .error a
 | f + 1, 0, a => match reS T f 1 a with
  | .error e => .error e
  | .ok b => if T[b]? = some 124 then reS T f 0 (b + 1) else .ok b
 | f + 1, 1, a => match T[a]? with
  | none => .ok a
  | some c => if c = 124 ∨ c = 41 then .ok a else match reS T f 2 a with
   | .error e => .error e
   | .ok b => reS T f 1 (if postB T b then b + 1 else b)
 | f + 1, _ + 2, a => match T[a]? with
  | none => .error a
  | some c => if c = 40 then (match reS T f 0 (a + 1) with
    | .error e => .error e
    | .ok b => if T[b]? = some 41 then .ok (b + 1) else .error b)
   else if c = 91 then classS T (a + 1)
   else if c = 92 then (match T[a + 1]? with | none => .error (a + 1) | some _ => .ok (a + 2))
   else if c = 42 ∨ c = 43 ∨ c = 63 ∨ c = 93 then .error a else .ok (a + 1)
def treeS (k : Int) (T : List UInt8) : Nat × Nat :=
 if k < 1 ∨ 3 < k then (2, 0) else if 64 < T.length then (3, 64)
 else if k = 2 then (match globS T (T.length + 1) 0 with | some p => (6, p) | none => (0, 0))
 else if k = 3 then (match reS T (3 * T.length + 3) 0 0 with | .error p => (6, p) | .ok b => if b < T.length then (6, b) else (0, 0))
 else (0, 0)
def okE {α : Type} (E : Nat → Prop) (K : α → Prop) : Except Nat α → Prop
 | .error e => E e
 | .ok x => K x
theorem okE_err {α : Type} {E : Nat → Prop} {K : α → Prop} {e : Nat} : okE E K (.error e) = E e := rfl
theorem okE_ok {α : Type} {E : Nat → Prop} {K : α → Prop} {x : α} : okE E K (.ok x) = K x := rfl
theorem memberS_le {T : List UInt8} {a : Nat} (ha : a ≤ T.length) : okE (fun e => e ≤ T.length) (fun p : UInt8 × Nat => a < p.2 ∧ p.2 ≤ T.length) (memberS T a) := by
 unfold memberS
 cases h : T[a]? with
 | none => exact ha
 | some c =>
  have hl := (List.getElem?_eq_some_iff.1 h).1
  simp only [okE_ok, okE_err]
  split
  ·cases h1 : T[a + 1]? with
   | none => simp only [okE_ok, okE_err]; omega
   | some d => have := (List.getElem?_eq_some_iff.1 h1).1; simp only [okE_ok, okE_err]; omega
  ·split <;> simp only [okE_ok, okE_err] <;> omega
theorem classL_le {T : List UInt8} : ∀ (f : Nat) (first : Bool) (a : Nat), a ≤ T.length → okE (fun e => e ≤ T.length) (fun b : Nat => a < b ∧ b ≤ T.length) (classL T f first a)
 | 0, _, a, ha => ha
 | f + 1, first, a, ha => by
  rw [classL]
  split
  ·rename_i h; have := (List.getElem?_eq_some_iff.1 h.1).1; simp only [okE_ok, okE_err]; omega
  ·have hm := memberS_le ha
   cases h : memberS T a with
   | error e => rw [h] at hm; exact hm
   | ok p =>
    obtain ⟨lo, b⟩ := p
    rw [h] at hm
    simp only [okE_ok] at hm ⊢
    split
    ·rename_i h45
     have h45l := (List.getElem?_eq_some_iff.1 h45).1
     have hm2 := memberS_le (T := T) (a := b + 1) (by omega)
     cases h2 : memberS T (b + 1) with
     | error e => rw [h2] at hm2; exact hm2
     | ok q =>
      obtain ⟨hi, c⟩ := q
      rw [h2] at hm2
      simp only [okE_ok] at hm2 ⊢
      split
      ·simp only [okE_ok, okE_err]; omega
      ·have := classL_le (T := T) f false c hm2.2
       revert this
       cases classL T f false c <;> simp only [okE_ok, okE_err] <;> omega
    ·have := classL_le (T := T) f false b hm.2
     revert this
     cases classL T f false b <;> simp only [okE_ok, okE_err] <;> omega
theorem classS_le {T : List UInt8} {a : Nat} (ha : a ≤ T.length) : okE (fun e => e ≤ T.length) (fun b : Nat => a < b ∧ b ≤ T.length) (classS T a) := by
 have hf : classFrom T a ≤ T.length ∧ a ≤ classFrom T a := by
  unfold classFrom
  split
  ·rename_i h; have := (List.getElem?_eq_some_iff.1 h).1; omega
  ·omega
 have := classL_le (T := T) (T.length + 1) true (classFrom T a) hf.1
 unfold classS
 revert this
 cases classL T (T.length + 1) true (classFrom T a) <;> simp only [okE_ok, okE_err] <;> omega
theorem postB_lt {T : List UInt8} {b : Nat} (h : postB T b = true) : b < T.length := by
 unfold postB at h
 split at h
 ·rename_i q; exact (List.getElem?_eq_some_iff.1 q).1
 ·cases h
theorem reS_le {T : List UInt8} : ∀ (f k a : Nat), a ≤ T.length → okE (fun e => e ≤ T.length) (fun b : Nat => a ≤ b ∧ b ≤ T.length ∧ (2 ≤ k → a < b)) (reS T f k a)
 | 0, _, a, ha => ha
 | f + 1, 0, a, ha => by
  rw [reS]
  have h1 := reS_le (T := T) f 1 a ha
  cases h : reS T f 1 a with
  | error e => rw [h] at h1; exact h1
  | ok b =>
   rw [h] at h1
   simp only [okE_ok] at h1 ⊢
   split
   ·rename_i hb
    have hl := (List.getElem?_eq_some_iff.1 hb).1
    have h2 := reS_le (T := T) f 0 (b + 1) (by omega)
    revert h2
    cases reS T f 0 (b + 1) <;> simp only [okE_ok, okE_err] <;> omega
   ·simp only [okE_ok, okE_err]; omega
 | f + 1, 1, a, ha => by
  rw [reS]
  cases hc : T[a]? with
  | none => simp only [okE_ok, okE_err]; omega
  | some c =>
   have hl := (List.getElem?_eq_some_iff.1 hc).1
   simp only [okE_ok, okE_err]
   split
   ·simp only [okE_ok, okE_err]; omega
   ·have h1 := reS_le (T := T) f 2 a ha
    cases h : reS T f 2 a with
    | error e => rw [h] at h1; exact h1
    | ok b =>
     rw [h] at h1
     simp only [okE_ok] at h1 ⊢
     cases hp : postB T b with
     | true =>
      have := postB_lt hp
      have h2 := reS_le (T := T) f 1 (b + 1) (by omega)
      simp only [if_true]
      revert h2
      cases reS T f 1 (b + 1) <;> simp only [okE_ok, okE_err] <;> omega
     | false =>
      have h2 := reS_le (T := T) f 1 b (by omega)
      simp only [Bool.false_eq_true, if_false]
      revert h2
      cases reS T f 1 b <;> simp only [okE_ok, okE_err] <;> omega
 | f + 1, k + 2, a, ha => by
  rw [reS]
  cases hc : T[a]? with
  | none => exact ha
  | some c =>
   have hl := (List.getElem?_eq_some_iff.1 hc).1
   simp only [okE_ok, okE_err]
   split
   ·have h1 := reS_le (T := T) f 0 (a + 1) (by omega)
    cases h : reS T f 0 (a + 1) with
    | error e => rw [h] at h1; exact h1
    | ok b =>
     rw [h] at h1
     simp only [okE_ok] at h1 ⊢
     split
     ·rename_i hb; have := (List.getElem?_eq_some_iff.1 hb).1; simp only [okE_ok, okE_err]; omega
     ·simp only [okE_ok, okE_err]; omega
   ·split
    ·have := classS_le (T := T) (a := a + 1) (by omega)
     revert this
     cases classS T (a + 1) <;> simp only [okE_ok, okE_err] <;> omega
    ·split
     ·cases h1 : T[a + 1]? with
      | none => simp only [okE_ok, okE_err]; omega
      | some d => have := (List.getElem?_eq_some_iff.1 h1).1; simp only [okE_ok, okE_err]; omega
     ·split <;> simp only [okE_ok, okE_err] <;> omega
end Go.Mini
