/-
  MINI, part ZB: functions of one byte, reckoned at each.
-/
import Derived.Test.YtomndnhkgfeiiaaGreatDoorMiniZA
namespace Go.Mini

/-- A byte, as a value. -/
def byteV (b : UInt8) : Value := .int .u8 b.toNat
/-- What a call comes to from a bare heap, reckoned. -/
noncomputable def flatly (P : Program) (X : Known) (n : Nat) (f : FuncId) (args : List Value) : Option Value :=
  match ev P 0 (heap0 0) (fun _ => false) X n (.call f args) (heap0 0) with
  | some (.ends (.returned v), _) => if flat v then some v else none
  | _ => none
theorem flatly_ok {P : Program} {X : Known} (hX : KnownOk P 0 (GoodE P (base0 P 0)) X) {n : Nat} {f : FuncId} {args : List Value} {v : Value} (ha : args.all flat = true) (e : flatly P X n f args = some v) : FlatC P (base0 P 0) f args v := by
  unfold flatly at e
  split at e
  · rename_i u h0 hev
    split at e
    · rename_i hf
      cases e
      exact flatC_of (B := base0 P 0) (by simpa using ha) hf (ev_sound hX (flatOk (base0 P 0)) n _ _ _ _ hev)
    · cases e
  · cases e
noncomputable def byteOk (P : Program) (X : Known) (f : FuncId) (g : UInt8 → Value) : Nat → Bool
  | 0 => true
  | n + 1 => (match flatly P X 200 f [.int .u8 n] with | some v => veq 20 v (g n.toUInt8) | none => false) && byteOk P X f g n
theorem byteOk_at {P : Program} {X : Known} {f : FuncId} {g : UInt8 → Value} : ∀ (n : Nat), byteOk P X f g n = true → ∀ k, k < n → flatly P X 200 f [.int .u8 k] = some (g k.toUInt8)
  | n + 1, h, k, hk => by
    simp only [byteOk, Bool.and_eq_true] at h
    rcases Nat.lt_or_ge k n with q | q
    · exact byteOk_at n h.2 k q
    · obtain rfl : k = n := by omega
      have h1 := h.1
      split at h1
      · rename_i v hv; rw [hv, veq_eq _ _ _ h1]
      · cases h1
theorem noKnown (P : Program) (G : Nat) (E : FuncId → List Value → Heap → Value → Heap → Prop) : KnownOk P G E fun _ _ _ => none := fun _ _ _ _ _ e => by cases e
/-- A function of one byte. -/
theorem byteFn {P : Program} {X : Known} (hX : KnownOk P 0 (GoodE P (base0 P 0)) X) {f : FuncId} {g : UInt8 → Value} (e : byteOk P X f g 256 = true) {G : Nat} {B : Base P G} (b : UInt8) (h : Heap) :
    Does P G (GoodE P B) f [byteV b] h fun r h' => r = .returned (g b) ∧ h' = h := by
  refine (FlatC.any (flatly_ok (n := 200) hX rfl ?_)).does h
  have := byteOk_at 256 e b.toNat (by have := b.toNat_lt; omega)
  rwa [show b.toNat.toUInt8 = b from by simp] at this
end Go.Mini
