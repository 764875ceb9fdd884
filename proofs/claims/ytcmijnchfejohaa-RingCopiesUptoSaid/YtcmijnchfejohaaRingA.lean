/-
  RING, part A: the program's types; the ring in memory.
-/
import Derived.Test.YtcmijnchfejohaaMiniS
import Derived.Test.YtcmijnchfejohaaProg
set_option linter.unusedSimpArgs false
namespace Go.Mini
open Go.Proofs
open Go.Lib (strCells strCells_length strCells_oneCell)

theorem mixed : Try.prog.follows .mixedOrders = true := by kernel_rfl
theorem agg3 : Program.agg Try.prog 3 = some false := by kernel_rfl
theorem agg5 : Program.agg Try.prog 5 = some false := by kernel_rfl
theorem agg9 : Program.agg Try.prog 9 = some false := by kernel_rfl
theorem agg47 : Program.agg Try.prog 47 = some true := by kernel_rfl
theorem sz3 : (Try.prog.info? 3).map (·.size) = some 1 := by kernel_rfl
theorem sz5 : (Try.prog.info? 5).map (·.size) = some 1 := by kernel_rfl
theorem sz9 : (Try.prog.info? 9).map (·.size) = some 1 := by kernel_rfl
theorem sz47 : (Try.prog.info? 47).map (·.size) = some 1026 := by kernel_rfl
theorem fa0 (i k : Nat) : afieldAddr Try.prog 47 (.pointer (some ⟨i, k, none⟩)) 0 = some (.pointer (some ⟨i, k, none⟩)) :=
  afieldAddr_eq (f := 0) (o := 0) Try.underlying47 (by rfl) (s := 1023) (by kernel_rfl) i k
theorem fa1 (i k : Nat) : afieldAddr Try.prog 47 (.pointer (some ⟨i, k, none⟩)) 1 = some (.pointer (some ⟨i, k + 1024, none⟩)) :=
  afieldAddr_eq Try.underlying47 (by rfl) (s := 0) (by kernel_rfl) i k
theorem fa2 (i k : Nat) : afieldAddr Try.prog 47 (.pointer (some ⟨i, k, none⟩)) 2 = some (.pointer (some ⟨i, k + 1025, none⟩)) :=
  afieldAddr_eq Try.underlying47 (by rfl) (s := 0) (by kernel_rfl) i k

/-! ### the ring in memory -/
def byteV (b : UInt8) : Value := .int .u8 b.toNat
def keptVs (ks : Nat → UInt8) : List Value := (List.range 1024).map fun j => byteV (ks j)
def ringVs (ks : Nat → UInt8) (lim e : Nat) : List Value := keptVs ks ++ [.int .i64 lim, .int .i64 e]
def ringRow (ks : Nat → UInt8) (lim e : Nat) : AObj := .row { vs := ringVs ks lim e, elem := 47 }
@[simp] theorem keptVs_length (ks : Nat → UInt8) : (keptVs ks).length = 1024 := by simp [keptVs]
@[simp] theorem ringVs_length (ks : Nat → UInt8) (lim e : Nat) : (ringVs ks lim e).length = 1026 := by simp [ringVs]
theorem ringVs_lim (ks : Nat → UInt8) (lim e : Nat) : (ringVs ks lim e)[1024]? = some (.int .i64 lim) := by
  unfold ringVs; rw [List.getElem?_append_right (by simp)]; simp
theorem ringVs_end (ks : Nat → UInt8) (lim e : Nat) : (ringVs ks lim e)[1025]? = some (.int .i64 e) := by
  unfold ringVs; rw [List.getElem?_append_right (by simp)]; simp
theorem ringVs_kept (ks : Nat → UInt8) (lim e : Nat) {j : Nat} (hj : j < 1024) : (ringVs ks lim e)[j]? = some (byteV (ks j)) := by
  unfold ringVs; rw [List.getElem?_append_left (by simpa using hj)]; simp [keptVs, hj]
theorem ringVs_setEnd (ks : Nat → UInt8) (lim e e' : Nat) : splice (ringVs ks lim e) 1025 [.int .i64 e'] = ringVs ks lim e' := by
  apply List.ext_getElem?
  intro j
  by_cases hj : j = 1025
  · subst hj
    rw [show 1025 = 1025 + 0 from rfl, splice_in (by simp) (by simp)]
    rw [show 1025 + 0 = 1025 from rfl, ringVs_end]; rfl
  · rw [splice_out (by simp) (by simp; omega)]
    by_cases h4 : j = 1024
    · subst h4; rw [ringVs_lim, ringVs_lim]
    · by_cases h5 : j < 1024
      · rw [ringVs_kept _ _ _ h5, ringVs_kept _ _ _ h5]
      · rw [List.getElem?_eq_none (by simp; omega), List.getElem?_eq_none (by simp; omega)]
/-- What is kept when s has been copied to the place p. -/
def puts (ks : Nat → UInt8) (p : Nat) (l : List UInt8) : Nat → UInt8 := fun j => if p ≤ j then (l[j - p]?).getD (ks j) else ks j
theorem ringVs_puts (ks : Nat → UInt8) (lim e p : Nat) (l : List UInt8) (h : p + l.length ≤ 1024) : splice (ringVs ks lim e) p (l.map byteV) = ringVs (puts ks p l) lim e := by
  apply List.ext_getElem?
  intro j
  by_cases hj : p ≤ j ∧ j < p + l.length
  · obtain ⟨d, rfl⟩ := Nat.exists_eq_add_of_le hj.1
    rw [splice_in (by simp; omega) (by simp; omega), ringVs_kept _ _ _ (by omega)]
    simp [puts, show d < l.length by omega]
  · rw [splice_out (by simp; omega) (by simp; omega)]
    by_cases h5 : j < 1024
    · rw [ringVs_kept _ _ _ h5, ringVs_kept _ _ _ h5]
      congr 2
      unfold puts
      split
      · rw [List.getElem?_eq_none (by omega)]; rfl
      · rfl
    · by_cases h4 : j = 1024
      · subst h4; rw [ringVs_lim, ringVs_lim]
      · by_cases h6 : j = 1025
        · subst h6; rw [ringVs_end, ringVs_end]
        · rw [List.getElem?_eq_none (by simp; omega), List.getElem?_eq_none (by simp; omega)]

theorem abuild47 (lim : Nat) : abuild Try.prog 47 [(1, .int .i64 lim)] = some (.agg (ringVs (fun _ => 0) lim 0).toArray) := by
  have hz : (Try.prog.info? 47).bind (·.zero) = some (.agg (ringVs (fun _ => 0) 0 0).toArray) := by kernel_rfl
  have hf : flat (.agg (ringVs (fun _ => 0) 0 0).toArray) = true := by kernel_rfl
  have hp : (placesOf Try.prog 47).map (fun pl => pl 1) = some (some (1024, 1)) := by kernel_rfl
  obtain ⟨i, hi, hz⟩ := Option.bind_eq_some_iff.1 hz
  obtain ⟨pl, hpl, hp⟩ := Option.map_eq_some_iff.1 hp
  unfold abuild
  simp only [hi, hz, Option.bind_some, hf, if_true, hpl, fillL, hp, Value.cells]
  have hif : ∀ (c : Prop) [Decidable c] (x : List Value), c → (if c then some x else none) = some x := fun c _ x h => if_pos h
  refine Eq.trans (congrArg _ (hif _ _ ⟨rfl, by simp⟩)) ?_
  refine congrArg (fun l : List Value => some (Value.agg l.toArray)) ?_
  apply List.ext_getElem?
  intro j
  by_cases hj : j = 1024
  · subst hj
    rw [show 1024 = 1024 + 0 from rfl, splice_in (by simp) (by simp)]
    rw [show 1024 + 0 = 1024 from rfl, ringVs_lim]; rfl
  · rw [splice_out (by simp) (by simp; omega)]
    by_cases h4 : j = 1025
    · subst h4; rw [ringVs_end, ringVs_end]
    · by_cases h5 : j < 1024
      · rw [ringVs_kept _ _ _ h5, ringVs_kept _ _ _ h5]
      · rw [List.getElem?_eq_none (by simp; omega), List.getElem?_eq_none (by simp; omega)]
theorem one_ring (ks : Nat → UInt8) (lim e : Nat) : (ringVs ks lim e).all one = true := by
  simp [ringVs, keptVs, byteV, one]
end Go.Mini
