/-
  MINI, part X: parts of strings.
-/
import Derived.Test.YtbcdlipddmoobaaMiniW
namespace Go.Mini
set_option linter.unusedSimpArgs false
abbrev EXT := FuncId → List Value → Heap → Value → Heap → Prop
theorem bs_extract (l : List UInt8) (a b : Nat) : (bs l).extract a b = bs ((l.drop a).take (b - a)) := by
  apply ByteArray.ext
  simp [bs, ByteArray.data_extract]
theorem take_len {α : Type} (X : List α) (n : Nat) : X.take (X.take n).length = X.take n := by
  rw [List.length_take]
  rcases Nat.le_total n X.length with h | h
  · rw [Nat.min_eq_left h]
  · rw [Nat.min_eq_right h, List.take_length, List.take_of_length_le h]
theorem aslice_str2 {P : Program} {h : Heap} {t : TypeId} (hu : P.underlying t = some .string) {s : ByteArray} {kd kd' : IntKind} {i j : Int} (h0 : 0 ≤ i) (h1 : i ≤ j) (h2 : j ≤ s.size) :
    aslice P h t (.string s) (some (.int kd i)) (some (.int kd' j)) none = some (.string (s.extract i.toNat j.toNat), h) := by
  unfold aslice; simp only [hu]
  simp [abound_int (kd := kd') (d := s.size) (show (0 : Int) ≤ j by omega) h2, abound_int (kd := kd) (d := 0) (y := j.toNat) h0 (by omega)]
end Go.Mini
