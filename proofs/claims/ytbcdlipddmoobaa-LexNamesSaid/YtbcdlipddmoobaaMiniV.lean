/-
  MINI, part V: a slice of strings among a law's arguments, with its data.
-/
import Derived.Test.YtbcdlipddmoobaaMiniS
namespace Go.Mini
open Go.ChangeShapes Go.WideShapes Go.RowKit
section
variable {H : Type} {enc : TypeId × Value → H} {P : Program} {W : World} {G : Nat} {m : Ren} {h : Heap}

/-- A slice of strings among a law's arguments. -/
theorem open_strsD {t e : TypeId} {v : Value} {d : DataW H} {ps : List MemPlace} {base : Nat} (ht : P.underlying t = some (.slice e)) (he : P.underlying e = some .string) (hc : P.cellsOf e = 1)
    (hok : Value.okWide P W .any base t v) (h0 : DataW.Trod enc P W 0 (fun _ => true) true t v d ps) (hr : HRel P ⟨G, W.heap.size, W⟩ m h W) :
    ∃ m' h' v' ls, HRel P ⟨G, W.heap.size, W⟩ m' h' W ∧ m.agree h.next m' ∧ h.more h' ∧ ren m' v' = v ∧ sc h'.next v' ∧ Strs h' v' ls ∧
      ((d = .nil ∧ ls = []) ∨ ∃ A B, d = .slice (strs A) (strs B) ∧ ls = A.map fun s => s.data.toList) := by
  obtain ⟨a0, len, cap, rfl⟩ := okWide_slice ht hok
  have hsp : ∀ a, a0 = some a → a.spot = none := by
    rintro a rfl
    simp only [Value.okWide, ht, Cell.okWide, Cell.ok] at hok
    exact hok.2.2.2.1
  obtain ⟨fuel, hf⟩ := h0
  rcases open_strings ht he hc hf with ⟨hcs, hx⟩ | ⟨a, len', cap', ss, hcs, _, hl, hm, hz, hx, hcell, hsz⟩
  · simp [Value.cells] at hcs
    obtain ⟨rfl, rfl, rfl⟩ := hcs
    simp only [Prod.mk.injEq] at hx
    obtain ⟨rfl, rfl⟩ := hx
    exact ⟨m, h, .slice none 0 0, [], hr, Ren.agree_refl _ _, Heap.more_refl _, by simp [ren], by simp [sc], ⟨none, 0, rfl, fun j l e => by simp at e⟩, .inl ⟨rfl, rfl⟩⟩
  · simp [Value.cells] at hcs
    obtain ⟨rfl, rfl, rfl⟩ := hcs
    simp only [Prod.mk.injEq] at hx
    obtain ⟨rfl, rfl⟩ := hx
    have hlen : len ≤ ss.length := by rw [hz]; split <;> omega
    obtain ⟨o, hr', hld⟩ := hr.outerRow rfl a ((ss.take len).map Value.string) (fun v hv => by obtain ⟨s, _, rfl⟩ := List.mem_map.1 hv; rfl) (by
      intro i v hi
      rw [List.getElem?_map, List.getElem?_take] at hi
      split at hi
      · rename_i hil
        have hi2 := hcell i (by omega)
        rw [hi2]
        rw [List.getElem?_eq_getElem (by omega)] at hi
        simp only [Option.map_some, Option.some.injEq] at hi
        rw [← hi, List.getD_eq_getElem?_getD, List.getElem?_eq_getElem (by omega)]
        rfl
      · cases hi)
    refine ⟨_, _, .slice (some ⟨h.next, 0, none⟩) len cap, (ss.take len).map fun s => s.data.toList, hr', Ren.agree_put m _ _ _ _ _ (Nat.le_refl _), Heap.more_alloc _ _, ?_, ?_, ⟨some ⟨h.next, 0, none⟩, cap, ?_, ?_⟩, ?_⟩
    · have h2 := hsp a rfl
      obtain ⟨b, o2, sp⟩ := a
      simp only at h2
      subst h2
      simp only [ren, Ren.put_blk, Ren.put_sh, Ren.put_ext, Nat.zero_add, Nat.add_zero, Option.isSome_none, Bool.false_eq_true, if_false]
    · simp [sc]
    · simp; omega
    · intro j l hj
      refine ⟨h.next, 0, none, rfl, ?_⟩
      rw [Nat.zero_add]
      apply hld
      rw [List.getElem?_map] at hj ⊢
      obtain ⟨s, hs, rfl⟩ := Option.map_eq_some_iff.1 hj
      rw [hs]; rfl
    · exact .inr ⟨_, _, rfl, rfl⟩
end
theorem mem_flat_le {ls : List (List UInt8)} {l : List UInt8} (h : l ∈ ls) : l.length ≤ ls.flatten.length := by
  induction ls with
  | nil => cases h
  | cons x r ih =>
    rw [List.flatten_cons, List.length_append]
    rcases List.mem_cons.1 h with rfl | h
    · omega
    · have := ih h; omega
end Go.Mini
