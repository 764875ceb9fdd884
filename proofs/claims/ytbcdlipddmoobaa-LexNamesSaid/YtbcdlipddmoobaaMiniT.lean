/-
  MINI, part T: a slice of numbers among a law's arguments.
-/
import Derived.Test.YtbcdlipddmoobaaMiniS
namespace Go.Mini
open Go.ChangeShapes Go.WideShapes Go.RowKit
section
variable {H : Type} {enc : TypeId × Value → H} {P : Program} {W : World} {G : Nat} {m : Ren} {h : Heap}

theorem open_nums {t e : TypeId} {kd : IntKind} {v : Value} {d : DataW H} {ps : List MemPlace} {base : Nat} (ht : P.underlying t = some (.slice e)) (he : P.underlying e = some (.int kd)) (hc : P.cellsOf e = 1) (hw : 1 ≤ P.bytesOf e)
    (hok : Value.okWide P W .any base t v) (h0 : DataW.Trod enc P W 0 (fun _ => true) true t v d ps) (hr : HRel P ⟨G, W.heap.size, W⟩ m h W) :
    ∃ m' h' v' ns, HRel P ⟨G, W.heap.size, W⟩ m' h' W ∧ m.agree h.next m' ∧ h.more h' ∧ ren m' v' = v ∧ sc h'.next v' ∧ Nums h' v' kd ns ∧ (∀ n ∈ ns, (Lit.int kd n).wf = true) ∧
      ∀ (ts : List TypeId) (ds : List (DataW H)) (j : Nat), (DataW.weightsEach P ts ds).all (· ≤ reachBytes) = true → ts[j]? = some t → ds[j]? = some d → ns.length ≤ reachBytes := by
  obtain ⟨a0, len, cap, rfl⟩ := okWide_slice ht hok
  have hsp : ∀ a, a0 = some a → a.spot = none := by
    rintro a rfl
    simp only [Value.okWide, ht, Cell.okWide, Cell.ok] at hok
    exact hok.2.2.2.1
  obtain ⟨fuel, hf⟩ := h0
  rcases open_ints ht he hc hf with ⟨hcs, hx⟩ | ⟨a, len', cap', zs, hcs, _, hl, hm, hz, hx, hcell, hwz⟩
  · simp [Value.cells] at hcs
    obtain ⟨rfl, rfl, rfl⟩ := hcs
    exact ⟨m, h, .slice none 0 0, [], hr, Ren.agree_refl _ _, Heap.more_refl _, by simp [ren], by simp [sc], ⟨none, 0, rfl, fun j l e => by simp at e⟩, by simp, fun _ _ _ _ _ _ => by simp⟩
  · simp [Value.cells] at hcs
    obtain ⟨rfl, rfl, rfl⟩ := hcs
    simp only [Prod.mk.injEq] at hx
    obtain ⟨rfl, rfl⟩ := hx
    have hlen : len ≤ zs.length := by
      first
        | omega
        | (rw [hz]; split <;> omega)
    obtain ⟨o, hr', hld⟩ := hr.outerRow rfl a ((zs.take len).map (Value.int kd)) (fun v hv => by obtain ⟨s, _, rfl⟩ := List.mem_map.1 hv; rfl) (by
      intro i v hi
      rw [List.getElem?_map, List.getElem?_take] at hi
      split at hi
      · rename_i hil
        have hi2 := hcell i (by omega)
        rw [hi2]
        rw [List.getElem?_eq_getElem (by omega)] at hi
        simp only [Option.map_some, Option.some.injEq] at hi
        rw [← hi, List.getD_eq_getElem?_getD, List.getElem?_eq_getElem (by omega)]
        rfl
      · cases hi)
    refine ⟨_, _, .slice (some ⟨h.next, 0, none⟩) len cap, zs.take len, hr', Ren.agree_put m _ _ _ _ _ (Nat.le_refl _), Heap.more_alloc _ _, ?_, ?_, ⟨some ⟨h.next, 0, none⟩, cap, ?_, ?_⟩, fun n hn => hwz n (List.mem_of_mem_take hn), ?_⟩
    · have h2 := hsp a rfl
      obtain ⟨b, o2, sp⟩ := a
      simp only at h2
      subst h2
      simp only [ren, Ren.put_blk, Ren.put_sh, Ren.put_ext, Nat.zero_add, Nat.add_zero, Option.isSome_none, Bool.false_eq_true, if_false]
    · simp [sc]
    · simp; omega
    · intro j l hj
      refine ⟨h.next, 0, none, rfl, ?_⟩
      rw [Nat.zero_add]
      apply hld
      rw [List.getElem?_map, hj]; rfl
    · intro ts ds j hall htj hdj
      have hmem := fun n hn => List.all_eq_true.1 hall _ (DataW.weights_mem_each htj hdj n hn)
      simp only [DataW.weights, ht] at hmem
      have := hmem _ (List.mem_cons_self ..)
      have h3 := of_decide_eq_true this
      simp only [lits, List.length_map] at h3
      have h2 : (List.take len zs).length ≤ ((List.take len zs).length + (List.drop len zs).length) * P.bytesOf e := Nat.le_trans (Nat.le_add_right _ _) (Nat.le_mul_of_pos_right _ hw)
      omega
end
end Go.Mini
