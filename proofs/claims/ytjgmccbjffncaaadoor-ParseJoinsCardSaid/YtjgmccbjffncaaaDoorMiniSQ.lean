/-
  MINI, part SQ: slices within slices among a law's arguments.
-/
import Derived.Test.YtjgmccbjffncaaaDoorMiniOtoYK
namespace Go.Mini
open Go.ChangeShapes Go.WideShapes Go.RowKit

section
variable {P : Program} {S : Start} {m : Ren} {h : Heap} {w : World}

end

/-- It stays when memory grows. -/
def Grows {α : Type} (R : Heap → α → List Value → Prop) : Prop := ∀ h h' x cs, h.more h' → R h x cs → R h' x cs
section
variable {α β : Type} {P : Program} {W : World} {G : Nat} {R : Heap → α → List Value → Prop} {Q : Heap → β → List Value → Prop}

end

/-- A slice to be read: its elements, of n cells each. -/
def SliceR {α : Type} (n : Nat) (R : Heap → α → List Value → Prop) (h : Heap) (xs : List α) (v : Value) : Prop :=
  ∃ l : List (α × List Value), l.map (·.1) = xs ∧ (∀ p ∈ l, p.2.length = n ∧ R h p.1 p.2) ∧ l.length ≤ maxLen ∧
    ((l = [] ∧ ((∃ a c, v = .slice a 0 c) ∨ ∃ r, v = .chan (some r))) ∨ ∃ b k sp c, l ≠ [] ∧ v = .slice (some ⟨b, k, sp⟩) l.length c ∧ h.lds b k (l.length * n) = some (l.flatMap (·.2)))
theorem Heap.more.lds {h h' : Heap} (hm : h.more h') {i k n : Nat} {vs : List Value} (e : h.lds i k n = some vs) : h'.lds i k n = some vs := by
  unfold Heap.lds at e ⊢
  obtain ⟨r, hr, e⟩ := Option.bind_eq_some_iff.1 e
  rw [Heap.row_of (hm.get (Heap.row_some.1 hr))]
  exact e
theorem SliceR.more {α : Type} {n : Nat} {R : Heap → α → List Value → Prop} (gr : Grows R) {h h' : Heap} {xs : List α} {v : Value} (s : SliceR n R h xs v) (hm : h.more h') : SliceR n R h' xs v := by
  obtain ⟨l, h1, h2, h0, h3⟩ := s
  refine ⟨l, h1, fun p hp => ⟨(h2 p hp).1, gr _ _ _ _ hm (h2 p hp).2⟩, h0, ?_⟩
  rcases h3 with q | ⟨b, k, sp, c, q1, q2, q3⟩
  · exact .inl q
  · exact .inr ⟨b, k, sp, c, q1, q2, hm.lds q3⟩

section
variable {α : Type} {P : Program} {W : World} {G : Nat} {R : Heap → α → List Value → Prop}
theorem elems_len {n : Nat} : ∀ l : List (α × List Value), (∀ p ∈ l, p.2.length = n) → (l.flatMap (·.2)).length = l.length * n
  | [], _ => by simp
  | p :: l, hp => by
    rw [List.flatMap_cons, List.length_append, hp p (List.mem_cons_self ..), elems_len l fun q hq => hp q (List.mem_cons_of_mem _ hq), List.length_cons, Nat.succ_mul, Nat.add_comm]
end

/-! ### reading -/
theorem elems_at {α : Type} {n : Nat} : ∀ (l : List (α × List Value)) (j : Nat) (p : α × List Value), (∀ p ∈ l, p.2.length = n) → l[j]? = some p → ((l.flatMap (·.2)).drop (j * n)).take n = p.2
  | [], j, p, _, h => by simp at h
  | q :: l, 0, p, hl, h => by
    simp at h
    subst h
    have := hl q (List.mem_cons_self ..)
    rw [Nat.zero_mul, List.drop_zero, List.flatMap_cons, ← this]
    exact List.take_left' rfl
  | q :: l, j + 1, p, hl, h => by
    have hq := hl q (List.mem_cons_self ..)
    have e1 : (q.2 ++ l.flatMap (·.2)).drop n = l.flatMap (·.2) := by rw [← hq]; exact List.drop_left' rfl
    rw [List.flatMap_cons, Nat.succ_mul, Nat.add_comm, ← List.drop_drop, e1]
    exact elems_at l j p (fun p hp => hl p (List.mem_cons_of_mem _ hp)) (by simpa using h)
section
variable {α : Type} {P : Program} {n : Nat} {R : Heap → α → List Value → Prop} {h : Heap} {xs : List α} {v : Value}
theorem SliceR.le (s : SliceR n R h xs v) : xs.length ≤ maxLen := by
  obtain ⟨l, rfl, _, h0, _⟩ := s
  rw [List.length_map]; exact h0
theorem SliceR.len (s : SliceR n R h xs v) {t e : TypeId} (hu : P.underlying t = some (.slice e)) (H : Heap) : alen P H t v = some (.int .i64 (xs.length : Nat)) := by
  obtain ⟨l, rfl, _, _, h3⟩ := s
  rw [List.length_map]
  unfold alen
  rcases h3 with ⟨rfl, ⟨a, c, rfl⟩ | ⟨r, rfl⟩⟩ | ⟨b, k, sp, c, _, rfl, _⟩ <;> simp [hu]
theorem SliceR.idx (s : SliceR n R h xs v) {j : Nat} {x : α} (hj : xs[j]? = some x) {t e : TypeId} (hu : P.underlying t = some (.slice e)) (hs : (P.info? e).map (·.size) = some n) :
    ∃ b k cs, aindexAddr P t v (.int .i64 (j : Nat)) = some (.pointer (some ⟨b, k, none⟩)) ∧ b < h.next ∧ h.lds b k n = some cs ∧ cs.length = n ∧ R h x cs := by
  obtain ⟨l, rfl, h2, h0, h3⟩ := s
  rw [List.getElem?_map] at hj
  obtain ⟨p, hp, rfl⟩ := Option.map_eq_some_iff.1 hj
  have hlt := (List.getElem?_eq_some_iff.1 hp).1
  rcases h3 with ⟨rfl, _⟩ | ⟨b, k, sp, c, _, rfl, h4⟩
  · simp at hlt
  · obtain ⟨q1, q2⟩ := h2 p (List.mem_of_getElem? hp)
    obtain ⟨i, hi, rfl⟩ := Option.map_eq_some_iff.1 hs
    obtain ⟨r, hr, h5⟩ := Option.bind_eq_some_iff.1 h4
    refine ⟨b, k + j * i.size, p.2, ?_, Heap.lt_of_get (Heap.row_some.1 hr), ?_, q1, q2⟩
    · unfold aindexAddr
      simp only [hu, hi, Option.bind_some]
      rw [if_pos ⟨by omega, by omega⟩]
      rfl
    · split at h5
      case isFalse => cases h5
      rename_i hle
      have h6 := Option.some.inj h5
      have hm : (j + 1) * i.size ≤ l.length * i.size := Nat.mul_le_mul_right _ (by omega)
      rw [Nat.succ_mul] at hm
      rw [Heap.lds_of (Heap.row_some.1 hr) (by omega)]
      congr 1
      rw [← elems_at l j p (fun p hp => (h2 p hp).1) hp, ← h6, List.drop_take, List.drop_drop, List.take_take, Nat.min_eq_left (by omega)]
end
end Go.Mini
