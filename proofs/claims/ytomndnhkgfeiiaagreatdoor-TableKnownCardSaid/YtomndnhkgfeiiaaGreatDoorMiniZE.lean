/-
  MINI, part ZE: a string of one byte made beside a store: 'x.a, x.b = 1, string([]byte{c})'.
-/
import Derived.Test.YtomndnhkgfeiiaaGreatDoorMiniZD
namespace Go.Mini
set_option linter.unusedSimpArgs false
theorem abuildSlice_one {P : Program} {h : Heap} {st e : TypeId} {sz by' : Nat} {w : Value} (hst : P.underlying st = some (.slice e)) (he : elemOk P e sz by' = true) (hs2 : sz ≤ 16777216) (hw : w.cells.size = sz) :
    abuildSlice P h st 1 [(0, w)] = some (.slice (some ⟨h.next, 0, none⟩) 1 1, h.alloc (.row { vs := w.cells.toList, elem := e })) := by
  obtain ⟨i, z, h1, h2, h3, h4, h5, h6⟩ := elemOk_info he
  unfold abuildSlice
  simp only [hst, h1, h4, Option.bind_some]
  have hmade : (madeCells z.cells (1 * i.size)).toList.length = sz := by
    unfold madeCells
    simp [h2]
  rw [if_pos ⟨h6, by omega⟩]
  unfold fillL
  simp only [hw, h2, Nat.zero_mul, Nat.zero_add]
  rw [if_pos ⟨trivial, by rw [← h2]; rw [h2]; rw [h2] at hmade; omega⟩]
  simp only [fillL, Option.bind_some, splice, List.take_zero, List.nil_append, Nat.zero_add]
  have : (madeCells z.cells (1 * i.size)).toList.drop w.cells.toList.length = [] := List.drop_eq_nil_of_le (by rw [hmade]; simp [hw])
  rw [h2] at this
  rw [this, List.append_nil]
theorem conv_one {P : Program} {h : Heap} {s d e g : TypeId} {i : Nat} {b : UInt8} (hs : P.underlying s = some (.slice e)) (hd : P.underlying d = some .string) (he : P.underlying e = some (.int .u8)) (hg : h.get i = some (.row { vs := [byteV b], elem := g })) :
    aconv P s d (.slice (some ⟨i, 0, none⟩) 1 1) = none ∧ aconvB P h s d (.slice (some ⟨i, 0, none⟩) 1 1) = some (.string (bs [b]), h) := by
  refine ⟨by unfold aconv; rw [hs, hd], ?_⟩
  unfold aconvB
  simp only [hs, hd, he]
  rw [Heap.lds_of hg (by simp)]
  simp only [List.drop_zero, List.take_succ_cons, List.take_zero, Option.bind_some, byteV, bytesOf, Option.map_some]
  congr 3
  apply ByteArray.ext
  simp [strOfNums, bs]

/-- Does operation i wait for operation j? -/
def edge (ops : List Oper) (i j : Nat) : Bool := match ops[i]? with | some o => o.after.any fun e => Region.binds .any e && e.on == j | none => false
theorem edge_met {ops : List Oper} {L : Nat → Bool} {i j : Nat} {o : Oper} (h : edge ops i j = true) (ho : ops[i]? = some o) (hp : ∀ e ∈ o.after, Region.binds .any e = true → L e.on = true) : L j = true := by
  unfold edge at h
  rw [ho] at h
  simp only [Array.any_eq_true] at h
  obtain ⟨k, hk, h⟩ := h
  simp only [Bool.and_eq_true, beq_iff_eq] at h
  rw [← h.2]
  exact hp _ (Array.getElem_mem hk) h.1
/-- No order that is left to the tape hurts the slots. -/
def calm (ops : List Oper) : Bool :=
  let ms := masks [] ops
  let l := pairs ops 0
  l.all (fun p => p.2.after.all fun e => !Region.binds .any e || decide (e.on < p.1)) && l.all fun p => l.all fun q => !(decide (p.1 < q.1)) || (ms.getD q.1 0).testBit p.1 || !clash ops p.2 q.2
theorem calm_back {ops : List Oper} (h : calm ops = true) : ∀ i o, ops[i]? = some o → ∀ e ∈ o.after, Region.binds .any e = true → e.on < i := by
  unfold calm at h
  simp only [Bool.and_eq_true, List.all_eq_true] at h
  intro i o ho e he hb
  have := h.1 _ (by simpa using mem_pairs ops 0 i o ho)
  have h2 := (Array.all_eq_true_iff_forall_mem.1 this) e he
  simp only [hb, Bool.not_true, Bool.false_or] at h2
  exact of_decide_eq_true h2
theorem calm_slot {ops : List Oper} (h : calm ops = true) : ∀ i j x y, i < j → ops[i]? = some x → ops[j]? = some y → clash ops x y = true → ahead ops i j = true := by
  unfold calm at h
  simp only [Bool.and_eq_true, List.all_eq_true] at h
  intro i j x y hij hx hy hc
  have := h.2 _ (by simpa using mem_pairs ops 0 i x hx) _ (by simpa using mem_pairs ops 0 j y hy)
  simp only [decide_eq_true hij, hc, Bool.not_true, Bool.false_or, Bool.or_false] at this
  exact this
end Go.Mini
