/-
  MINI, part ZC: lists that a call makes by append.
-/
import Derived.Test.YtomndnhkgfeiiaaGreatDoorMiniZB
namespace Go.Mini
set_option linter.unusedSimpArgs false

/-- A row that append made. -/
def grownRow (e : TypeId) (cs : List Value) : AObj := .row { vs := cs, elem := e, grown := true }
def AObj.plain : AObj → Bool
  | .row r => !r.grown
  | _ => true
/-- v is a list of n elements that this call made by append; its cells are cs. -/
def Own (h : Heap) (v : Value) (e : TypeId) (n : Nat) (cs : List Value) : Prop :=
  (v = .slice none 0 0 ∧ n = 0 ∧ cs = []) ∨ ∃ b, v = .slice (some ⟨b, 0, none⟩) n n ∧ h.get b = some (grownRow e cs)
theorem Own.nil (h : Heap) (e : TypeId) : Own h (.slice none 0 0) e 0 [] := .inl ⟨rfl, rfl, rfl⟩
def AObj.notE (e : TypeId) : AObj → Bool
  | .row r => !r.grown || r.elem != e
  | _ => true
theorem AObj.notE_of {o : AObj} (e : TypeId) (h : o.plain = true) : o.notE e = true := by
  cases o with
  | row r => simp only [AObj.plain] at h; simp [AObj.notE, h]
  | _ => rfl
/-- What was there and was not made by append of elements of this type is as it was. -/
def KeepsE (e : TypeId) (h h' : Heap) : Prop := h.next ≤ h'.next ∧ ∀ j o, h.get j = some o → o.notE e = true → h'.get j = some o
/-- What was there and was not made by append is as it was. -/
def Keeps (h h' : Heap) : Prop := h.next ≤ h'.next ∧ ∀ j o, h.get j = some o → o.plain = true → h'.get j = some o
theorem KeepsE.keeps {e : TypeId} {h h' : Heap} (k : KeepsE e h h') : Keeps h h' := ⟨k.1, fun j o q p => k.2 j o q (AObj.notE_of e p)⟩
theorem KeepsE.trans {e : TypeId} {a b c : Heap} (h : KeepsE e a b) (k : KeepsE e b c) : KeepsE e a c := ⟨Nat.le_trans h.1 k.1, fun j o q p => k.2 j o (h.2 j o q p) p⟩
theorem KeepsE.alloc (e : TypeId) (h : Heap) (o : AObj) : KeepsE e h (h.alloc o) := ⟨Nat.le_succ _, fun j _ q _ => by rw [Heap.get_alloc_old h o (Heap.lt_of_get q)]; exact q⟩
theorem Own.keep {h h' : Heap} {v : Value} {e e' : TypeId} {n : Nat} {cs : List Value} (k : KeepsE e' h h') (hne : e ≠ e') (o : Own h v e n cs) : Own h' v e n cs := by
  rcases o with o | ⟨b, o, hg⟩
  · exact .inl o
  · exact .inr ⟨b, o, k.2 _ _ hg (by simp [AObj.notE, grownRow, hne])⟩
theorem Keeps.refl (h : Heap) : Keeps h h := ⟨Nat.le_refl _, fun _ _ e _ => e⟩
theorem Keeps.trans {a b c : Heap} (h : Keeps a b) (k : Keeps b c) : Keeps a c := ⟨Nat.le_trans h.1 k.1, fun j o e p => k.2 j o (h.2 j o e p) p⟩
theorem Keeps.alloc (h : Heap) (o : AObj) : Keeps h (h.alloc o) := ⟨Nat.le_succ _, fun j _ e _ => by rw [Heap.get_alloc_old h o (Heap.lt_of_get e)]; exact e⟩
theorem Heap.more.keeps {a b : Heap} (h : a.more b) : Keeps a b := ⟨h.1, fun _ _ e _ => h.get e⟩

/-- A type's row: so many cells, so many bytes. -/
def elemOk (P : Program) (e : TypeId) (sz by' : Nat) : Bool := match P.info? e with | some i => i.size == sz && i.bytes == by' && (match i.zero with | some z => z.cells.size == sz && flat z | none => false) | none => false
theorem elemOk_info {P : Program} {e : TypeId} {sz by' : Nat} (h : elemOk P e sz by' = true) : ∃ i z, P.info? e = some i ∧ i.size = sz ∧ i.bytes = by' ∧ i.zero = some z ∧ z.cells.size = sz ∧ flat z = true := by
  unfold elemOk at h
  split at h
  · rename_i i hi
    simp only [Bool.and_eq_true, beq_iff_eq] at h
    obtain ⟨⟨h1, h2⟩, h3⟩ := h
    split at h3
    · rename_i z hz
      simp only [Bool.and_eq_true, beq_iff_eq] at h3
      exact ⟨i, z, hi, h1, h2, hz, h3.1, h3.2⟩
    · cases h3
  · cases h

theorem agrow_eq {P : Program} {h : Heap} {e : TypeId} {sz by' need : Nat} {cs : List Value} (he : elemOk P e sz by' = true) (hb : need * by' ≤ 140737488355328) (hb2 : need ≤ 140737488355328) (hl : cs.length = need * sz) :
    agrow P h e need cs false = some (.slice (some ⟨h.next, 0, none⟩) need need, h.alloc (grownRow e cs)) := by
  obtain ⟨i, z, h1, rfl, rfl, h4, h5, _⟩ := elemOk_info he
  unfold agrow
  simp [h1, h4, hb, hb2, h5, hl, grownRow]

/-- append, of a list that this call made, and some elements more. -/
theorem own_append {P : Program} {h : Heap} {st xt e : TypeId} {xd : TypeDesc} {sz by' n m : Nat} {v x : Value} {cs new : List Value} (hst : P.underlying st = some (.slice e)) (hxt : P.underlying xt = some xd) (hxd : seqD xd = true) (he : elemOk P e sz by' = true)
    (hv : Own h v e n cs) (hc : cs.length = n * sz) (hx : alenOf x = some m) (hf : ∀ h', (∀ j o, h.get j = some o → h'.get j = some o) → afirst h' sz m x = some new) (hm : 0 < m) (hnew : new.length = m * sz) (hone : new.all one = true)
    (hb : (n + m) * by' ≤ 140737488355328) (hb2 : n + m ≤ 140737488355328) :
    ∃ v' h', aappend P h st xt v x = some (v', h') ∧ Own h' v' e (n + m) (cs ++ new) ∧ KeepsE e h h' ∧ h'.next = h.next + 1 ∧ v' = .slice (some ⟨h.next, 0, none⟩) (n + m) (n + m) ∧
      ∀ j, j < h.next → (∀ b l c, v = .slice (some ⟨b, 0, none⟩) l c → j ≠ b) → h'.get j = h.get j := by
  obtain ⟨i, z, h1, h2, h3, h4, h5, h6⟩ := elemOk_info he
  have hcell : P.cellsOf e = sz := by unfold Program.cellsOf; rw [h1]; exact h2
  rcases hv with ⟨rfl, rfl, rfl⟩ | ⟨b, rfl, hg⟩
  · rw [Nat.zero_add] at *
    refine ⟨.slice (some ⟨h.next, 0, none⟩) m m, h.alloc (grownRow e new), ?_, .inr ⟨h.next, rfl, ?_⟩, KeepsE.alloc e h _, rfl, rfl, fun j hj _ => Heap.get_alloc_old _ _ hj⟩
    · unfold aappend
      simp only [hst, hxt, h1, hx, h2, Option.bind_some, hf h (fun _ _ q => q), hxd, Bool.not_true, Bool.false_eq_true, if_false, and_self, if_true]
      rw [if_neg (by omega)]
      exact agrow_eq he hb hb2 hnew
    · rw [List.nil_append]; exact Heap.get_alloc_new _ _
  · have hrow : h.row b = some { vs := cs, elem := e, grown := true } := Heap.row_of hg
    have hlds : h.lds b 0 (n * sz) = some cs := by
      unfold Heap.lds
      rw [hrow]
      simp [hc]
      rw [← hc, List.take_length]
    have hfz := hf h (fun _ _ q => q)
    refine ⟨.slice (some ⟨h.next, 0, none⟩) (n + m) (n + m), (h.set b .dead).alloc (grownRow e (cs ++ new)), ?_, .inr ⟨h.next, rfl, ?_⟩, ?_, ?_, rfl, fun j hj hne => by rw [Heap.get_alloc_old _ _ (by simpa using hj), Heap.get_set_ne (hne b _ _ rfl)]⟩
    · unfold aappend
      simp only [hst, hxt, h1, hx, h2, Option.bind_some, hfz, hxd, Bool.not_true, Bool.false_eq_true, if_false]
      rw [if_neg (by omega)]
      simp only [hlds, hrow, Option.bind_some, Option.isSome_none, Bool.not_true, Bool.or_self, Bool.false_eq_true, if_false]
      rw [if_pos ⟨trivial, trivial, by simp [hc], hcell, hone, trivial⟩]
      have hlen : (cs ++ new).length = (n + m) * sz := by rw [List.length_append, hc, hnew, Nat.add_mul]
      have := agrow_eq (h := h.set b .dead) he hb hb2 hlen
      rwa [Heap.next_set] at this
    · have := Heap.get_alloc_new (h.set b .dead) (grownRow e (cs ++ new))
      rwa [Heap.next_set] at this
    · refine ⟨by simp, fun j o hj hp => ?_⟩
      have hne : j ≠ b := by
        rintro rfl
        rw [hg] at hj; cases hj
        simp [AObj.notE, grownRow] at hp
      rw [Heap.get_alloc_old _ _ (by simpa using Heap.lt_of_get hj), Heap.get_set_ne hne]
      exact hj
    · simp

/-- x = append(x, one element). -/
theorem own_push {P : Program} {h : Heap} {st e : TypeId} {sz by' n : Nat} {v w : Value} {cs : List Value} (hst : P.underlying st = some (.slice e)) (he : elemOk P e sz by' = true)
    (hs2 : sz ≤ 16777216) (hv : Own h v e n cs) (hc : cs.length = n * sz) (hw : w.cells.size = sz) (hone : w.cells.toList.all one = true)
    (hb : (n + 1) * by' ≤ 140737488355328) (hb2 : n + 1 ≤ 140737488355328) :
    abuildSlice P h st 1 [(0, w)] = some (.slice (some ⟨h.next, 0, none⟩) 1 1, h.alloc (.row { vs := w.cells.toList, elem := e })) ∧
    ∃ v' h', aappend P (h.alloc (.row { vs := w.cells.toList, elem := e })) st st v (.slice (some ⟨h.next, 0, none⟩) 1 1) = some (v', h') ∧ Own h' v' e (n + 1) (cs ++ w.cells.toList) ∧ KeepsE e h h' ∧ h'.next = h.next + 2 ∧
      v' = .slice (some ⟨h.next + 1, 0, none⟩) (n + 1) (n + 1) ∧ ∀ j, j < h.next → (∀ b l c, v = .slice (some ⟨b, 0, none⟩) l c → j ≠ b) → h'.get j = h.get j := by
  obtain ⟨i, z, h1, h2, h3, h4, h5, h6⟩ := elemOk_info he
  constructor
  · unfold abuildSlice
    simp only [hst, h1, h4, Option.bind_some]
    have hmade : (madeCells z.cells (1 * i.size)).toList.length = sz := by
      unfold madeCells
      simp [h2]
    rw [if_pos ⟨h6, by omega⟩]
    unfold fillL
    simp only [hw, h2, Nat.zero_mul, Nat.zero_add]
    rw [if_pos ⟨trivial, by rw [← h2]; rw [h2]; rw [h2] at hmade; omega⟩]
    simp only [fillL, Option.bind_some, splice, List.take_zero, List.nil_append, Nat.zero_add]
    have : (madeCells z.cells (1 * i.size)).toList.drop w.cells.toList.length = [] := List.drop_eq_nil_of_le (by rw [hmade]; simp [hw])
    rw [h2] at this
    rw [this, List.append_nil]
  · have hv1 : Own (h.alloc (.row { vs := w.cells.toList, elem := e })) v e n cs := by
      rcases hv with hv | ⟨b, hv, hg⟩
      · exact .inl hv
      · exact .inr ⟨b, hv, by rw [Heap.get_alloc_old _ _ (Heap.lt_of_get hg)]; exact hg⟩
    obtain ⟨v', h', a1, a2, a3, a4, a5, a6⟩ := own_append (x := .slice (some ⟨h.next, 0, none⟩) 1 1) (new := w.cells.toList) (m := 1) hst hst rfl he hv1 hc rfl (by
      intro h' hk
      have hg := hk _ _ (Heap.get_alloc_new h (.row { vs := w.cells.toList, elem := e }))
      unfold afirst
      simp only []
      rw [Heap.lds_of hg (by simp [hw])]
      simp [List.take_of_length_le, hw]) (by omega) (by simp [hw]) hone hb hb2
    exact ⟨v', h', a1, a2, (KeepsE.alloc e h _).trans a3, by rw [a4]; rfl, a5, fun j hj hne => by rw [a6 j (by simp; omega) hne, Heap.get_alloc_old _ _ hj]⟩

/-- A list that this call made by append, all of it in memory from 'lo' on. -/
def OwnF (lo : Nat) (h : Heap) (v : Value) (e : TypeId) (n : Nat) (cs : List Value) : Prop :=
  (v = .slice none 0 0 ∧ n = 0 ∧ cs = []) ∨ ∃ b, lo ≤ b ∧ 0 < n ∧ v = .slice (some ⟨b, 0, none⟩) n n ∧ h.get b = some (grownRow e cs)
theorem OwnF.own {lo : Nat} {h : Heap} {v : Value} {e : TypeId} {n : Nat} {cs : List Value} (o : OwnF lo h v e n cs) : Own h v e n cs := by
  rcases o with o | ⟨b, _, _, o⟩
  · exact .inl o
  · exact .inr ⟨b, o⟩
theorem OwnF.nil (lo : Nat) (h : Heap) (e : TypeId) : OwnF lo h (.slice none 0 0) e 0 [] := .inl ⟨rfl, rfl, rfl⟩
theorem OwnF.form {lo : Nat} {h : Heap} {v : Value} {e : TypeId} {n : Nat} {cs : List Value} (o : OwnF lo h v e n cs) : ∃ a, v = .slice a n n := by
  rcases o with ⟨rfl, rfl, _⟩ | ⟨b, _, _, rfl, _⟩
  · exact ⟨none, rfl⟩
  · exact ⟨_, rfl⟩
/-- All that is no plain object below 'hi' and is at 'lo' or behind it is as it was: so the list too. -/
theorem OwnF.keep {lo : Nat} {h h' : Heap} {v : Value} {e : TypeId} {n : Nat} {cs : List Value} (o : OwnF lo h v e n cs) (k : ∀ j p, h.get j = some p → p.plain = false → h'.get j = some p) : OwnF lo h' v e n cs := by
  rcases o with o | ⟨b, hb, hn, o, hg⟩
  · exact .inl o
  · exact .inr ⟨b, hb, hn, o, k b _ hg rfl⟩
theorem own_pushF {P : Program} {h : Heap} {st e : TypeId} {sz by' n lo : Nat} {v w : Value} {cs : List Value} (hst : P.underlying st = some (.slice e)) (he : elemOk P e sz by' = true)
    (hs2 : sz ≤ 16777216) (hv : OwnF lo h v e n cs) (hlo : lo ≤ h.next) (hc : cs.length = n * sz) (hw : w.cells.size = sz) (hone : w.cells.toList.all one = true)
    (hb : (n + 1) * by' ≤ 140737488355328) (hb2 : n + 1 ≤ 140737488355328) :
    abuildSlice P h st 1 [(0, w)] = some (.slice (some ⟨h.next, 0, none⟩) 1 1, h.alloc (.row { vs := w.cells.toList, elem := e })) ∧
    ∃ v' h', aappend P (h.alloc (.row { vs := w.cells.toList, elem := e })) st st v (.slice (some ⟨h.next, 0, none⟩) 1 1) = some (v', h') ∧ OwnF lo h' v' e (n + 1) (cs ++ w.cells.toList) ∧ h.next ≤ h'.next ∧
      (∀ j o, h.get j = some o → o.plain = true → h'.get j = some o) ∧ ∀ j, j < lo → h'.get j = h.get j := by
  obtain ⟨a1, v', h', a2, a3, a4, a5, a6, a7⟩ := own_push hst he hs2 hv.own hc hw hone hb hb2
  refine ⟨a1, v', h', a2, ?_, by omega, fun j o hj hp => a4.2 j o hj (AObj.notE_of e hp), fun j hj => a7 j (by omega) ?_⟩
  · rcases a3 with ⟨_, h1, _⟩ | ⟨b, h1, h2⟩
    · omega
    · rw [a6] at h1
      simp only [Value.slice.injEq, Option.some.injEq, Addr.mk.injEq] at h1
      exact .inr ⟨b, by omega, by omega, by rw [a6, ← h1.1.1], h2⟩
  · rintro b l c hvb rfl
    rcases hv with ⟨h1, _⟩ | ⟨b', hb', _, h1, _⟩
    · rw [h1] at hvb; cases hvb
    · rw [h1] at hvb; cases hvb; omega
end Go.Mini
