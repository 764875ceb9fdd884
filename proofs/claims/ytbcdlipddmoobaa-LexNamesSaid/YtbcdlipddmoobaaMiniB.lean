/-
  MINI, part B: what is done to the abstract heap, and to the world that it tells of.
-/
import Derived.Test.YtbcdlipddmoobaaMiniA
namespace Go.Mini

def Ren.put (m : Ren) (i b s e : Nat) : Ren :=
  ⟨fun j => if j = i then b else m.blk j, fun j => if j = i then s else m.sh j, fun j => if j = i then e else m.ext j⟩
theorem Ren.agree_put (m : Ren) (i b s e n : Nat) (h : n ≤ i) : m.agree n (m.put i b s e) := by
  intro j hj
  simp [Ren.put, show ¬ j = i by omega]
@[simp] theorem Ren.put_blk (m : Ren) (i b s e : Nat) : (m.put i b s e).blk i = b := by simp [Ren.put]
@[simp] theorem Ren.put_sh (m : Ren) (i b s e : Nat) : (m.put i b s e).sh i = s := by simp [Ren.put]
@[simp] theorem Ren.put_ext (m : Ren) (i b s e : Nat) : (m.put i b s e).ext i = e := by simp [Ren.put]

theorem renE_congr {n : Nat} {m m' : Ren} (h : m.agree n m') {e : MapEntry} (hs : sc n e.key ∧ sc n e.val) : renE m e = renE m' e := by
  simp [renE, ren_congr h _ hs.1, ren_congr h _ hs.2]

/-- An object's word on a world is kept: its block as it was, the renaming alike below n. -/
theorem ORel.keep {P : Program} {base n n' : Nat} {m m' : Ren} {w w' : World} {i : Nat} {o : AObj} (h : ORel P base m n w i o) (ha : m.agree n m') (hi : i < n) (hn : n ≤ n')
    (hb : ∀ x, w.heap[m.blk i]? = some x → w'.heap[m.blk i]? = some x) : ORel P base m' n' w' i o := by
  obtain ⟨e1, e2, e3⟩ := ha i hi
  cases o with
  | dead => trivial
  | row r =>
    obtain ⟨hs, c, fz, hc, hsz, hv, h1, h2, h3, h4, h5⟩ := h
    refine ⟨fun v hv => sc_mono hn v (hs v hv), c, fz, ?_, ?_, ?_, ?_, ?_, ?_, ?_, ?_⟩
    · rw [← e1]; exact hb _ hc
    · rw [← e2, ← e3]; exact hsz
    · intro k v hk
      rw [← e2, ← ren_congr ha v (hs v (List.mem_of_getElem? hk))]
      exact hv k v hk
    · rw [← e1]; exact h1
    · rw [← e1]; exact h2
    · exact h3
    · exact h4
    · rw [← e3]; exact h5
  | map es clock =>
    obtain ⟨hs, hc, hb'⟩ := h
    refine ⟨fun e he => ⟨sc_mono hn _ (hs e he).1, sc_mono hn _ (hs e he).2⟩, ?_, ?_⟩
    · rw [← e1]
      have : es.map (renE m') = es.map (renE m) := List.map_congr_left fun e he => (renE_congr ha (hs e he)).symm
      rw [this]; exact hb _ hc
    · rw [← e1]; exact hb'
  | iter s pos =>
    obtain ⟨hc, hb'⟩ := h
    exact ⟨by rw [← e1]; exact hb _ hc, by rw [← e1]; exact hb'⟩

theorem ORel.block {P : Program} {base n : Nat} {m : Ren} {w : World} {i : Nat} {o : AObj} (h : ORel P base m n w i o) (hd : o ≠ .dead) : ∃ x, w.heap[m.blk i]? = some x := by
  cases o with
  | dead => exact absurd rfl hd
  | row r => obtain ⟨_, c, fz, hc, _⟩ := h; exact ⟨_, hc⟩
  | map es clock => exact ⟨_, h.2.1⟩
  | iter s pos => exact ⟨_, h.1⟩
theorem ORel.base_le {P : Program} {base n : Nat} {m : Ren} {w : World} {i : Nat} {o : AObj} (h : ORel P base m n w i o) (hd : o.own = true) : base ≤ m.blk i := by
  cases o with
  | dead => simp [AObj.own] at hd
  | row r => obtain ⟨_, c, fz, hc, hsz, hv, h1, _⟩ := h; exact h1 (by simpa [AObj.own] using hd)
  | map es clock => exact h.2.2
  | iter s pos => exact h.2
theorem ORel.lt_base {P : Program} {base n : Nat} {m : Ren} {w : World} {i : Nat} {o : AObj} (h : ORel P base m n w i o) (hd : o.own = false) (hx : o ≠ .dead) : m.blk i < base := by
  cases o with
  | dead => exact absurd rfl hx
  | row r => obtain ⟨_, c, fz, hc, hsz, hv, h1, h2, _⟩ := h; exact h2 (by simpa [AObj.own] using hd)
  | map es clock => simp [AObj.own] at hd
  | iter s pos => simp [AObj.own] at hd

theorem lt_of_some {α : Type} {a : Array α} {i : Nat} {x : α} (h : a[i]? = some x) : i < a.size := by
  rcases Nat.lt_or_ge i a.size with q | q
  · exact q
  · rw [Array.getElem?_eq_none q] at h; cases h

section
variable {P : Program} {S : Start} {m : Ren} {h : Heap} {w : World}

/-- A new object over a block that no other object of the call's own lies on. -/
theorem HRel.newOn (hr : HRel P S m h w) {w' : World} {o : AObj} {B s e : Nat} (hB : S.base ≤ B)
    (hsame : ∀ b x, b ≠ B → w.heap[b]? = some x → w'.heap[b]? = some x) (hfr : ∀ b, b < S.base → w'.heap[b]? = w.heap[b]?) (hsize : w.heap.size ≤ w'.heap.size) (hio : Mini.io w' = Mini.io w)
    (hfree : ∀ i p, h.get i = some p → p.own = true → m.blk i ≠ B)
    (ho : ORel P S.base (m.put h.next B s e) (h.next + 1) w' h.next o) : HRel P S (m.put h.next B s e) (h.alloc o) w' where
  gle := by have := hr.gle; simp; omega
  glob i hi := by
    have := hr.gle
    have e1 := hr.glob i hi
    simp [Ren.put, show ¬ i = h.next by omega, e1]
  obj i p hp := by
    rw [Heap.get_alloc] at hp
    split at hp
    · rename_i e; subst e; cases hp; exact ho
    · have hlt := Heap.lt_of_get hp
      have h0 := hr.obj i p hp
      by_cases hd : p = .dead
      · subst hd; trivial
      refine h0.keep (Ren.agree_put m _ _ _ _ _ (Nat.le_refl _)) hlt (by simp) ?_
      intro x hx
      refine hsame _ x ?_ hx
      cases ho : p.own with
      | true => exact hfree i p hp ho
      | false => have := h0.lt_base ho hd; omega
  apart i j p q hij hp hq hpo hqo := by
    rw [Heap.get_alloc] at hp hq
    have key : ∀ i p, (if i = h.next then some o else h.get i) = some p → p.own = true → i ≠ h.next → h.get i = some p ∧ i < h.next ∧ (m.put h.next B s e).blk i = m.blk i := by
      intro i p hp _ hne
      rw [if_neg hne] at hp
      exact ⟨hp, Heap.lt_of_get hp, by simp [Ren.put, hne]⟩
    by_cases hi : i = h.next
    · by_cases hj : j = h.next
      · omega
      · obtain ⟨a, b, c⟩ := key j q hq hqo hj
        rw [c, hi, Ren.put_blk]
        exact fun e => hfree j q a hqo e.symm
    · obtain ⟨a, b, c⟩ := key i p hp hpo hi
      by_cases hj : j = h.next
      · rw [c, hj, Ren.put_blk]
        exact hfree i p a hpo
      · obtain ⟨a', b', c'⟩ := key j q hq hqo hj
        rw [c, c']
        exact hr.apart i j p q hij a a' hpo hqo
  frame b hb := by rw [hfr b hb]; exact hr.frame b hb
  size := by have := hr.size; omega
  io := hio.trans hr.io

/-- One object of the call's own turned, and its block with it. -/
theorem HRel.upd (hr : HRel P S m h w) {w' : World} {i : Nat} {o o' : AObj} (hg : h.get i = some o) (ho : o.own = true)
    (hsame : ∀ b, b ≠ m.blk i → w'.heap[b]? = w.heap[b]?) (hsize : w.heap.size ≤ w'.heap.size) (hio : Mini.io w' = Mini.io w)
    (ho' : ORel P S.base m h.next w' i o') : HRel P S m (h.set i o') w' where
  gle := by have := hr.gle; simp; omega
  glob := hr.glob
  obj j p hp := by
    rw [Heap.get_set h i o' j (by simp [hg])] at hp
    simp only [Heap.next_set]
    split at hp
    · rename_i e; subst e; cases hp; exact ho'
    · rename_i hne
      have h0 := hr.obj j p hp
      by_cases hd : p = .dead
      · subst hd; trivial
      refine h0.keep (Ren.agree_refl _ _) (Heap.lt_of_get hp) (Nat.le_refl _) ?_
      intro x hx
      rw [hsame _ ?_]
      · exact hx
      cases hpo : p.own with
      | true => exact hr.apart j i p o hne hp hg hpo ho
      | false =>
        have := h0.lt_base hpo hd
        have := (hr.obj i o hg).base_le ho
        omega
  apart j k p q hjk hp hq hpo hqo := by
    have key : ∀ j p, (h.set i o').get j = some p → p.own = true → ∃ p', h.get j = some p' ∧ p'.own = true := by
      intro j p hp hpo
      rw [Heap.get_set h i o' j (by simp [hg])] at hp
      split at hp
      · rename_i e; subst e; exact ⟨o, hg, ho⟩
      · exact ⟨p, hp, hpo⟩
    obtain ⟨p', hp', hpo'⟩ := key j p hp hpo
    obtain ⟨q', hq', hqo'⟩ := key k q hq hqo
    exact hr.apart j k p' q' hjk hp' hq' hpo' hqo'
  frame b hb := by
    have := (hr.obj i o hg).base_le ho
    rw [hsame b (by omega)]; exact hr.frame b hb
  size := by have := hr.size; omega
  io := hio.trans hr.io

/-- Nothing is told of an object any more. -/
theorem HRel.kill (hr : HRel P S m h w) {i : Nat} {o : AObj} (hg : h.get i = some o) : HRel P S m (h.set i .dead) w where
  gle := by have := hr.gle; simp; omega
  glob := hr.glob
  obj j p hp := by
    rw [Heap.get_set h i .dead j (by simp [hg])] at hp
    simp only [Heap.next_set]
    split at hp
    · cases hp; trivial
    · exact hr.obj j p hp
  apart j k p q hjk hp hq hpo hqo := by
    rw [Heap.get_set h i .dead _ (by simp [hg])] at hp hq
    split at hp
    · cases hp; simp [AObj.own] at hpo
    · split at hq
      · cases hq; simp [AObj.own] at hqo
      · exact hr.apart j k p q hjk hp hq hpo hqo
  frame := hr.frame
  size := hr.size
  io := hr.io

/-- A world with the same heap. -/
theorem HRel.world (hr : HRel P S m h w) {w' : World} (e : w'.heap = w.heap) (hio : Mini.io w' = Mini.io w) : HRel P S m h w' := by
  obtain ⟨a, b, c, d, f, g, i⟩ := hr
  refine ⟨a, b, fun i o ho => ?_, d, by rw [e]; exact f, by rw [e]; exact g, hio.trans i⟩
  have h0 := c i o ho
  refine h0.keep (Ren.agree_refl _ _) (Heap.lt_of_get ho) (Nat.le_refl _) ?_
  rw [e]; exact fun _ hx => hx

theorem getElem?_push_lt' {α : Type} {a : Array α} {x y : α} {i : Nat} (h : a[i]? = some y) : (a.push x)[i]? = some y := by
  rw [Array.getElem?_push, if_neg (by have := lt_of_some h; omega)]; exact h

/-- A new object in a new block. -/
theorem HRel.alloc (hr : HRel P S m h w) {o : AObj} {O : Obj} {e : Nat}
    (ho : ORel P S.base (m.put h.next w.heap.size 0 e) (h.next + 1) (w.alloc O) h.next o) : HRel P S (m.put h.next w.heap.size 0 e) (h.alloc o) (w.alloc O) := by
  refine hr.newOn hr.size ?_ ?_ (show w.heap.size ≤ (w.heap.push O).size by simp) rfl ?_ ho
  · intro b x _ hx; exact getElem?_push_lt' hx
  · intro b hb
    have := hr.size
    show (w.heap.push O)[b]? = _
    rw [Array.getElem?_push, if_neg (by omega)]
  · intro i p hp hpo
    have hd : p ≠ .dead := by intro e; subst e; simp [AObj.own] at hpo
    obtain ⟨x, hx⟩ := (hr.obj i p hp).block hd
    have := lt_of_some hx
    omega

/-- A cell that the abstract heap knows. -/
theorem HRel.cell (hr : HRel P S m h w) {i k : Nat} {r : Row} {v : Value} (hg : h.get i = some (.row r)) (hv : r.vs[k]? = some v) :
    w.cell? ⟨m.blk i, k + m.sh i, none⟩ = some (ren m v) ∧ sc h.next v := by
  obtain ⟨hs, c, fz, hc, hsz, hcs, _⟩ := hr.obj i _ hg
  refine ⟨?_, hs v (List.mem_of_getElem? hv)⟩
  have := hcs k v hv
  simp [World.cell?, hc, Nat.add_comm k, this]
end

theorem heap_setCell (w : World) (b k : Nat) (v : Value) (c : Array Value) (t : TypeId) (fz : Nat × Nat) (hc : w.heap[b]? = some (.cells c t fz)) :
    (w.setCell ⟨b, k, none⟩ v).heap.size = w.heap.size ∧ (∀ b', b' ≠ b → (w.setCell ⟨b, k, none⟩ v).heap[b']? = w.heap[b']?) ∧
      (w.setCell ⟨b, k, none⟩ v).heap[b]? = some (.cells (c.setIfInBounds k v) t fz) := by
  refine ⟨by simp [World.setCell], fun b' hb => ?_, ?_⟩
  · simp [World.setCell, Array.getElem?_modify, show ¬ b = b' by omega]
  · simp [World.setCell, Array.getElem?_modify, hc]

theorem run_storeCells_gen (P : Program) (b o : Nat) (t : TypeId) (fz : Nat × Nat) : ∀ (vs : List Value) (i : Nat) (cur : Array Value) (w : World),
    w.heap[b]? = some (.cells cur t fz) → o + i + vs.length ≤ cur.size → (∀ k, k < cur.size → ¬ (fz.1 ≤ k ∧ k < fz.2)) → (∀ v ∈ vs, one v = true) →
    ∃ w' c', (storeCells ⟨b, o, none⟩ vs i).run P w = .ok () w' ∧ w'.heap.size = w.heap.size ∧ Mini.io w' = Mini.io w ∧ (∀ b', b' ≠ b → w'.heap[b']? = w.heap[b']?) ∧
      w'.heap[b]? = some (.cells c' t fz) ∧ c'.size = cur.size ∧ (∀ k, k < o + i ∨ o + i + vs.length ≤ k → c'[k]? = cur[k]?) ∧ (∀ j v, vs[j]? = some v → c'[o + i + j]? = some v)
  | [], i, cur, w, hc, _, _, _ => ⟨w, cur, by simp [storeCells], rfl, rfl, fun _ _ => rfl, hc, rfl, fun _ _ => rfl, fun j v h => by simp at h⟩
  | v :: vs, i, cur, w, hc, hsz, hfz, hone => by
    simp only [List.length_cons] at hsz
    have hlt : o + i < cur.size := by omega
    have hadd : (⟨b, o, none⟩ : Addr).add i = ⟨b, o + i, none⟩ := by
      unfold Addr.add; split
      · rename_i e; subst e; rfl
      · rfl
    have hcell : w.cell? ⟨b, o + i, none⟩ = some cur[o + i] := by simp [World.cell?, hc, hlt]
    have hfr : w.frozen? ⟨b, o + i, none⟩ = false := by
      have := hfz (o + i) hlt
      simp only [World.frozen?, hc]
      rcases fz with ⟨lo, hi⟩
      simp only at this ⊢
      rw [Bool.and_eq_false_iff]
      by_cases q : lo ≤ o + i
      · right; simp; omega
      · left; simp; omega
    have h1 : (store ⟨b, o + i, none⟩ v .plain).run P w = .ok () (w.setCell ⟨b, o + i, none⟩ v) := by
      have hv : v.oneCell' = true := by
        have := hone v (by simp)
        cases v <;> first | rfl | (simp [one] at this)
      rw [run_store P w _ v .plain hv, hcell]
      simp [hfr]
    obtain ⟨e1, e2, e3⟩ := heap_setCell w b (o + i) v cur t fz hc
    obtain ⟨w', c', hrun, hs, hio, hoth, hb, hcs, hout, hin⟩ := run_storeCells_gen P b o t fz vs (i + 1) (cur.setIfInBounds (o + i) v) (w.setCell ⟨b, o + i, none⟩ v) e3 (by simp; omega) (by simpa using hfz) (fun u hu => hone u (by simp [hu]))
    refine ⟨w', c', ?_, by rw [hs, e1], hio, fun b' hb' => by rw [hoth b' hb', e2 b' hb'], hb, by simpa using hcs, ?_, ?_⟩
    · simp only [storeCells, Sem.run_bind, hadd, h1, Result.andThen, hrun]
    · intro k hk
      simp only [List.length_cons] at hk
      rw [hout k (by omega), Array.getElem?_setIfInBounds_ne (by omega)]
    · intro j u hj
      cases j with
      | zero =>
        simp only [List.getElem?_cons_zero, Option.some.injEq] at hj
        subst hj
        rw [Nat.add_zero, hout (o + i) (by omega), Array.getElem?_setIfInBounds_self, if_pos hlt]
      | succ j =>
        simp only [List.getElem?_cons_succ] at hj
        have := hin j u hj
        rwa [show o + i + (j + 1) = o + (i + 1) + j by omega]

/-! ### Reading and writing the abstract heap -/
def Heap.row (h : Heap) (i : Nat) : Option Row := match h.get i with | some (.row r) => some r | _ => none
def Heap.ld (h : Heap) (i k : Nat) : Option Value := (h.row i).bind fun r => r.vs[k]?
def Heap.lds (h : Heap) (i k n : Nat) : Option (List Value) := (h.row i).bind fun r => if k + n ≤ r.vs.length then some ((r.vs.drop k).take n) else none
def splice (l : List Value) (k : Nat) (vs : List Value) : List Value := l.take k ++ vs ++ l.drop (k + vs.length)
def Heap.sts (h : Heap) (i k : Nat) (vs : List Value) : Option Heap :=
  (h.row i).bind fun r => if k + vs.length ≤ r.vs.length ∧ r.outer = false ∧ r.ro = false then some (h.set i (.row { r with vs := splice r.vs k vs })) else none

theorem Heap.row_some {h : Heap} {i : Nat} {r : Row} : h.row i = some r ↔ h.get i = some (.row r) := by
  unfold Heap.row; split
  · rename_i r' e; rw [e]; simp
  · rename_i hne; simp; intro e; exact hne r e
theorem length_splice {l : List Value} {k : Nat} {vs : List Value} (h : k + vs.length ≤ l.length) : (splice l k vs).length = l.length := by
  simp [splice]; omega
theorem splice_out {l : List Value} {k : Nat} {vs : List Value} (h : k + vs.length ≤ l.length) {j : Nat} (hj : j < k ∨ k + vs.length ≤ j) : (splice l k vs)[j]? = l[j]? := by
  unfold splice
  rcases hj with hj | hj
  · rw [List.append_assoc, List.getElem?_append_left (by simp; omega), List.getElem?_take_of_lt hj]
  · rw [List.getElem?_append_right (by simp; omega)]
    simp only [List.length_append, List.length_take, List.getElem?_drop]
    congr 1; omega
theorem splice_in {l : List Value} {k : Nat} {vs : List Value} (h : k + vs.length ≤ l.length) {j : Nat} (hj : j < vs.length) : (splice l k vs)[k + j]? = vs[j]? := by
  unfold splice
  rw [List.append_assoc, List.getElem?_append_right (by simp; omega)]
  simp only [List.length_take]
  rw [show k + j - min k l.length = j by omega, List.getElem?_append_left hj]

section
variable {P : Program} {S : Start} {m : Ren} {h : Heap} {w : World}

theorem addr_add (b o i : Nat) : (⟨b, o, none⟩ : Addr).add i = ⟨b, o + i, none⟩ := by
  unfold Addr.add; split
  · rename_i e; subst e; rfl
  · rfl

theorem HRel.ld_run (hr : HRel P S m h w) {i k : Nat} {v : Value} (hl : h.ld i k = some v) :
    w.cell? ⟨m.blk i, k + m.sh i, none⟩ = some (ren m v) ∧ sc h.next v := by
  unfold Heap.ld at hl
  obtain ⟨r, hr', hv⟩ := Option.bind_eq_some_iff.1 hl
  exact hr.cell (Heap.row_some.1 hr') hv

theorem HRel.lds_run (hr : HRel P S m h w) {i k n : Nat} {vs : List Value} (hl : h.lds i k n = some vs) :
    (loadCells ⟨m.blk i, k + m.sh i, none⟩ n).run P w = .ok (vs.map (ren m)).toArray w ∧ (∀ v ∈ vs, sc h.next v) ∧ vs.length = n := by
  unfold Heap.lds at hl
  obtain ⟨r, hr', hv⟩ := Option.bind_eq_some_iff.1 hl
  split at hv
  · rename_i hle
    cases hv
    have hlen : ((r.vs.drop k).take n).length = n := by simp; omega
    have key : ∀ j v, ((r.vs.drop k).take n)[j]? = some v → w.cell? ⟨m.blk i, k + m.sh i + j, none⟩ = some (ren m v) ∧ sc h.next v := by
      intro j v hj
      have hjn : j < n := by
        rcases Nat.lt_or_ge j n with q | q
        · exact q
        · rw [List.getElem?_eq_none (by simp; omega)] at hj; cases hj
      rw [List.getElem?_take_of_lt hjn, List.getElem?_drop] at hj
      have := hr.cell (Heap.row_some.1 hr') hj
      rwa [show k + j + m.sh i = k + m.sh i + j by omega] at this
    refine ⟨?_, ?_, hlen⟩
    · have := run_loadCells_list (P := P) w ⟨m.blk i, k + m.sh i, none⟩ (((r.vs.drop k).take n).map (ren m)) ?_
      · rwa [List.length_map, hlen] at this
      · intro j v hj
        rw [List.getElem?_map] at hj
        obtain ⟨u, hu, rfl⟩ := Option.map_eq_some_iff.1 hj
        rw [addr_add]
        exact (key j u hu).1
    · intro v hv
      obtain ⟨j, hj⟩ := List.mem_iff_getElem?.1 hv
      exact (key j v hj).2
  · cases hv

theorem HRel.sts_run (hr : HRel P S m h w) {i k : Nat} {vs : List Value} {h' : Heap} (hl : h.sts i k vs = some h') (hone : ∀ v ∈ vs, one v = true) (hsc : ∀ v ∈ vs, sc h.next v) :
    ∃ w', (storeCells ⟨m.blk i, k + m.sh i, none⟩ (vs.map (ren m)) 0).run P w = .ok () w' ∧ HRel P S m h' w' ∧ h'.next = h.next := by
  unfold Heap.sts at hl
  obtain ⟨r, hr', hv⟩ := Option.bind_eq_some_iff.1 hl
  split at hv
  · rename_i hle
    obtain ⟨hle, hout, hro⟩ := hle
    cases hv
    have hg := Heap.row_some.1 hr'
    obtain ⟨hs, c, fz, hc, hsz, hcs, h1, h2, h3, h4, h5⟩ := hr.obj i _ hg
    obtain ⟨w', c', hrun, hws, hio, hoth, hb, hcsz, hko, hki⟩ := run_storeCells_gen P (m.blk i) (k + m.sh i) r.elem fz (vs.map (ren m)) 0 c w hc (by simp; omega) (h3 hout hro)
      (by intro v hv; obtain ⟨u, hu, rfl⟩ := List.mem_map.1 hv; rw [one_ren]; exact hone u hu)
    refine ⟨w', hrun, ?_, by simp⟩
    refine hr.upd hg (by simp [AObj.own, hout]) hoth (by omega) hio ?_
    refine ⟨?_, c', fz, hb, ?_, ?_, h1, h2, ?_, h4, h5⟩
    · intro v hv
      simp only [splice, List.mem_append] at hv
      rcases hv with (hv | hv) | hv
      · exact hs v (List.mem_of_mem_take hv)
      · exact hsc v hv
      · exact hs v (List.mem_of_mem_drop hv)
    · simp only [length_splice hle]; omega
    · intro j v hj
      simp only [List.length_map, Nat.add_zero] at hko hki
      by_cases q : k ≤ j ∧ j < k + vs.length
      · have e := splice_in hle (j := j - k) (by omega)
        rw [show k + (j - k) = j by omega] at e
        rw [e] at hj
        have := hki (j - k) (ren m v) (by rw [List.getElem?_map, hj]; rfl)
        rwa [show k + m.sh i + (j - k) = m.sh i + j by omega] at this
      · rw [splice_out hle (by omega)] at hj
        rw [hko (m.sh i + j) (by omega)]
        exact hcs j v hj
    · intro ho hr'' q; rw [hcsz]; exact h3 ho hr'' q
  · cases hv
end
end Go.Mini
