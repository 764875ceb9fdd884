/-
  MINI, part D: the operations on memory.
-/
import Derived.Test.YtbcdlipddmoobaaMiniC
namespace Go.Mini

section
variable {P : Program} {S : Start} {m : Ren} {h : Heap} {w : World}

/-! ### load, store -/
def aload (P : Program) (h : Heap) (t : TypeId) : Value → Option Value
  | .pointer (some ⟨i, k, none⟩) =>
    match Program.agg P t, P.info? t with
    | some true, some info => (h.lds i k info.size).map fun l => .agg l.toArray
    | some false, _ => h.ld i k
    | _, _ => none
  | _ => none
theorem aload_run (hr : HRel P S m h w) {t : TypeId} {a v : Value} (e : aload P h t a = some v) : (Instr.loadAt t (ren m a)).run P w = .ok (ren m v) w ∧ sc h.next v := by
  unfold aload at e
  split at e
  · rename_i i k
    split at e
    · rename_i info ha hi
      obtain ⟨l, hl, rfl⟩ := Option.map_eq_some_iff.1 e
      obtain ⟨h1, h2, h3⟩ := hr.lds_run hl
      refine ⟨?_, by simp only [sc, scA, scL_all]; exact h2⟩
      simp only [Instr.loadAt, Instr.sureAddr, ren, Sem.run_bind, Sem.run_pure, Result.andThen_ok, loadVar, run_isAgg ha, if_true, run_sizeOf' hi, h1]
      simp [renA, renL_map]
    · rename_i ha
      obtain ⟨h1, h2⟩ := hr.ld_run e
      refine ⟨?_, h2⟩
      simp only [Instr.loadAt, Instr.sureAddr, ren, Sem.run_bind, Sem.run_pure, Result.andThen_ok, loadVar, run_isAgg ha, Bool.false_eq_true, if_false, run_load, h1]
    · cases e
  · cases e

def astore (P : Program) (h : Heap) (t : TypeId) (a v : Value) : Option Heap :=
  match a with
  | .pointer (some ⟨i, k, none⟩) =>
    match P.info? t with
    | some info => if v.cells.size = info.size ∧ v.cells.all one = true then h.sts i k v.cells.toList else none
    | none => none
  | _ => none
theorem astore_run (hr : HRel P S m h w) {t : TypeId} {a v : Value} {h' : Heap} (e : astore P h t a v = some h') (hs : sc h.next v) :
    ∃ w', (Instr.storeAt t (ren m a) (ren m v)).run P w = .ok () w' ∧ HRel P S m h' w' ∧ h'.next = h.next := by
  unfold astore at e
  split at e
  · rename_i i k
    split at e
    · rename_i info hi
      split at e
      · rename_i hc
        obtain ⟨hsz, hone⟩ := hc
        obtain ⟨w', h1, h2, h3⟩ := hr.sts_run e (by intro u hu; exact (Array.all_eq_true_iff_forall_mem.1 hone) u (by simpa using hu)) (fun u hu => sc_cells hs u (Array.mem_toList_iff.1 hu))
        refine ⟨w', ?_, h2, h3⟩
        have hcs := ren_cells m v
        simp only [Instr.storeAt, Instr.sureAddr, ren, Sem.run_bind, Sem.run_pure, Result.andThen_ok, storeVar, run_sizeOf' hi, hcs, Array.size_map, hsz]
        simpa using h1
      · cases e
    · cases e
  · cases e

/-! ### new objects -/
theorem HRel.allocRow (hr : HRel P S m h w) {vs : List Value} {t : TypeId} (hs : ∀ v ∈ vs, sc h.next v) :
    HRel P S (m.put h.next w.heap.size 0 0) (h.alloc (.row { vs, elem := t })) (w.alloc (.cells (vs.map (ren m)).toArray t)) := by
  refine hr.alloc ?_
  have hag := Ren.agree_put m h.next w.heap.size 0 0 h.next (Nat.le_refl _)
  refine ⟨fun v hv => sc_mono (by omega) v (hs v hv), (vs.map (ren m)).toArray, (0, 0), ?_, ?_, ?_, ?_, ?_, ?_, ?_, ?_⟩
  · show (w.heap.push _)[_]? = _
    rw [Ren.put_blk, Array.getElem?_push, if_pos rfl]
  · simp
  · intro k v hk
    have hk' : vs[k]? = some v := hk
    simp only [Ren.put_sh, Nat.zero_add, List.getElem?_toArray, List.getElem?_map, hk', Option.map_some]
    rw [ren_congr hag v (hs v (List.mem_of_getElem? hk'))]
  · intro _; simp only [Ren.put_blk]; exact hr.size
  · intro q; cases q
  · intro _ _ k _; simp
  · intro _ _ _; rfl
  · intro _; simp

/-- An object's own address. -/
def Heap.new (h : Heap) : Value := .pointer (some ⟨h.next, 0, none⟩)

def aalloc (P : Program) (h : Heap) (t : TypeId) : Option (Value × Heap) :=
  (P.info? t).bind fun i => i.zero.bind fun z => if flat z then some (h.new, h.alloc (.row { vs := z.cells.toList, elem := t })) else none
def abox (h : Heap) (t : TypeId) (v : Value) : Value × Heap := (h.new, h.alloc (.row { vs := v.cells.toList, elem := t }))

theorem abox_run (hr : HRel P S m h w) (t : TypeId) {v : Value} (hs : sc h.next v) :
    ∃ m' w', m.agree h.next m' ∧ (Instr.box t (ren m v)).run P w = .ok (ren m' (abox h t v).1) w' ∧ HRel P S m' (abox h t v).2 w' := by
  have := hr.allocRow (t := t) (vs := v.cells.toList) (fun u hu => sc_cells hs u (Array.mem_toList_iff.1 hu))
  refine ⟨_, _, Ren.agree_put m _ _ _ _ _ (Nat.le_refl _), ?_, this⟩
  have hc : (ren m v).cells = (v.cells.toList.map (ren m)).toArray := by rw [ren_cells]; apply Array.ext'; simp
  simp only [Instr.box, newVar, newRow, Sem.run_bind, run_newObj, Result.andThen_ok, Sem.run_pure, abox, Heap.new, ren, Ren.put_blk, Ren.put_sh, hc]
  rfl

theorem aalloc_run (hr : HRel P S m h w) {t : TypeId} {v : Value} {h' : Heap} (e : aalloc P h t = some (v, h')) :
    ∃ m' w', m.agree h.next m' ∧ (Instr.alloc t true (.tuple #[])).run P w = .ok (ren m' v) w' ∧ HRel P S m' h' w' ∧ sc h'.next v ∧ h'.next = h.next + 1 := by
  obtain ⟨i, hi, e⟩ := Option.bind_eq_some_iff.1 e
  obtain ⟨z, hz, e⟩ := Option.bind_eq_some_iff.1 e
  split at e
  · rename_i hf
    simp only [Option.some.injEq, Prod.mk.injEq] at e
    obtain ⟨rfl, rfl⟩ := e
    obtain ⟨m', w', h1, h2, h3⟩ := abox_run hr t (sc_flat h.next z hf)
    refine ⟨m', w', h1, ?_, h3, by simp [Heap.new, sc], by simp⟩
    rw [ren_flat m z hf] at h2
    have h2' : (Instr.box t z).run P w = .ok (ren m' h.new) w' := h2
    simp only [Instr.alloc, Sem.run_bind, run_zeroValue' hi hz w, Result.andThen_ok]
    simpa [Instr.box] using h2'
  · cases e

/-! ### structs and arrays by value -/
def fillL (place : Nat → Option (Nat × Nat)) (cells : List Value) : List (Nat × Value) → Option (List Value)
  | [] => some cells
  | (i, v) :: rest =>
    match place i with
    | none => none
    | some (off, size) => if v.cells.size = size ∧ off + size ≤ cells.length then fillL place (splice cells off v.cells.toList) rest else none

theorem foldl_put (f : Nat → Nat) (off : Nat) (hf : ∀ j, f j = off + j) : ∀ (vs : List Value) (j : Nat) (cs : List Value), off + j + vs.length ≤ cs.length →
    (vs.zipIdx j).foldl (fun (cs : Array Value) (p : Value × Nat) => cs.setIfInBounds (off + p.2) p.1) cs.toArray = (splice cs (off + j) vs).toArray
  | [], j, cs, _ => by simp [splice]
  | v :: vs, j, cs, hl => by
    simp only [List.length_cons] at hl
    simp only [List.zipIdx_cons, List.foldl_cons]
    have : (cs.toArray.setIfInBounds (off + j) v) = (cs.set (off + j) v).toArray := by simp
    rw [this, foldl_put f off hf vs (j + 1) (cs.set (off + j) v) (by simp; omega)]
    congr 1
    apply List.ext_getElem?
    intro k
    by_cases q : off + j ≤ k ∧ k < off + j + (vs.length + 1)
    · have e1 := splice_in (l := cs) (k := off + j) (vs := v :: vs) (by simp; omega) (j := k - (off + j)) (by simp; omega)
      rw [show off + j + (k - (off + j)) = k by omega] at e1
      rw [e1]
      by_cases q2 : k = off + j
      · subst q2
        rw [splice_out (by simp; omega) (by omega)]
        simp [show off + j < cs.length by omega]
      · have e2 := splice_in (l := cs.set (off + j) v) (k := off + (j + 1)) (vs := vs) (by simp; omega) (j := k - (off + (j + 1))) (by omega)
        rw [show off + (j + 1) + (k - (off + (j + 1))) = k by omega] at e2
        rw [e2, show k - (off + j) = (k - (off + (j + 1))) + 1 by omega]
        simp
    · rw [splice_out (l := cs) (by simp; omega) (by simp only [List.length_cons]; omega), splice_out (by simp; omega) (by omega), List.getElem?_set_ne (by omega)]

theorem splice_map (f : Value → Value) (l : List Value) (k : Nat) (vs : List Value) : (splice l k vs).map f = splice (l.map f) k (vs.map f) := by
  simp [splice]

theorem fillL_run (m : Ren) (place : Nat → Option (Nat × Nat)) : ∀ (parts : List (Nat × Value)) (cells r : List Value), fillL place cells parts = some r →
    Instr.fill place (cells.map (ren m)).toArray (parts.map fun p => (p.1, ren m p.2)) = some (r.map (ren m)).toArray
  | [], cells, r, e => by simp only [fillL] at e; cases e; simp [Instr.fill]
  | (i, v) :: rest, cells, r, e => by
    simp only [fillL] at e
    simp only [List.map_cons, Instr.fill]
    cases hp : place i with
    | none => rw [hp] at e; cases e
    | some os =>
      obtain ⟨off, size⟩ := os
      rw [hp] at e
      simp only [] at e ⊢
      split at e
      · rename_i hc
        obtain ⟨h1, h2⟩ := hc
        have hsz : (ren m v).cells.size = size := by rw [ren_cells]; simpa using h1
        have hlen : (ren m v).cells.toList.length = size := by simpa using hsz
        rw [if_neg (by simp only [hsz]; simp; omega)]
        have hz : (ren m v).cells.zipIdx = ((ren m v).cells.toList.zipIdx 0).toArray := by apply Array.ext'; simp
        have := foldl_put (fun j => off + j) off (fun _ => rfl) (ren m v).cells.toList 0 (cells.map (ren m)) (by rw [hlen]; simp; omega)
        rw [hz, List.foldl_toArray, this, Nat.add_zero]
        have h4 : splice (cells.map (ren m)) off (ren m v).cells.toList = (splice cells off v.cells.toList).map (ren m) := by
          rw [splice_map, ren_cells]; simp
        rw [h4]
        exact fillL_run m place rest _ r e
      · cases e

theorem fillL_sc {n : Nat} (place : Nat → Option (Nat × Nat)) : ∀ (parts : List (Nat × Value)) (cells r : List Value), (∀ v ∈ cells, sc n v) → (∀ p ∈ parts, sc n p.2) → fillL place cells parts = some r → ∀ v ∈ r, sc n v
  | [], cells, r, hc, _, e => by simp only [fillL] at e; cases e; exact hc
  | (i, v) :: rest, cells, r, hc, hp, e => by
    simp only [fillL] at e
    split at e
    · cases e
    · split at e
      · refine fillL_sc place rest _ r ?_ (fun p hq => hp p (by simp [hq])) e
        intro u hu
        simp only [splice, List.mem_append] at hu
        rcases hu with (hu | hu) | hu
        · exact hc u (List.mem_of_mem_take hu)
        · exact sc_cells (hp (i, v) (by simp)) u (by simpa using hu)
        · exact hc u (List.mem_of_mem_drop hu)
      · cases e

/-- Where the parts of a struct, or of an array, lie. -/
def placesOf (P : Program) (t : TypeId) : Option (Nat → Option (Nat × Nat)) :=
  match P.underlying t with
  | some (.struct fs) => if fs.all (fun f => (P.info? f.type).isSome) then some fun k => (fs[k]?).map fun f => (f.offset, P.cellsOf f.type) else none
  | some (.array _ e) => (P.info? e).map fun i => fun k => some (k * i.size, i.size)
  | _ => none
def abuild (P : Program) (t : TypeId) (parts : List (Nat × Value)) : Option Value :=
  (P.info? t).bind fun i => i.zero.bind fun z => if flat z then (placesOf P t).bind fun pl => (fillL pl z.cells.toList parts).map fun l => .agg l.toArray else none

theorem run_mapM_list {α β : Type} (w : World) (g : α → Sem β) (f : α → β) : ∀ (l : List α), (∀ x ∈ l, (g x).run P w = .ok (f x) w) → (l.mapM g).run P w = .ok (l.map f) w
  | [], _ => by simp
  | x :: l, hx => by
    simp only [List.mapM_cons, Sem.run_bind, hx x (by simp), Result.andThen_ok, run_mapM_list w g f l (fun y hy => hx y (by simp [hy]))]
    simp

theorem flat_cells_ren {z : Value} (hf : flat z = true) (m : Ren) : (z.cells.toList.map (ren m)).toArray = z.cells := by
  have := ren_cells m z
  rw [ren_flat m z hf] at this
  apply Array.ext'
  have h2 := congrArg Array.toList this
  simpa using h2.symm

theorem abuild_run {n : Nat} {t : TypeId} {parts : List (Nat × Value)} {v : Value} (m : Ren) (w : World) (hs : ∀ p ∈ parts, sc n p.2) (e : abuild P t parts = some v) :
    (Instr.build t (parts.map fun p => (p.1, ren m p.2)).toArray).run P w = .ok (ren m v) w ∧ sc n v := by
  obtain ⟨i, hi, e⟩ := Option.bind_eq_some_iff.1 e
  obtain ⟨z, hz, e⟩ := Option.bind_eq_some_iff.1 e
  split at e
  · rename_i hf
    obtain ⟨pl, hpl, e⟩ := Option.bind_eq_some_iff.1 e
    obtain ⟨l, hl, rfl⟩ := Option.map_eq_some_iff.1 e
    have hfill := fillL_run m pl parts _ _ hl
    rw [flat_cells_ren hf m] at hfill
    refine ⟨?_, ?_⟩
    · unfold placesOf at hpl
      split at hpl
      · rename_i fs hu
        split at hpl
        · rename_i hall
          cases hpl
          have hmap : (fs.mapM (fun f => do pure (f.offset, ← sizeOf f.type) : Field → Sem (Nat × Nat))).run P w = .ok (fs.map fun f => (f.offset, P.cellsOf f.type)) w := by
            rw [Array.mapM_eq_mapM_toList, Sem.run_map, run_mapM_list w _ (fun f => (f.offset, P.cellsOf f.type))]
            · simp only [Result.andThen_ok]
              congr 1
              apply Array.ext'
              simp
            · intro f hf'
              have := Array.all_eq_true_iff_forall_mem.1 hall f (by simpa using hf')
              obtain ⟨fi, hfi⟩ := Option.isSome_iff_exists.1 this
              simp [run_sizeOf' hfi, Program.cellsOf, hfi]
          simp only [Instr.build, Sem.run_bind, run_zeroValue' hi hz w, Result.andThen_ok, run_underlying hu, hmap]
          have hpl' : (fun (k : Nat) => (fs.map fun (f : Field) => (f.offset, P.cellsOf f.type))[k]?) = fun (k : Nat) => (fs[k]?).map fun (f : Field) => (f.offset, P.cellsOf f.type) := by
            funext k; simp
          rw [hpl', hfill]
          simp [ren, renA, renL_map]
        · cases hpl
      · rename_i n' e' hu
        obtain ⟨ei, hei, rfl⟩ := Option.map_eq_some_iff.1 hpl
        simp only [Instr.build, Sem.run_bind, run_zeroValue' hi hz w, Result.andThen_ok, run_underlying hu, run_sizeOf' hei]
        rw [hfill]
        simp [ren, renA, renL_map]
      · cases hpl
    · simp only [sc, scA, scL_all]
      exact fillL_sc pl parts _ _ (fun u hu => sc_cells (sc_flat n z hf) u (by simpa using hu)) hs hl
  · cases e
end
end Go.Mini
