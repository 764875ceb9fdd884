/-
  MINI, part F: what makes and fills slices.
-/
import Derived.Test.YtbcdlipddmoobaaMiniE
namespace Go.Mini
open Go.Lib (strCells strCells_length strCells_oneCell)

theorem strCells_flat (s : ByteArray) (m : Ren) : (strCells s).map (ren m) = strCells s := by
  unfold strCells
  rw [List.map_map]
  apply List.map_congr_left
  intro b _
  simp [ren]
theorem strCells_sc (s : ByteArray) (n : Nat) : ∀ v ∈ strCells s, sc n v := by
  intro v hv
  simp only [strCells, List.mem_map] at hv
  obtain ⟨b, _, rfl⟩ := hv
  simp [sc]

def alenOf : Value → Option Nat
  | .slice _ l _ => some l
  | .string s => some s.size
  | _ => none
/-- The first n elements of a slice, or bytes of a string. -/
def afirst (h : Heap) (size n : Nat) : Value → Option (List Value)
  | .slice none _ _ => some []
  | .slice (some ⟨i, k, _⟩) _ _ => h.lds i k (n * size)
  | .string s => some ((strCells s).take n)
  | _ => none

section
variable {P : Program} {S : Start} {m : Ren} {h : Heap} {w : World}

theorem alenOf_run {x : Value} {n : Nat} (e : alenOf x = some n) : (Builtin.lenOf (ren m x)).run P w = .ok n w := by
  unfold alenOf at e
  split at e
  · rename_i a l c; cases e; cases a <;> simp [ren, Builtin.lenOf]
  · cases e; simp [ren, Builtin.lenOf]
  · cases e
theorem afirst_run (hr : HRel P S m h w) {size n : Nat} {x : Value} {cs : List Value} (e : afirst h size n x = some cs) :
    (Builtin.firstCells size n (ren m x)).run P w = .ok (cs.map (ren m)).toArray w ∧ ∀ v ∈ cs, sc h.next v := by
  unfold afirst at e
  split at e
  · cases e; simp [ren, Builtin.firstCells]
  · obtain ⟨h1, h2, _⟩ := hr.lds_run e
    exact ⟨by simpa [ren, Builtin.firstCells] using h1, h2⟩
  · rename_i s
    cases e
    refine ⟨?_, fun v hv => strCells_sc s h.next v (List.mem_of_mem_take hv)⟩
    rw [List.map_take, strCells_flat]
    simp only [ren, Builtin.firstCells, Sem.run_pure]
    congr 1
    apply Array.ext'
    simp [strCells]
  · cases e

/-! ### make -/
def amake (P : Program) (h : Heap) (t : TypeId) (len cap : Value) : Option (Value × Heap) :=
  match P.underlying t, len, cap with
  | some (.slice e), .int _ l, .int _ c =>
    (P.info? e).bind fun i => i.zero.bind fun z =>
      if flat z ∧ 0 ≤ l ∧ l ≤ c ∧ (i.bytes : Int) * c ≤ 281474976710656 ∧ c ≤ 281474976710656 then
        some (.slice (some ⟨h.next, 0, none⟩) l.toNat c.toNat, h.alloc (.row { vs := (madeCells z.cells (c.toNat * i.size)).toList, elem := e }))
      else none
  | _, _, _ => none

theorem madeCells_flat {z : Value} (hf : flat z = true) (n : Nat) : ∀ v ∈ (madeCells z.cells n).toList, flat v = true := by
  intro v hv
  simp only [madeCells, Array.toList_map, List.mem_map] at hv
  obtain ⟨j, _, rfl⟩ := hv
  have hall : ∀ c ∈ z.cells, flat c = true := by
    cases z <;> simp only [Value.cells] at *
    case agg cs => simpa [flat, flatA_all] using hf
    all_goals (intro c hc; simp only [List.mem_toArray, List.mem_singleton] at hc; subst hc; exact hf)
  by_cases hj : j % z.cells.size < z.cells.size
  · rw [getElem!_pos z.cells _ hj]; exact hall _ (Array.getElem_mem hj)
  · rw [getElem!_neg z.cells _ hj]; rfl
theorem flat_map_ren {l : List Value} (hl : ∀ v ∈ l, flat v = true) (m : Ren) : l.map (ren m) = l := by
  conv => rhs; rw [← List.map_id l]
  exact List.map_congr_left fun v hv => ren_flat m v (hl v hv)

theorem amake_run (hr : HRel P S m h w) {t : TypeId} {len cap v : Value} {h' : Heap} (e : amake P h t len cap = some (v, h')) :
    Goes P S m h w (Instr.makeSlice t (ren m len) (ren m cap)) v h' := by
  unfold amake at e
  split at e
  · rename_i el kl l kc c hu
    obtain ⟨i, hi, e⟩ := Option.bind_eq_some_iff.1 e
    obtain ⟨z, hz, e⟩ := Option.bind_eq_some_iff.1 e
    split at e
    · rename_i hc
      obtain ⟨hf, h0, hlc, hb, hb2⟩ := hc
      simp only [Option.some.injEq, Prod.mk.injEq] at e
      obtain ⟨rfl, rfl⟩ := e
      have hrun := run_make (P := P) w t el i z hu hi hz kl kc l c h0 hlc hb (by omega)
      have hfl := madeCells_flat hf (c.toNat * i.size)
      have := hr.allocRow (t := el) (vs := (madeCells z.cells (c.toNat * i.size)).toList) (fun v hv => sc_flat _ v (hfl v hv))
      rw [flat_map_ren hfl] at this
      refine ⟨_, _, Ren.agree_put m _ _ _ _ _ (Nat.le_refl _), ?_, this, by simp [sc], by simp⟩
      simp only [ren, hrun, Ren.put_blk, Ren.put_sh, Ren.put_ext]
      simp
    · cases e
  · cases e

/-! ### slices written out -/
def abuildSlice (P : Program) (h : Heap) (t : TypeId) (len : Nat) (parts : List (Nat × Value)) : Option (Value × Heap) :=
  match P.underlying t with
  | some (.slice e) =>
    (P.info? e).bind fun i => i.zero.bind fun z =>
      if flat z ∧ len * i.size ≤ 16777216 then
        (fillL (fun k => some (k * i.size, i.size)) (madeCells z.cells (len * i.size)).toList parts).bind fun cs => some (.slice (some ⟨h.next, 0, none⟩) len len, h.alloc (.row { vs := cs, elem := e }))
      else none
  | _ => none
theorem abuildSlice_run (hr : HRel P S m h w) {t : TypeId} {len : Nat} {parts : List (Nat × Value)} {v : Value} {h' : Heap} (hs : ∀ p ∈ parts, sc h.next p.2) (e : abuildSlice P h t len parts = some (v, h')) :
    Goes P S m h w (Instr.buildSlice t len (parts.map fun p => (p.1, ren m p.2)).toArray) v h' := by
  unfold abuildSlice at e
  split at e
  · rename_i el hu
    obtain ⟨i, hi, e⟩ := Option.bind_eq_some_iff.1 e
    obtain ⟨z, hz, e⟩ := Option.bind_eq_some_iff.1 e
    split at e
    · rename_i hc
      obtain ⟨hf, hb⟩ := hc
      obtain ⟨cs, hcs, e⟩ := Option.bind_eq_some_iff.1 e
      simp only [Option.some.injEq, Prod.mk.injEq] at e
      obtain ⟨rfl, rfl⟩ := e
      have hfl := madeCells_flat hf (len * i.size)
      have hfill := fillL_run m _ parts _ _ hcs
      rw [flat_map_ren hfl] at hfill
      have hsc := fillL_sc _ parts _ _ (fun v hv => sc_flat h.next v (hfl v hv)) hs hcs
      have := hr.allocRow (t := el) (vs := cs) hsc
      refine ⟨_, _, Ren.agree_put m _ _ _ _ _ (Nat.le_refl _), ?_, this, by simp [sc], by simp⟩
      have hnb : ¬ 16777216 < len * i.size := by omega
      have hto : (madeCells z.cells (len * i.size)).toList.toArray = madeCells z.cells (len * i.size) := by simp
      rw [hto] at hfill
      have hz1 : Array.map (fun _ => (default : Value)) (Array.range (len * i.size)) = madeCells z.cells (len * i.size) ∨ len * i.size ≠ 0 := by
        by_cases h0 : len * i.size = 0
        · left; simp [h0, madeCells]
        · right; exact h0
      have hz2 : Array.map (fun x => z.cells[x % z.cells.size]!) (Array.range (len * i.size)) = madeCells z.cells (len * i.size) := by simp [madeCells]
      have hz3 : (zeroValue el).run P w = .ok z w := run_zeroValue' hi hz w
      simp only [ren, Ren.put_blk, Ren.put_sh, Ren.put_ext]
      simp [Instr.buildSlice, Sem.run_bind, run_underlying hu, run_sizeOf' hi, newRow, hnb, -World.alloc_eq]
      split
      · rename_i h0
        rw [hz1.resolve_right (by simpa using h0), hfill]
        simp [World.alloc, -World.alloc_eq]
      · rw [hz3, Result.andThen_ok, hz2, hfill]
        simp [World.alloc, -World.alloc_eq]
    · cases e
  · cases e

/-! ### append -/
def agrow (P : Program) (h : Heap) (e : TypeId) (need : Nat) (cs : List Value) (str : Bool) : Option (Value × Heap) :=
  (P.info? e).bind fun i => i.zero.bind fun z =>
    if need * i.bytes ≤ 140737488355328 ∧ need ≤ 140737488355328 ∧ z.cells.size = i.size ∧ cs.length = need * i.size then
      some (.slice (some ⟨h.next, 0, none⟩) need need, h.alloc (.row { vs := cs, elem := e, grown := true, str := str }))
    else none
/-- A slice's or a string's type. -/
def seqD : TypeDesc → Bool
  | .string | .slice _ => true
  | _ => false
def aappend (P : Program) (h : Heap) (st xt : TypeId) (s x : Value) : Option (Value × Heap) :=
  match P.underlying st, P.underlying xt with
  | some (.slice e), some xd =>
    (P.info? e).bind fun i => (alenOf x).bind fun n => (afirst h i.size n x).bind fun new =>
      if !seqD xd then none else
      match s with
      | .slice none l c => if l = 0 ∧ c = 0 then (if n = 0 then some (s, h) else agrow P h e n new false) else none
      | .slice (some ⟨b, k, sp⟩) l c =>
        if l + n ≤ c then
          if new = [] then some (.slice (some ⟨b, k, sp⟩) (l + n) c, h)
          else if new.all one then (h.sts b (k + l * i.size) new).map fun h' => (.slice (some ⟨b, k, sp⟩) (l + n) c, h') else none
        else (h.lds b k (l * i.size)).bind fun old => (h.row b).bind fun r =>
          if sp.isSome || !r.grown then agrow P h e (l + n) (old ++ new) false
          else if r.outer = false ∧ r.ro = false ∧ k + c * i.size ≤ r.vs.length ∧ P.cellsOf r.elem = i.size ∧ new.all one = true ∧ r.elem = e then agrow P (h.set b .dead) e (l + n) (old ++ new) r.str
          else none
      | _ => none
  | _, _ => none

/-- The new row of a grown slice. -/
theorem HRel.grow (hr : HRel P S m h w) {e : TypeId} {need : Nat} {cs : List Value} {str : Bool} {v : Value} {h' : Heap} (hs : ∀ c ∈ cs, sc h.next c) (eg : agrow P h e need cs str = some (v, h')) (more : Nat) (i : TypeInfo) (z : Value)
    (hi : P.info? e = some i) (hz : i.zero = some z) :
    HRel P S (m.put h.next w.heap.size 0 more) h' (w.alloc (.cells ((cs.map (ren m)).toArray ++ Builtin.zeroCells z.cells more) e)) ∧
      v = .slice (some ⟨h.next, 0, none⟩) need need ∧ h'.next = h.next + 1 ∧ need * i.bytes ≤ 140737488355328 ∧ need ≤ 140737488355328 := by
  unfold agrow at eg
  rw [hi] at eg
  simp only [Option.bind_some, hz] at eg
  split at eg
  · rename_i hc
    obtain ⟨h1, h2, h3, h4⟩ := hc
    simp only [Option.some.injEq, Prod.mk.injEq] at eg
    obtain ⟨rfl, rfl⟩ := eg
    refine ⟨?_, rfl, by simp, h1, h2⟩
    refine hr.alloc ?_
    have hag := Ren.agree_put m h.next w.heap.size 0 more h.next (Nat.le_refl _)
    refine ⟨fun v hv => sc_mono (by omega) v (hs v hv), (cs.map (ren m)).toArray ++ Builtin.zeroCells z.cells more, (0, 0), ?_, ?_, ?_, ?_, ?_, ?_, ?_, ?_⟩
    · show (w.heap.push _)[_]? = _
      rw [Ren.put_blk, Array.getElem?_push, if_pos rfl]
    · simp [Program.cellsOf, hi, Builtin.zeroCells, h3]
    · intro k v hk
      have hk' : cs[k]? = some v := hk
      simp only [Ren.put_sh, Nat.zero_add]
      have hlt : k < (cs.map (ren m)).toArray.size := by
        rcases Nat.lt_or_ge k cs.length with q | q
        · simpa using q
        · rw [List.getElem?_eq_none q] at hk'; cases hk'
      rw [Array.getElem?_append_left hlt]
      simp only [List.getElem?_toArray, List.getElem?_map, hk', Option.map_some]
      rw [ren_congr hag v (hs v (List.mem_of_getElem? hk'))]
    · intro _; simp only [Ren.put_blk]; exact hr.size
    · intro q; cases q
    · intro _ _ k _; simp
    · intro _ _ _; rfl
    · intro q; cases q
  · cases eg

/-- A grown slice in the room that there is: its elder's block is its own now. -/
theorem HRel.growIn (hr : HRel P S m h w) {e : TypeId} {need b k l c : Nat} {r : Row} {old new : List Value} {v : Value} {h' : Heap} {i : TypeInfo} (hi : P.info? e = some i)
    (hrow : h.get b = some (.row r)) (hown : r.outer = false) (hro : r.ro = false) (hkc : k + c * i.size ≤ r.vs.length) (hcell : P.cellsOf r.elem = i.size) (hre : r.elem = e)
    (hold : h.lds b k (l * i.size) = some old) (hn : new.length + l * i.size = need * i.size) (hone : new.all one = true) (hs : ∀ v ∈ new, sc h.next v) (hroom : need ≤ c + m.ext b)
    (eg : agrow P (h.set b .dead) e need (old ++ new) r.str = some (v, h')) :
    ∃ w', (storeCells ⟨m.blk b, k + m.sh b + l * i.size, none⟩ (new.map (ren m)) 0).run P w = .ok () w' ∧
      HRel P S (m.put h.next (m.blk b) (k + m.sh b) (c + m.ext b - need)) h' w' ∧ v = .slice (some ⟨h.next, 0, none⟩) need need ∧ h'.next = h.next + 1 := by
  obtain ⟨hrs, cc, fz, hc, hsz, hcs, h1, h2, h3, h4, h5⟩ := hr.obj b _ hrow
  have hro' := h3 hown hro
  rw [hcell] at hsz
  have hmul : (c + m.ext b) * i.size = c * i.size + m.ext b * i.size := Nat.add_mul _ _ _
  have hmul2 : need * i.size ≤ (c + m.ext b) * i.size := Nat.mul_le_mul_right _ hroom
  obtain ⟨w', c', hrun, hws, hio, hoth, hb, hcsz, hko, hki⟩ := run_storeCells_gen P (m.blk b) (k + m.sh b + l * i.size) r.elem fz (new.map (ren m)) 0 cc w hc (by simp; omega) hro'
    (by intro v hv; obtain ⟨u, hu, rfl⟩ := List.mem_map.1 hv; rw [one_ren]; exact (List.all_eq_true.1 hone) u hu)
  unfold agrow at eg
  rw [hi] at eg
  simp only [Option.bind_some] at eg
  obtain ⟨z, hz, eg⟩ := Option.bind_eq_some_iff.1 eg
  split at eg
  · rename_i hcnd
    simp only [Option.some.injEq, Prod.mk.injEq, Heap.next_set] at eg
    obtain ⟨rfl, rfl⟩ := eg
    refine ⟨w', hrun, ?_, rfl, by simp⟩
    have hk := hr.kill hrow
    have hbase : S.base ≤ m.blk b := h1 hown
    have hold' := hold
    unfold Heap.lds at hold'
    obtain ⟨r2, hr2, hv2⟩ := Option.bind_eq_some_iff.1 hold'
    have er : r2 = r := by
      have := Heap.row_some.1 hr2
      rw [hrow] at this
      cases this; rfl
    subst er
    split at hv2
    case isFalse => cases hv2
    rename_i hle
    cases hv2
    have hag := Ren.agree_put m h.next (m.blk b) (k + m.sh b) (c + m.ext b - need) h.next (Nat.le_refl _)
    have hnx : (h.set b .dead).next = h.next := by simp
    have := hk.newOn (w' := w') (o := .row { vs := (r2.vs.drop k).take (l * i.size) ++ new, elem := e, grown := true, str := r2.str }) (B := m.blk b) (s := k + m.sh b) (e := c + m.ext b - need) hbase ?_ ?_ ?_ hio ?_ ?_
    · rw [hnx] at this; exact this
    · intro bb x hne hx
      rw [hoth bb hne]; exact hx
    · intro bb hbb
      rw [hoth bb (by omega)]
    · omega
    · intro j p hj hpo
      rw [Heap.get_set h b .dead j (by simp [hrow])] at hj
      split at hj
      · cases hj; simp [AObj.own] at hpo
      · rename_i hne
        exact hr.apart j b p _ hne hj hrow hpo (by simp [AObj.own, hown])
    · rw [hnx]
      have hlen : ((r2.vs.drop k).take (l * i.size)).length = l * i.size := by simp; omega
      refine ⟨?_, c', fz, ?_, ?_, ?_, ?_, ?_, ?_, ?_, ?_⟩
      · intro v hv
        rcases List.mem_append.1 hv with hv | hv
        · exact sc_mono (by omega) v (hrs v (List.mem_of_mem_drop (List.mem_of_mem_take hv)))
        · exact sc_mono (by omega) v (hs v hv)
      · rw [Ren.put_blk, hb, hre]
      · simp only [Ren.put_sh, Ren.put_ext, List.length_append, hlen, hcsz]
        have hcell' : P.cellsOf e = i.size := by rw [← hre]; exact hcell
        rw [hcell']
        have : (c + m.ext b - need) * i.size = (c + m.ext b) * i.size - need * i.size := Nat.sub_mul _ _ _
        omega
      · intro j v hj
        simp only [Ren.put_sh]
        simp only [List.length_map, Nat.add_zero] at hko hki
        have hj' : ((r2.vs.drop k).take (l * i.size) ++ new)[j]? = some v := hj
        by_cases q : j < l * i.size
        · rw [List.getElem?_append_left (by rw [hlen]; exact q), List.getElem?_take_of_lt q, List.getElem?_drop] at hj'
          rw [hko _ (by omega), show k + m.sh b + j = m.sh b + (k + j) by omega, hcs _ _ hj', ren_congr hag v (hrs v (List.mem_of_getElem? hj'))]
        · rw [List.getElem?_append_right (by rw [hlen]; omega), hlen] at hj'
          have := hki (j - l * i.size) (ren m v) (by rw [List.getElem?_map, hj']; rfl)
          rw [show k + m.sh b + l * i.size + (j - l * i.size) = k + m.sh b + j by omega] at this
          rw [this, ren_congr hag v (hs v (List.mem_of_getElem? hj'))]
      · intro _; rw [Ren.put_blk]; exact hbase
      · intro q; cases q
      · intro _ _ q; rw [hcsz]; exact hro' q
      · intro _ _ q; exact h4 hown hro q
      · intro q; cases q
  · cases eg
end
end Go.Mini
