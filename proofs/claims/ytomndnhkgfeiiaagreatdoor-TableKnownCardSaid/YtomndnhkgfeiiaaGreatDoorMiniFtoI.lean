/-
  Parts MiniF to MiniI.
-/
import Derived.Test.YtomndnhkgfeiiaaGreatDoorMiniAtoE
import Derived.MapKept
import Derived.Lib.Builder
import Derived.Lib.UnsafeStr
import Derived.Laws.StandIn
import Derived.Lib.IndexEntry
section
/-
  MINI, part F: what makes and fills slices.
-/
namespace Go.Mini
open Go.Lib (strCells strCells_length strCells_oneCell)

theorem strCells_flat (s : ByteArray) (m : Ren) : (strCells s).map (ren m) = strCells s := by
  unfold strCells
  rw [List.map_map]
  apply List.map_congr_left
  intro b _
  simp [ren]
theorem strCells_sc (s : ByteArray) (n : Nat) : ∀ v ∈ strCells s, sc n v := by
  intro v hv
  simp only [strCells, List.mem_map] at hv
  obtain ⟨b, _, rfl⟩ := hv
  simp [sc]

def alenOf : Value → Option Nat
  | .slice _ l _ => some l
  | .string s => some s.size
  | .chan (some _) => some 0
  | _ => none
/-- The first n elements of a slice, or bytes of a string. -/
def afirst (h : Heap) (size n : Nat) : Value → Option (List Value)
  | .slice none _ _ => some []
  | .slice (some ⟨i, k, _⟩) _ _ => h.lds i k (n * size)
  | .string s => some ((strCells s).take n)
  | .chan (some _) => if n = 0 then some [] else none
  | _ => none

section
variable {P : Program} {S : Start} {m : Ren} {h : Heap} {w : World}

theorem alenOf_run {x : Value} {n : Nat} (e : alenOf x = some n) : (Builtin.lenOf (ren m x)).run P w = .ok n w := by
  unfold alenOf at e
  split at e
  · rename_i a l c; cases e; cases a <;> simp [ren, Builtin.lenOf]
  · cases e; simp [ren, Builtin.lenOf]
  · rename_i r; cases e; rw [ren]; cases farAddr r <;> simp [Builtin.lenOf]
  · cases e
theorem afirst_run (hr : HRel P S m h w) {size n : Nat} {x : Value} {cs : List Value} (e : afirst h size n x = some cs) :
    (Builtin.firstCells size n (ren m x)).run P w = .ok (cs.map (ren m)).toArray w ∧ ∀ v ∈ cs, sc h.next v := by
  unfold afirst at e
  split at e
  · cases e; simp [ren, Builtin.firstCells]
  · obtain ⟨h1, h2, _⟩ := hr.lds_run e
    exact ⟨by simpa [ren, Builtin.firstCells] using h1, h2⟩
  · rename_i s
    cases e
    refine ⟨?_, fun v hv => strCells_sc s h.next v (List.mem_of_mem_take hv)⟩
    rw [List.map_take, strCells_flat]
    simp only [ren, Builtin.firstCells, Sem.run_pure]
    congr 1
    apply Array.ext'
    simp [strCells]
  · rename_i r
    split at e
    · rename_i hn
      cases e
      subst hn
      rw [ren]
      cases farAddr r <;> simp [Builtin.firstCells, loadCells, loadCellsFrom]
    · cases e
  · cases e

/-! ### make -/
def amake (P : Program) (h : Heap) (t : TypeId) (len cap : Value) : Option (Value × Heap) :=
  match P.underlying t, len, cap with
  | some (.slice e), .int _ l, .int _ c =>
    (P.info? e).bind fun i => i.zero.bind fun z =>
      if flat z ∧ 0 ≤ l ∧ l ≤ c ∧ (i.bytes : Int) * c ≤ 281474976710656 ∧ c ≤ 281474976710656 then
        some (.slice (some ⟨h.next, 0, none⟩) l.toNat c.toNat, h.alloc (.row { vs := (madeCells z.cells (c.toNat * i.size)).toList, elem := e }))
      else none
  | _, _, _ => none

theorem madeCells_flat {z : Value} (hf : flat z = true) (n : Nat) : ∀ v ∈ (madeCells z.cells n).toList, flat v = true := by
  intro v hv
  simp only [madeCells, Array.toList_map, List.mem_map] at hv
  obtain ⟨j, _, rfl⟩ := hv
  have hall : ∀ c ∈ z.cells, flat c = true := by
    cases z <;> simp only [Value.cells] at *
    case agg cs => simpa [flat, flatA_all] using hf
    all_goals (intro c hc; simp only [List.mem_toArray, List.mem_singleton] at hc; subst hc; exact hf)
  by_cases hj : j % z.cells.size < z.cells.size
  · rw [getElem!_pos z.cells _ hj]; exact hall _ (Array.getElem_mem hj)
  · rw [getElem!_neg z.cells _ hj]; rfl
theorem flat_map_ren {l : List Value} (hl : ∀ v ∈ l, flat v = true) (m : Ren) : l.map (ren m) = l := by
  conv => rhs; rw [← List.map_id l]
  exact List.map_congr_left fun v hv => ren_flat m v (hl v hv)

theorem amake_run (hr : HRel P S m h w) {t : TypeId} {len cap v : Value} {h' : Heap} (e : amake P h t len cap = some (v, h')) :
    Goes P S m h w (Instr.makeSlice t (ren m len) (ren m cap)) v h' := by
  unfold amake at e
  split at e
  · rename_i el kl l kc c hu
    obtain ⟨i, hi, e⟩ := Option.bind_eq_some_iff.1 e
    obtain ⟨z, hz, e⟩ := Option.bind_eq_some_iff.1 e
    split at e
    · rename_i hc
      obtain ⟨hf, h0, hlc, hb, hb2⟩ := hc
      simp only [Option.some.injEq, Prod.mk.injEq] at e
      obtain ⟨rfl, rfl⟩ := e
      have hrun := run_make (P := P) w t el i z hu hi hz kl kc l c h0 hlc hb (by omega)
      have hfl := madeCells_flat hf (c.toNat * i.size)
      have := hr.allocRow (t := el) (vs := (madeCells z.cells (c.toNat * i.size)).toList) (fun v hv => sc_flat _ v (hfl v hv))
      rw [flat_map_ren hfl] at this
      refine ⟨_, _, Ren.agree_put m _ _ _ _ _ (Nat.le_refl _), ?_, this, by simp [sc], by simp⟩
      simp only [ren, hrun, Ren.put_blk, Ren.put_sh, Ren.put_ext]
      simp
    · cases e
  · cases e

/-! ### slices written out -/
def abuildSlice (P : Program) (h : Heap) (t : TypeId) (len : Nat) (parts : List (Nat × Value)) : Option (Value × Heap) :=
  match P.underlying t with
  | some (.slice e) =>
    (P.info? e).bind fun i => i.zero.bind fun z =>
      if flat z ∧ len * i.size ≤ 16777216 then
        (fillL (fun k => some (k * i.size, i.size)) (madeCells z.cells (len * i.size)).toList parts).bind fun cs => some (.slice (some ⟨h.next, 0, none⟩) len len, h.alloc (.row { vs := cs, elem := e }))
      else none
  | _ => none
theorem abuildSlice_run (hr : HRel P S m h w) {t : TypeId} {len : Nat} {parts : List (Nat × Value)} {v : Value} {h' : Heap} (hs : ∀ p ∈ parts, sc h.next p.2) (e : abuildSlice P h t len parts = some (v, h')) :
    Goes P S m h w (Instr.buildSlice t len (parts.map fun p => (p.1, ren m p.2)).toArray) v h' := by
  unfold abuildSlice at e
  split at e
  · rename_i el hu
    obtain ⟨i, hi, e⟩ := Option.bind_eq_some_iff.1 e
    obtain ⟨z, hz, e⟩ := Option.bind_eq_some_iff.1 e
    split at e
    · rename_i hc
      obtain ⟨hf, hb⟩ := hc
      obtain ⟨cs, hcs, e⟩ := Option.bind_eq_some_iff.1 e
      simp only [Option.some.injEq, Prod.mk.injEq] at e
      obtain ⟨rfl, rfl⟩ := e
      have hfl := madeCells_flat hf (len * i.size)
      have hfill := fillL_run m _ parts _ _ hcs
      rw [flat_map_ren hfl] at hfill
      have hsc := fillL_sc _ parts _ _ (fun v hv => sc_flat h.next v (hfl v hv)) hs hcs
      have := hr.allocRow (t := el) (vs := cs) hsc
      refine ⟨_, _, Ren.agree_put m _ _ _ _ _ (Nat.le_refl _), ?_, this, by simp [sc], by simp⟩
      have hnb : ¬ 16777216 < len * i.size := by omega
      have hto : (madeCells z.cells (len * i.size)).toList.toArray = madeCells z.cells (len * i.size) := by simp
      rw [hto] at hfill
      have hz1 : Array.map (fun _ => (default : Value)) (Array.range (len * i.size)) = madeCells z.cells (len * i.size) ∨ len * i.size ≠ 0 := by
        by_cases h0 : len * i.size = 0
        · left; simp [h0, madeCells]
        · right; exact h0
      have hz2 : Array.map (fun x => z.cells[x % z.cells.size]!) (Array.range (len * i.size)) = madeCells z.cells (len * i.size) := by simp [madeCells]
      have hz3 : (zeroValue el).run P w = .ok z w := run_zeroValue' hi hz w
      simp only [ren, Ren.put_blk, Ren.put_sh, Ren.put_ext]
      simp [Instr.buildSlice, Sem.run_bind, run_underlying hu, run_sizeOf' hi, newRow, hnb, -World.alloc_eq]
      split
      · rename_i h0
        rw [hz1.resolve_right (by simpa using h0), hfill]
        simp [World.alloc, -World.alloc_eq]
      · rw [hz3, Result.andThen_ok, hz2, hfill]
        simp [World.alloc, -World.alloc_eq]
    · cases e
  · cases e

/-! ### append -/
def agrow (P : Program) (h : Heap) (e : TypeId) (need : Nat) (cs : List Value) (str : Bool) : Option (Value × Heap) :=
  (P.info? e).bind fun i => i.zero.bind fun z =>
    if need * i.bytes ≤ 140737488355328 ∧ need ≤ 140737488355328 ∧ z.cells.size = i.size ∧ cs.length = need * i.size then
      some (.slice (some ⟨h.next, 0, none⟩) need need, h.alloc (.row { vs := cs, elem := e, grown := true, str := str }))
    else none
/-- A slice's or a string's type. -/
def seqD : TypeDesc → Bool
  | .string | .slice _ => true
  | _ => false
def aappend (P : Program) (h : Heap) (st xt : TypeId) (s x : Value) : Option (Value × Heap) :=
  match P.underlying st, P.underlying xt with
  | some (.slice e), some xd =>
    (P.info? e).bind fun i => (alenOf x).bind fun n => (afirst h i.size n x).bind fun new =>
      if !seqD xd then none else
      match s with
      | .slice none l c => if l = 0 ∧ c = 0 then (if n = 0 then some (s, h) else agrow P h e n new false) else none
      | .slice (some ⟨b, k, sp⟩) l c =>
        if l + n ≤ c then
          if new = [] then some (.slice (some ⟨b, k, sp⟩) (l + n) c, h)
          else if new.all one then (h.sts b (k + l * i.size) new).map fun h' => (.slice (some ⟨b, k, sp⟩) (l + n) c, h') else none
        else (h.lds b k (l * i.size)).bind fun old => (h.row b).bind fun r =>
          if sp.isSome || !r.grown then agrow P h e (l + n) (old ++ new) false
          else if r.outer = false ∧ r.ro = false ∧ k + c * i.size ≤ r.vs.length ∧ P.cellsOf r.elem = i.size ∧ new.all one = true ∧ r.elem = e then agrow P (h.set b .dead) e (l + n) (old ++ new) r.str
          else none
      | _ => none
  | _, _ => none

/-- The new row of a grown slice. -/
theorem HRel.grow (hr : HRel P S m h w) {e : TypeId} {need : Nat} {cs : List Value} {str : Bool} {v : Value} {h' : Heap} (hs : ∀ c ∈ cs, sc h.next c) (eg : agrow P h e need cs str = some (v, h')) (more : Nat) (i : TypeInfo) (z : Value)
    (hi : P.info? e = some i) (hz : i.zero = some z) :
    HRel P S (m.put h.next w.heap.size 0 more) h' (w.alloc (.cells ((cs.map (ren m)).toArray ++ Builtin.zeroCells z.cells more) e)) ∧
      v = .slice (some ⟨h.next, 0, none⟩) need need ∧ h'.next = h.next + 1 ∧ need * i.bytes ≤ 140737488355328 ∧ need ≤ 140737488355328 := by
  unfold agrow at eg
  rw [hi] at eg
  simp only [Option.bind_some, hz] at eg
  split at eg
  · rename_i hc
    obtain ⟨h1, h2, h3, h4⟩ := hc
    simp only [Option.some.injEq, Prod.mk.injEq] at eg
    obtain ⟨rfl, rfl⟩ := eg
    refine ⟨?_, rfl, by simp, h1, h2⟩
    refine hr.alloc ?_
    have hag := Ren.agree_put m h.next w.heap.size 0 more h.next (Nat.le_refl _)
    refine ⟨fun v hv => sc_mono (by omega) v (hs v hv), (cs.map (ren m)).toArray ++ Builtin.zeroCells z.cells more, (0, 0), ?_, ?_, ?_, ?_, ?_, ?_, ?_, ?_⟩
    · show (w.heap.push _)[_]? = _
      rw [Ren.put_blk, Array.getElem?_push, if_pos rfl]
    · simp [Program.cellsOf, hi, Builtin.zeroCells, h3]
    · intro k v hk
      have hk' : cs[k]? = some v := hk
      simp only [Ren.put_sh, Nat.zero_add]
      have hlt : k < (cs.map (ren m)).toArray.size := by
        rcases Nat.lt_or_ge k cs.length with q | q
        · simpa using q
        · rw [List.getElem?_eq_none q] at hk'; cases hk'
      rw [Array.getElem?_append_left hlt]
      simp only [List.getElem?_toArray, List.getElem?_map, hk', Option.map_some]
      rw [ren_congr hag v (hs v (List.mem_of_getElem? hk'))]
    · intro _; simp only [Ren.put_blk]; exact ⟨hr.size, fun q => by cases q⟩
    · intro q; cases q
    · intro _ _ k _; simp
    · intro _ _ _; rfl
    · intro q; cases q
  · cases eg

/-- A grown slice in the room that there is: its elder's block is its own now. -/
theorem HRel.growIn (hr : HRel P S m h w) {e : TypeId} {need b k l c : Nat} {r : Row} {old new : List Value} {v : Value} {h' : Heap} {i : TypeInfo} (hi : P.info? e = some i)
    (hrow : h.get b = some (.row r)) (hown : r.outer = false) (hro : r.ro = false) (hkc : k + c * i.size ≤ r.vs.length) (hcell : P.cellsOf r.elem = i.size) (hre : r.elem = e)
    (hold : h.lds b k (l * i.size) = some old) (hn : new.length + l * i.size = need * i.size) (hone : new.all one = true) (hs : ∀ v ∈ new, sc h.next v) (hroom : need ≤ c + m.ext b)
    (eg : agrow P (h.set b .dead) e need (old ++ new) r.str = some (v, h')) :
    ∃ w', (storeCells ⟨m.blk b, k + m.sh b + l * i.size, none⟩ (new.map (ren m)) 0).run P w = .ok () w' ∧
      HRel P S (m.put h.next (m.blk b) (k + m.sh b) (c + m.ext b - need)) h' w' ∧ v = .slice (some ⟨h.next, 0, none⟩) need need ∧ h'.next = h.next + 1 := by
  obtain ⟨hrs, cc, fz, hc, hsz, hcs, h1, h2, h3, h4, h5⟩ := hr.obj b _ hrow
  have hro' := h3 hown hro
  rw [hcell] at hsz
  have hmul : (c + m.ext b) * i.size = c * i.size + m.ext b * i.size := Nat.add_mul _ _ _
  have hmul2 : need * i.size ≤ (c + m.ext b) * i.size := Nat.mul_le_mul_right _ hroom
  obtain ⟨w', c', hrun, hws, hio, hoth, hb, hcsz, hko, hki⟩ := run_storeCells_gen P (m.blk b) (k + m.sh b + l * i.size) r.elem fz (new.map (ren m)) 0 cc w hc (by simp; omega) hro'
    (by intro v hv; obtain ⟨u, hu, rfl⟩ := List.mem_map.1 hv; rw [one_ren]; exact (List.all_eq_true.1 hone) u hu)
  unfold agrow at eg
  rw [hi] at eg
  simp only [Option.bind_some] at eg
  obtain ⟨z, hz, eg⟩ := Option.bind_eq_some_iff.1 eg
  split at eg
  · rename_i hcnd
    simp only [Option.some.injEq, Prod.mk.injEq, Heap.next_set] at eg
    obtain ⟨rfl, rfl⟩ := eg
    refine ⟨w', hrun, ?_, rfl, by simp⟩
    have hk := hr.kill hrow
    have hbase : S.base ≤ m.blk b := (h1 hown).1
    have hold' := hold
    unfold Heap.lds at hold'
    obtain ⟨r2, hr2, hv2⟩ := Option.bind_eq_some_iff.1 hold'
    have er : r2 = r := by
      have := Heap.row_some.1 hr2
      rw [hrow] at this
      cases this; rfl
    subst er
    split at hv2
    case isFalse => cases hv2
    rename_i hle
    cases hv2
    have hag := Ren.agree_put m h.next (m.blk b) (k + m.sh b) (c + m.ext b - need) h.next (Nat.le_refl _)
    have hnx : (h.set b .dead).next = h.next := by simp
    have := hk.newOn (w' := w') (o := .row { vs := (r2.vs.drop k).take (l * i.size) ++ new, elem := e, grown := true, str := r2.str }) (B := m.blk b) (s := k + m.sh b) (e := c + m.ext b - need) hbase ?_ ?_ ?_ hio ?_ ?_
    · rw [hnx] at this; exact this
    · intro bb x hne hx
      rw [hoth bb hne]; exact hx
    · intro bb hbb
      rw [hoth bb (by omega)]
    · omega
    · intro j p hj hpo
      rw [Heap.get_set h b .dead j (by simp [hrow])] at hj
      split at hj
      · cases hj; simp [AObj.own] at hpo
      · rename_i hne
        exact hr.apart j b p _ hne hj hrow hpo (by simp [AObj.own, hown])
    · rw [hnx]
      have hlen : ((r2.vs.drop k).take (l * i.size)).length = l * i.size := by simp; omega
      refine ⟨?_, c', fz, ?_, ?_, ?_, ?_, ?_, ?_, ?_, ?_⟩
      · intro v hv
        rcases List.mem_append.1 hv with hv | hv
        · exact sc_mono (by omega) v (hrs v (List.mem_of_mem_drop (List.mem_of_mem_take hv)))
        · exact sc_mono (by omega) v (hs v hv)
      · rw [Ren.put_blk, hb, hre]
      · simp only [Ren.put_sh, Ren.put_ext, List.length_append, hlen, hcsz]
        have hcell' : P.cellsOf e = i.size := by rw [← hre]; exact hcell
        rw [hcell']
        have : (c + m.ext b - need) * i.size = (c + m.ext b) * i.size - need * i.size := Nat.sub_mul _ _ _
        omega
      · intro j v hj
        simp only [Ren.put_sh]
        simp only [List.length_map, Nat.add_zero] at hko hki
        have hj' : ((r2.vs.drop k).take (l * i.size) ++ new)[j]? = some v := hj
        by_cases q : j < l * i.size
        · rw [List.getElem?_append_left (by rw [hlen]; exact q), List.getElem?_take_of_lt q, List.getElem?_drop] at hj'
          rw [hko _ (by omega), show k + m.sh b + j = m.sh b + (k + j) by omega, hcs _ _ hj', ren_congr hag v (hrs v (List.mem_of_getElem? hj'))]
        · rw [List.getElem?_append_right (by rw [hlen]; omega), hlen] at hj'
          have := hki (j - l * i.size) (ren m v) (by rw [List.getElem?_map, hj']; rfl)
          rw [show k + m.sh b + l * i.size + (j - l * i.size) = k + m.sh b + j by omega] at this
          rw [this, ren_congr hag v (hs v (List.mem_of_getElem? hj'))]
      · intro _; rw [Ren.put_blk]; exact ⟨hbase, fun q => by cases q⟩
      · intro q; cases q
      · intro _ _ q; rw [hcsz]; exact hro' q
      · intro _ _ q; exact h4 hown hro q
      · intro q; cases q
  · cases eg
end
end Go.Mini
end
section
/-
  MINI, part G: append, copy, clear, len, min, max; bytes and strings.
-/
namespace Go.Mini
open Go.Lib (strCells strCells_length strCells_oneCell)

section
variable {P : Program} {S : Start} {m : Ren} {h : Heap} {w : World}

theorem run_append_in {st xt ty e : TypeId} {xd : TypeDesc} {i : TypeInfo} {a : Addr} {l cap n : Nat} {x : Value} {new : Array Value} {w' : World}
    (hst : P.underlying st = some (.slice e)) (hxt : P.underlying xt = some xd) (hxd : seqD xd = true) (hi : P.info? e = some i)
    (hn : (Builtin.lenOf x).run P w = .ok n w) (hnew : (Builtin.firstCells i.size n x).run P w = .ok new w) (hle : l + n ≤ cap)
    (hrun : (storeCells (a.add (l * i.size)) new.toList 0).run P w = .ok () w') :
    (Builtin.append_ #[st, xt] ty #[.slice (some a) l cap, x]).run P w = .ok (.slice (some a) (l + n) cap) w' := by
  unfold Builtin.append_
  cases xd <;> first | (simp [seqD] at hxd; done) | (simp [run_underlying hst, run_underlying hxt, run_sizeOf' hi, hn, hnew, hle, hrun]; done)

theorem run_append_nothing {st xt ty e : TypeId} {xd : TypeDesc} {i : TypeInfo} {x : Value}
    (hst : P.underlying st = some (.slice e)) (hxt : P.underlying xt = some xd) (hxd : seqD xd = true) (hi : P.info? e = some i)
    (hn : (Builtin.lenOf x).run P w = .ok 0 w) (hnew : ∃ new, (Builtin.firstCells i.size 0 x).run P w = .ok new w) :
    (Builtin.append_ #[st, xt] ty #[.slice none 0 0, x]).run P w = .ok (.slice none 0 0) w := by
  obtain ⟨new, hnew⟩ := hnew
  unfold Builtin.append_
  cases xd <;> first | (simp [seqD] at hxd; done) | (simp [run_underlying hst, run_underlying hxt, run_sizeOf' hi, hn, hnew]; done)

theorem run_append_out {st xt ty e : TypeId} {xd : TypeDesc} {i : TypeInfo} {z : Value} {base : Option Addr} {l cap n : Nat} {x : Value} {old new : Array Value}
    (hst : P.underlying st = some (.slice e)) (hxt : P.underlying xt = some xd) (hxd : seqD xd = true) (hi : P.info? e = some i) (hz : i.zero = some z)
    (hn : (Builtin.lenOf x).run P w = .ok n w) (hnew : ∀ w', w'.heap = w.heap → Mini.io w' = Mini.io w → (Builtin.firstCells i.size n x).run P w' = .ok new w')
    (hold : ∀ w', w'.heap = w.heap → Mini.io w' = Mini.io w → (Builtin.firstCells i.size l (.slice base l cap)).run P w' = .ok old w') (hlt : cap < l + n) (hb : (l + n) * i.bytes ≤ 140737488355328) (hmx : l + n ≤ 140737488355328) :
    ∃ c w', l + n ≤ c ∧ (Builtin.append_ #[st, xt] ty #[.slice base l cap, x]).run P w = .ok (.slice (some ⟨w.heap.size, 0, none⟩) (l + n) c) w' ∧
      w'.heap = (w.alloc (.cells (old ++ new ++ Builtin.zeroCells z.cells (c - (l + n))) e)).heap ∧ Mini.io w' = Mini.io w := by
  refine ⟨grownCap w (l + n) cap e, { w.drew with heap := w.heap.push (.cells (old ++ new ++ Builtin.zeroCells z.cells (grownCap w (l + n) cap e - (l + n))) e) }, grownCap_ge _ _ _ _, ?_, rfl, rfl⟩
  have hnl : ¬ l + n ≤ cap := by omega
  have hmax : IntKind.i64.max = 9223372036854775807 := by decide
  have h1 : ¬ (((l + n : Nat) : Int) > IntKind.i64.max) := by rw [hmax]; omega
  have h2 : ¬ (Builtin.nextslicecap (l + n) cap * i.bytes > 2 ^ 48) := by
    have := nextslicecap_le hlt
    have h3 : Builtin.nextslicecap (l + n) cap * i.bytes ≤ 2 * (l + n) * i.bytes := Nat.mul_le_mul_right _ this
    have h4 : 2 * (l + n) * i.bytes = 2 * ((l + n) * i.bytes) := Nat.mul_assoc _ _ _
    omega
  have h2' : ¬ (281474976710656 < Builtin.nextslicecap (l + n) cap * i.bytes) := by simpa using h2
  have e1 := hold w.drew rfl rfl
  have e2 := hnew w.drew rfl rfl
  have hzz : (zeroValue e).run P w.drew = .ok z w.drew := run_zeroValue' hi hz _
  have hti : ∀ w0 : World, (typeInfo e).run P w0 = .ok i w0 := fun w0 => by simp [typeInfo, hi]
  have hq : (Question.appendCap (l + n) cap e).forced = false := rfl
  have h1' : ¬ (9223372036854775807 < (l : Int) + (n : Int)) := by omega
  unfold Builtin.append_
  cases xd <;> first
    | (simp [seqD] at hxd; done)
    | (simp [run_underlying hst, run_underlying hxt, run_sizeOf' hi, hn, hnl, hti, hq, h1', h2', e1, e2, hzz, newRow, grownCap, -World.alloc_eq]; rfl)

theorem cells_toList (l : List Value) (f : Value → Value) : ((l.map f).toArray).toList = l.map f := by simp

theorem afirst_run_any (hr : HRel P S m h w) {size n : Nat} {x : Value} {cs : List Value} (e : afirst h size n x = some cs) (w' : World) (he : w'.heap = w.heap) (hio : Mini.io w' = Mini.io w) :
    (Builtin.firstCells size n (ren m x)).run P w' = .ok (cs.map (ren m)).toArray w' := (afirst_run (hr.world he hio) e).1

theorem agrow_run (hr : HRel P S m h w) {st xt ty e : TypeId} {xd : TypeDesc} {i : TypeInfo} {z : Value} {base : Option Addr} {l cap n : Nat} {x v : Value} {cs new : List Value} {h' : Heap} {str : Bool}
    (hst : P.underlying st = some (.slice e)) (hxt : P.underlying xt = some xd) (hxd : seqD xd = true) (hi : P.info? e = some i) (hz : i.zero = some z)
    (hn : alenOf x = some n) (hnew : afirst h i.size n x = some new) (hsc : ∀ c ∈ cs, sc h.next c)
    (hold : ∀ w', w'.heap = w.heap → Mini.io w' = Mini.io w → (Builtin.firstCells i.size l (.slice base l cap)).run P w' = .ok (cs.map (ren m)).toArray w') (hlt : cap < l + n)
    (eg : agrow P h e (l + n) (cs ++ new) str = some (v, h')) :
    Goes P S m h w (Builtin.append_ #[st, xt] ty #[.slice base l cap, ren m x]) v h' := by
  have hsn := (afirst_run hr hnew).2
  have hs : ∀ c ∈ cs ++ new, sc h.next c := by
    intro c hc
    rcases List.mem_append.1 hc with hc | hc
    · exact hsc c hc
    · exact hsn c hc
  have hb := (hr.grow hs eg 0 i z hi hz).2.2.2
  obtain ⟨c, w', hc, hrun, hheap, hio⟩ := run_append_out (ty := ty) hst hxt hxd hi hz (alenOf_run hn) (afirst_run_any hr hnew) hold hlt hb.1 hb.2
  obtain ⟨h1, rfl, hnx, _⟩ := hr.grow hs eg (c - (l + n)) i z hi hz
  refine ⟨_, w', Ren.agree_put m _ _ _ _ _ (Nat.le_refl _), ?_, h1.world ?_ hio, by simp [sc, hnx], by omega⟩
  · rw [hrun]
    simp only [ren, Ren.put_blk, Ren.put_sh, Ren.put_ext, Option.isSome_none, Bool.false_eq_true, if_false]
    congr 2
    omega
  · rw [hheap, List.map_append, ← List.append_toArray]

theorem aappend_run (hr : HRel P S m h w) {st xt ty : TypeId} {s x v : Value} {h' : Heap} (hs : sc h.next s) (e : aappend P h st xt s x = some (v, h')) :
    Goes P S m h w (Builtin.append_ #[st, xt] ty #[ren m s, ren m x]) v h' := by
  unfold aappend at e
  split at e
  · rename_i el xd hst hxt
    obtain ⟨i, hi, e1⟩ := Option.bind_eq_some_iff.1 e
    clear e
    obtain ⟨n, hn, e2⟩ := Option.bind_eq_some_iff.1 e1
    clear e1
    obtain ⟨new, hnew, e⟩ := Option.bind_eq_some_iff.1 e2
    clear e2
    split at e
    · cases e
    rename_i hxd0
    have hxd : seqD xd = true := by simpa using hxd0
    obtain ⟨hfr, hsn⟩ := afirst_run hr hnew
    have hne : ∀ q : Option (Value × Heap), q = none → q = some (v, h') → False := fun q h1 h2 => by rw [h1] at h2; cases h2
    cases s with
    | slice a l c =>
     cases a with
     | none =>
      simp only [] at e
      split at e
      · rename_i hlc
        obtain ⟨rfl, rfl⟩ := hlc
        split at e
        · rename_i hn0
          subst hn0
          simp only [Option.some.injEq, Prod.mk.injEq] at e
          obtain ⟨rfl, rfl⟩ := e
          refine Goes.same hr ?_ hs
          simp only [ren]
          exact run_append_nothing hst hxt hxd hi (alenOf_run hn) ⟨_, hfr⟩
        · rename_i hn0
          have hz : ∃ z, i.zero = some z := by
            unfold agrow at e
            rw [hi] at e
            obtain ⟨z, hz, _⟩ := Option.bind_eq_some_iff.1 (by simpa using e)
            exact ⟨z, hz⟩
          obtain ⟨z, hz⟩ := hz
          have e' : agrow P h el (0 + n) ([] ++ new) false = some (v, h') := by simpa using e
          simp only [ren]
          exact agrow_run hr hst hxt hxd hi hz hn hnew (by simp) (fun w' _ _ => by simp [Builtin.firstCells]) (by omega) e'
      · cases e
     | some ad =>
      obtain ⟨b, k, sp⟩ := ad
      simp only [] at e
      have hb : b < h.next := by simpa [sc] using hs
      obtain ⟨cc, hcc⟩ : ∃ cc, cc = (if sp.isSome then c else c + m.ext b) := ⟨_, rfl⟩
      have hge : c ≤ cc := by rw [hcc]; split <;> omega
      split at e
      · rename_i hle
        split at e
        · rename_i hnil
          subst hnil
          simp only [Option.some.injEq, Prod.mk.injEq] at e
          obtain ⟨rfl, rfl⟩ := e
          refine Goes.same hr ?_ (by simpa [sc] using hb)
          simp only [ren, ← hcc]
          exact run_append_in hst hxt hxd hi (alenOf_run hn) hfr (by omega) (by simp [storeCells])
        · split at e
          · rename_i hone
            obtain ⟨h1, hsts, e⟩ := Option.map_eq_some_iff.1 e
            simp only [Prod.mk.injEq] at e
            obtain ⟨rfl, rfl⟩ := e
            obtain ⟨w', hrun, hr', hnx⟩ := hr.sts_run hsts (fun u hu => (List.all_eq_true.1 hone) u hu) hsn
            refine ⟨m, w', Ren.agree_refl _ _, ?_, hr', by simpa [sc, hnx] using hb, by omega⟩
            simp only [ren, ← hcc]
            refine run_append_in hst hxt hxd hi (alenOf_run hn) hfr (by omega) ?_
            rw [addr_add, cells_toList, show k + m.sh b + l * i.size = k + l * i.size + m.sh b by omega]
            exact hrun
          · cases e
      · rename_i hle
        obtain ⟨old, hold, e⟩ := Option.bind_eq_some_iff.1 e
        obtain ⟨r, hrow, e⟩ := Option.bind_eq_some_iff.1 e
        have hz : ∃ z, i.zero = some z := by
          split at e
          · unfold agrow at e
            rw [hi] at e
            obtain ⟨z, hz, _⟩ := Option.bind_eq_some_iff.1 (by simpa using e)
            exact ⟨z, hz⟩
          · split at e
            · unfold agrow at e
              rw [hi] at e
              obtain ⟨z, hz, _⟩ := Option.bind_eq_some_iff.1 (by simpa using e)
              exact ⟨z, hz⟩
            · cases e
        obtain ⟨z, hz⟩ := hz
        obtain ⟨hl1, hl2, hl3⟩ := hr.lds_run hold
        have hfold : ∀ cap w', w'.heap = w.heap → Mini.io w' = Mini.io w → (Builtin.firstCells i.size l (.slice (some ⟨m.blk b, k + m.sh b, none⟩) l cap)).run P w' = .ok (old.map (ren m)).toArray w' := by
          intro cap w' he hio
          simpa [Builtin.firstCells] using ((hr.world he hio).lds_run hold).1
        split at e
        · rename_i hsg
          have hext : cc = c := by
            rw [hcc]
            cases hsp : sp.isSome with
            | true => simp
            | false =>
              rw [hsp] at hsg
              simp only [Bool.false_or, Bool.not_eq_true'] at hsg
              obtain ⟨_, _, _, _, _, _, _, _, _, _, h5⟩ := hr.obj b _ (Heap.row_some.1 hrow)
              simp [h5 hsg]
          simp only [ren, ← hcc]
          exact agrow_run hr hst hxt hxd hi hz hn hnew hl2 (hfold cc) (by omega) e
        · rename_i hsg
          simp only [Bool.or_eq_true, Bool.not_eq_true', not_or, Bool.not_eq_true, Bool.not_eq_false] at hsg
          split at e
          · rename_i hcnd
            obtain ⟨ho, hro, hkc, hcell, hone, hre⟩ := hcnd
            have hsp : cc = c + m.ext b := by rw [hcc, hsg.1]; simp
            simp only [ren, ← hcc]
            by_cases hroom : l + n ≤ cc
            · have hnl : new.length + l * i.size = (l + n) * i.size := by
                unfold agrow at e
                rw [hi] at e
                simp only [Option.bind_some, hz] at e
                split at e
                · rename_i q
                  have := q.2.2.2
                  rw [List.length_append, hl3] at this
                  omega
                · cases e
              obtain ⟨w', hrun, hr', rfl, hnx⟩ := hr.growIn hi (Heap.row_some.1 hrow) ho hro hkc hcell hre hold hnl hone hsn (by omega) e
              refine ⟨_, w', Ren.agree_put m _ _ _ _ _ (Nat.le_refl _), ?_, hr', by simp [sc, hnx], by omega⟩
              have := run_append_in (ty := ty) (a := ⟨m.blk b, k + m.sh b, none⟩) (l := l) (cap := cc) (w' := w') hst hxt hxd hi (alenOf_run hn) hfr hroom (by rw [addr_add, cells_toList]; exact hrun)
              rw [this]
              simp only [ren, Ren.put_blk, Ren.put_sh, Ren.put_ext, Option.isSome_none, Bool.false_eq_true, if_false, Nat.zero_add]
              congr 2
              omega
            · have hk := hr.kill (Heap.row_some.1 hrow)
              have hgo : Goes P S m (h.set b .dead) w (Builtin.append_ #[st, xt] ty #[.slice (some ⟨m.blk b, k + m.sh b, none⟩) l cc, ren m x]) v h' := by
                have hs' : ∀ c ∈ old ++ new, sc (h.set b .dead).next c := by
                  intro c hc
                  simp only [Heap.next_set]
                  rcases List.mem_append.1 hc with hc | hc
                  · exact hl2 c hc
                  · exact hsn c hc
                have hbd := (hk.grow hs' e 0 i z hi hz).2.2.2
                obtain ⟨c', w', hc', hrun, hheap, hio⟩ := run_append_out (ty := ty) hst hxt hxd hi hz (alenOf_run hn) (afirst_run_any hr hnew) (hfold cc) (by omega) hbd.1 hbd.2
                obtain ⟨h1, rfl, hnx, _⟩ := hk.grow hs' e (c' - (l + n)) i z hi hz
                simp only [Heap.next_set] at h1 hnx
                refine ⟨_, w', Ren.agree_put m h.next _ _ _ _ (by simp), ?_, h1.world ?_ hio, by simp [sc, hnx], by simp [hnx]⟩
                · rw [hrun]
                  simp only [ren, Heap.next_set, Ren.put_blk, Ren.put_sh, Ren.put_ext, Option.isSome_none, Bool.false_eq_true, if_false]
                  congr 2
                  omega
                · rw [hheap, List.map_append, ← List.append_toArray]
              obtain ⟨m', w', g1, g2, g3, g4, g5⟩ := hgo
              exact ⟨m', w', by simpa using g1, g2, g3, g4, by simpa using g5⟩
          · cases e
    | _ => exact (hne _ rfl e).elim
  · cases e
end
end Go.Mini
end
section
/-
  MINI, part H: every operation.
-/
namespace Go.Mini
open Go.Lib (strCells strCells_length strCells_oneCell)

section
variable {P : Program} {S : Start} {m : Ren} {h : Heap} {w : World}

/-! ### copy -/
def acopy (P : Program) (h : Heap) (dt : TypeId) (dst src : Value) : Option (Value × Heap) :=
  match P.underlying dt, dst with
  | some (.slice e), .slice a dl _ =>
    (P.info? e).bind fun i => (alenOf src).bind fun sl => (afirst h i.size (min sl dl) src).bind fun new =>
      if new = [] then some (.int .i64 (min sl dl : Nat), h) else
      match a with
      | none => none
      | some ⟨b, k, _⟩ => if new.all one then (h.sts b k new).map fun h' => (.int .i64 (min sl dl : Nat), h') else none
  | _, _ => none
theorem acopy_run (hr : HRel P S m h w) {dt st ty : TypeId} {dst src v : Value} {h' : Heap} (e : acopy P h dt dst src = some (v, h')) :
    Goes P S m h w (Builtin.copy_ #[dt, st] ty #[ren m dst, ren m src]) v h' := by
  unfold acopy at e
  split at e
  · rename_i el a dl dc hu
    obtain ⟨i, hi, e1⟩ := Option.bind_eq_some_iff.1 e
    clear e
    obtain ⟨sl, hsl, e2⟩ := Option.bind_eq_some_iff.1 e1
    clear e1
    obtain ⟨new, hnew, e⟩ := Option.bind_eq_some_iff.1 e2
    clear e2
    obtain ⟨hfr, hsn⟩ := afirst_run hr hnew
    have hlen := alenOf_run (P := P) (w := w) (m := m) hsl
    have key : ∀ (base : Option Addr) (c : Nat), ren m (.slice a dl dc) = .slice base dl c → ∀ w', (∀ b, base = some b → (storeCells b (new.map (ren m)) 0).run P w = .ok () w') → (base = none → w' = w) →
        (Builtin.copy_ #[dt, st] ty #[ren m (.slice a dl dc), ren m src]).run P w = .ok (.int .i64 (min sl dl : Nat)) w' := by
      intro base c hb w' hst hnone
      rw [hb]
      unfold Builtin.copy_
      cases base with
      | none =>
        have := hnone rfl
        subst this
        simp [run_underlying hu, run_sizeOf' hi, hlen, Nat.min_def, goInt] at hfr ⊢
        simp [hfr]
      | some bb =>
        have := hst bb rfl
        simp [run_underlying hu, run_sizeOf' hi, hlen, Nat.min_def, goInt] at hfr ⊢
        simp [hfr, this]
    split at e
    · rename_i hnil
      subst hnil
      simp only [Option.some.injEq, Prod.mk.injEq] at e
      obtain ⟨rfl, rfl⟩ := e
      refine Goes.same hr ?_ (by simp [sc])
      cases a with
      | none => exact key none dc (by simp [ren]) w (fun b hb => by cases hb) (fun _ => rfl)
      | some ad => exact key (some ⟨m.blk ad.block, ad.off + m.sh ad.block, none⟩) (if ad.spot.isSome then dc else dc + m.ext ad.block) (by simp only [ren]) w (fun b hb => by simp [storeCells]) (fun hb => by cases hb)
    · cases a with
      | none => cases e
      | some ad =>
        obtain ⟨b, k, sp⟩ := ad
        simp only [] at e
        split at e
        · rename_i hone
          obtain ⟨h1, hsts, e1⟩ := Option.map_eq_some_iff.1 e
          simp only [Prod.mk.injEq] at e1
          obtain ⟨rfl, rfl⟩ := e1
          obtain ⟨w', hrun, hr', hnx⟩ := hr.sts_run hsts (fun u hu => (List.all_eq_true.1 hone) u hu) hsn
          refine ⟨m, w', Ren.agree_refl _ _, ?_, hr', by simp [sc], by omega⟩
          refine key (some ⟨m.blk b, k + m.sh b, none⟩) (if sp.isSome then dc else dc + m.ext b) (by simp only [ren]) w' (fun bb hb => ?_) (fun hb => by cases hb)
          cases hb
          exact hrun
        · cases e
  · cases e

/-! ### clear -/
/-- 'clear(x)' of a slice; what is known of its room beyond its end is not touched. -/
def aclear (P : Program) (h : Heap) (t : TypeId) (x : Value) : Option Heap :=
  match P.underlying t, x with
  | some (.slice _), .slice none _ _ => some h
  | some (.slice e), .slice (some ⟨b, k, _⟩) n _ =>
    match n with
    | 0 => some h
    | n + 1 => (P.info? e).bind fun i => i.zero.bind fun z =>
      if flat z = true ∧ (Builtin.zeroCells z.cells (n + 1)).toList.all one = true then h.sts b k (Builtin.zeroCells z.cells (n + 1)).toList else none
  | _, _ => none
theorem zeroCells_flat {z : Value} (hf : flat z = true) (n : Nat) : ∀ v ∈ (Builtin.zeroCells z.cells n).toList, flat v = true := by
  intro v hv
  simp only [Builtin.zeroCells, Array.toList_map, List.mem_map] at hv
  obtain ⟨j, _, rfl⟩ := hv
  have hall : ∀ c ∈ z.cells, flat c = true := by
    cases z <;> simp only [Value.cells] at *
    case agg cs => simpa [flat, flatA_all] using hf
    all_goals (intro c hc; simp only [List.mem_toArray, List.mem_singleton] at hc; subst hc; exact hf)
  by_cases hj : j % z.cells.size < z.cells.size
  · rw [getElem!_pos z.cells _ hj]; exact hall _ (Array.getElem_mem hj)
  · rw [getElem!_neg z.cells _ hj]; rfl
theorem aclear_run (hr : HRel P S m h w) {t ty : TypeId} {x : Value} {h' : Heap} (e : aclear P h t x = some h') : Goes P S m h w (Builtin.clear_ #[t] ty #[ren m x]) (.tuple #[]) h' := by
  unfold aclear at e
  split at e
  · rename_i el l c hu
    cases e
    exact Goes.same hr (by unfold Builtin.clear_; simp [run_underlying hu, ren, renA, renL]) (by simp [sc, scA, scL])
  · rename_i el b k sp n c hu
    split at e
    · cases e
      exact Goes.same hr (by unfold Builtin.clear_; simp [run_underlying hu, ren, renA, renL]) (by simp [sc, scA, scL])
    · rename_i n
      obtain ⟨i, hi, e⟩ := Option.bind_eq_some_iff.1 e
      obtain ⟨z, hz, e⟩ := Option.bind_eq_some_iff.1 e
      split at e
      · rename_i hc
        have hfl := zeroCells_flat hc.1 (n + 1)
        obtain ⟨w', hrun, hr', hnx⟩ := hr.sts_run e (fun u hu => (List.all_eq_true.1 hc.2) u hu) (fun v hv => sc_flat _ v (hfl v hv))
        have hid : (Builtin.zeroCells z.cells (n + 1)).toList.map (ren m) = (Builtin.zeroCells z.cells (n + 1)).toList := flat_map_ren hfl m
        rw [hid] at hrun
        refine ⟨m, w', Ren.agree_refl _ _, ?_, hr', by simp [sc, scA, scL], by omega⟩
        unfold Builtin.clear_
        simp [run_underlying hu, ren, renA, renL, run_zeroValue' hi hz, hrun]
      · cases e
  · cases e

/-! ### bytes and strings -/
def bytesOf : List Value → Option (List Int)
  | [] => some []
  | .int .u8 n :: l => (bytesOf l).map (n :: ·)
  | _ :: _ => none
theorem bytesOf_some : ∀ {l : List Value} {ns : List Int}, bytesOf l = some ns → l = ns.map (Value.int .u8)
  | [], ns, e => by simp only [bytesOf] at e; cases e; rfl
  | v :: l, ns, e => by
    unfold bytesOf at e
    split at e
    · cases ‹_ :: _ = []›
    · rename_i n l' q
      cases q
      obtain ⟨ms, hm, rfl⟩ := Option.map_eq_some_iff.1 e
      rw [bytesOf_some hm]; rfl
    · cases e
theorem bytesOf_map (ns : List Int) : bytesOf (ns.map (Value.int .u8)) = some ns := by
  induction ns with
  | nil => rfl
  | cons n ns ih => simp [bytesOf, ih]

/-- '[]byte(s)', 'string(b)'. -/
def aconvB (P : Program) (h : Heap) (src dst : TypeId) (x : Value) : Option (Value × Heap) :=
  match P.underlying src, P.underlying dst, x with
  | some .string, some (.slice e), .string s =>
    match P.underlying e with
    | some (.int .u8) => if P.cellsOf e = 1 then some (.slice (some ⟨h.next, 0, none⟩) s.size s.size, h.alloc (.row { vs := strCells s, elem := e, grown := true, str := true })) else none
    | _ => none
  | some (.slice e), some .string, .slice a l _ =>
    match P.underlying e with
    | some (.int .u8) =>
      match a with
      | none => some (.string .empty, h)
      | some ⟨i, k, _⟩ => (h.lds i k l).bind fun vs => (bytesOf vs).bind fun ns => some (.string (strOfNums ns), h)
    | _ => none
  | _, _, _ => none
theorem aconvB_run (hr : HRel P S m h w) {src dst : TypeId} {x v : Value} {h' : Heap} (e : aconvB P h src dst x = some (v, h')) :
    Goes P S m h w (convert src dst (ren m x)) v h' := by
  unfold aconvB at e
  split at e
  · rename_i el s hs hd
    split at e
    · rename_i he
      split at e
      · rename_i hcell
        simp only [Option.some.injEq, Prod.mk.injEq] at e
        obtain ⟨rfl, rfl⟩ := e
        have hrun := run_bytes_of_string (P := P) w src dst el s hs hd he
        have hge := grownCap_ge w s.size 0 el
        have hdr : HRel P S m h w.drew := hr.world rfl rfl
        refine ⟨m.put h.next w.heap.size 0 (grownCap w s.size 0 el - s.size), w.drew.alloc (.cells (bytesRow s (grownCap w s.size 0 el)) el ((bytesRow s (grownCap w s.size 0 el)).size, (bytesRow s (grownCap w s.size 0 el)).size + 1)), Ren.agree_put m _ _ _ _ _ (Nat.le_refl _), ?_, ?_, by simp [sc], by simp⟩
        · simp only [ren, hrun, Ren.put_blk, Ren.put_sh, Ren.put_ext, Option.isSome_none, Bool.false_eq_true, if_false]
          congr 2
          omega
        · refine hdr.alloc ?_
          have hbs : (bytesRow s (grownCap w s.size 0 el)).size = grownCap w s.size 0 el := by
            simp [bytesRow]
            have : s.data.size = s.size := rfl
            omega
          refine ⟨fun v hv => strCells_sc s _ v hv, bytesRow s (grownCap w s.size 0 el), ((bytesRow s (grownCap w s.size 0 el)).size, (bytesRow s (grownCap w s.size 0 el)).size + 1), ?_, ?_, ?_, ?_, ?_, ?_, ?_, ?_⟩
          · show (w.heap.push _)[_]? = _
            rw [Ren.put_blk, Array.getElem?_push]
            simp
          · simp only [Ren.put_sh, Ren.put_ext, strCells_length, hcell, hbs]; omega
          · intro k v hk
            have hk' : (strCells s)[k]? = some v := hk
            simp only [Ren.put_sh, Nat.zero_add]
            have hlt : k < s.size := by
              rcases Nat.lt_or_ge k (strCells s).length with q | q
              · rwa [strCells_length] at q
              · rw [List.getElem?_eq_none q] at hk'; cases hk'
            have hkd : k < s.data.size := hlt
            rw [bytesRow_at s _ k hkd]
            simp only [strCells, List.getElem?_map, Array.getElem?_toList, Array.getElem?_eq_getElem hkd, Option.map_some, Option.some.injEq] at hk'
            rw [← hk']; simp [ren]
          · intro _; simp only [Ren.put_blk]; exact ⟨hr.size, fun q => by cases q⟩
          · intro q; cases q
          · intro _ _ k hk
            simp only
            omega
          · intro _ _ q; cases q
          · intro q; cases q
      · cases e
    · cases e
  · rename_i el a l c hs hd
    split at e
    · rename_i he
      cases a with
      | none =>
        simp only [Option.some.injEq, Prod.mk.injEq] at e
        obtain ⟨rfl, rfl⟩ := e
        refine Goes.same hr ?_ (by simp [sc])
        simp only [ren]
        rw [run_convert_bytes_string w src dst el none l c hs he hd]
        simp [Conv.bytesToString]
      | some ad =>
        obtain ⟨i, k, sp⟩ := ad
        simp only [] at e
        obtain ⟨vs, hvs, e1⟩ := Option.bind_eq_some_iff.1 e
        clear e
        obtain ⟨ns, hns, e⟩ := Option.bind_eq_some_iff.1 e1
        clear e1
        simp only [Option.some.injEq, Prod.mk.injEq] at e
        obtain ⟨rfl, rfl⟩ := e
        refine Goes.same hr ?_ (by simp [sc])
        obtain ⟨h1, h2, h3⟩ := hr.lds_run hvs
        have hvm : vs.map (ren m) = ns.map (Value.int .u8) := by
          rw [bytesOf_some hns, List.map_map]
          apply List.map_congr_left
          intro n _
          simp [ren]
        rw [hvm] at h1
        simp only [ren]
        rw [run_convert_bytes_string w src dst el _ l _ hs he hd, run_bytesToString w _ l _ ns h1, foldl_push_bytes]
        congr 2
        simp [strOfNums]
    · cases e
  · cases e

/-! ### len, min, max -/
def alen (P : Program) (h : Heap) (t : TypeId) (x : Value) : Option Value :=
  match P.underlying t, x with
  | some .string, .string s => some (.int .i64 (s.size : Nat))
  | some (.array n _), _ => some (.int .i64 (n : Nat))
  | some (.slice _), .slice _ n _ => some (.int .i64 (n : Nat))
  | some (.slice _), .chan (some _) => some (.int .i64 0)
  | some (.map _ _), .map none => some (.int .i64 0)
  | some (.map _ _), .map (some r) => match h.get r with | some (.map es _) => some (.int .i64 (es.length : Nat)) | _ => none
  | _, _ => none
theorem alen_run (hr : HRel P S m h w) {t ty : TypeId} {x v : Value} (e : alen P h t x = some v) : (Builtin.len_ #[t] ty #[ren m x]).run P w = .ok (ren m v) w ∧ sc h.next v := by
  unfold alen at e
  split at e
  · rename_i hu; cases e; simp [Builtin.len_, run_underlying hu, ren, sc, goInt]
  · rename_i hu; cases e; simp [Builtin.len_, run_underlying hu, ren, sc, goInt]
  · rename_i _ a n c hu; cases e; cases a <;> simp [Builtin.len_, run_underlying hu, ren, sc, goInt]
  · rename_i _ r hu; cases e; rw [ren]; cases farAddr r <;> simp [Builtin.len_, run_underlying hu, ren, sc, goInt]
  · rename_i hu; cases e; simp [Builtin.len_, run_underlying hu, ren, sc, goInt]
  · rename_i _ _ r hu
    split at e
    · rename_i es ck hg
      cases e
      obtain ⟨_, hb, _⟩ := hr.obj r _ hg
      refine ⟨?_, by simp [sc]⟩
      simp only [Builtin.len_, ren, List.getElem?_toArray, List.getElem?_cons_zero, Sem.run_bind, run_underlying hu, Result.andThen_ok, getObj, Sem.run, hb]
      simp [goInt]
    · cases e
  · cases e

def ammOf (mx : Bool) (k : IntKind) (x : Int) : List Value → Option Value
  | [] => some (.int k x)
  | .int _ y :: l => ammOf mx k (if mx then (if y > x then y else x) else (if y < x then y else x)) l
  | _ :: _ => none
def amm (mx : Bool) : List Value → Option Value
  | .int k x :: l => ammOf mx k x l
  | _ => none
theorem ammOf_run (mx : Bool) : ∀ (l : List Value) (k : IntKind) (x : Int) (v : Value), ammOf mx k x l = some v →
    ((l.map (ren m)).foldlM (if mx then Builtin.max2 else Builtin.min2) (.int k x)).run P w = .ok v w ∧ flat v = true
  | [], k, x, v, e => by simp only [ammOf] at e; cases e; simp [flat]
  | u :: l, k, x, v, e => by
    unfold ammOf at e
    split at e
    · cases ‹_ :: _ = []›
    · rename_i kk y l' q
      cases q
      have := ammOf_run mx _ _ _ _ e
      cases mx
      · simpa [ren, Builtin.min2] using this
      · simpa [ren, Builtin.max2] using this
    · cases e
theorem amm_run (mx : Bool) {l : List Value} {v : Value} {a : Array TypeId} {ty : TypeId} (e : amm mx l = some v) :
    ((if mx then Builtin.max_ a ty (l.map (ren m)).toArray else Builtin.min_ a ty (l.map (ren m)).toArray)).run P w = .ok (ren m v) w ∧ flat v = true := by
  unfold amm at e
  split at e
  · rename_i k x l
    obtain ⟨h1, h2⟩ := ammOf_run (P := P) (w := w) (m := m) mx l k x v e
    rw [ren_flat m v h2]
    refine ⟨?_, h2⟩
    cases mx
    · simpa [Builtin.min_, ren] using h1
    · simpa [Builtin.max_, ren] using h1
  · cases e
end
end Go.Mini
end
section
/-
  MINI, part HA: maps.
-/
namespace Go.Mini
set_option linter.unusedSimpArgs false

section
variable {P : Program} {S : Start} {m : Ren} {h : Heap} {w : World}

/-- Keys that are compared at once. -/
def keyD : TypeDesc → Bool
  | .int _ | .string | .bool => true
  | _ => false
def scalarV : Value → Bool
  | .int _ _ | .string _ | .bool _ => true
  | _ => false
theorem scalar_ren (m : Ren) (v : Value) : scalarV (ren m v) = scalarV v := by
  cases v with
  | pointer a => cases a <;> rfl
  | slice a l c => cases a <;> rfl
  | map r => cases r <;> rfl
  | chan r => cases r <;> rfl
  | _ => rfl
theorem scalar_same {v : Value} (h : scalarV v = true) (m : Ren) : ren m v = v := by cases v <;> first | rfl | cases h
theorem sameNow_scalar {kd : TypeDesc} {a b : Value} {r : Bool} (h : Instr.sameNow kd a b = some r) : scalarV a = true ∧ scalarV b = true := by
  unfold Instr.sameNow at h
  split at h <;> first | exact ⟨rfl, rfl⟩ | cases h
theorem sameNow_ren (m : Ren) (kd : TypeDesc) (a b : Value) : Instr.sameNow kd (ren m a) (ren m b) = Instr.sameNow kd a b := by
  cases h : Instr.sameNow kd a b with
  | some r =>
    obtain ⟨h1, h2⟩ := sameNow_scalar h
    rw [scalar_same h1, scalar_same h2]; exact h
  | none =>
    cases h' : Instr.sameNow kd (ren m a) (ren m b) with
    | none => rfl
    | some r =>
      obtain ⟨h1, h2⟩ := sameNow_scalar h'
      rw [scalar_ren] at h1 h2
      rw [scalar_same h1, scalar_same h2, h] at h'
      cases h'
theorem sameNow_true {kd : TypeDesc} {a b : Value} (h : Instr.sameNow kd a b = some true) : a = b := by
  unfold Instr.sameNow at h
  split at h
  · split at h
    · rename_i e; simp at h; rw [e, h]
    · cases h
  · rw [(Go.MapKept.bytes_beq _ _).1 (Option.some.inj h)]
  · simp at h; rw [h]
  · cases h
theorem sameBits_scalar {v : Value} (h : scalarV v = true) : Instr.sameBits 10000 v v = true := by
  cases v <;> first | (cases h; done) | (simp [Instr.sameBits]; done) | exact (Go.MapKept.bytes_beq _ _).2 rfl
theorem beq_strEq (a b : ByteArray) : (a == b) = strEq a b := by
  rw [Bool.eq_iff_iff, Go.MapKept.bytes_beq, strEq_iff]
/-- The same, as it is reckoned. -/
def asame : TypeDesc → Value → Value → Option Bool
  | .int _, .int k a, .int k' b => if k = k' then some (a == b) else none
  | .string, .string a, .string b => some (strEq a b)
  | .bool, .bool a, .bool b => some (a == b)
  | _, _, _ => none
theorem asame_eq (kd : TypeDesc) (a b : Value) : asame kd a b = Instr.sameNow kd a b := by
  unfold asame Instr.sameNow
  split
  · rfl
  · show some _ = some _
    rw [beq_strEq]
  · rfl
  · rename_i h1 h2 h3
    split
    · exact absurd rfl (h1 _ _ _ _ _ rfl rfl)
    · exact absurd rfl (h2 _ _ rfl rfl)
    · exact absurd rfl (h3 _ _ rfl rfl)
    · rfl
def afind (kd : TypeDesc) (k : Value) : List MapEntry → Nat → Option (Option (Nat × Value))
  | [], _ => some none
  | e :: es, i =>
    match asame kd k e.key with
    | some true => some (some (i, e.val))
    | some false => afind kd k es (i + 1)
    | none => none
theorem afind_eq (kd : TypeDesc) (k : Value) : ∀ (es : List MapEntry) (i : Nat), afind kd k es i = Instr.findNow kd k es i
  | [], i => rfl
  | e :: es, i => by
    simp only [afind, Instr.findNow, asame_eq]
    cases Instr.sameNow kd k e.key with
    | none => rfl
    | some b => cases b <;> first | rfl | exact afind_eq kd k es (i + 1)
theorem findNow_ren (m : Ren) (kd : TypeDesc) (k : Value) : ∀ (es : List MapEntry) (i : Nat), Instr.findNow kd (ren m k) (es.map (renE m)) i = (Instr.findNow kd k es i).map (fun o => o.map fun p => (p.1, ren m p.2))
  | [], i => rfl
  | e :: es, i => by
    simp only [List.map_cons, Instr.findNow]
    have : (renE m e).key = ren m e.key := rfl
    rw [this, sameNow_ren]
    cases Instr.sameNow kd k e.key with
    | none => rfl
    | some b =>
      cases b with
      | true => rfl
      | false => exact findNow_ren m kd k es (i + 1)
theorem findNow_some {kd : TypeDesc} {k : Value} : ∀ {es : List MapEntry} {i j : Nat} {v : Value}, Instr.findNow kd k es i = some (some (j, v)) → ∃ e, i ≤ j ∧ es[j - i]? = some e ∧ e.val = v ∧ e.key = k ∧ scalarV k = true
  | [], i, j, v, h => by simp [Instr.findNow] at h
  | e :: es, i, j, v, h => by
    simp only [Instr.findNow] at h
    split at h
    · rename_i hs
      simp only [Option.some.injEq, Prod.mk.injEq] at h
      obtain ⟨rfl, rfl⟩ := h
      exact ⟨e, Nat.le_refl _, by simp, rfl, (sameNow_true hs).symm, (sameNow_scalar hs).1⟩
    · obtain ⟨e', h1, h2, h3⟩ := findNow_some h
      refine ⟨e', by omega, ?_, h3⟩
      rw [show j - i = (j - (i + 1)) + 1 by omega, List.getElem?_cons_succ]; exact h2
    · cases h

/-- A map's entries. -/
def aentries (h : Heap) : Value → Option (List MapEntry)
  | .map none => some []
  | .map (some r) => match h.get r with
    | some (.map es _) => some es
    | _ => none
  | _ => none
def amapT (P : Program) (t : TypeId) : Option (TypeDesc × TypeId) :=
  match P.underlying t with
  | some (.map kt et) => match P.underlying kt with
    | some kd => if keyD kd then some (kd, et) else none
    | none => none
  | _ => none
theorem amapT_spec {t : TypeId} {kd : TypeDesc} {et : TypeId} (e : amapT P t = some (kd, et)) : ∃ kt, P.underlying t = some (.map kt et) ∧ P.underlying kt = some kd ∧ keyD kd = true := by
  unfold amapT at e
  split at e
  · rename_i kt et' h1
    split at e
    · rename_i kd' h2
      split at e
      · rename_i h3; cases e; exact ⟨kt, h1, h2, h3⟩
      · cases e
    · cases e
  · cases e
theorem checkKey_run {kt : TypeId} {kd : TypeDesc} (h2 : P.underlying kt = some kd) (hk : keyD kd = true) (b : Bool) (v : Value) (w : World) : (Instr.checkKey b 10000 kt v).run P w = .ok () w := by
  rw [show 10000 = 9999 + 1 from rfl, Instr.checkKey]
  simp only [Sem.run_bind, run_underlying h2, Result.andThen_ok]
  cases kd <;> first | (cases hk; done) | rfl
theorem findKey_run {kt : TypeId} {kd : TypeDesc} (h2 : P.underlying kt = some kd) {k : Value} {es : List MapEntry} {r : Option (Nat × Value)} (e : Instr.findNow kd k es 0 = some r) (m : Ren) (w : World) :
    (Instr.findKey kt (ren m k) (es.map (renE m))).run P w = .ok (r.map fun p => (p.1, ren m p.2)) w := by
  unfold Instr.findKey
  simp only [Sem.run_bind, run_underlying h2, Result.andThen_ok, findNow_ren, e, Option.map_some, Sem.run_pure]

/-! ### a new map -/
def amakeMap (P : Program) (h : Heap) (t : TypeId) (r : Option Value) : Option (Value × Heap) :=
  match r with
  | none => some (.map (some h.next), h.alloc (.map [] 0))
  | some (.int _ _) => match P.underlying t with
    | some (.map _ _) => some (.map (some h.next), h.alloc (.map [] 0))
    | _ => none
  | some _ => none
theorem amakeMap_run (hr : HRel P S m h w) {t : TypeId} {r : Option Value} {v : Value} {h' : Heap} (e : amakeMap P h t r = some (v, h')) : Goes P S m h w (Instr.makeMap t (r.map (ren m))) v h' := by
  have hnew : HRel P S (m.put h.next w.heap.size 0 0) (h.alloc (.map [] 0)) (w.alloc (.map #[] 0)) := by
    refine hr.alloc ⟨by simp, ?_, ?_⟩
    · show (w.heap.push _)[_]? = _
      rw [Ren.put_blk, Array.getElem?_push, if_pos rfl]; rfl
    · rw [Ren.put_blk]; exact hr.size
  have hgo : ∀ {s : Sem Value}, s.run P w = .ok (.map (some w.heap.size)) (w.alloc (.map #[] 0)) → Goes P S m h w s (.map (some h.next)) (h.alloc (.map [] 0)) := by
    intro s hs
    refine ⟨_, _, Ren.agree_put m _ _ _ _ _ (Nat.le_refl _), ?_, hnew, by simp [sc], by simp⟩
    rw [hs]; simp [ren, Ren.put]
  unfold amakeMap at e
  split at e
  · cases e
    refine hgo ?_
    simp [Instr.makeMap]
  · split at e
    · rename_i hu
      cases e
      refine hgo ?_
      simp [Instr.makeMap, run_underlying hu, ren, asInt, asIntOf]
    · cases e
  · cases e

/-! ### a look into a map -/
def alookup (P : Program) (h : Heap) (t : TypeId) (x k : Value) (ok : Bool) : Option Value :=
  (amapT P t).bind fun q => (aentries h x).bind fun es => match afind q.1 k es 0 with
    | some (some (_, v)) => some (if ok then .tuple #[v, .bool true] else v)
    | some none => (P.info? q.2).bind fun i => i.zero.bind fun z => if flat z then some (if ok then .tuple #[z, .bool false] else z) else none
    | none => none
theorem aentries_spec {x : Value} {es : List MapEntry} (e : aentries h x = some es) : (x = .map none ∧ es = []) ∨ ∃ r ck, x = .map (some r) ∧ h.get r = some (.map es ck) := by
  unfold aentries at e
  split at e
  · cases e; exact .inl ⟨rfl, rfl⟩
  · rename_i r
    split at e
    · rename_i es' ck hg
      cases e
      exact .inr ⟨_, _, rfl, hg⟩
    · cases e
  · cases e
theorem aentries_sc (hr : HRel P S m h w) {x : Value} {es : List MapEntry} (e : aentries h x = some es) : ∀ en ∈ es, sc h.next en.key ∧ sc h.next en.val := by
  rcases aentries_spec e with ⟨_, rfl⟩ | ⟨r, ck, _, hg⟩
  · simp
  · exact (hr.obj r _ hg).1
theorem alookup_run (hr : HRel P S m h w) {t : TypeId} {x k v : Value} {ok : Bool} (e : alookup P h t x k ok = some v) : (Instr.lookup t (ren m x) (ren m k) ok).run P w = .ok (ren m v) w ∧ sc h.next v := by
  unfold alookup at e
  simp only [afind_eq] at e
  obtain ⟨⟨kd, et⟩, hq, e⟩ := Option.bind_eq_some_iff.1 e
  obtain ⟨es, hes, e⟩ := Option.bind_eq_some_iff.1 e
  obtain ⟨kt, u1, u2, u3⟩ := amapT_spec hq
  have s1 := aentries_sc hr hes
  simp only [] at e
  split at e
  · rename_i j u hf
    cases e
    obtain ⟨en, _, h2, h3, _⟩ := findNow_some hf
    have hsu : sc h.next u := by rw [← h3]; exact (s1 en (List.mem_of_getElem? h2)).2
    refine ⟨?_, ?_⟩
    · have hf2 := findKey_run u2 hf m w
      unfold Instr.lookup
      rcases aentries_spec hes with ⟨rfl, rfl⟩ | ⟨r9, ck, rfl, hg⟩
      · simp [Instr.findNow] at hf
      · have h2 := (hr.obj r9 _ hg).2.1
        simp only [Sem.run_bind, run_underlying u1, Result.andThen_ok, ren, Sem.run_pure, checkKey_run u2 u3, Go.MapKept.run_getObj_map h2, hf2, Option.map_some]
        cases ok <;> simp [ren, renA, renL]
    · cases ok
      · simpa using hsu
      · simp [sc, scA, scL, hsu]
  · rename_i hf
    obtain ⟨i, hi, e⟩ := Option.bind_eq_some_iff.1 e
    obtain ⟨z, hz, e⟩ := Option.bind_eq_some_iff.1 e
    split at e
    · rename_i hfl
      cases e
      refine ⟨?_, ?_⟩
      · have hf2 := findKey_run u2 hf m w
        unfold Instr.lookup
        rcases aentries_spec hes with ⟨rfl, rfl⟩ | ⟨r9, ck, rfl, hg⟩
        · simp only [List.map_nil] at hf2
          simp only [Sem.run_bind, run_underlying u1, Result.andThen_ok, ren, Sem.run_pure, checkKey_run u2 u3, hf2, Option.map_none, run_zeroValue' hi hz]
          cases ok <;> simp [ren, renA, renL, ren_flat m z hfl]
        · have h2 := (hr.obj r9 _ hg).2.1
          simp only [Sem.run_bind, run_underlying u1, Result.andThen_ok, ren, Sem.run_pure, checkKey_run u2 u3, Go.MapKept.run_getObj_map h2, hf2, Option.map_none, run_zeroValue' hi hz]
          cases ok <;> simp [ren, renA, renL, ren_flat m z hfl]
      · cases ok
        · simpa using sc_flat _ z hfl
        · simp [sc, scA, scL, sc_flat _ z hfl]
    · cases e
  · cases e

/-! ### a map turned -/
def amapUpdate (P : Program) (h : Heap) (t : TypeId) (x k v : Value) : Option Heap :=
  (amapT P t).bind fun q => match x with
    | .map (some r) => match h.get r with
      | some (.map es ck) => match afind q.1 k es 0 with
        | some (some (i, _)) => some (h.set r (.map (es.modify i fun e => { e with key := k, val := v }) ck))
        | some none => some (h.set r (.map (es ++ [{ key := k, val := v, born := ck }]) (ck + 1)))
        | none => none
      | _ => none
    | _ => none
theorem HRel.setMap (hr : HRel P S m h w) {r : Nat} {es es' : List MapEntry} {ck ck' : Nat} (hg : h.get r = some (.map es ck)) (hs : ∀ e ∈ es', sc h.next e.key ∧ sc h.next e.val) :
    HRel P S m (h.set r (.map es' ck')) { w with heap := w.heap.setIfInBounds (m.blk r) (.map (es'.map (renE m)).toArray ck') } := by
  obtain ⟨_, h2, h3⟩ := hr.obj r _ hg
  have hlt := lt_of_some h2
  refine hr.upd hg rfl ?_ (by simp) rfl ⟨hs, ?_, h3⟩
  · intro b hb
    simp only [Array.getElem?_setIfInBounds]
    rw [if_neg (by omega)]
  · simp only [Array.getElem?_setIfInBounds]
    simp [hlt]
theorem mem_modify {α : Type} {f : α → α} : ∀ {l : List α} {i : Nat} {x : α}, x ∈ l.modify i f → x ∈ l ∨ ∃ y ∈ l, x = f y
  | [], i, x, hx => by simp at hx
  | y :: l, 0, x, hx => by
    simp only [List.modify_zero_cons, List.mem_cons] at hx
    rcases hx with hx | hx
    · exact .inr ⟨y, by simp, hx⟩
    · exact .inl (by simp [hx])
  | y :: l, i + 1, x, hx => by
    simp only [List.modify_succ_cons, List.mem_cons] at hx
    rcases hx with hx | hx
    · exact .inl (by simp [hx])
    · rcases mem_modify hx with q | ⟨z, q1, q2⟩
      · exact .inl (by simp [q])
      · exact .inr ⟨z, by simp [q1], q2⟩
theorem map_modify {α β : Type} {f : α → α} {f' : β → β} {g : α → β} (hc : ∀ x, g (f x) = f' (g x)) : ∀ (l : List α) (i : Nat), (l.modify i f).map g = (l.map g).modify i f'
  | [], i => by simp
  | x :: l, 0 => by simp [hc]
  | x :: l, i + 1 => by simp [map_modify hc l i]
theorem amapUpdate_run (hr : HRel P S m h w) {t : TypeId} {x k v : Value} {h' : Heap} (hk : sc h.next k) (hv : sc h.next v) (e : amapUpdate P h t x k v = some h') :
    ∃ w', (Instr.mapUpdate t (ren m x) (ren m k) (ren m v)).run P w = .ok () w' ∧ HRel P S m h' w' ∧ h'.next = h.next := by
  unfold amapUpdate at e
  simp only [afind_eq] at e
  obtain ⟨⟨kd, et⟩, hq, e⟩ := Option.bind_eq_some_iff.1 e
  obtain ⟨kt, u1, u2, u3⟩ := amapT_spec hq
  simp only [] at e
  cases x with
  | map o =>
    cases o with
    | none => cases e
    | some r =>
    simp only [] at e
    cases hg : h.get r with
    | none => rw [hg] at e; cases e
    | some ob =>
    rw [hg] at e
    cases ob with
    | map es ck =>
      simp only [] at e
      obtain ⟨g1, g2, g3⟩ := hr.obj _ _ hg
      split at e
      · rename_i i u hf
        cases e
        have hf2 := findKey_run u2 hf m w
        obtain ⟨en, _, f2, f3, f4, f5⟩ := findNow_some hf
        rw [Nat.sub_zero] at f2
        refine ⟨_, ?_, hr.setMap (ck' := ck) (es' := es.modify i fun e => { e with key := k, val := v }) hg ?_, by simp⟩
        · have hkey : ((((es.map (renE m)).toArray[i]?).map (·.key)).getD (ren m k)) = ren m k := by
            simp only [List.getElem?_toArray, List.getElem?_map, f2, Option.map_some, Option.getD_some, renE, f4]
          have hsb : Instr.sameBits 10000 (ren m k) (ren m k) = true := by rw [scalar_same f5]; exact sameBits_scalar f5
          have hmod : (es.map (renE m)).toArray.modify i (fun e => { e with key := ren m k, val := ren m v }) = ((es.modify i fun e => { e with key := k, val := v }).map (renE m)).toArray := by
            apply Array.ext'
            rw [Array.toList_modify]
            exact (map_modify (f := fun e => { e with key := k, val := v }) (f' := fun e => { e with key := ren m k, val := ren m v }) (g := renE m) (fun _ => rfl) es i).symm
          unfold Instr.mapUpdate
          simp only [ren, Sem.run_bind, run_underlying u1, Result.andThen_ok, Go.MapKept.run_getObj_map g2, checkKey_run u2 u3, hf2, Option.map_some, hkey, Instr.keyThatStays, hsb, if_true, Sem.run_pure, hmod, Go.MapKept.run_setObj_map _ g2]
        · intro e he
          rcases mem_modify he with q | ⟨y, q1, rfl⟩
          · exact g1 e q
          · exact ⟨hk, hv⟩
      · rename_i hf
        cases e
        have hf2 := findKey_run u2 hf m w
        refine ⟨_, ?_, hr.setMap (ck' := ck + 1) (es' := es ++ [{ key := k, val := v, born := ck }]) hg ?_, by simp⟩
        · have hpush : (es.map (renE m)).toArray.push ({ key := ren m k, val := ren m v, born := ck } : MapEntry) = ((es ++ [({ key := k, val := v, born := ck } : MapEntry)]).map (renE m)).toArray := by
            apply Array.ext'
            simp [renE]
          unfold Instr.mapUpdate
          simp only [ren, Sem.run_bind, run_underlying u1, Result.andThen_ok, Go.MapKept.run_getObj_map g2, checkKey_run u2 u3, hf2, Option.map_none, hpush, Go.MapKept.run_setObj_map _ g2]
        · intro e he
          rcases List.mem_append.1 he with q | q
          · exact g1 e q
          · rw [List.mem_singleton.1 q]; exact ⟨hk, hv⟩
      · cases e
    | _ => cases e
  | _ => cases e
end
end Go.Mini
end
section
/-
  MINI, part HB: pointers under another name; bytes handed on as a string.
-/
namespace Go.Mini
set_option linter.unusedSimpArgs false

theorem rowAt_mono (P : Program) (fits : TypeId → Bool) : ∀ (d : Nat) (e : TypeId) (count count' off n : Nat), count ≤ count' → rowAt P fits d e count off n = true → rowAt P fits d e count' off n = true
  | 0, _, _, _, _, _, _, h => by cases h
  | d + 1, e, count, count', off, n, hc, h => by
    simp only [rowAt] at h ⊢
    split at h
    · cases h
    · rename_i hs
      rw [if_neg hs]
      simp only [Bool.or_eq_true, Bool.and_eq_true, decide_eq_true_eq] at h ⊢
      rcases h with h | h
      · exact .inl ⟨⟨h.1.1, Nat.le_trans h.1.2 hc⟩, h.2⟩
      · exact .inr ⟨Nat.lt_of_lt_of_le h.1 hc, h.2⟩
theorem liesAt_mono (P : Program) : ∀ (d : Nat) (e : TypeId) (count count' off : Nat) (u : TypeId) (n : Nat), count ≤ count' → liesAt P d e count off u n = true → liesAt P d e count' off u n = true
  | 0, _, _, _, _, _, _, _, h => by cases h
  | d + 1, e, count, count', off, u, n, hc, h => by
    simp only [liesAt, Bool.or_eq_true] at h ⊢
    rcases h with h | h
    · exact .inl (rowAt_mono P _ _ e count count' off n hc h)
    · refine .inr ?_
      split at h
      · rename_i m u' hu
        exact liesAt_mono P d e count count' off _ _ hc h
      · cases h
theorem liesAt_bytes_at {P : Program} {e : TypeId} (hc : P.cellsOf e = 1) (count off n : Nat) (hn : off + n ≤ count) : liesAt P P.depth e count off e n = true := by
  have hd : P.depth = (2 * (P.types.size + Made.depth) + 1) + 1 := rfl
  rw [hd]
  simp only [liesAt, Bool.or_eq_true]
  left
  rw [hd]
  simp [rowAt, hc, hn, sameLayout, Nat.mod_one]

section
variable {P : Program} {S : Start} {m : Ren} {h : Heap} {w : World}

/-- A pointer under another name. -/
def aconvP (P : Program) (h : Heap) (src dst : TypeId) (x : Value) : Option Value :=
  match x with
  | .pointer (some ⟨i, k, none⟩) =>
    match P.underlying src, P.underlying dst with
    | some (.pointer t), some .unsafePointer => (P.info? t).bind fun j => (h.row i).bind fun r => if j.size ≠ 0 ∧ k < r.vs.length then some x else none
    | some .unsafePointer, some (.pointer u) => (P.info? u).bind fun _ => (h.row i).bind fun r =>
      if r.outer = false ∧ r.grown = false ∧ liesAt P P.depth r.elem (r.vs.length / P.cellsOf r.elem) k u 1 = true then some x else none
    | _, _ => none
  | _ => none
theorem aconvP_run (hr : HRel P S m h w) {src dst : TypeId} {x v : Value} (e : aconvP P h src dst x = some v) : (convert src dst (ren m x)).run P w = .ok (ren m v) w ∧ (sc h.next x → sc h.next v) := by
  unfold aconvP at e
  split at e
  · rename_i i k
    split at e
    · rename_i t hs hd
      obtain ⟨j, hj, e⟩ := Option.bind_eq_some_iff.1 e
      obtain ⟨r, hrow, e⟩ := Option.bind_eq_some_iff.1 e
      split at e
      · rename_i hc
        cases e
        obtain ⟨_, c, fz, h1, h2, _⟩ := hr.obj i _ (Heap.row_some.1 hrow)
        refine ⟨?_, id⟩
        simp only [ren]
        exact Lib.run_to_unsafe w _ hs hd hj hc.1 (e := r.elem) (cells := c.size) (by simp [World.shape?, h1]) (by simp only; omega)
      · cases e
    · rename_i u hs hd
      obtain ⟨j, hj, e⟩ := Option.bind_eq_some_iff.1 e
      obtain ⟨r, hrow, e⟩ := Option.bind_eq_some_iff.1 e
      split at e
      · rename_i hc
        cases e
        obtain ⟨q1, q2, q3⟩ := hc
        obtain ⟨_, c, fz, h1, h2, h3, h4, _⟩ := hr.obj i _ (Heap.row_some.1 hrow)
        refine ⟨?_, id⟩
        have hsh : m.sh i = 0 := (h4 q1).2 q2
        simp only [ren, hsh, Nat.add_zero]
        exact Lib.run_from_unsafe w _ hs hd hj (e := r.elem) (cells := c.size) (by simp [World.shape?, h1]) (liesAt_mono P _ _ _ _ _ _ _ (Nat.div_le_div_right (by omega)) q3)
      · cases e
    · cases e
  · cases e

/-- unsafe.SliceData -/
def asliceData (x : Value) : Option Value :=
  match x with
  | .slice none _ _ => some (.pointer none)
  | .slice (some a) _ c => if c = 0 then none else some (.pointer (some ⟨a.block, a.off, none⟩))
  | _ => none
theorem asliceData_run {x v : Value} {ats : Array TypeId} {ty : TypeId} (e : asliceData x = some v) : (Builtin.unsafeSliceData_ ats ty #[ren m x]).run P w = .ok (ren m v) w ∧ (∀ n, sc n x → sc n v) := by
  unfold asliceData at e
  split at e
  · cases e; exact ⟨Lib.run_unsafeSliceData_nil w ats ty _ _, fun _ _ => by simp [sc]⟩
  · split at e
    · cases e
    · rename_i a l c hc
      cases e
      refine ⟨?_, fun n hs => by simpa [sc] using hs⟩
      simp only [ren]
      exact Lib.run_unsafeSliceData_row w ats ty _ _ _ (by split <;> omega)
  · cases e

theorem run_loadInts : ∀ (l : List Int) (a : Addr) (acc : ByteArray), (∀ j x, l[j]? = some x → w.cell? (a.add j) = some (.int .u8 x)) →
    (loadBytes a acc l.length).run P w = .ok ⟨acc.data ++ (l.map fun n => n.toNat.toUInt8).toArray⟩ w
  | [], a, acc, _ => by simp [loadBytes]
  | x :: l, a, acc, hc => by
    have h0 : w.cell? a = some (.int .u8 x) := by
      have := hc 0 x rfl
      simpa [Addr.add] using this
    have ih := run_loadInts l (a.add 1) (acc.push x.toNat.toUInt8) (fun j y hy => by
      have := hc (j + 1) y (by simpa using hy)
      have e : (a.add 1).add j = a.add (j + 1) := by
        unfold Addr.add
        by_cases hj : j = 0
        · subst hj; simp
        · simp [hj]; omega
      rw [e]; exact this)
    simp only [List.length_cons, loadBytes, Sem.run_bind, run_load, h0, Result.andThen]
    rw [ih]
    congr 1
    apply ByteArray.ext
    simp [ByteArray.push]

/-- unsafe.String -/
def aunsafeString (P : Program) (h : Heap) (pt : TypeId) (p : Value) (n : Int) : Option (Value × Heap) :=
  if n = 0 then (match p with | .pointer _ => some (.string ⟨#[]⟩, h) | _ => none)
  else if n < 0 ∨ 9223372036854775807 < n then none
  else match p with
    | .pointer (some ⟨i, k, none⟩) => match P.underlying pt with
      | some (.pointer e) => (h.row i).bind fun r =>
        if r.elem = e ∧ P.cellsOf e = 1 ∧ r.outer = false ∧ k + n.toNat ≤ r.vs.length then (bytesOf ((r.vs.drop k).take n.toNat)).bind fun ns => some (.string (strOfNums ns), h.set i (.row { r with ro := true }))
        else none
      | _ => none
    | _ => none
theorem freeze_get (w : World) {b off n : Nat} {c : Array Value} {t : TypeId} {fz : Nat × Nat} (hb : w.heap[b]? = some (.cells c t fz)) :
    (w.freeze ⟨b, off, none⟩ n).heap.size = w.heap.size ∧ Mini.io (w.freeze ⟨b, off, none⟩ n) = Mini.io w ∧ (∀ b', b' ≠ b → (w.freeze ⟨b, off, none⟩ n).heap[b']? = w.heap[b']?) ∧ ∃ fz', (w.freeze ⟨b, off, none⟩ n).heap[b]? = some (.cells c t fz') := by
  unfold World.freeze
  split
  · exact ⟨rfl, rfl, fun _ _ => rfl, fz, hb⟩
  · refine ⟨by simp, rfl, fun b' hne => ?_, ?_⟩
    · simp [Array.getElem?_modify, show ¬ b = b' by omega]
    · obtain ⟨lo, hi⟩ := fz
      simp only [Array.getElem?_modify, if_true, hb, Option.map_some]
      exact ⟨_, rfl⟩
theorem aunsafeString_run (hr : HRel P S m h w) {pt it ty : TypeId} {p v : Value} {n : Int} {h' : Heap} (e : aunsafeString P h pt p n = some (v, h')) : Goes P S m h w (Builtin.unsafeString_ #[pt, it] ty #[ren m p, .int .i64 n]) v h' := by
  unfold aunsafeString at e
  split at e
  · rename_i hn
    subst hn
    split at e
    · rename_i a
      cases e
      refine Goes.same hr ?_ (by simp [sc])
      have key : ∀ q, (Builtin.unsafeString_ #[pt, it] ty #[.pointer q, .int .i64 0]).run P w = .ok (.string ⟨#[]⟩) w := fun q => Lib.run_unsafeString_none w pt it ty q
      cases a <;> (simp only [ren]; exact key _)
    · cases e
  · rename_i hn
    split at e
    · cases e
    · rename_i hb
      split at e
      · rename_i i k
        split at e
        · rename_i el hu
          obtain ⟨r, hrow, e⟩ := Option.bind_eq_some_iff.1 e
          split at e
          · rename_i hc
            obtain ⟨q1, q2, q3, q4⟩ := hc
            obtain ⟨ns, hns, e⟩ := Option.bind_eq_some_iff.1 e
            cases e
            have hg := Heap.row_some.1 hrow
            obtain ⟨g0, c, fz, g1, g2, g3, g4, g5, g6, g7, g8⟩ := hr.obj i _ hg
            have hl := bytesOf_some hns
            have hlen : ns.length = n.toNat := by
              have := congrArg List.length hl
              simp at this; omega
            have hcell : ∀ j x, ns[j]? = some x → w.cell? ((⟨m.blk i, k + m.sh i, none⟩ : Addr).add j) = some (.int .u8 x) := by
              intro j x hj
              have hjl : j < n.toNat := by have := (List.getElem?_eq_some_iff.1 hj).1; omega
              have h9 : r.vs[k + j]? = some (.int .u8 x) := by
                have : ((r.vs.drop k).take n.toNat)[j]? = some (.int .u8 x) := by rw [hl, List.getElem?_map, hj]; rfl
                rwa [List.getElem?_take_of_lt hjl, List.getElem?_drop] at this
              have h10 := g3 _ _ h9
              rw [addr_add, World.cell?]
              simp only [g1]
              rw [show k + m.sh i + j = m.sh i + (k + j) by omega]
              simpa [ren] using h10
            have hload := run_loadInts (P := P) (w := w) ns ⟨m.blk i, k + m.sh i, none⟩ .empty hcell
            rw [hlen] at hload
            have hlies := liesAt_bytes_at (P := P) q2 (c.size / P.cellsOf el) (k + m.sh i) n.toNat (by rw [q2, Nat.div_one]; omega)
            obtain ⟨f1, f2, f3, fz', f4⟩ := freeze_get w (off := k + m.sh i) (n := n.toNat) g1
            refine ⟨m, w.freeze ⟨m.blk i, k + m.sh i, none⟩ n.toNat, Ren.agree_refl _ _, ?_, ?_, by simp [sc], by simp⟩
            · have hdef : Builtin.unsafeString_ #[pt, it] ty #[.pointer (some ⟨m.blk i, k + m.sh i, none⟩), .int .i64 n] =
                  (do
                    let n ← asInt (.int .i64 n)
                    if n < 0 then runtimePanic (.error "unsafe.String: len out of range")
                    if n > IntKind.i64.max then unsupported (.unsafePointer "String: a length above the largest int")
                    if n = 0 then pure (.string .empty)
                    else if ← variablesAt ⟨m.blk i, k + m.sh i, none⟩ (← elemOf pt) n.toNat then do
                      let s ← loadBytes ⟨m.blk i, k + m.sh i, none⟩ .empty n.toNat
                      freeze ⟨m.blk i, k + m.sh i, none⟩ n.toNat
                      pure (.string s)
                    else unsupported (.unsafePointer "String: not so many bytes at ptr")) := rfl
              simp only [ren]
              rw [hdef]
              have hmax : IntKind.i64.max = 9223372036854775807 := rfl
              have n1 : ¬ n < 0 := by omega
              have n2 : ¬ (9223372036854775807 : Int) < n := by omega
              have hshp : w.shape? (m.blk i) = some (r.elem, c.size) := by simp [World.shape?, g1]
              rw [q1] at hshp
              simp [asInt, asIntOf, hmax, n1, n2, hn, variablesAt, hshp, elemOf, run_underlying hu, hlies, hload, strOfNums]
            · refine hr.upd hg (by simp [AObj.own, q3]) f3 (by omega) f2 ⟨g0, c, fz', f4, g2, g3, g4, g5, ?_, ?_, g8⟩
              · intro _ q; cases q
              · intro _ q; cases q
          · cases e
        · cases e
      · cases e
end
end Go.Mini
end
section
/-
  MINI, part I: one operation, whichever it is.
-/
namespace Go.Mini

/-- What an operation comes to. -/
inductive AN where
  | val (v : Value)
  | skip
  | call (f : FuncId) (args : List Value)
  | defer (d : Deferred)
  | panic (v : Value)
  | recover

def renT (m : Ren) : Target → Target
  | .fn fn c => .fn fn (renA m c)
  | t => t
def renD (m : Ren) (d : Deferred) : Deferred := { target := renT m d.target, args := renA m d.args }
def scD (n : Nat) (d : Deferred) : Prop := (match d.target with | .fn _ c => scA n c | _ => False) ∧ scA n d.args
theorem renD_congr {n : Nat} {m m' : Ren} (h : m.agree n m') {d : Deferred} (hs : scD n d) : renD m d = renD m' d := by
  obtain ⟨t, a⟩ := d
  obtain ⟨h1, h2⟩ := hs
  cases t with
  | fn fn c => simp only at h1 h2; simp [renD, renT, renA_congr h _ h1, renA_congr h _ h2]
  | _ => exact h1.elim
theorem scD_mono {n k : Nat} (hk : n ≤ k) {d : Deferred} (hs : scD n d) : scD k d := by
  obtain ⟨t, a⟩ := d
  obtain ⟨h1, h2⟩ := hs
  cases t with
  | fn fn c => exact ⟨scA_mono hk _ h1, scA_mono hk _ h2⟩
  | _ => exact h1.elim

def AN.res (m : Ren) (w : World) : AN → Result Next
  | .val v => .ok (.value (ren m v)) w
  | .skip => .ok .skip w
  | .call f args => .ok (.enter f (args.map (ren m)).toArray) w
  | .defer d => .ok (.defer (renD m d)) w
  | .panic v => .halt (.panic (ren m v)) w
  | .recover => .ok .recover w
def AN.sc (n : Nat) : AN → Prop
  | .val v => Mini.sc n v
  | .call _ args => ∀ v ∈ args, Mini.sc n v
  | .defer d => scD n d
  | .panic v => Mini.sc n v
  | _ => True

/-- A function that has a body, and is entered when it is called. -/
def canEnter (P : Program) (f : FuncId) : Bool :=
  match P.funcs[f]? with
  | some fn => fn.name != "runtime.NumGoroutine" && fn.body.isSome
  | none => false
theorem callFunc_run {P : Program} {f : FuncId} (h : canEnter P f = true) (args : Array Value) (w : World) : (callFunc f args).run P w = .ok (.enter f args) w := by
  unfold canEnter at h
  cases hf : P.funcs[f]? with
  | none => rw [hf] at h; cases h
  | some fn =>
    rw [hf] at h
    simp only [Bool.and_eq_true, bne_iff_ne, ne_eq] at h
    have h2 : ¬ fn.body = none := by intro q; simp [q] at h
    simp [callFunc, hf, h.1, h2]

def evs (ρ : Operand → Option Value) : List Operand → Option (List Value)
  | [] => some []
  | x :: l => (ρ x).bind fun v => (evs ρ l).bind fun vs => some (v :: vs)
def evp (ρ : Operand → Option Value) : List (Nat × Operand) → Option (List (Nat × Value))
  | [] => some []
  | x :: l => (ρ x.2).bind fun v => (evp ρ l).bind fun vs => some ((x.1, v) :: vs)
def evo (ρ : Operand → Option Value) : Option Operand → Option (Option Value)
  | none => some none
  | some x => (ρ x).map some

/-- Not nil: a pointer, or a function. -/
def notNil : Value → Bool
  | .pointer (some _) => true
  | .func (.func _) _ _ => true
  | _ => false

/-- A row that is the call's own, of which nothing is a string's. -/
def Row.mine (r : Row) : Bool := !r.outer && !r.ro && !r.str
def isEqOp : BinOp → Bool
  | .eql | .neq => true
  | _ => false
def isConstO : Operand → Bool
  | .const _ => true
  | _ => false
/-- Are two pointers one, where neither is nil? -/
def aptr (P : Program) (h : Heap) (op : BinOp) (t : TypeId) (x y : Value) : Option Value :=
  match P.underlying t, x, y with
  | some (.pointer el), .pointer (some ⟨i, k, none⟩), .pointer (some ⟨j, l, none⟩) =>
    if P.cellsOf el = 0 then none
    else if i = j then eqOp op (some (decide (k = l)))
    else match h.row i, h.row j with
      | some r, some q => if r.mine && q.mine then eqOp op (some false) else none
      | _, _ => none
  | _, _, _ => none
def binA (P : Program) (h : Heap) (op : BinOp) (t : TypeId) (both : Bool) (a b : Value) : Option Value :=
  match abin P op t a b with
  | some v => some v
  | none => if both then aptr P h op t a b else none
theorem binA_some {P : Program} {h : Heap} {op : BinOp} {t : TypeId} {both : Bool} {a b v : Value} (e : abin P op t a b = some v) : binA P h op t both a b = some v := by
  unfold binA; rw [e]

/-- The built-in functions. -/
def abuiltin (P : Program) (b : Builtin) (ats : List TypeId) (args : List Value) (h : Heap) : Option (AN × Heap) :=
  match b, ats, args with
  | .append, [st, xt], [s, x] => (aappend P h st xt s x).bind fun p => some (.val p.1, p.2)
  | .copy, [dt, _], [d, s] => (acopy P h dt d s).bind fun p => some (.val p.1, p.2)
  | .len, [t], [x] => (alen P h t x).bind fun v => some (.val v, h)
  | .max, _, l => (amm true l).bind fun v => some (.val v, h)
  | .min, _, l => (amm false l).bind fun v => some (.val v, h)
  | .recover, _, _ => some (.recover, h)
  | .unsafeSliceData, _, [x] => (asliceData x).bind fun v => some (.val v, h)
  | .unsafeString, [pt, _], [p, .int .i64 n] => (aunsafeString P h pt p n).bind fun q => some (.val q.1, q.2)
  | .clear, [t], [x] => (aclear P h t x).bind fun h' => some (.val (.tuple #[]), h')
  | _, _, _ => none

def calleeOf : Value → Option (Fn × Array Value × Array Value)
  | .func fn a b => some (fn, a, b)
  | _ => none
def fnOf : Fn → Option FuncId
  | .func g => some g
  | _ => none

/-- What a function without a body hands back. -/
noncomputable def aext (P : Program) (ρg : Nat → Option Value) (h : Heap) (f : FuncId) (args : List Value) : Option Value :=
  open Classical in
  match P.funcs[f]? with
  | none => none
  | some fn =>
    if (fn.name == "runtime.NumGoroutine") = false ∧ fn.body.isNone = true ∧ Extern.findNext fn = none then
      match args with
      | [.string s, .int .u8 c] => if Extern.find fn = some Extern.BytealgIndexByte.indexByte then some (.int .i64 (firstIdx s c.toNat.toUInt8)) else none
      | [.string a, .string b] =>
        if Extern.find fn = some Extern.BytealgIndex.index then
          match P.globals.findIdx? (·.name == "internal/bytealg.MaxLen") with
          | some g =>
            if ρg g = some (.pointer (some ⟨g, 0, none⟩)) then
              match h.ld g 0 with
              | some (.int .i64 mx) => if 2 ≤ b.size ∧ (b.size : Int) ≤ mx ∧ a.size < 4294967281 then some (.int .i64 (Lib.index a.data.toList b.data.toList)) else none
              | _ => none
            else none
          | none => none
        else none
      | _ => none
    else none

/-- internal/abi.NoEscape -/
def aNoEsc (P : Program) (f : FuncId) : Bool :=
  match P.funcs[f]? with
  | some fn => fn.name == "internal/abi.NoEscape" && fn.origin == "" && fn.body.isNone
  | none => false
theorem aNoEsc_run {P : Program} {f : FuncId} (h : aNoEsc P f = true) (x : Value) (w : World) : (callFunc f #[x]).run P w = .ok (.value x) w := by
  unfold aNoEsc at h
  cases hf : P.funcs[f]? with
  | none => rw [hf] at h; cases h
  | some fn =>
    rw [hf] at h
    simp only [Bool.and_eq_true, beq_iff_eq] at h
    obtain ⟨⟨h1, h2⟩, h3⟩ := h
    have e1 : Extern.findNext fn = none := by unfold Extern.findNext; rw [h1, h2]; kernel_rfl
    have e2 : Extern.find fn = some Extern.AbiNoEscape.same := by unfold Extern.find; rw [h1, h2]; kernel_rfl
    have e3 : ¬ fn.name = "runtime.NumGoroutine" := by rw [h1]; decide
    have e4 : fn.body = none := by simpa using h3
    simp [callFunc, hf, e3, e4, e1, e2, Lib.run_noEscape]
/-- One operation. -/
noncomputable def aop (P : Program) (ρ : Operand → Option Value) (o : Oper) (h : Heap) : Option (AN × Heap) :=
  match o.op with
  | .move x => (ρ x).bind fun v => some (.val v, h)
  | .assign x => (ρ x).bind fun v => some (.val v, h)
  | .pick c a b => (ρ c).bind fun cv => match cv with
    | .bool t => (ρ (if t then a else b)).bind fun v => some (.val v, h)
    | _ => none
  | .alloc t => (aalloc P h t).bind fun p => some (.val p.1, p.2)
  | .box t x => (ρ x).bind fun v => some (.val (abox h t v).1, (abox h t v).2)
  | .build t parts => (evp ρ parts.toList).bind fun ps => (abuild P t ps).bind fun v => some (.val v, h)
  | .buildSlice t len parts => (evp ρ parts.toList).bind fun ps => (abuildSlice P h t len ps).bind fun p => some (.val p.1, p.2)
  | .load t a => (ρ a).bind fun p => (aload P h t p).bind fun v => some (.val v, h)
  | .store t a x => (ρ a).bind fun p => (ρ x).bind fun v => (astore P h t p v).bind fun h' => some (.skip, h')
  | .nilCheck x => (ρ x).bind fun v => if notNil v then some (.val v, h) else none
  | .binOp op t x y _ => (ρ x).bind fun a => (ρ y).bind fun b => (binA P h op t (isEqOp op && !isConstO x && !isConstO y) a b).bind fun v => some (.val v, h)
  | .unOp op _ x => (ρ x).bind fun a => (aun op a).bind fun v => some (.val v, h)
  | .convert s d x => (ρ x).bind fun a => match aconv P s d a with
    | some v => some (.val v, h)
    | none => match aconvB P h s d a with
      | some p => some (.val p.1, p.2)
      | none => (aconvP P h s d a).bind fun v => some (.val v, h)
  | .makeMap t r => (evo ρ r).bind fun a => (amakeMap P h t a).bind fun p => some (.val p.1, p.2)
  | .lookup t x k ok => (ρ x).bind fun a => (ρ k).bind fun b => (alookup P h t a b ok).bind fun v => some (.val v, h)
  | .mapUpdate t x k y => (ρ x).bind fun a => (ρ k).bind fun b => (ρ y).bind fun c => (amapUpdate P h t a b c).bind fun h' => some (.skip, h')
  | .insert t x k y => (ρ x).bind fun a => (ρ k).bind fun b => (ρ y).bind fun c => (amapUpdate P h t a b c).bind fun h' => some (.skip, h')
  | .makeInterface t x => (ρ x).bind fun a => match P.underlying t with
    | some d => match d with
      | .interface _ => none
      | _ => some (.val (.iface t a), h)
    | none => none
  | .makeFunc fn first captured => (evs ρ first.toList).bind fun a => (evs ρ captured.toList).bind fun b => some (.val (.func fn a.toArray b.toArray), h)
  | .makeSlice t l c => (ρ l).bind fun a => (ρ c).bind fun b => (amake P h t a b).bind fun p => some (.val p.1, p.2)
  | .slice t x lo hi mx => (ρ x).bind fun a => (evo ρ lo).bind fun l => (evo ρ hi).bind fun hh => (evo ρ mx).bind fun mm => (aslice P h t a l hh mm).bind fun p => some (.val p.1, p.2)
  | .fieldAddr t x f => (ρ x).bind fun a => (afieldAddr P t a f).bind fun v => some (.val v, h)
  | .field t x f => (ρ x).bind fun a => (afield P t a f).bind fun v => some (.val v, h)
  | .indexAddr t x i => (ρ x).bind fun a => (ρ i).bind fun b => (aindexAddr P t a b).bind fun v => some (.val v, h)
  | .index t x i => (ρ x).bind fun a => (ρ i).bind fun b => (aindex P t a b).bind fun v => some (.val v, h)
  | .typeAssert x _ t ok => (ρ x).bind fun a => (aassert P a t ok).bind fun v => some (.val v, h)
  | .extract x i => (ρ x).bind fun a => (aextract a i).bind fun v => some (.val v, h)
  | .call c =>
    match c.callee with
    | .value f => (ρ f).bind fun fv => (calleeOf fv).bind fun q => (fnOf q.1).bind fun g => (evs ρ c.args.toList).bind fun as =>
        if canEnter P g then some (.call g (q.2.1.toList ++ as ++ q.2.2.toList), h)
        else if aNoEsc P g then (match q.2.1.toList ++ as ++ q.2.2.toList with | [x] => some (.val x, h) | _ => none)
        else (aext P (fun g => ρ (.global g)) h g (q.2.1.toList ++ as ++ q.2.2.toList)).bind fun v => some (.val v, h)
    | .builtin b => (evs ρ c.args.toList).bind fun as => abuiltin P b c.argTypes.toList as h
    | .invoke _ _ => none
  | .defer c =>
    match c.callee with
    | .value f => (ρ f).bind fun fv => (calleeOf fv).bind fun q => (evs ρ c.args.toList).bind fun as => some (.defer { target := .fn q.1 q.2.2, args := q.2.1 ++ as.toArray }, h)
    | _ => none
  | .panic x => (ρ x).bind fun v => match v with
    | .iface _ _ => some (.panic v, h)
    | _ => none
  | _ => none

section
variable {P : Program} {S : Start} {m : Ren} {h : Heap} {w : World}
variable {ρ : Operand → Option Value} {ρ' : Operand → Value}

theorem evs_run {n : Nat} (hρ : ∀ x v, ρ x = some v → ρ' x = ren m v ∧ sc n v) : ∀ {l : List Operand} {vs : List Value}, evs ρ l = some vs → l.map ρ' = vs.map (ren m) ∧ ∀ v ∈ vs, sc n v
  | [], vs, e => by simp only [evs] at e; cases e; simp
  | x :: l, vs, e => by
    simp only [evs] at e
    obtain ⟨v, hv, e1⟩ := Option.bind_eq_some_iff.1 e
    obtain ⟨us, hus, e2⟩ := Option.bind_eq_some_iff.1 e1
    cases e2
    obtain ⟨h1, h2⟩ := evs_run hρ hus
    simp [h1, hρ x v hv]
    exact h2
theorem evp_run {n : Nat} (hρ : ∀ x v, ρ x = some v → ρ' x = ren m v ∧ sc n v) : ∀ {l : List (Nat × Operand)} {vs : List (Nat × Value)}, evp ρ l = some vs → l.map (fun p => (p.1, ρ' p.2)) = vs.map (fun p => (p.1, ren m p.2)) ∧ ∀ p ∈ vs, sc n p.2
  | [], vs, e => by simp only [evp] at e; cases e; simp
  | x :: l, vs, e => by
    simp only [evp] at e
    obtain ⟨v, hv, e1⟩ := Option.bind_eq_some_iff.1 e
    obtain ⟨us, hus, e2⟩ := Option.bind_eq_some_iff.1 e1
    cases e2
    obtain ⟨h1, h2⟩ := evp_run hρ hus
    refine ⟨by simp [h1, hρ _ v hv], ?_⟩
    intro p hp
    rcases List.mem_cons.1 hp with hp | hp
    · subst hp; exact (hρ _ v hv).2
    · exact h2 p hp
theorem evo_run {n : Nat} (hρ : ∀ x v, ρ x = some v → ρ' x = ren m v ∧ sc n v) {x : Option Operand} {v : Option Value} (e : evo ρ x = some v) : x.map ρ' = v.map (ren m) := by
  cases x with
  | none => simp only [evo] at e; cases e; rfl
  | some x => simp only [evo] at e; obtain ⟨u, hu, rfl⟩ := Option.map_eq_some_iff.1 e; simp [hρ x u hu]

theorem map_eq_toArray {l : Array Operand} {vs : List Value} (e : l.toList.map ρ' = vs.map (ren m)) : l.map ρ' = (vs.map (ren m)).toArray := by
  apply Array.ext'; simpa using e

def AGoes (P : Program) (S : Start) (m : Ren) (h : Heap) (w : World) (s : Sem Next) (r : AN) (h' : Heap) : Prop :=
  ∃ m' w', m.agree h.next m' ∧ s.run P w = r.res m' w' ∧ HRel P S m' h' w' ∧ r.sc h'.next ∧ h.next ≤ h'.next
theorem AGoes.same (hr : HRel P S m h w) {s : Sem Next} {r : AN} (e : s.run P w = r.res m w) (hs : r.sc h.next) : AGoes P S m h w s r h :=
  ⟨m, w, Ren.agree_refl _ _, e, hr, hs, Nat.le_refl _⟩
theorem AGoes.val (hr : HRel P S m h w) {s : Sem Value} {v : Value} (e : s.run P w = .ok (ren m v) w) (hs : sc h.next v) :
    AGoes P S m h w (do pure (.value (← s))) (.val v) h := AGoes.same hr (by simp [e, AN.res]) hs
theorem AGoes.of {s : Sem Value} {v : Value} {h' : Heap} (e : Goes P S m h w s v h') : AGoes P S m h w (do pure (.value (← s))) (.val v) h' := by
  obtain ⟨m', w', h1, h2, h3, h4, h5⟩ := e
  exact ⟨m', w', h1, by simp [h2, AN.res], h3, h4, h5⟩

theorem abuiltin_run (hr : HRel P S m h w) {b : Builtin} {ats : Array TypeId} {ty : TypeId} {consts : Array Bool} {args : List Value} {r : AN} {h' : Heap} (hs : ∀ v ∈ args, sc h.next v)
    (e : abuiltin P b ats.toList args h = some (r, h')) : AGoes P S m h w (builtin b ats ty consts (args.map (ren m)).toArray) r h' := by
  unfold abuiltin at e
  split at e
  · rename_i st xt s x h1
    obtain ⟨⟨v, h2⟩, hp, e⟩ := Option.bind_eq_some_iff.1 e
    cases e
    have ha : ats = #[st, xt] := by apply Array.ext'; simpa using h1
    subst ha
    exact AGoes.of (aappend_run hr (hs s (by simp)) hp)
  · rename_i dt st d s h1
    obtain ⟨⟨v, h2⟩, hp, e⟩ := Option.bind_eq_some_iff.1 e
    cases e
    have ha : ats = #[dt, st] := by apply Array.ext'; simpa using h1
    subst ha
    exact AGoes.of (acopy_run hr hp)
  · rename_i t x h1
    obtain ⟨v, hp, e⟩ := Option.bind_eq_some_iff.1 e
    cases e
    have ha : ats = #[t] := by apply Array.ext'; simpa using h1
    subst ha
    obtain ⟨q1, q2⟩ := alen_run (ty := ty) hr hp
    exact AGoes.val hr q1 q2
  · obtain ⟨v, hp, e⟩ := Option.bind_eq_some_iff.1 e
    cases e
    obtain ⟨q1, q2⟩ := amm_run (P := P) (w := w) (m := m) (a := ats) (ty := ty) true hp
    exact AGoes.val hr q1 (sc_flat _ _ q2)
  · obtain ⟨v, hp, e⟩ := Option.bind_eq_some_iff.1 e
    cases e
    obtain ⟨q1, q2⟩ := amm_run (P := P) (w := w) (m := m) (a := ats) (ty := ty) false hp
    exact AGoes.val hr q1 (sc_flat _ _ q2)
  · cases e
    exact AGoes.same hr rfl trivial
  · obtain ⟨v, hp, e⟩ := Option.bind_eq_some_iff.1 e
    cases e
    obtain ⟨q1, q2⟩ := asliceData_run (P := P) (m := m) (w := w) (ats := ats) (ty := ty) hp
    exact AGoes.val hr q1 (q2 _ (hs _ (by simp)))
  · rename_i pt it p n h1
    obtain ⟨⟨v, h2⟩, hp, e⟩ := Option.bind_eq_some_iff.1 e
    cases e
    have ha : ats = #[pt, it] := by apply Array.ext'; simpa using h1
    subst ha
    exact AGoes.of (aunsafeString_run hr hp)
  · rename_i t x h1
    obtain ⟨h2, hp, e⟩ := Option.bind_eq_some_iff.1 e
    cases e
    have ha : ats = #[t] := by apply Array.ext'; simpa using h1
    subst ha
    exact AGoes.of (aclear_run hr hp)
  · cases e

theorem aext_run (hr : HRel P S m h w) (hρ : ∀ x v, ρ x = some v → ρ' x = ren m v ∧ sc h.next v) (hG : ∀ g, ρ' (.global g) = .pointer (some ⟨g, 0, none⟩)) {f : FuncId} {args : List Value} {v : Value} (e : aext P (fun g => ρ (.global g)) h f args = some v) :
    (callFunc f (args.map (ren m)).toArray).run P w = .ok (.value v) w ∧ flat v = true := by
  unfold aext at e
  split at e
  · cases e
  · rename_i fn hfn
    split at e
    · rename_i hc
      obtain ⟨h1, h2, h3⟩ := hc
      split at e
      · rename_i s c
        split at e
        · rename_i he
          cases e
          refine ⟨?_, rfl⟩
          rw [run_callFunc_indexByte hfn h1 h2 h3 he]
          have := run_indexByte_string (P := P) s c w
          simp only [List.map_cons, List.map_nil, ren, this, Result.andThen_ok]
        · cases e
      · rename_i a b
        split at e
        · rename_i he
          split at e
          · rename_i g hg
            split at e
            · rename_i hgl
              split at e
              · rename_i mx hld
                split at e
                · rename_i hcond
                  cases e
                  refine ⟨?_, rfl⟩
                  obtain ⟨q1, q2⟩ := hρ _ _ hgl
                  rw [hG g] at q1
                  simp only [ren, Value.pointer.injEq, Option.some.injEq, Addr.mk.injEq, Nat.zero_add, and_true] at q1
                  obtain ⟨c1, c2⟩ := hr.ld_run hld
                  rw [← q1.1, ← q1.2] at c1
                  rw [run_callFunc_extern hfn h1 h2 h3 he]
                  have := Lib.run_indexString (P := P) a b w g mx hg c1 hcond.1 hcond.2.1 hcond.2.2
                  simp only [List.map_cons, List.map_nil, ren, this, Result.andThen_ok]
                · cases e
              · cases e
            · cases e
          · cases e
        · cases e
      · cases e
    · cases e
theorem row_mine (hr : HRel P S m h w) {i : Nat} {r : Row} (e : h.row i = some r) (hm : r.mine = true) : ∃ c t, w.heap[m.blk i]? = some (.cells c t (0, 0)) := by
  obtain ⟨_, c, fz, h1, _, _, _, _, _, h8, _⟩ := hr.obj i _ (Heap.row_some.1 e)
  unfold Row.mine at hm
  simp only [Bool.and_eq_true, Bool.not_eq_true'] at hm
  rw [h8 hm.1.1 hm.1.2 hm.2] at h1
  exact ⟨c, _, h1⟩
theorem aptr_run (hr : HRel P S m h w) {op : BinOp} {t : TypeId} {x y v : Value} (xo yo : Operand) (e : aptr P h op t x y = some v) :
    (do eqGuard op t xo yo (ren m x) (ren m y); binOp op t (ren m x) (ren m y) : Sem Value).run P w = .ok v w ∧ flat v = true := by
  unfold aptr at e
  split at e
  · rename_i el i k j l hu
    split at e
    · cases e
    rename_i hz
    obtain ⟨ti, hti, hsz⟩ : ∃ ti, P.info? el = some ti ∧ ti.size ≠ 0 := by
      unfold Program.cellsOf at hz
      cases q : P.info? el with
      | none => simp [q] at hz
      | some ti => exact ⟨ti, rfl, by simpa [q] using hz⟩
    have key : ∀ b : Bool, (sameAddr ⟨m.blk i, k + m.sh i, none⟩ ⟨m.blk j, l + m.sh j, none⟩).run P w = .ok b w → eqOp op (some b) = some v →
        (do eqGuard op t xo yo (ren m (.pointer (some ⟨i, k, none⟩))) (ren m (.pointer (some ⟨j, l, none⟩))); binOp op t (ren m (.pointer (some ⟨i, k, none⟩))) (ren m (.pointer (some ⟨j, l, none⟩))) : Sem Value).run P w = .ok v w ∧ flat v = true := by
      intro b hb h2
      obtain ⟨e1, e2⟩ := binOp_eql_plain (t := t) (x := ren m (.pointer (some ⟨i, k, none⟩))) (y := ren m (.pointer (some ⟨j, l, none⟩))) rfl rfl
      have hq := eqGuard_plain (P := P) (op := op) (t := t) (x := ren m (.pointer (some ⟨i, k, none⟩))) (y := ren m (.pointer (some ⟨j, l, none⟩))) w xo yo (by intro cs q; simp [ren] at q) (by rintro ⟨q, _⟩; simp [ren] at q)
      have hE0 : ∀ d : Nat, (Op.equalIn (d + 1) t (ren m (.pointer (some ⟨i, k, none⟩))) (ren m (.pointer (some ⟨j, l, none⟩)))).run P w = .ok b w := by
        intro d
        simp [ren, Op.equalIn, run_underlying hu, samePointer, run_sizeOf' hti, hsz, hb]
      have hE := hE0 9999
      cases op <;> simp only [eqOp] at h2 <;> try (cases h2; done)
      all_goals
        simp only [Option.map_some, Option.some.injEq] at h2
        subst h2
        simp only [Sem.run_bind, hq, Result.andThen]
        first
          | (rw [e1]; simp only [Sem.run_bind, Op.equal, Op.maxDepth, hE, Result.andThen]; exact ⟨rfl, rfl⟩)
          | (rw [e2]; simp only [Sem.run_bind, Op.equal, Op.maxDepth, hE, Result.andThen]; exact ⟨rfl, rfl⟩)
    split at e
    · rename_i hij
      subst hij
      refine key _ ?_ e
      by_cases hkl : k = l
      · subst hkl; simp [sameAddr]
      · simp [sameAddr, hkl]
    · rename_i hij
      split at e
      · rename_i r q h1 h2
        split at e
        · rename_i hm
          rw [Bool.and_eq_true] at hm
          obtain ⟨c1, t1, g1⟩ := row_mine hr h1 hm.1
          obtain ⟨c2, t2, g2⟩ := row_mine hr h2 hm.2
          have hne : m.blk i ≠ m.blk j := by
            refine hr.apart i j _ _ hij (Heap.row_some.1 h1) (Heap.row_some.1 h2) ?_ ?_
            · have := hm.1; unfold Row.mine at this; simp only [Bool.and_eq_true, Bool.not_eq_true'] at this; simp [AObj.own, this]
            · have := hm.2; unfold Row.mine at this; simp only [Bool.and_eq_true, Bool.not_eq_true'] at this; simp [AObj.own, this]
          refine key _ ?_ e
          simp [sameAddr, hne, World.frozen?, g1, g2, noView, viewAt, World.shape?, mayBeOne, stringish]
        · cases e
      · cases e
  · cases e
theorem binA_run (hr : HRel P S m h w) {op : BinOp} {t : TypeId} {both : Bool} {x y v : Value} (xo yo : Operand) (e : binA P h op t both x y = some v) :
    (do eqGuard op t xo yo (ren m x) (ren m y); binOp op t (ren m x) (ren m y) : Sem Value).run P w = .ok v w ∧ flat v = true := by
  unfold binA at e
  split at e
  · rename_i u hu
    cases e
    exact abin_run m w xo yo hu
  · split at e
    · exact aptr_run hr xo yo e
    · cases e

theorem aop_run (hr : HRel P S m h w) (hρ : ∀ x v, ρ x = some v → ρ' x = ren m v ∧ sc h.next v) (hG : ∀ g, ρ' (.global g) = .pointer (some ⟨g, 0, none⟩)) {o : Oper} {r : AN} {h' : Heap} (e : aop P ρ o h = some (r, h')) :
    AGoes P S m h w (execOp ρ' o) r h' := by
  obtain ⟨dst, op, type, pos, after, guard⟩ := o
  cases op <;> simp only [aop] at e <;> try (cases e; done)
  case move x => obtain ⟨v, hv, e⟩ := Option.bind_eq_some_iff.1 e; cases e; obtain ⟨q1, q2⟩ := hρ x v hv; exact AGoes.same hr (by simp [execOp, q1, AN.res]) q2
  case assign x => obtain ⟨v, hv, e⟩ := Option.bind_eq_some_iff.1 e; cases e; obtain ⟨q1, q2⟩ := hρ x v hv; exact AGoes.same hr (by simp [execOp, q1, AN.res]) q2
  case pick c a b =>
    obtain ⟨cv, hc, e⟩ := Option.bind_eq_some_iff.1 e
    obtain ⟨q1, _⟩ := hρ c cv hc
    cases cv with
    | bool t =>
      obtain ⟨v, hv, e⟩ := Option.bind_eq_some_iff.1 e
      cases e
      obtain ⟨q3, q4⟩ := hρ _ v hv
      refine AGoes.same hr ?_ q4
      simp only [ren] at q1
      cases t
      · simp only [Bool.false_eq_true, if_false] at q3
        simp [execOp, q1, q3, asBool, AN.res]
      · simp only [if_true] at q3
        simp [execOp, q1, q3, asBool, AN.res]
    | _ => cases e
  case alloc t =>
    obtain ⟨⟨v, h2⟩, hp, e⟩ := Option.bind_eq_some_iff.1 e
    cases e
    obtain ⟨m', w', g1, g2, g3, g4, g5⟩ := aalloc_run hr hp
    exact AGoes.of ⟨m', w', g1, g2, g3, g4, by have g6 : h2.next = h.next + 1 := g5; show h.next ≤ h2.next; omega⟩
  case box t x =>
    obtain ⟨v, hv, e⟩ := Option.bind_eq_some_iff.1 e
    cases e
    obtain ⟨q1, q2⟩ := hρ x v hv
    obtain ⟨m', w', g1, g2, g3⟩ := abox_run hr t q2
    simp only [execOp, q1]
    exact AGoes.of ⟨m', w', g1, g2, g3, by simp [abox, Heap.new, sc], by simp [abox]⟩
  case build t parts =>
    obtain ⟨ps, hps, e⟩ := Option.bind_eq_some_iff.1 e
    obtain ⟨v, hv, e⟩ := Option.bind_eq_some_iff.1 e
    cases e
    obtain ⟨q1, q2⟩ := evp_run hρ hps
    obtain ⟨q3, q4⟩ := abuild_run m w q2 hv
    have ha : (parts.map fun (i, x) => (i, ρ' x)) = (ps.map fun p => (p.1, ren m p.2)).toArray := by apply Array.ext'; simpa using q1
    simp only [execOp, ha]
    exact AGoes.val hr q3 q4
  case buildSlice t len parts =>
    obtain ⟨ps, hps, e⟩ := Option.bind_eq_some_iff.1 e
    obtain ⟨⟨v, h2⟩, hv, e⟩ := Option.bind_eq_some_iff.1 e
    cases e
    obtain ⟨q1, q2⟩ := evp_run hρ hps
    have ha : (parts.map fun (i, x) => (i, ρ' x)) = (ps.map fun p => (p.1, ren m p.2)).toArray := by apply Array.ext'; simpa using q1
    simp only [execOp, ha]
    exact AGoes.of (abuildSlice_run hr q2 hv)
  case load t a =>
    obtain ⟨p, hp, e⟩ := Option.bind_eq_some_iff.1 e
    obtain ⟨v, hv, e⟩ := Option.bind_eq_some_iff.1 e
    cases e
    obtain ⟨q1, q2⟩ := aload_run hr hv
    simp only [execOp, (hρ a p hp).1]
    exact AGoes.val hr q1 q2
  case store t a x =>
    obtain ⟨p, hp, e⟩ := Option.bind_eq_some_iff.1 e
    obtain ⟨v, hv, e⟩ := Option.bind_eq_some_iff.1 e
    obtain ⟨h2, hh, e⟩ := Option.bind_eq_some_iff.1 e
    cases e
    obtain ⟨w', q1, q2, q3⟩ := astore_run hr hh (hρ x v hv).2
    exact ⟨m, w', Ren.agree_refl _ _, by simp [execOp, (hρ a p hp).1, (hρ x v hv).1, q1, AN.res], q2, trivial, by omega⟩
  case nilCheck x =>
    obtain ⟨v, hv, e⟩ := Option.bind_eq_some_iff.1 e
    obtain ⟨q1, q2⟩ := hρ x v hv
    split at e
    · rename_i hn
      cases e
      refine AGoes.same hr ?_ q2
      unfold notNil at hn
      split at hn
      · simp [execOp, q1, ren, AN.res]
      · simp [execOp, q1, ren, AN.res]
      · cases hn
    · cases e
  case binOp op t x y yt =>
    obtain ⟨a, ha, e⟩ := Option.bind_eq_some_iff.1 e
    obtain ⟨b, hb, e⟩ := Option.bind_eq_some_iff.1 e
    obtain ⟨v, hv, e⟩ := Option.bind_eq_some_iff.1 e
    cases e
    obtain ⟨q1, q2⟩ := binA_run hr x y hv
    simp only [execOp, (hρ x a ha).1, (hρ y b hb).1]
    exact AGoes.val hr (by rw [ren_flat m v q2]; exact q1) (sc_flat _ _ q2)
  case unOp op t x =>
    obtain ⟨a, ha, e⟩ := Option.bind_eq_some_iff.1 e
    obtain ⟨v, hv, e⟩ := Option.bind_eq_some_iff.1 e
    cases e
    obtain ⟨q1, q2⟩ := aun_run (P := P) m w hv
    simp only [execOp, (hρ x a ha).1]
    exact AGoes.val hr (by rw [ren_flat m v q2]; exact q1) (sc_flat _ _ q2)
  case convert s d x =>
    obtain ⟨a, ha, e⟩ := Option.bind_eq_some_iff.1 e
    simp only [execOp, (hρ x a ha).1]
    split at e
    · rename_i v hv
      cases e
      obtain ⟨q1, q2⟩ := aconv_run (P := P) m w hv
      exact AGoes.val hr (by rw [ren_flat m v q2]; exact q1) (sc_flat _ _ q2)
    · split at e
      · rename_i p hv
        cases e
        exact AGoes.of (aconvB_run hr hv)
      · obtain ⟨v, hv, e⟩ := Option.bind_eq_some_iff.1 e
        cases e
        obtain ⟨q1, q2⟩ := aconvP_run hr hv
        exact AGoes.val hr q1 (q2 (hρ x a ha).2)
  case makeMap t r =>
    obtain ⟨a, ha, e⟩ := Option.bind_eq_some_iff.1 e
    obtain ⟨⟨v, h2⟩, hv, e⟩ := Option.bind_eq_some_iff.1 e
    cases e
    simp only [execOp, evo_run hρ ha]
    exact AGoes.of (amakeMap_run hr hv)
  case lookup t x k ok =>
    obtain ⟨a, ha, e⟩ := Option.bind_eq_some_iff.1 e
    obtain ⟨b, hb, e⟩ := Option.bind_eq_some_iff.1 e
    obtain ⟨v, hv, e⟩ := Option.bind_eq_some_iff.1 e
    cases e
    simp only [execOp, (hρ x a ha).1, (hρ k b hb).1]
    obtain ⟨q1, q2⟩ := alookup_run hr hv
    exact AGoes.val hr q1 q2
  case mapUpdate t x k y =>
    obtain ⟨a, ha, e⟩ := Option.bind_eq_some_iff.1 e
    obtain ⟨b, hb, e⟩ := Option.bind_eq_some_iff.1 e
    obtain ⟨c, hc, e⟩ := Option.bind_eq_some_iff.1 e
    obtain ⟨h2, hv, e⟩ := Option.bind_eq_some_iff.1 e
    cases e
    obtain ⟨w', q1, q2, q3⟩ := amapUpdate_run hr (hρ k b hb).2 (hρ y c hc).2 hv
    refine ⟨m, w', Ren.agree_refl _ _, ?_, q2, trivial, by omega⟩
    simp only [execOp, (hρ x a ha).1, (hρ k b hb).1, (hρ y c hc).1, Sem.run_bind, q1, Result.andThen_ok, AN.res, Sem.run_pure]
  case insert t x k y =>
    obtain ⟨a, ha, e⟩ := Option.bind_eq_some_iff.1 e
    obtain ⟨b, hb, e⟩ := Option.bind_eq_some_iff.1 e
    obtain ⟨c, hc, e⟩ := Option.bind_eq_some_iff.1 e
    obtain ⟨h2, hv, e⟩ := Option.bind_eq_some_iff.1 e
    cases e
    obtain ⟨w', q1, q2, q3⟩ := amapUpdate_run hr (hρ k b hb).2 (hρ y c hc).2 hv
    refine ⟨m, w', Ren.agree_refl _ _, ?_, q2, trivial, by omega⟩
    simp only [execOp, (hρ x a ha).1, (hρ k b hb).1, (hρ y c hc).1, Sem.run_bind, q1, Result.andThen_ok, AN.res, Sem.run_pure]
  case makeInterface t x =>
    obtain ⟨a, ha, e⟩ := Option.bind_eq_some_iff.1 e
    simp only [execOp, (hρ x a ha).1]
    split at e
    · rename_i d hd
      split at e
      · cases e
      · rename_i hne
        cases e
        refine AGoes.val hr ?_ (by simp only [sc]; exact (hρ x a ha).2)
        simp only [Instr.makeInterface, Sem.run_bind, run_underlying hd, Result.andThen_ok, ren]
        cases d <;> first | (exact absurd rfl (hne _)) | rfl
    · cases e
  case makeFunc fn first captured =>
    obtain ⟨a, ha, e⟩ := Option.bind_eq_some_iff.1 e
    obtain ⟨b, hb, e⟩ := Option.bind_eq_some_iff.1 e
    cases e
    obtain ⟨q1, q2⟩ := evs_run hρ ha
    obtain ⟨q3, q4⟩ := evs_run hρ hb
    simp only [execOp, map_eq_toArray q1, map_eq_toArray q3]
    exact AGoes.val hr (by simp [Instr.makeFunc, ren, renA, renL_map]) (by simp only [sc, scA, scL_all]; exact ⟨q2, q4⟩)
  case makeSlice t l c =>
    obtain ⟨a, ha, e⟩ := Option.bind_eq_some_iff.1 e
    obtain ⟨b, hb, e⟩ := Option.bind_eq_some_iff.1 e
    obtain ⟨⟨v, h2⟩, hv, e⟩ := Option.bind_eq_some_iff.1 e
    cases e
    simp only [execOp, (hρ l a ha).1, (hρ c b hb).1]
    exact AGoes.of (amake_run hr hv)
  case slice t x lo hi mx =>
    obtain ⟨a, ha, e⟩ := Option.bind_eq_some_iff.1 e
    obtain ⟨l, hl, e⟩ := Option.bind_eq_some_iff.1 e
    obtain ⟨hh, hhh, e⟩ := Option.bind_eq_some_iff.1 e
    obtain ⟨mm, hmm, e⟩ := Option.bind_eq_some_iff.1 e
    obtain ⟨⟨v, h2⟩, hv, e⟩ := Option.bind_eq_some_iff.1 e
    cases e
    simp only [execOp, (hρ x a ha).1, evo_run hρ hl, evo_run hρ hhh, evo_run hρ hmm]
    exact AGoes.of (aslice_run hr (hρ x a ha).2 hv)
  case fieldAddr t x f =>
    obtain ⟨a, ha, e⟩ := Option.bind_eq_some_iff.1 e
    obtain ⟨v, hv, e⟩ := Option.bind_eq_some_iff.1 e
    cases e
    obtain ⟨q1, q2⟩ := afieldAddr_run (w := w) (m := m) (hρ x a ha).2 hv
    simp only [execOp, (hρ x a ha).1]
    exact AGoes.val hr q1 q2
  case field t x f =>
    obtain ⟨a, ha, e⟩ := Option.bind_eq_some_iff.1 e
    obtain ⟨v, hv, e⟩ := Option.bind_eq_some_iff.1 e
    cases e
    obtain ⟨q1, q2⟩ := afield_run (w := w) (m := m) (hρ x a ha).2 hv
    simp only [execOp, (hρ x a ha).1]
    exact AGoes.val hr q1 q2
  case indexAddr t x i =>
    obtain ⟨a, ha, e⟩ := Option.bind_eq_some_iff.1 e
    obtain ⟨b, hb, e⟩ := Option.bind_eq_some_iff.1 e
    obtain ⟨v, hv, e⟩ := Option.bind_eq_some_iff.1 e
    cases e
    obtain ⟨q1, q2⟩ := aindexAddr_run (w := w) (m := m) (hρ x a ha).2 hv
    simp only [execOp, (hρ x a ha).1, (hρ i b hb).1]
    exact AGoes.val hr q1 q2
  case index t x i =>
    obtain ⟨a, ha, e⟩ := Option.bind_eq_some_iff.1 e
    obtain ⟨b, hb, e⟩ := Option.bind_eq_some_iff.1 e
    obtain ⟨v, hv, e⟩ := Option.bind_eq_some_iff.1 e
    cases e
    obtain ⟨q1, q2⟩ := aindex_run (w := w) (m := m) (hρ x a ha).2 hv
    simp only [execOp, (hρ x a ha).1, (hρ i b hb).1]
    exact AGoes.val hr q1 q2
  case typeAssert x xt t ok =>
    obtain ⟨a, ha, e⟩ := Option.bind_eq_some_iff.1 e
    obtain ⟨v, hv, e⟩ := Option.bind_eq_some_iff.1 e
    cases e
    obtain ⟨q1, q2⟩ := aassert_run (P := P) (xt := xt) m w (hρ x a ha).2 hv
    simp only [execOp, (hρ x a ha).1]
    exact AGoes.val hr q1 q2
  case extract x i =>
    obtain ⟨a, ha, e⟩ := Option.bind_eq_some_iff.1 e
    obtain ⟨v, hv, e⟩ := Option.bind_eq_some_iff.1 e
    cases e
    obtain ⟨q1, q2⟩ := aextract_run (P := P) (w := w) (m := m) (hρ x a ha).2 hv
    simp only [execOp, (hρ x a ha).1]
    exact AGoes.val hr q1 q2
  case call c =>
    obtain ⟨callee, args, argTypes⟩ := c
    simp only at e
    split at e
    · rename_i f
      obtain ⟨fv, hf, e⟩ := Option.bind_eq_some_iff.1 e
      obtain ⟨⟨fn, a, b⟩, hq, e⟩ := Option.bind_eq_some_iff.1 e
      obtain ⟨g, hg, e⟩ := Option.bind_eq_some_iff.1 e
      obtain ⟨as, has, e⟩ := Option.bind_eq_some_iff.1 e
      split at e
      · rename_i hcan
        cases e
        obtain ⟨q1, q2⟩ := hρ f fv hf
        obtain ⟨q3, q4⟩ := evs_run hρ has
        cases fv <;> simp only [calleeOf] at hq <;> try (cases hq; done)
        cases hq
        cases fn <;> simp only [fnOf] at hg <;> try (cases hg; done)
        cases hg
        simp only [sc, scA_all] at q2
        refine AGoes.same hr ?_ ?_
        · simp only [execOp, resolve, q1, ren, map_eq_toArray q3, Deferred.ofValue, Sem.run_bind, Sem.run_pure, Result.andThen_ok, invoke, callFunc_run hcan, AN.res]
          congr 2
          apply Array.ext'
          simp [renA_map]
        · intro v hv
          simp only [List.mem_append] at hv
          rcases hv with (hv | hv) | hv
          · exact q2.1 v (by simpa using hv)
          · exact q4 v hv
          · exact q2.2 v (by simpa using hv)
      · split at e
        · rename_i hne
          split at e
          · rename_i x hx
            cases e
            obtain ⟨q1, q2⟩ := hρ f fv hf
            obtain ⟨q3, q4⟩ := evs_run hρ has
            cases fv <;> simp only [calleeOf] at hq <;> try (cases hq; done)
            cases hq
            cases fn <;> simp only [fnOf] at hg <;> try (cases hg; done)
            cases hg
            simp only [sc, scA_all] at q2
            have hx' : a.toList ++ as ++ b.toList = [x] := hx
            refine AGoes.same hr ?_ ?_
            · have hargs : (renA m a ++ (List.map (ren m) as).toArray ++ renA m b) = #[ren m x] := by
                apply Array.ext'
                have := congrArg (List.map (ren m)) hx'
                simpa [renA_map] using this
              simp only [execOp, resolve, q1, ren, map_eq_toArray q3, Deferred.ofValue, Sem.run_bind, Sem.run_pure, Result.andThen_ok, invoke, AN.res]
              rw [hargs, aNoEsc_run hne]
            · have hmem : x ∈ a.toList ++ as ++ b.toList := by rw [hx']; simp
              simp only [List.mem_append] at hmem
              rcases hmem with (hv | hv) | hv
              · exact q2.1 _ (by simpa using hv)
              · exact q4 _ hv
              · exact q2.2 _ (by simpa using hv)
          · cases e
        obtain ⟨v, hv, e⟩ := Option.bind_eq_some_iff.1 e
        cases e
        obtain ⟨q1, q2⟩ := hρ f fv hf
        obtain ⟨q3, q4⟩ := evs_run hρ has
        cases fv <;> simp only [calleeOf] at hq <;> try (cases hq; done)
        cases hq
        cases fn <;> simp only [fnOf] at hg <;> try (cases hg; done)
        cases hg
        obtain ⟨r1, r2⟩ := aext_run hr hρ hG hv
        refine AGoes.same hr ?_ (sc_flat _ _ r2)
        have hargs : (renA m a ++ (List.map (ren m) as).toArray ++ renA m b) = ((a.toList ++ as ++ b.toList).map (ren m)).toArray := by
          apply Array.ext'
          simp [renA_map]
        simp only [execOp, resolve, q1, ren, map_eq_toArray q3, Deferred.ofValue, Sem.run_bind, Sem.run_pure, Result.andThen_ok, invoke, AN.res]
        rw [hargs, r1]
        simp only [ren_flat m v r2]
    · rename_i b
      obtain ⟨as, has, e⟩ := Option.bind_eq_some_iff.1 e
      obtain ⟨q3, q4⟩ := evs_run hρ has
      have := abuiltin_run (ty := type) (consts := args.map fun | .const _ => true | _ => false) hr q4 e
      obtain ⟨m', w', g1, g2, g3, g4, g5⟩ := this
      refine ⟨m', w', g1, ?_, g3, g4, g5⟩
      simp only [execOp, resolve, map_eq_toArray q3, Sem.run_bind, Sem.run_pure, Result.andThen_ok, invoke]
      exact g2
    · cases e
  case defer c =>
    obtain ⟨callee, args, argTypes⟩ := c
    simp only at e
    split at e
    · rename_i f
      obtain ⟨fv, hf, e⟩ := Option.bind_eq_some_iff.1 e
      obtain ⟨⟨fn, a, b⟩, hq, e⟩ := Option.bind_eq_some_iff.1 e
      obtain ⟨as, has, e⟩ := Option.bind_eq_some_iff.1 e
      cases e
      obtain ⟨q1, q2⟩ := hρ f fv hf
      obtain ⟨q3, q4⟩ := evs_run hρ has
      cases fv <;> simp only [calleeOf] at hq <;> try (cases hq; done)
      cases hq
      simp only [sc, scA_all] at q2
      refine AGoes.same hr ?_ ?_
      · simp only [execOp, resolve, q1, ren, map_eq_toArray q3, Deferred.ofValue, Sem.run_bind, Sem.run_pure, Result.andThen_ok, AN.res, renD, renT]
        congr 3
        apply Array.ext'
        simp [renA_map]
      · refine ⟨by simp only [scA_all]; exact q2.2, ?_⟩
        simp only [scA_all]
        intro v hv
        rcases Array.mem_append.1 hv with hv | hv
        · exact q2.1 v hv
        · exact q4 v (by simpa using hv)
    · cases e
  case panic x =>
    obtain ⟨v, hv, e⟩ := Option.bind_eq_some_iff.1 e
    obtain ⟨q1, q2⟩ := hρ x v hv
    cases v <;> try (cases e; done)
    cases e
    refine AGoes.same hr ?_ q2
    simp [execOp, q1, ren, Instr.panic, AN.res]
end
end Go.Mini
end
