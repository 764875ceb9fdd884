/-
  MINI, part S: what a law's arguments bring in memory.
-/
import Derived.Test.YtbcdlipddmoobaaMiniR
import Derived.ProofKit
import Derived.SliceStrings
import Derived.SizedLaws
namespace Go.Mini
open Go.ChangeShapes Go.WideShapes Go.RowKit

section
variable {P : Program} {S : Start} {m : Ren} {h : Heap} {w : World}

/-- A new object that tells of memory that was there. -/
theorem HRel.outer (hr : HRel P S m h w) {o : AObj} {B s : Nat} (ho : o.own = false) (hobj : ORel P S.base (m.put h.next B s 0) (h.next + 1) w h.next o) : HRel P S (m.put h.next B s 0) (h.alloc o) w where
  gle := by have := hr.gle; simp; omega
  glob i hi := by
    have := hr.gle
    have e1 := hr.glob i hi
    simp [Ren.put, show ¬ i = h.next by omega, e1]
  obj i p hp := by
    rw [Heap.get_alloc] at hp
    split at hp
    · rename_i e; subst e; cases hp; exact hobj
    · exact (hr.obj i p hp).keep (Ren.agree_put m _ _ _ _ _ (Nat.le_refl _)) (Heap.lt_of_get hp) (by simp) fun x hx => hx
  apart i j p q hij hp hq hpo hqo := by
    rw [Heap.get_alloc] at hp hq
    have key : ∀ i p, (if i = h.next then some o else h.get i) = some p → p.own = true → h.get i = some p ∧ (m.put h.next B s 0).blk i = m.blk i := by
      intro i p hp hpo
      split at hp
      · cases hp; rw [ho] at hpo; cases hpo
      · rename_i hne; exact ⟨hp, by simp [Ren.put, hne]⟩
    obtain ⟨a, c⟩ := key i p hp hpo
    obtain ⟨a', c'⟩ := key j q hq hqo
    rw [c, c']
    exact hr.apart i j p q hij a a' hpo hqo
  frame := hr.frame
  size := hr.size
  io := hr.io

/-- A row of plain values that lay there. -/
theorem HRel.outerRow (hr : HRel P S m h w) (hS : S.base = w.heap.size) (a : Addr) (vs : List Value) (hf : ∀ v ∈ vs, flat v = true) (hc : ∀ i v, vs[i]? = some v → w.cell? (a.add i) = some v) :
    ∃ o, HRel P S (m.put h.next a.block a.off 0) (h.alloc o) w ∧ ∀ i v, vs[i]? = some v → (h.alloc o).ld h.next i = some v := by
  cases vs with
  | nil => exact ⟨.dead, hr.outer rfl trivial, fun i v e => by simp at e⟩
  | cons v0 vs =>
    have h0 := hc 0 v0 rfl
    simp only [Addr.add, if_true] at h0
    unfold World.cell? at h0
    cases hb : w.heap[a.block]? with
    | none => rw [hb] at h0; cases h0
    | some O =>
      rw [hb] at h0
      cases O with
      | cells c e fz =>
        simp only [] at h0
        split at h0
        · cases h0
        have hlt := lt_of_some hb
        have hcell : ∀ k v, (v0 :: vs)[k]? = some v → c[a.off + k]? = some v := by
          intro k v hk
          have := hc k v hk
          unfold Addr.add at this
          by_cases hk0 : k = 0
          · subst hk0
            cases hk
            simpa using h0
          · rw [if_neg hk0] at this
            unfold World.cell? at this
            rw [hb] at this
            simpa using this
        refine ⟨.row { vs := v0 :: vs, elem := e, outer := true }, hr.outer rfl ⟨fun v hv => sc_flat _ v (hf v hv), c, fz, ?_, ?_, ?_, ?_, ?_, ?_, ?_, ?_⟩, ?_⟩
        · rw [Ren.put_blk]; exact hb
        · simp only [Ren.put_sh, Ren.put_ext, Nat.zero_mul, Nat.add_zero]
          have hk := hcell vs.length ((v0 :: vs)[vs.length]) (List.getElem?_eq_getElem (by simp))
          have := lt_of_some hk
          simp only [List.length_cons]; omega
        · intro k v hk
          rw [Ren.put_sh, ren_flat _ v (hf v (List.mem_of_getElem? hk))]
          exact hcell k v hk
        · intro q; cases q
        · intro _; rw [Ren.put_blk, hS]; exact hlt
        · intro q; cases q
        · intro q; cases q
        · intro _; exact Ren.put_ext _ _ _ _ _
        · intro i v e
          exact Heap.ld_of (Heap.get_alloc_new h _) e
      | _ => cases h0
end

/-- A string, as its bytes. -/
def bs (l : List UInt8) : ByteArray := ⟨l.toArray⟩
theorem bs_data (s : ByteArray) : bs s.data.toList = s := rfl
@[simp] theorem bs_size (l : List UInt8) : (bs l).size = l.length := rfl
theorem bs_drop (l : List UInt8) (n : Nat) : (bs l).extract n l.length = bs (l.drop n) := by
  apply ByteArray.ext
  simp [bs, ByteArray.data_extract]
  rw [List.take_of_length_le (by simp)]
theorem bs_take (l : List UInt8) (n : Nat) : (bs l).extract 0 n = bs (l.take n) := by
  apply ByteArray.ext
  simp [bs, ByteArray.data_extract]
theorem bs_append (a b : List UInt8) : bs a ++ bs b = bs (a ++ b) := by
  apply ByteArray.ext
  simp [bs]
theorem bs_inj {a b : List UInt8} : bs a = bs b ↔ a = b := by
  constructor
  · intro h
    have := congrArg (fun x => x.data.toList) h
    simpa [bs] using this
  · rintro rfl; rfl

/-- A list of strings in memory. -/
def Strs (h : Heap) (v : Value) (ls : List (List UInt8)) : Prop :=
  ∃ a cap, v = .slice a ls.length cap ∧ ∀ j l, ls[j]? = some l → ∃ b k sp, a = some ⟨b, k, sp⟩ ∧ h.ld b (k + j) = some (.string (bs l))
theorem Heap.more.ld {h h' : Heap} (hm : h.more h') {i k : Nat} {v : Value} (e : h.ld i k = some v) : h'.ld i k = some v := by
  unfold Heap.ld at e ⊢
  obtain ⟨r, hr, e⟩ := Option.bind_eq_some_iff.1 e
  rw [Heap.row_of (hm.get (Heap.row_some.1 hr))]
  exact e
theorem Strs.more {h h' : Heap} {v : Value} {ls : List (List UInt8)} (hs : Strs h v ls) (hm : h.more h') : Strs h' v ls := by
  obtain ⟨a, cap, rfl, hj⟩ := hs
  exact ⟨a, cap, rfl, fun j l e => by obtain ⟨b, k, sp, rfl, q⟩ := hj j l e; exact ⟨b, k, sp, rfl, hm.ld q⟩⟩
/-- A list of numbers in memory. -/
def Nums (h : Heap) (v : Value) (k : IntKind) (ns : List Int) : Prop :=
  ∃ a cap, v = .slice a ns.length cap ∧ ∀ j n, ns[j]? = some n → ∃ b o sp, a = some ⟨b, o, sp⟩ ∧ h.ld b (o + j) = some (.int k n)
theorem Nums.more {h h' : Heap} {v : Value} {k : IntKind} {ns : List Int} (hs : Nums h v k ns) (hm : h.more h') : Nums h' v k ns := by
  obtain ⟨a, cap, rfl, hj⟩ := hs
  exact ⟨a, cap, rfl, fun j l e => by obtain ⟨b, o, sp, rfl, q⟩ := hj j l e; exact ⟨b, o, sp, rfl, hm.ld q⟩⟩

theorem weightsAll_strs {H : Type} {P : Program} {e : TypeId} : ∀ {ss : List ByteArray} {s : ByteArray}, s ∈ ss → s.size ∈ DataW.weightsAll P e (strs (H := H) ss)
  | t :: ss, s, hs => by
    simp only [strs, List.map_cons, DataW.weightsAll, List.mem_append]
    rcases List.mem_cons.1 hs with rfl | hs
    · left
      simp only [DataW.weights, List.mem_singleton, Array.length_toList]
      rfl
    · right; exact weightsAll_strs hs

section
variable {H : Type} {enc : TypeId × Value → H} {P : Program} {W : World} {G : Nat} {m : Ren} {h : Heap}

/-- A slice of strings among a law's arguments. -/
theorem open_strs {t e : TypeId} {v : Value} {d : DataW H} {ps : List MemPlace} {base : Nat} (ht : P.underlying t = some (.slice e)) (he : P.underlying e = some .string) (hc : P.cellsOf e = 1) (hw : 1 ≤ P.bytesOf e)
    (hok : Value.okWide P W .any base t v) (h0 : DataW.Trod enc P W 0 (fun _ => true) true t v d ps) (hr : HRel P ⟨G, W.heap.size, W⟩ m h W) :
    ∃ m' h' v' ls, HRel P ⟨G, W.heap.size, W⟩ m' h' W ∧ m.agree h.next m' ∧ h.more h' ∧ ren m' v' = v ∧ sc h'.next v' ∧ Strs h' v' ls ∧
      ∀ (ts : List TypeId) (ds : List (DataW H)) (j : Nat), (DataW.weightsEach P ts ds).all (· ≤ reachBytes) = true → ts[j]? = some t → ds[j]? = some d → ls.length ≤ reachBytes ∧ ∀ l ∈ ls, l.length ≤ reachBytes := by
  obtain ⟨a0, len, cap, rfl⟩ := okWide_slice ht hok
  have hsp : ∀ a, a0 = some a → a.spot = none := by
    rintro a rfl
    simp only [Value.okWide, ht, Cell.okWide, Cell.ok] at hok
    exact hok.2.2.2.1
  obtain ⟨fuel, hf⟩ := h0
  rcases open_strings ht he hc hf with ⟨hcs, hx⟩ | ⟨a, len', cap', ss, hcs, _, hl, hm, hz, hx, hcell, hsz⟩
  · simp [Value.cells] at hcs
    obtain ⟨rfl, rfl, rfl⟩ := hcs
    exact ⟨m, h, .slice none 0 0, [], hr, Ren.agree_refl _ _, Heap.more_refl _, by simp [ren], by simp [sc], ⟨none, 0, rfl, fun j l e => by simp at e⟩, fun _ _ _ _ _ _ => ⟨by simp, by simp⟩⟩
  · simp [Value.cells] at hcs
    obtain ⟨rfl, rfl, rfl⟩ := hcs
    simp only [Prod.mk.injEq] at hx
    obtain ⟨rfl, rfl⟩ := hx
    have hlen : len ≤ ss.length := by rw [hz]; split <;> omega
    obtain ⟨o, hr', hld⟩ := hr.outerRow rfl a ((ss.take len).map Value.string) (fun v hv => by obtain ⟨s, _, rfl⟩ := List.mem_map.1 hv; rfl) (by
      intro i v hi
      rw [List.getElem?_map, List.getElem?_take] at hi
      split at hi
      · rename_i hil
        have hi2 := hcell i (by omega)
        rw [hi2]
        rw [List.getElem?_eq_getElem (by omega)] at hi
        simp only [Option.map_some, Option.some.injEq] at hi
        rw [← hi, List.getD_eq_getElem?_getD, List.getElem?_eq_getElem (by omega)]
        rfl
      · cases hi)
    refine ⟨_, _, .slice (some ⟨h.next, 0, none⟩) len cap, (ss.take len).map fun s => s.data.toList, hr', Ren.agree_put m _ _ _ _ _ (Nat.le_refl _), Heap.more_alloc _ _, ?_, ?_, ⟨some ⟨h.next, 0, none⟩, cap, ?_, ?_⟩, ?_⟩
    · have h2 := hsp a rfl
      obtain ⟨b, o2, sp⟩ := a
      simp only at h2
      subst h2
      simp only [ren, Ren.put_blk, Ren.put_sh, Ren.put_ext, Nat.zero_add, Nat.add_zero, Option.isSome_none, Bool.false_eq_true, if_false]
    · simp [sc]
    · simp; omega
    · intro j l hj
      refine ⟨h.next, 0, none, rfl, ?_⟩
      rw [Nat.zero_add]
      apply hld
      rw [List.getElem?_map] at hj ⊢
      obtain ⟨s, hs, rfl⟩ := Option.map_eq_some_iff.1 hj
      rw [hs]; rfl
    · intro ts ds j hall htj hdj
      have hmem := fun n hn => List.all_eq_true.1 hall _ (DataW.weights_mem_each htj hdj n hn)
      simp only [DataW.weights, ht] at hmem
      constructor
      · have := hmem _ (List.mem_cons_self ..)
        simp only [strs, List.length_map, decide_eq_true_eq] at this ⊢
        have h2 : (List.take len ss).length ≤ ((List.take len ss).length + (List.drop len ss).length) * P.bytesOf e := Nat.le_trans (Nat.le_add_right _ _) (Nat.le_mul_of_pos_right _ hw)
        omega
      · intro l hl2
        obtain ⟨s, hs, rfl⟩ := List.mem_map.1 hl2
        have := hmem s.size (List.mem_cons_of_mem _ (List.mem_append_left _ (weightsAll_strs hs)))
        have h3 := of_decide_eq_true this
        rw [Array.length_toList]; exact h3
end
end Go.Mini
