/-
  MINI, parts R to Z.
-/
import Derived.Test.YtpdpbbejnbgdpaaDoorMiniLtoQ
import Derived.ProofKit
import Derived.SliceStrings
import Derived.SizedLaws
section
/-
  MINI, part R: operations carried out one by one, in a form that a simplifier reckons with inside out.
-/
namespace Go.Mini

theorem beq_ft : (false == true) = false := rfl
theorem beq_tf : (true == false) = false := rfl
def keep (fr : Option Frm) (h : Heap) : Option (Frm × Heap) := match fr with | some f => some (f, h) | none => none
/-- The guard's slot and what is wanted of it; the slot's number looked up ahead. -/
def guardOf (ops : List Oper) (o : Oper) : Option (Option Nat × Bool) := match o.guard with | none => none | some (j, want) => some ((ops[j]?).bind (·.dst), want)
def wantV (want : Bool) : Option Value → Option Bool
  | none => none
  | some (.bool b) => some (b == want)
  | some _ => some false
def wantG (fr : Frm) : Option (Option Nat × Bool) → Option Bool
  | none => some true
  | some (none, _) => some false
  | some (some d, want) => wantV want (look d fr.slots)
def stepV (fr : Frm) (dst : Option Nat) : Option (AN × Heap) → Option (Frm × Heap)
  | some (.val v, h) => keep (fr.put dst v) h
  | some (.skip, h) => keep (fr.put dst undef) h
  | _ => none
noncomputable def stepW (P : Program) (G : Nat) (o : Oper) (fr : Frm) (h : Heap) : Option Bool → Option (Frm × Heap)
  | some true => stepV fr o.dst (aop P (aev G fr) o h)
  | some false => keep (fr.put o.dst undef) h
  | none => none
noncomputable def stepO (P : Program) (G : Nat) (o : Oper) (g : Option (Option Nat × Bool)) : Option (Frm × Heap) → Option (Frm × Heap)
  | some (fr, h) => stepW P G o fr h (wantG fr g)
  | none => none
noncomputable def runS (P : Program) (G : Nat) (ops : List Oper) : List Oper → Option (Frm × Heap) → Option (Frm × Heap)
  | [], st => st
  | o :: l, st => runS P G ops l (stepO P G o (guardOf ops o) st)

theorem awanted_eq (ops : List Oper) (fr : Frm) (o : Oper) : awanted ops.toArray fr o = wantG fr (guardOf ops o) := by
  unfold awanted guardOf
  cases o.guard with
  | none => rfl
  | some p =>
    obtain ⟨j, want⟩ := p
    simp only [List.getElem?_toArray]
    cases e : (ops[j]?).bind (·.dst) with
    | none => rfl
    | some d =>
      simp only [wantG, wantV]
      cases look d fr.slots with
      | none => rfl
      | some v => cases v <;> rfl
theorem runS_none (P : Program) (G : Nat) (ops : List Oper) : ∀ l, runS P G ops l none = none
  | [] => rfl
  | o :: l => by simp only [runS, stepO]; exact runS_none P G ops l
theorem runS_eq (P : Program) (G : Nat) (ops : List Oper) : ∀ (l : List Oper) (fr : Frm) (h : Heap), runS P G ops l (some (fr, h)) = runL P G ops.toArray l fr h
  | [], fr, h => rfl
  | o :: l, fr, h => by
    have hk : ∀ (x : Option Frm) (h1 : Heap), runS P G ops l (keep x h1) = x.bind fun fr1 => runL P G ops.toArray l fr1 h1 := by
      intro x h1
      cases x with
      | none => exact runS_none P G ops l
      | some f => exact runS_eq P G ops l f h1
    simp only [runS, stepO, runL, awanted_eq]
    cases wantG fr (guardOf ops o) with
    | none => exact runS_none P G ops l
    | some t =>
      cases t with
      | false => simp only [stepW, Option.bind_some, Bool.false_eq_true, if_false]; exact hk _ _
      | true =>
        simp only [stepW, Option.bind_some, if_true]
        cases aop P (aev G fr) o h with
        | none => exact runS_none P G ops l
        | some r =>
          obtain ⟨n, h1⟩ := r
          cases n with
          | val v => exact hk _ _
          | skip => exact hk _ _
          | _ => exact runS_none P G ops l

/-- The same where the order is drawn: what is not loud leaves the memory. -/
def stepVD (fr : Frm) (o : Oper) (n : Nat) : Option (AN × Heap) → Option (Frm × Heap)
  | some (.val v, h) => if isLoud o || decide (h.next = n) then keep (fr.put o.dst v) h else none
  | some (.skip, h) => if isLoud o then keep (fr.put o.dst undef) h else none
  | _ => none
noncomputable def stepWD (P : Program) (G : Nat) (o : Oper) (fr : Frm) (h : Heap) : Option Bool → Option (Frm × Heap)
  | some true => stepVD fr o h.next (aop P (aev G fr) o h)
  | some false => keep (fr.put o.dst undef) h
  | none => none
noncomputable def stepOD (P : Program) (G : Nat) (o : Oper) (g : Option (Option Nat × Bool)) : Option (Frm × Heap) → Option (Frm × Heap)
  | some (fr, h) => stepWD P G o fr h (wantG fr g)
  | none => none
noncomputable def runSD (P : Program) (G : Nat) (ops : List Oper) : List Oper → Option (Frm × Heap) → Option (Frm × Heap)
  | [], st => st
  | o :: l, st => runSD P G ops l (stepOD P G o (guardOf ops o) st)
theorem runSD_none (P : Program) (G : Nat) (ops : List Oper) : ∀ l, runSD P G ops l none = none
  | [] => rfl
  | o :: l => by simp only [runSD, stepOD]; exact runSD_none P G ops l
theorem runSD_eq (P : Program) (G : Nat) (ops : List Oper) : ∀ (l : List Oper) (fr : Frm) (h : Heap), runSD P G ops l (some (fr, h)) = runD P G ops.toArray l fr h
  | [], fr, h => rfl
  | o :: l, fr, h => by
    have hk : ∀ (x : Option Frm) (h1 : Heap), runSD P G ops l (keep x h1) = x.bind fun fr1 => runD P G ops.toArray l fr1 h1 := by
      intro x h1
      cases x with
      | none => exact runSD_none P G ops l
      | some f => exact runSD_eq P G ops l f h1
    simp only [runSD, stepOD, runD, awanted_eq]
    cases wantG fr (guardOf ops o) with
    | none => exact runSD_none P G ops l
    | some t =>
      cases t with
      | false => simp only [stepWD, Option.bind_some, Bool.false_eq_true, if_false]; exact hk _ _
      | true =>
        simp only [stepWD, Option.bind_some, if_true]
        cases aop P (aev G fr) o h with
        | none => exact runSD_none P G ops l
        | some r =>
          obtain ⟨n, h1⟩ := r
          cases n with
          | val v =>
            simp only [stepVD, Option.bind_some]
            split
            · exact hk _ _
            · exact runSD_none P G ops l
          | skip =>
            simp only [stepVD, Option.bind_some]
            split
            · exact hk _ _
            · exact runSD_none P G ops l
          | _ => exact runSD_none P G ops l

section
variable {P : Program} {G : Nat} {Ext : FuncId → List Value → Heap → Value → Heap → Prop} {fr : Frm} {u : Option FrameMode} {h : Heap} {Q : Exit → Frm → Option FrameMode → Heap → Prop}
theorem Wp.runS {id : Nat} {ops : List Oper} {fr' : Frm} {h' : Heap} (hr : Mini.runS P G ops ops (some (fr, h)) = some (fr', h')) (hq : Q .normal fr' u h') : Wp P G Ext (.region id ops.toArray false) fr u h Q :=
  Wp.run (by rw [← runS_eq]; exact hr) hq
theorem Wp.runSD {id : Nat} {ops : List Oper} {fr' : Frm} {h' : Heap} (hm : P.follows .mixedOrders = true) (hd : drawable ops [] [] 0 = true)
    (hr : Mini.runSD P G ops ops (some (fr, h)) = some (fr', h')) (hq : Q .normal fr' u h') : Wp P G Ext (.region id ops.toArray true) fr u h Q :=
  Wp.runDr hm hd (by rw [← runSD_eq]; exact hr) hq
/-- A sequence, with what holds between. -/
theorem Wp.join {a b : Code} (J : Frm → Option FrameMode → Heap → Prop) (hB : ∀ fr u h, J fr u h → Wp P G Ext b fr u h Q) (hA : Wp P G Ext a fr u h (after J Q)) : Wp P G Ext (.seq a b) fr u h Q := by
  refine Wp.seq (hA.mono ?_)
  intro e fr u h q
  cases e with
  | normal => exact hB _ _ _ q
  | _ => exact q
/-- The same for any code. -/
theorem Wp.cut {c : Code} (J : Frm → Option FrameMode → Heap → Prop) (hB : ∀ fr u h, J fr u h → Q .normal fr u h) (hA : Wp P G Ext c fr u h (after J Q)) : Wp P G Ext c fr u h Q := by
  refine hA.mono ?_
  intro e fr u h q
  cases e with
  | normal => exact hB _ _ _ q
  | _ => exact q
theorem Wp.regionAs {id : Nat} {ops : List Oper} {is : List Nat} (hi : List.range ops.toArray.size = is) (hw : WpO P G Ext ops.toArray is fr u h Q) : Wp P G Ext (.region id ops.toArray false) fr u h Q := by
  subst hi; exact Wp.region hw
theorem WpO.callS {ops : List Oper} {i : Nat} {l : List Nat} {p : Oper} {f : FuncId} {args : List Value} {h1 : Heap} (hi : ops[i]? = some p) (hw : wantG fr (guardOf ops p) = some true) (ha : aop P (aev G fr) p h = some (.call f args, h1))
    (hd : Does P G Ext f args h1 fun e h2 => match e with
      | .returned v => ∃ fr1, fr.put p.dst v = some fr1 ∧ WpO P G Ext ops.toArray l fr1 u h2 Q
      | .panicked c => Q (.panic c) fr u h2
      | .outgrown => False) : WpO P G Ext ops.toArray (i :: l) fr u h Q :=
  WpO.call (by simpa using hi) (by rw [awanted_eq]; exact hw) ha hd
/-- A call that its contract says returns. -/
theorem WpO.callR {ops : List Oper} {i : Nat} {l : List Nat} {p : Oper} {f : FuncId} {args : List Value} {h1 : Heap} {R : Ending → Heap → Prop} (hd : Does P G Ext f args h1 R) (hi : ops[i]? = some p) (hw : wantG fr (guardOf ops p) = some true) (ha : aop P (aev G fr) p h = some (.call f args, h1))
    (hR : ∀ e h2, R e h2 → ∃ v fr1, e = .returned v ∧ fr.put p.dst v = some fr1 ∧ WpO P G Ext ops.toArray l fr1 u h2 Q) : WpO P G Ext ops.toArray (i :: l) fr u h Q :=
  WpO.callS hi hw ha (hd.mono fun e h2 r => by obtain ⟨v, fr1, rfl, q⟩ := hR e h2 r; exact ⟨fr1, q⟩)
/-- Some operations of a region: the first n of what is left of it. -/
theorem WpO.runS {ops : List Oper} (n : Nat) {k : Nat} {is : List Nat} {fr' : Frm} {h' : Heap} (hr : Mini.runS P G ops ((ops.drop k).take n) (some (fr, h)) = some (fr', h')) (hn : k + n ≤ ops.length)
    (hw : WpO P G Ext ops.toArray is fr' u h' Q) : WpO P G Ext ops.toArray (List.range' k n ++ is) fr u h Q :=
  WpO.run n (by rw [← runS_eq]; exact hr) (by simpa using hn) hw
end
end Go.Mini
end
section
/-
  MINI, part S: what a law's arguments bring in memory.
-/
namespace Go.Mini
open Go.ChangeShapes Go.WideShapes Go.RowKit

section
variable {P : Program} {S : Start} {m : Ren} {h : Heap} {w : World}

/-- A new object that tells of memory that was there. -/
theorem HRel.outer (hr : HRel P S m h w) {o : AObj} {B s : Nat} (ho : o.own = false) (hobj : ORel P S.base (m.put h.next B s 0) (h.next + 1) w h.next o) : HRel P S (m.put h.next B s 0) (h.alloc o) w where
  gle := by have := hr.gle; simp; omega
  glob i hi := by
    have := hr.gle
    have e1 := hr.glob i hi
    simp [Ren.put, show ¬ i = h.next by omega, e1]
  obj i p hp := by
    rw [Heap.get_alloc] at hp
    split at hp
    · rename_i e; subst e; cases hp; exact hobj
    · exact (hr.obj i p hp).keep (Ren.agree_put m _ _ _ _ _ (Nat.le_refl _)) (Heap.lt_of_get hp) (by simp) fun x hx => hx
  apart i j p q hij hp hq hpo hqo := by
    rw [Heap.get_alloc] at hp hq
    have key : ∀ i p, (if i = h.next then some o else h.get i) = some p → p.own = true → h.get i = some p ∧ (m.put h.next B s 0).blk i = m.blk i := by
      intro i p hp hpo
      split at hp
      · cases hp; rw [ho] at hpo; cases hpo
      · rename_i hne; exact ⟨hp, by simp [Ren.put, hne]⟩
    obtain ⟨a, c⟩ := key i p hp hpo
    obtain ⟨a', c'⟩ := key j q hq hqo
    rw [c, c']
    exact hr.apart i j p q hij a a' hpo hqo
  frame := hr.frame
  size := hr.size
  io := hr.io

/-- A row of plain values that lay there. -/
theorem HRel.outerRow (hr : HRel P S m h w) (hS : S.base = w.heap.size) (a : Addr) (vs : List Value) (hf : ∀ v ∈ vs, flat v = true) (hc : ∀ i v, vs[i]? = some v → w.cell? (a.add i) = some v) :
    ∃ o, HRel P S (m.put h.next a.block a.off 0) (h.alloc o) w ∧ ∀ i v, vs[i]? = some v → (h.alloc o).ld h.next i = some v := by
  cases vs with
  | nil => exact ⟨.dead, hr.outer rfl trivial, fun i v e => by simp at e⟩
  | cons v0 vs =>
    have h0 := hc 0 v0 rfl
    simp only [Addr.add, if_true] at h0
    unfold World.cell? at h0
    cases hb : w.heap[a.block]? with
    | none => rw [hb] at h0; cases h0
    | some O =>
      rw [hb] at h0
      cases O with
      | cells c e fz =>
        simp only [] at h0
        split at h0
        · cases h0
        have hlt := lt_of_some hb
        have hcell : ∀ k v, (v0 :: vs)[k]? = some v → c[a.off + k]? = some v := by
          intro k v hk
          have := hc k v hk
          unfold Addr.add at this
          by_cases hk0 : k = 0
          · subst hk0
            cases hk
            simpa using h0
          · rw [if_neg hk0] at this
            unfold World.cell? at this
            rw [hb] at this
            simpa using this
        refine ⟨.row { vs := v0 :: vs, elem := e, outer := true }, hr.outer rfl ⟨fun v hv => sc_flat _ v (hf v hv), c, fz, ?_, ?_, ?_, ?_, ?_, ?_, ?_, ?_⟩, ?_⟩
        · rw [Ren.put_blk]; exact hb
        · simp only [Ren.put_sh, Ren.put_ext, Nat.zero_mul, Nat.add_zero]
          have hk := hcell vs.length ((v0 :: vs)[vs.length]) (List.getElem?_eq_getElem (by simp))
          have := lt_of_some hk
          simp only [List.length_cons]; omega
        · intro k v hk
          rw [Ren.put_sh, ren_flat _ v (hf v (List.mem_of_getElem? hk))]
          exact hcell k v hk
        · intro q; cases q
        · intro _; rw [Ren.put_blk, hS]; exact hlt
        · intro q; cases q
        · intro q; cases q
        · intro _; exact Ren.put_ext _ _ _ _ _
        · intro i v e
          exact Heap.ld_of (Heap.get_alloc_new h _) e
      | _ => cases h0
end

/-- A string, as its bytes. -/
def bs (l : List UInt8) : ByteArray := ⟨l.toArray⟩
theorem bs_data (s : ByteArray) : bs s.data.toList = s := rfl
@[simp] theorem bs_size (l : List UInt8) : (bs l).size = l.length := rfl
theorem bs_drop (l : List UInt8) (n : Nat) : (bs l).extract n l.length = bs (l.drop n) := by
  apply ByteArray.ext
  simp [bs, ByteArray.data_extract]
  rw [List.take_of_length_le (by simp)]
theorem bs_take (l : List UInt8) (n : Nat) : (bs l).extract 0 n = bs (l.take n) := by
  apply ByteArray.ext
  simp [bs, ByteArray.data_extract]
theorem bs_append (a b : List UInt8) : bs a ++ bs b = bs (a ++ b) := by
  apply ByteArray.ext
  simp [bs]
theorem bs_inj {a b : List UInt8} : bs a = bs b ↔ a = b := by
  constructor
  · intro h
    have := congrArg (fun x => x.data.toList) h
    simpa [bs] using this
  · rintro rfl; rfl

/-- A list of strings in memory. -/
def Strs (h : Heap) (v : Value) (ls : List (List UInt8)) : Prop :=
  ∃ a cap, v = .slice a ls.length cap ∧ ∀ j l, ls[j]? = some l → ∃ b k sp, a = some ⟨b, k, sp⟩ ∧ h.ld b (k + j) = some (.string (bs l))
theorem Heap.more.ld {h h' : Heap} (hm : h.more h') {i k : Nat} {v : Value} (e : h.ld i k = some v) : h'.ld i k = some v := by
  unfold Heap.ld at e ⊢
  obtain ⟨r, hr, e⟩ := Option.bind_eq_some_iff.1 e
  rw [Heap.row_of (hm.get (Heap.row_some.1 hr))]
  exact e
theorem Strs.more {h h' : Heap} {v : Value} {ls : List (List UInt8)} (hs : Strs h v ls) (hm : h.more h') : Strs h' v ls := by
  obtain ⟨a, cap, rfl, hj⟩ := hs
  exact ⟨a, cap, rfl, fun j l e => by obtain ⟨b, k, sp, rfl, q⟩ := hj j l e; exact ⟨b, k, sp, rfl, hm.ld q⟩⟩
/-- A list of numbers in memory. -/
def Nums (h : Heap) (v : Value) (k : IntKind) (ns : List Int) : Prop :=
  ∃ a cap, v = .slice a ns.length cap ∧ ∀ j n, ns[j]? = some n → ∃ b o sp, a = some ⟨b, o, sp⟩ ∧ h.ld b (o + j) = some (.int k n)
theorem Nums.more {h h' : Heap} {v : Value} {k : IntKind} {ns : List Int} (hs : Nums h v k ns) (hm : h.more h') : Nums h' v k ns := by
  obtain ⟨a, cap, rfl, hj⟩ := hs
  exact ⟨a, cap, rfl, fun j l e => by obtain ⟨b, o, sp, rfl, q⟩ := hj j l e; exact ⟨b, o, sp, rfl, hm.ld q⟩⟩

theorem weightsAll_strs {H : Type} {P : Program} {e : TypeId} : ∀ {ss : List ByteArray} {s : ByteArray}, s ∈ ss → s.size ∈ DataW.weightsAll P e (strs (H := H) ss)
  | t :: ss, s, hs => by
    simp only [strs, List.map_cons, DataW.weightsAll, List.mem_append]
    rcases List.mem_cons.1 hs with rfl | hs
    · left
      simp only [DataW.weights, List.mem_singleton, Array.length_toList]
      rfl
    · right; exact weightsAll_strs hs

section
variable {H : Type} {enc : TypeId × Value → H} {P : Program} {W : World} {G : Nat} {m : Ren} {h : Heap}

/-- A slice of strings among a law's arguments. -/
theorem open_strs {t e : TypeId} {v : Value} {d : DataW H} {ps : List MemPlace} {base : Nat} (ht : P.underlying t = some (.slice e)) (he : P.underlying e = some .string) (hc : P.cellsOf e = 1) (hw : 1 ≤ P.bytesOf e)
    (hok : Value.okWide P W .any base t v) (h0 : DataW.Trod enc P W 0 (fun _ => true) true t v d ps) (hr : HRel P ⟨G, W.heap.size, W⟩ m h W) :
    ∃ m' h' v' ls, HRel P ⟨G, W.heap.size, W⟩ m' h' W ∧ m.agree h.next m' ∧ h.more h' ∧ ren m' v' = v ∧ sc h'.next v' ∧ Strs h' v' ls ∧
      ∀ (ts : List TypeId) (ds : List (DataW H)) (j : Nat), (DataW.weightsEach P ts ds).all (· ≤ reachBytes) = true → ts[j]? = some t → ds[j]? = some d → ls.length ≤ reachBytes ∧ ∀ l ∈ ls, l.length ≤ reachBytes := by
  obtain ⟨a0, len, cap, rfl⟩ := okWide_slice ht hok
  have hsp : ∀ a, a0 = some a → a.spot = none := by
    rintro a rfl
    simp only [Value.okWide, ht, Cell.okWide, Cell.ok] at hok
    exact hok.2.2.2.1
  obtain ⟨fuel, hf⟩ := h0
  rcases open_strings ht he hc hf with ⟨hcs, hx⟩ | ⟨a, len', cap', ss, hcs, _, hl, hm, hz, hx, hcell, hsz⟩
  · simp [Value.cells] at hcs
    obtain ⟨rfl, rfl, rfl⟩ := hcs
    exact ⟨m, h, .slice none 0 0, [], hr, Ren.agree_refl _ _, Heap.more_refl _, by simp [ren], by simp [sc], ⟨none, 0, rfl, fun j l e => by simp at e⟩, fun _ _ _ _ _ _ => ⟨by simp, by simp⟩⟩
  · simp [Value.cells] at hcs
    obtain ⟨rfl, rfl, rfl⟩ := hcs
    simp only [Prod.mk.injEq] at hx
    obtain ⟨rfl, rfl⟩ := hx
    have hlen : len ≤ ss.length := by rw [hz]; split <;> omega
    obtain ⟨o, hr', hld⟩ := hr.outerRow rfl a ((ss.take len).map Value.string) (fun v hv => by obtain ⟨s, _, rfl⟩ := List.mem_map.1 hv; rfl) (by
      intro i v hi
      rw [List.getElem?_map, List.getElem?_take] at hi
      split at hi
      · rename_i hil
        have hi2 := hcell i (by omega)
        rw [hi2]
        rw [List.getElem?_eq_getElem (by omega)] at hi
        simp only [Option.map_some, Option.some.injEq] at hi
        rw [← hi, List.getD_eq_getElem?_getD, List.getElem?_eq_getElem (by omega)]
        rfl
      · cases hi)
    refine ⟨_, _, .slice (some ⟨h.next, 0, none⟩) len cap, (ss.take len).map fun s => s.data.toList, hr', Ren.agree_put m _ _ _ _ _ (Nat.le_refl _), Heap.more_alloc _ _, ?_, ?_, ⟨some ⟨h.next, 0, none⟩, cap, ?_, ?_⟩, ?_⟩
    · have h2 := hsp a rfl
      obtain ⟨b, o2, sp⟩ := a
      simp only at h2
      subst h2
      simp only [ren, Ren.put_blk, Ren.put_sh, Ren.put_ext, Nat.zero_add, Nat.add_zero, Option.isSome_none, Bool.false_eq_true, if_false]
    · simp [sc]
    · simp; omega
    · intro j l hj
      refine ⟨h.next, 0, none, rfl, ?_⟩
      rw [Nat.zero_add]
      apply hld
      rw [List.getElem?_map] at hj ⊢
      obtain ⟨s, hs, rfl⟩ := Option.map_eq_some_iff.1 hj
      rw [hs]; rfl
    · intro ts ds j hall htj hdj
      have hmem := fun n hn => List.all_eq_true.1 hall _ (DataW.weights_mem_each htj hdj n hn)
      simp only [DataW.weights, ht] at hmem
      constructor
      · have := hmem _ (List.mem_cons_self ..)
        simp only [strs, List.length_map, decide_eq_true_eq] at this ⊢
        have h2 : (List.take len ss).length ≤ ((List.take len ss).length + (List.drop len ss).length) * P.bytesOf e := Nat.le_trans (Nat.le_add_right _ _) (Nat.le_mul_of_pos_right _ hw)
        omega
      · intro l hl2
        obtain ⟨s, hs, rfl⟩ := List.mem_map.1 hl2
        have := hmem s.size (List.mem_cons_of_mem _ (List.mem_append_left _ (weightsAll_strs hs)))
        have h3 := of_decide_eq_true this
        rw [Array.length_toList]; exact h3
end
end Go.Mini
end
section
/-
  MINI, part V: a slice of strings among a law's arguments, with its data.
-/
namespace Go.Mini
open Go.ChangeShapes Go.WideShapes Go.RowKit
section
variable {H : Type} {enc : TypeId × Value → H} {P : Program} {W : World} {G : Nat} {m : Ren} {h : Heap}

/-- A slice of strings among a law's arguments. -/
theorem open_strsD {t e : TypeId} {v : Value} {d : DataW H} {ps : List MemPlace} {base : Nat} (ht : P.underlying t = some (.slice e)) (he : P.underlying e = some .string) (hc : P.cellsOf e = 1)
    (hok : Value.okWide P W .any base t v) (h0 : DataW.Trod enc P W 0 (fun _ => true) true t v d ps) (hr : HRel P ⟨G, W.heap.size, W⟩ m h W) :
    ∃ m' h' v' ls, HRel P ⟨G, W.heap.size, W⟩ m' h' W ∧ m.agree h.next m' ∧ h.more h' ∧ ren m' v' = v ∧ sc h'.next v' ∧ Strs h' v' ls ∧
      ((d = .nil ∧ ls = []) ∨ ∃ A B, d = .slice (strs A) (strs B) ∧ ls = A.map fun s => s.data.toList) := by
  obtain ⟨a0, len, cap, rfl⟩ := okWide_slice ht hok
  have hsp : ∀ a, a0 = some a → a.spot = none := by
    rintro a rfl
    simp only [Value.okWide, ht, Cell.okWide, Cell.ok] at hok
    exact hok.2.2.2.1
  obtain ⟨fuel, hf⟩ := h0
  rcases open_strings ht he hc hf with ⟨hcs, hx⟩ | ⟨a, len', cap', ss, hcs, _, hl, hm, hz, hx, hcell, hsz⟩
  · simp [Value.cells] at hcs
    obtain ⟨rfl, rfl, rfl⟩ := hcs
    simp only [Prod.mk.injEq] at hx
    obtain ⟨rfl, rfl⟩ := hx
    exact ⟨m, h, .slice none 0 0, [], hr, Ren.agree_refl _ _, Heap.more_refl _, by simp [ren], by simp [sc], ⟨none, 0, rfl, fun j l e => by simp at e⟩, .inl ⟨rfl, rfl⟩⟩
  · simp [Value.cells] at hcs
    obtain ⟨rfl, rfl, rfl⟩ := hcs
    simp only [Prod.mk.injEq] at hx
    obtain ⟨rfl, rfl⟩ := hx
    have hlen : len ≤ ss.length := by rw [hz]; split <;> omega
    obtain ⟨o, hr', hld⟩ := hr.outerRow rfl a ((ss.take len).map Value.string) (fun v hv => by obtain ⟨s, _, rfl⟩ := List.mem_map.1 hv; rfl) (by
      intro i v hi
      rw [List.getElem?_map, List.getElem?_take] at hi
      split at hi
      · rename_i hil
        have hi2 := hcell i (by omega)
        rw [hi2]
        rw [List.getElem?_eq_getElem (by omega)] at hi
        simp only [Option.map_some, Option.some.injEq] at hi
        rw [← hi, List.getD_eq_getElem?_getD, List.getElem?_eq_getElem (by omega)]
        rfl
      · cases hi)
    refine ⟨_, _, .slice (some ⟨h.next, 0, none⟩) len cap, (ss.take len).map fun s => s.data.toList, hr', Ren.agree_put m _ _ _ _ _ (Nat.le_refl _), Heap.more_alloc _ _, ?_, ?_, ⟨some ⟨h.next, 0, none⟩, cap, ?_, ?_⟩, ?_⟩
    · have h2 := hsp a rfl
      obtain ⟨b, o2, sp⟩ := a
      simp only at h2
      subst h2
      simp only [ren, Ren.put_blk, Ren.put_sh, Ren.put_ext, Nat.zero_add, Nat.add_zero, Option.isSome_none, Bool.false_eq_true, if_false]
    · simp [sc]
    · simp; omega
    · intro j l hj
      refine ⟨h.next, 0, none, rfl, ?_⟩
      rw [Nat.zero_add]
      apply hld
      rw [List.getElem?_map] at hj ⊢
      obtain ⟨s, hs, rfl⟩ := Option.map_eq_some_iff.1 hj
      rw [hs]; rfl
    · exact .inr ⟨_, _, rfl, rfl⟩
end
theorem mem_flat_le {ls : List (List UInt8)} {l : List UInt8} (h : l ∈ ls) : l.length ≤ ls.flatten.length := by
  induction ls with
  | nil => cases h
  | cons x r ih =>
    rw [List.flatten_cons, List.length_append]
    rcases List.mem_cons.1 h with rfl | h
    · omega
    · have := ih h; omega
end Go.Mini
end
section
/-
  MINI, part T: a slice of numbers among a law's arguments.
-/
namespace Go.Mini
open Go.ChangeShapes Go.WideShapes Go.RowKit
section
variable {H : Type} {enc : TypeId × Value → H} {P : Program} {W : World} {G : Nat} {m : Ren} {h : Heap}

theorem open_nums {t e : TypeId} {kd : IntKind} {v : Value} {d : DataW H} {ps : List MemPlace} {base : Nat} (ht : P.underlying t = some (.slice e)) (he : P.underlying e = some (.int kd)) (hc : P.cellsOf e = 1) (hw : 1 ≤ P.bytesOf e)
    (hok : Value.okWide P W .any base t v) (h0 : DataW.Trod enc P W 0 (fun _ => true) true t v d ps) (hr : HRel P ⟨G, W.heap.size, W⟩ m h W) :
    ∃ m' h' v' ns, HRel P ⟨G, W.heap.size, W⟩ m' h' W ∧ m.agree h.next m' ∧ h.more h' ∧ ren m' v' = v ∧ sc h'.next v' ∧ Nums h' v' kd ns ∧ (∀ n ∈ ns, (Lit.int kd n).wf = true) ∧
      ∀ (ts : List TypeId) (ds : List (DataW H)) (j : Nat), (DataW.weightsEach P ts ds).all (· ≤ reachBytes) = true → ts[j]? = some t → ds[j]? = some d → ns.length ≤ reachBytes := by
  obtain ⟨a0, len, cap, rfl⟩ := okWide_slice ht hok
  have hsp : ∀ a, a0 = some a → a.spot = none := by
    rintro a rfl
    simp only [Value.okWide, ht, Cell.okWide, Cell.ok] at hok
    exact hok.2.2.2.1
  obtain ⟨fuel, hf⟩ := h0
  rcases open_ints ht he hc hf with ⟨hcs, hx⟩ | ⟨a, len', cap', zs, hcs, _, hl, hm, hz, hx, hcell, hwz⟩
  · simp [Value.cells] at hcs
    obtain ⟨rfl, rfl, rfl⟩ := hcs
    exact ⟨m, h, .slice none 0 0, [], hr, Ren.agree_refl _ _, Heap.more_refl _, by simp [ren], by simp [sc], ⟨none, 0, rfl, fun j l e => by simp at e⟩, by simp, fun _ _ _ _ _ _ => by simp⟩
  · simp [Value.cells] at hcs
    obtain ⟨rfl, rfl, rfl⟩ := hcs
    simp only [Prod.mk.injEq] at hx
    obtain ⟨rfl, rfl⟩ := hx
    have hlen : len ≤ zs.length := by
      first
        | omega
        | (rw [hz]; split <;> omega)
    obtain ⟨o, hr', hld⟩ := hr.outerRow rfl a ((zs.take len).map (Value.int kd)) (fun v hv => by obtain ⟨s, _, rfl⟩ := List.mem_map.1 hv; rfl) (by
      intro i v hi
      rw [List.getElem?_map, List.getElem?_take] at hi
      split at hi
      · rename_i hil
        have hi2 := hcell i (by omega)
        rw [hi2]
        rw [List.getElem?_eq_getElem (by omega)] at hi
        simp only [Option.map_some, Option.some.injEq] at hi
        rw [← hi, List.getD_eq_getElem?_getD, List.getElem?_eq_getElem (by omega)]
        rfl
      · cases hi)
    refine ⟨_, _, .slice (some ⟨h.next, 0, none⟩) len cap, zs.take len, hr', Ren.agree_put m _ _ _ _ _ (Nat.le_refl _), Heap.more_alloc _ _, ?_, ?_, ⟨some ⟨h.next, 0, none⟩, cap, ?_, ?_⟩, fun n hn => hwz n (List.mem_of_mem_take hn), ?_⟩
    · have h2 := hsp a rfl
      obtain ⟨b, o2, sp⟩ := a
      simp only at h2
      subst h2
      simp only [ren, Ren.put_blk, Ren.put_sh, Ren.put_ext, Nat.zero_add, Nat.add_zero, Option.isSome_none, Bool.false_eq_true, if_false]
    · simp [sc]
    · simp; omega
    · intro j l hj
      refine ⟨h.next, 0, none, rfl, ?_⟩
      rw [Nat.zero_add]
      apply hld
      rw [List.getElem?_map, hj]; rfl
    · intro ts ds j hall htj hdj
      have hmem := fun n hn => List.all_eq_true.1 hall _ (DataW.weights_mem_each htj hdj n hn)
      simp only [DataW.weights, ht] at hmem
      have := hmem _ (List.mem_cons_self ..)
      have h3 := of_decide_eq_true this
      simp only [lits, List.length_map] at h3
      have h2 : (List.take len zs).length ≤ ((List.take len zs).length + (List.drop len zs).length) * P.bytesOf e := Nat.le_trans (Nat.le_add_right _ _) (Nat.le_mul_of_pos_right _ hw)
      omega
end
end Go.Mini
end
section
/-
  MINI, part U: operations by their laws, one by one.
-/
namespace Go.Mini
section
variable {P : Program} {G : Nat} {Ext : FuncId → List Value → Heap → Value → Heap → Prop} {fr : Frm} {u : Option FrameMode} {h : Heap} {Q : Exit → Frm → Option FrameMode → Heap → Prop}
theorem WpO.valS {ops : List Oper} {i : Nat} {l : List Nat} {p : Oper} {v : Value} {h1 : Heap} {fr1 : Frm} (ha : aop P (aev G fr) p h = some (.val v, h1)) (hi : ops[i]? = some p) (hw : wantG fr (guardOf ops p) = some true) (hp : fr.put p.dst v = some fr1)
    (hr : WpO P G Ext ops.toArray l fr1 u h1 Q) : WpO P G Ext ops.toArray (i :: l) fr u h Q := by
  obtain ⟨e2, fr2, u2, h3, b2, q2⟩ := hr
  exact ⟨e2, fr2, u2, h3, .opsVal (by simpa using hi) (by rw [awanted_eq]; exact hw) ha hp b2, q2⟩
theorem WpO.skipS {ops : List Oper} {i : Nat} {l : List Nat} {p : Oper} {h1 : Heap} {fr1 : Frm} (ha : aop P (aev G fr) p h = some (.skip, h1)) (hi : ops[i]? = some p) (hw : wantG fr (guardOf ops p) = some true) (hp : fr.put p.dst undef = some fr1)
    (hr : WpO P G Ext ops.toArray l fr1 u h1 Q) : WpO P G Ext ops.toArray (i :: l) fr u h Q := by
  obtain ⟨e2, fr2, u2, h3, b2, q2⟩ := hr
  exact ⟨e2, fr2, u2, h3, .opsSkip (by simpa using hi) (by rw [awanted_eq]; exact hw) ha hp b2, q2⟩
/-- Operations over what is large, by what they do: so that nothing is reckoned out. -/
theorem aop_load {ρ : Operand → Option Value} {o : Oper} {t : TypeId} {x : Operand} {p v : Value} (ho : o.op = .load t x) (hx : ρ x = some p) (e : aload P h t p = some v) : aop P ρ o h = some (.val v, h) := by
  unfold aop; rw [ho]; simp only [hx, e, Option.bind_some]
theorem aop_alloc {ρ : Operand → Option Value} {o : Oper} {t : TypeId} {v : Value} {h1 : Heap} (ho : o.op = .alloc t) (e : aalloc P h t = some (v, h1)) : aop P ρ o h = some (.val v, h1) := by
  unfold aop; rw [ho]; simp only [e, Option.bind_some]
theorem aop_store {ρ : Operand → Option Value} {o : Oper} {t : TypeId} {a x : Operand} {p v : Value} {h1 : Heap} (ho : o.op = .store t a x) (ha : ρ a = some p) (hx : ρ x = some v) (e : astore P h t p v = some h1) : aop P ρ o h = some (.skip, h1) := by
  unfold aop; rw [ho]; simp only [ha, hx, e, Option.bind_some]
theorem aop_make {ρ : Operand → Option Value} {o : Oper} {t : TypeId} {l c : Operand} {a b v : Value} {h1 : Heap} (ho : o.op = .makeSlice t l c) (hl : ρ l = some a) (hc : ρ c = some b) (e : amake P h t a b = some (v, h1)) : aop P ρ o h = some (.val v, h1) := by
  unfold aop; rw [ho]; simp only [hl, hc, e, Option.bind_some]
end
end Go.Mini
end
section
/-
  MINI, part W: regions that draw their order and call, or read unordered.
-/
namespace Go.Mini
section
variable {P : Program} {G : Nat} {Ext : FuncId → List Value → Heap → Value → Heap → Prop} {ops l : List Oper} {ex pu : List Nat} {q : Nat} {K : Heap → Prop} {fr : Frm} {u : Option FrameMode} {h : Heap}

theorem reader_not_pure {o : Oper} (h : isReader o = true) : isPure o = false := by
  obtain ⟨dst, op, type, pos, after, guard⟩ := o
  cases op with
  | binOp op t x y z => simp only [isReader] at h; simp only [isPure]; rw [h]; rfl
  | call c =>
    obtain ⟨callee, args, ats⟩ := c
    cases callee with
    | builtin b => cases b <;> first | rfl | cases h
    | _ => cases h
  | _ => first | rfl | cases h
/-- What is left of a region that draws, in the text's order. 'ex': the slots of reads that are not ordered with what writes (K: what they lean on, which holds throughout); 'pu': the slots of what yields the same whatever the memory. -/
def DrT (P : Program) (G : Nat) (Ext : FuncId → List Value → Heap → Value → Heap → Prop) (ops : List Oper) (ex pu : List Nat) (q : Nat) (K : Heap → Prop) (l : List Oper) (fr : Frm) (h : Heap) (Q : Frm → Heap → Prop) : Prop :=
  (q ≤ l.length → K h) → ∃ fr' h', Trd P G Ext ops ex pu q K l fr h fr' h' ∧ Q fr' h'
theorem Wp.drawAs {id : Nat} {Q : Exit → Frm → Option FrameMode → Heap → Prop} (ex pu : List Nat) (q : Nat) (K : Heap → Prop) (hm : P.follows .mixedOrders = true) (hd : drawable ops ex pu q = true) (hK : K h) (ht : DrT P G Ext ops ex pu q K ops fr h fun fr' h' => Q .normal fr' u h') :
    Wp P G Ext (.region id ops.toArray true) fr u h Q := by
  obtain ⟨fr', h', t, hq⟩ := ht fun _ => hK
  exact Wp.drawT ex pu q K hm hd hK t hq
theorem DrT.nil {Q : Frm → Heap → Prop} (hq : Q fr h) : DrT P G Ext ops ex pu q K [] fr h Q := fun _ => ⟨fr, h, .nil, hq⟩
/-- Some operations that leave the memory and are ordered with what writes. -/
theorem DrT.run {Q : Frm → Heap → Prop} (n : Nat) {fr' : Frm} (hr : runSD P G ops (l.take n) (some (fr, h)) = some (fr', h)) (hn : (l.take n).all (fun o => !isLoud o && !exempt ex o && !exempt pu o) = true)
    (ht : DrT P G Ext ops ex pu q K (l.drop n) fr' h Q) : DrT P G Ext ops ex pu q K l fr h Q := by
  intro hK
  obtain ⟨fr2, h2, t, hq⟩ := ht (fun hl => hK (Nat.le_trans hl (by simp)))
  rw [runSD_eq] at hr
  refine ⟨fr2, h2, ?_, hq⟩
  have key : ∀ (a b : List Oper) (fr fr' : Frm) (h : Heap), (q ≤ (a ++ b).length → K h) → a.all (fun o => !isLoud o && !exempt ex o && !exempt pu o) = true → runD P G ops.toArray a fr h = some (fr', h) → ∀ {F2 H2}, Trd P G Ext ops ex pu q K b fr' h F2 H2 → Trd P G Ext ops ex pu q K (a ++ b) fr h F2 H2 := by
    intro a
    induction a with
    | nil =>
      intro b fr fr' h _ _ e F2 H2 t
      simp only [runD, Option.some.injEq, Prod.mk.injEq] at e
      obtain ⟨rfl, _⟩ := e
      exact t
    | cons o a ih =>
      intro b fr fr' h hK ha e F2 H2 t
      have hK' : q ≤ (a ++ b).length → K h := fun hl => hK (Nat.le_trans hl (by simp))
      simp only [List.all_cons, Bool.and_eq_true, Bool.not_eq_true'] at ha
      obtain ⟨⟨⟨a1, a2⟩, a3⟩, a4⟩ := ha
      have a4' : a.all (fun o => !isLoud o && !exempt ex o && !exempt pu o) = true := by simpa using a4
      simp only [runD] at e
      obtain ⟨w, hw, e⟩ := Option.bind_eq_some_iff.1 e
      have n1 : exempt ex o = true → False := fun q => by rw [a2] at q; cases q
      have n2 : exempt pu o = true → False := fun q => by rw [a3] at q; cases q
      cases w with
      | false =>
        simp only [Bool.false_eq_true, if_false] at e
        obtain ⟨F1, hp, e⟩ := Option.bind_eq_some_iff.1 e
        exact .step (.unwanted hw) (fun _ => rfl) (fun _ _ => .unwanted hw) (fun _ _ _ _ _ => .unwanted hw) hK' hp (ih b F1 fr' h hK' a4' e t)
      | true =>
        simp only [if_true] at e
        obtain ⟨⟨r, h1⟩, hr, e⟩ := Option.bind_eq_some_iff.1 e
        cases r with
        | val v =>
          simp only [] at e
          split at e
          · rename_i hc
            obtain ⟨F1, hp, e⟩ := Option.bind_eq_some_iff.1 e
            have hh : h1 = h := aop_quiet_heap a1 hr (by rw [a1] at hc; simpa using hc)
            subst hh
            exact .step (.val hw hr) (fun _ => rfl) (fun hpu H2 => .val hw (aop_pure (hpu.resolve_right n2) hr)) (fun _ q => (n1 q).elim) hK' hp (ih b F1 fr' h1 hK' a4' e t)
          · cases e
        | skip => simp only [] at e; rw [a1] at e; cases e
        | _ => cases e
  have := key (l.take n) (l.drop n) fr fr' h (by rw [List.take_append_drop]; exact hK) hn hr t
  rwa [List.take_append_drop] at this
/-- A read that is not ordered with what writes. -/
theorem DrT.read {Q : Frm → Heap → Prop} {o : Oper} {v : Value} {fr1 : Frm} (hr : isReader o = true) (hn : exempt pu o = false) (hw : wantG fr (guardOf ops o) = some true) (hv0 : aop P (aev G fr) o h = some (.val v, h)) (hv : ∀ H, K H → aop P (aev G fr) o H = some (.val v, H)) (hp : fr.put o.dst v = some fr1)
    (ht : DrT P G Ext ops ex pu q K l fr1 h Q) : DrT P G Ext ops ex pu q K (o :: l) fr h Q := by
  intro hK
  have hK' : q ≤ l.length → K h := fun hl => hK (Nat.le_trans hl (by simp))
  obtain ⟨fr2, h2, t, hq2⟩ := ht hK'
  have hw' : awanted ops.toArray fr o = some true := by rw [awanted_eq]; exact hw
  refine ⟨fr2, h2, .step (.val hw' hv0) (fun _ => rfl) (fun hq => ?_) (fun _ _ _ H hH => .val hw' (hv H hH)) hK' hp t, hq2⟩
  rcases hq with hq | hq
  · rw [reader_not_pure hr] at hq; cases hq
  · rw [hn] at hq; cases hq
/-- What yields the same whatever the memory. -/
theorem DrT.pure {Q : Frm → Heap → Prop} {o : Oper} {v : Value} {fr1 : Frm} (hw : wantG fr (guardOf ops o) = some true) (hv : ∀ H, aop P (aev G fr) o H = some (.val v, H)) (hp : fr.put o.dst v = some fr1)
    (ht : DrT P G Ext ops ex pu q K l fr1 h Q) : DrT P G Ext ops ex pu q K (o :: l) fr h Q := by
  intro hK
  have hK' : q ≤ l.length → K h := fun hl => hK (Nat.le_trans hl (by simp))
  obtain ⟨fr2, h2, t, hq2⟩ := ht hK'
  have hw' : awanted ops.toArray fr o = some true := by rw [awanted_eq]; exact hw
  exact ⟨fr2, h2, .step (.val hw' (hv h)) (fun _ => rfl) (fun _ H => .val hw' (hv H)) (fun _ _ _ H _ => .val hw' (hv H)) hK' hp t, hq2⟩
/-- A call that leaves the memory, and yields the same whatever it is. -/
theorem DrT.callP {Q : Frm → Heap → Prop} {o : Oper} {f : FuncId} {args : List Value} {v : Value} {fr1 : Frm} (hd : ∀ H, Does P G Ext f args H fun e H' => e = .returned v ∧ H' = H) (hw : wantG fr (guardOf ops o) = some true)
    (ha : ∀ H, aop P (aev G fr) o H = some (.call f args, H)) (hp : fr.put o.dst v = some fr1) (ht : DrT P G Ext ops ex pu q K l fr1 h Q) : DrT P G Ext ops ex pu q K (o :: l) fr h Q := by
  intro hK
  have hK' : q ≤ l.length → K h := fun hl => hK (Nat.le_trans hl (by simp))
  obtain ⟨fr2, h2, t, hq2⟩ := ht hK'
  have hw' : awanted ops.toArray fr o = some true := by rw [awanted_eq]; exact hw
  have hs : ∀ H, St P G Ext ops o fr H v H := by
    intro H
    obtain ⟨e, H', b, rfl, rfl⟩ := hd H
    exact .call hw' (ha _) b
  exact ⟨fr2, h2, .step (hs h) (fun _ => rfl) (fun _ H => hs H) (fun _ _ _ H _ => hs H) hK' hp t, hq2⟩
/-- What turns the memory. -/
theorem DrT.val {Q : Frm → Heap → Prop} {o : Oper} {v : Value} {fr1 : Frm} {h1 : Heap} (ha : aop P (aev G fr) o h = some (.val v, h1)) (hl : isLoud o = true) (hn : exempt pu o = false) (hw : wantG fr (guardOf ops o) = some true) (hp : fr.put o.dst v = some fr1)
    (hk : q ≤ l.length → K h1) (ht : DrT P G Ext ops ex pu q K l fr1 h1 Q) : DrT P G Ext ops ex pu q K (o :: l) fr h Q := by
  intro _
  obtain ⟨fr2, h2, t, hq2⟩ := ht hk
  have hx : loudX pu o = true := by unfold loudX; rw [hl, hn]; rfl
  refine ⟨fr2, h2, .step (.val (by rw [awanted_eq]; exact hw) ha) (fun hq => by rw [hx] at hq; cases hq) (fun hq => ?_) (fun hq => ?_) hk hp t, hq2⟩
  · rcases hq with hq | hq
    · unfold isLoud at hl; rw [hq] at hl; cases hl
    · rw [hn] at hq; cases hq
  · unfold isLoud at hl; rw [hq] at hl; simp at hl
theorem DrT.skip {Q : Frm → Heap → Prop} {o : Oper} {fr1 : Frm} {h1 : Heap} (ha : aop P (aev G fr) o h = some (.skip, h1)) (hl : isLoud o = true) (hn : exempt pu o = false) (hw : wantG fr (guardOf ops o) = some true) (hp : fr.put o.dst undef = some fr1)
    (hk : q ≤ l.length → K h1) (ht : DrT P G Ext ops ex pu q K l fr1 h1 Q) : DrT P G Ext ops ex pu q K (o :: l) fr h Q := by
  intro _
  obtain ⟨fr2, h2, t, hq2⟩ := ht hk
  have hx : loudX pu o = true := by unfold loudX; rw [hl, hn]; rfl
  refine ⟨fr2, h2, .step (.skip (by rw [awanted_eq]; exact hw) ha) (fun hq => by rw [hx] at hq; cases hq) (fun hq => ?_) (fun hq => ?_) hk hp t, hq2⟩
  · rcases hq with hq | hq
    · unfold isLoud at hl; rw [hq] at hl; cases hl
    · rw [hn] at hq; cases hq
  · unfold isLoud at hl; rw [hq] at hl; simp at hl
theorem DrT.call {Q : Frm → Heap → Prop} {o : Oper} {f : FuncId} {args : List Value} {h1 : Heap} {R : Ending → Heap → Prop} (hd : Does P G Ext f args h1 R) (hl : isLoud o = true) (hn : exempt pu o = false) (hw : wantG fr (guardOf ops o) = some true)
    (ha : aop P (aev G fr) o h = some (.call f args, h1))
    (hR : ∀ e h2, R e h2 → ∃ v fr1, e = .returned v ∧ (q ≤ l.length → K h2) ∧ fr.put o.dst v = some fr1 ∧ DrT P G Ext ops ex pu q K l fr1 h2 Q) : DrT P G Ext ops ex pu q K (o :: l) fr h Q := by
  intro _
  obtain ⟨e, h2, b, r⟩ := hd
  obtain ⟨v, fr1, rfl, hk, hp, ht⟩ := hR e h2 r
  obtain ⟨fr2, h3, t, hq2⟩ := ht hk
  have hx : loudX pu o = true := by unfold loudX; rw [hl, hn]; rfl
  refine ⟨fr2, h3, .step (.call (by rw [awanted_eq]; exact hw) ha b) (fun hq => by rw [hx] at hq; cases hq) (fun hq => ?_) (fun hq => ?_) hk hp t, hq2⟩
  · rcases hq with hq | hq
    · unfold isLoud at hl; rw [hq] at hl; cases hl
    · rw [hn] at hq; cases hq
  · unfold isLoud at hl; rw [hq] at hl; simp at hl
end
end Go.Mini
end
section
/-
  MINI, part X: parts of strings.
-/
namespace Go.Mini
set_option linter.unusedSimpArgs false
abbrev EXT := FuncId → List Value → Heap → Value → Heap → Prop
theorem bs_extract (l : List UInt8) (a b : Nat) : (bs l).extract a b = bs ((l.drop a).take (b - a)) := by
  apply ByteArray.ext
  simp [bs, ByteArray.data_extract]
theorem take_len {α : Type} (X : List α) (n : Nat) : X.take (X.take n).length = X.take n := by
  rw [List.length_take]
  rcases Nat.le_total n X.length with h | h
  · rw [Nat.min_eq_left h]
  · rw [Nat.min_eq_right h, List.take_length, List.take_of_length_le h]
theorem aslice_str2 {P : Program} {h : Heap} {t : TypeId} (hu : P.underlying t = some .string) {s : ByteArray} {kd kd' : IntKind} {i j : Int} (h0 : 0 ≤ i) (h1 : i ≤ j) (h2 : j ≤ s.size) :
    aslice P h t (.string s) (some (.int kd i)) (some (.int kd' j)) none = some (.string (s.extract i.toNat j.toNat), h) := by
  unfold aslice; simp only [hu]
  simp [abound_int (kd := kd') (d := s.size) (show (0 : Int) ≤ j by omega) h2, abound_int (kd := kd) (d := 0) (y := j.toNat) h0 (by omega)]
end Go.Mini
end
section
/-
  MINI, part Y: panics, deferred calls, recover.
-/
namespace Go.Mini
section
variable {P : Program} {G : Nat} {Ext : FuncId → List Value → Heap → Value → Heap → Prop} {fr : Frm} {u : Option FrameMode} {h : Heap} {Q : Exit → Frm → Option FrameMode → Heap → Prop}

theorem WpO.panicS {ops : List Oper} {i : Nat} {l : List Nat} {p : Oper} {v : Value} {h1 : Heap} (ha : aop P (aev G fr) p h = some (.panic v, h1)) (hi : ops[i]? = some p) (hw : wantG fr (guardOf ops p) = some true)
    (hq : Q (.panic [{ v, recovered := false }]) fr u h1) : WpO P G Ext ops.toArray (i :: l) fr u h Q :=
  ⟨_, fr, u, h1, .opsPanic (by simpa using hi) (by rw [awanted_eq]; exact hw) ha, hq⟩
theorem WpO.deferS {ops : List Oper} {i : Nat} {l : List Nat} {p : Oper} {d : Deferred} {h1 : Heap} {fr1 : Frm} (ha : aop P (aev G fr) p h = some (.defer d, h1)) (hi : ops[i]? = some p) (hw : wantG fr (guardOf ops p) = some true)
    (hp : ({ fr with defers := d :: fr.defers } : Frm).put p.dst undef = some fr1) (hr : WpO P G Ext ops.toArray l fr1 u h1 Q) : WpO P G Ext ops.toArray (i :: l) fr u h Q := by
  obtain ⟨e2, fr2, u2, h3, b2, q2⟩ := hr
  exact ⟨e2, fr2, u2, h3, .opsDefer (by simpa using hi) (by rw [awanted_eq]; exact hw) ha hp b2, q2⟩
theorem WpO.recoverS {ops : List Oper} {i : Nat} {l : List Nat} {p : Oper} {v : Value} {older : List _} {h1 : Heap} {fr1 : Frm} (ha : aop P (aev G fr) p h = some (.recover, h1)) (hi : ops[i]? = some p) (hw : wantG fr (guardOf ops p) = some true)
    (hp : fr.put p.dst v = some fr1) (hr : WpO P G Ext ops.toArray l fr1 (some (.panicking ({ v, recovered := true } :: older))) h1 Q) : WpO P G Ext ops.toArray (i :: l) fr (some (.panicking ({ v, recovered := false } :: older))) h Q := by
  obtain ⟨e2, fr2, u2, h3, b2, q2⟩ := hr
  exact ⟨e2, fr2, u2, h3, .opsRecover (by simpa using hi) (by rw [awanted_eq]; exact hw) ha hp b2, q2⟩
theorem WpO.recoverN {ops : List Oper} {i : Nat} {l : List Nat} {p : Oper} {h1 : Heap} {fr1 : Frm} (ha : aop P (aev G fr) p h = some (.recover, h1)) (hi : ops[i]? = some p) (hw : wantG fr (guardOf ops p) = some true)
    (hp : fr.put p.dst .nilIface = some fr1) (hr : WpO P G Ext ops.toArray l fr1 (some .returning) h1 Q) : WpO P G Ext ops.toArray (i :: l) fr (some .returning) h Q := by
  obtain ⟨e2, fr2, u2, h3, b2, q2⟩ := hr
  exact ⟨e2, fr2, u2, h3, .opsRecoverNot (by simpa using hi) (by rw [awanted_eq]; exact hw) ha hp b2, q2⟩

/-- A deferred call. -/
def DoesD (P : Program) (G : Nat) (Ext : FuncId → List Value → Heap → Value → Heap → Prop) (f : FuncId) (args : List Value) (u : FrameMode) (h : Heap) (R : Ending → FrameMode → Heap → Prop) : Prop :=
  ∃ e u1 h1, Big P G Ext (.callD f args u) h (.endsD e u1) h1 ∧ R e u1 h1
theorem DoesD.body {f : FuncId} {args : List Value} {u : FrameMode} {fn : Func} {c : Code} {R : Ending → FrameMode → Heap → Prop} (hf : P.funcs[f]? = some fn) (hb : fn.body = some c)
    (hw : Wp P G Ext c (enterF fn args) (some u) h fun e fr' u' h' => fr'.defers = [] ∧ ∃ u1, u' = some u1 ∧ match e with
      | .normal | .ret => ∃ v, ares P fn fr' h' = some v ∧ R (.returned v) u1 h'
      | .panic ch => R (.panicked ch) u1 h'
      | _ => False) : DoesD P G Ext f args u h R := by
  obtain ⟨e, fr1, u1, h1, b, hd, u2, rfl, q⟩ := hw
  cases e with
  | normal => obtain ⟨v, hv, hr⟩ := q; exact ⟨_, _, h1, .callD hf hb b rfl hd hv, hr⟩
  | ret => obtain ⟨v, hv, hr⟩ := q; exact ⟨_, _, h1, .callD hf hb b rfl hd hv, hr⟩
  | panic ch => exact ⟨_, _, h1, .callDPanic hf hb b hd, q⟩
  | _ => exact q.elim

/-- A function's end, its deferred calls one by one. -/
def Leaves (P : Program) (G : Nat) (Ext : FuncId → List Value → Heap → Value → Heap → Prop) (fn : Func) (fr : Frm) (ds : List Deferred) (u : FrameMode) (h : Heap) (R : Ending → Heap → Prop) : Prop :=
  ∃ e h1, Big P G Ext (.leave fn fr ds u) h (.ends e) h1 ∧ R e h1
theorem Leaves.ret {fn : Func} {v : Value} {R : Ending → Heap → Prop} (hv : ares P fn fr h = some v) (hr : R (.returned v) h) : Leaves P G Ext fn fr [] .returning h R := ⟨_, h, .leaveRet hv, hr⟩
theorem Leaves.panic {fn : Func} {c : List _} {R : Ending → Heap → Prop} (hr : R (.panicked c) h) : Leaves P G Ext fn fr [] (.panicking c) h R := ⟨_, h, .leavePanic, hr⟩
theorem Leaves.cons {fn : Func} {d : Deferred} {ds : List Deferred} {m : FrameMode} {g : FuncId} {cap : Array Value} {R : Ending → Heap → Prop} (hm : m ≠ .run) (ht : d.target = .fn (.func g) cap) (hc : canEnter P g = true)
    (hd : DoesD P G Ext g (d.args.toList ++ cap.toList) m h fun e u1 h1 => ∃ u2, afterD e u1 = some u2 ∧ Leaves P G Ext fn fr ds u2 h1 R) : Leaves P G Ext fn fr (d :: ds) m h R := by
  obtain ⟨e, u1, h1, b, u2, ha, e2, h2, b2, r⟩ := hd
  exact ⟨e2, h2, .leaveCons hm ht hc b ha b2, r⟩
/-- A function with deferred calls. -/
theorem Does.bodyD {f : FuncId} {args : List Value} {fn : Func} {c : Code} {R : Ending → Heap → Prop} (hf : P.funcs[f]? = some fn) (hb : fn.body = some c)
    (hw : Wp P G Ext c (enterF fn args) none h fun e fr' u' h' => u' = none ∧ ∃ m, modeOf e = some m ∧ Leaves P G Ext fn fr' fr'.defers m h' R) : Does P G Ext f args h R := by
  obtain ⟨e, fr1, u1, h1, b, rfl, m, hm, e2, h2, b2, r⟩ := hw
  exact ⟨e2, h2, .call hf hb b hm b2, r⟩
end
end Go.Mini
end
section
/-
  MINI, part Z: a call whose arguments and results name no memory: what it comes to from a bare heap it comes to from any.
-/
namespace Go.Mini

/-- A heap that tells of no more than the program's variables: it is told of each world of which W holds. -/
structure Base (P : Program) (G : Nat) where
  hB : Heap
  mB : Ren
  W : World → Prop
  rel : ∀ w, W w → HRel P ⟨G, w.heap.size, w⟩ mB hB w
  stay : ∀ w w', W w → w.heap.size ≤ w'.heap.size → (∀ b, b < w.heap.size → w'.heap[b]? = w.heap[b]?) → W w'

def base0 (P : Program) (G : Nat) : Base P G where
  hB := heap0 G
  mB := ren0
  W _ := True
  rel w _ := heap0_rel P G w
  stay _ _ _ _ _ := trivial

def StartOk {P : Program} {G : Nat} (B : Base P G) (S : Start) : Prop := S.G = G ∧ B.W S.w0 ∧ S.base = S.w0.heap.size

/-- What a call leaves that touches nothing that was there. -/
def Quiet (w w' : World) : Prop := w.heap.size ≤ w'.heap.size ∧ (∀ b, b < w.heap.size → w'.heap[b]? = w.heap[b]?) ∧ Mini.io w' = Mini.io w
theorem Quiet.refl (w : World) : Quiet w w := ⟨Nat.le_refl _, fun _ _ => rfl, rfl⟩

/-- A call whose arguments and result name no memory: what it hands back. -/
def FlatC (P : Program) {G : Nat} (B : Base P G) (f : FuncId) (args : List Value) (v : Value) : Prop :=
  (∀ x ∈ args, flat x = true) ∧ flat v = true ∧ ∀ w, B.W w → Calls P f args.toArray w fun e w' => e = .returned v ∧ Quiet w w'
/-- What the model's calls do, told of the abstract heap: whatever is so may be leant on. -/
def GoodE (P : Program) {G : Nat} (B : Base P G) : FuncId → List Value → Heap → Value → Heap → Prop := fun f args h v h' =>
  ∀ S, StartOk B S → ∀ m w, HRel P S m h w → (∀ x ∈ args, sc h.next x) → Calls P f (args.map (ren m)).toArray w (Ends P S m h h' (.returned v))
theorem goodE_ok {P : Program} {G : Nat} (B : Base P G) : ∀ S, StartOk B S → ExtOk P S (GoodE P B) := fun S hS _ _ _ _ _ he m w hr hs => he S hS m w hr hs

theorem HRel.later {P : Program} {S : Start} {m : Ren} {h : Heap} {w w' : World} (hr : HRel P S m h w) (hq : Quiet w w') : HRel P S m h w' where
  gle := hr.gle
  glob := hr.glob
  obj i o hg := (hr.obj i o hg).keep (Ren.agree_refl _ _) (Heap.lt_of_get hg) (Nat.le_refl _) fun x hx => by rw [hq.2.1 _ (lt_of_some hx)]; exact hx
  apart := hr.apart
  frame b hlt := by rw [hq.2.1 b (by have := hr.size; omega)]; exact hr.frame b hlt
  size := by have := hr.size; have := hq.1; omega
  io := hq.2.2.trans hr.io

theorem HRel.W {P : Program} {G : Nat} {B : Base P G} {S : Start} (hS : StartOk B S) {m : Ren} {h : Heap} {w : World} (hr : HRel P S m h w) : B.W w :=
  B.stay S.w0 w hS.2.1 (by have := hr.size; have := hS.2.2; omega) fun b hlt => hr.frame b (by have := hS.2.2; omega)
theorem map_flat {m : Ren} {args : List Value} (ha : ∀ x ∈ args, flat x = true) : args.map (ren m) = args := by
  have : args.map (ren m) = args.map id := List.map_congr_left fun x hx => ren_flat _ x (ha x hx)
  simpa using this
theorem GoodE.ofFlat {P : Program} {G : Nat} {B : Base P G} {f : FuncId} {args : List Value} {v : Value} (hc : FlatC P B f args v) (h : Heap) : GoodE P B f args h v h := by
  intro S hS m w hr _
  rw [map_flat hc.1]
  refine (hc.2.2 w (hr.W hS)).mono ?_
  rintro e w' ⟨rfl, hq⟩
  exact ⟨m, Ren.agree_refl _ _, Nat.le_refl _, hr.later hq, by simp [renN, ren_flat _ v hc.2.1], sc_flat _ v hc.2.1⟩

/-- What the relation tells of a call from a bare heap. -/
theorem flatC_of {P : Program} {G : Nat} {B : Base P G} {f : FuncId} {args : List Value} {v : Value} {h0 : Heap} (ha : ∀ x ∈ args, flat x = true) (hv : flat v = true) (hb : Big P G (GoodE P B) (.call f args) B.hB (.ends (.returned v)) h0) :
    FlatC P B f args v := by
  refine ⟨ha, hv, fun w hw => ?_⟩
  have hs := (big_sound (S := ⟨G, w.heap.size, w⟩) (goodE_ok B _ ⟨rfl, hw, rfl⟩) hb).1 B.mB w (B.rel w hw) (fun x hx => sc_flat _ x (ha x hx))
  rw [map_flat ha] at hs
  refine hs.mono ?_
  rintro e w' ⟨m', _, _, h3, rfl, _⟩
  exact ⟨by simp [renN, ren_flat _ v hv], by have := h3.size; simpa using this, fun b hlt => h3.frame b hlt, h3.io⟩
theorem FlatC.does {P : Program} {G : Nat} {B : Base P G} {f : FuncId} {args : List Value} {v : Value} (hc : FlatC P B f args v) (h : Heap) : Does P G (GoodE P B) f args h fun e h' => e = .returned v ∧ h' = h :=
  ⟨_, h, .ext (GoodE.ofFlat hc h), rfl, rfl⟩
theorem Does.fromBare {P : Program} {G : Nat} {B : Base P G} {f : FuncId} {args : List Value} {v : Value} (ha : ∀ x ∈ args, flat x = true) (hv : flat v = true) (hd : Does P G (GoodE P B) f args B.hB fun e _ => e = .returned v) (h : Heap) :
    Does P G (GoodE P B) f args h fun e h' => e = .returned v ∧ h' = h := by
  obtain ⟨e, h0, b, rfl⟩ := hd
  exact (flatC_of ha hv b).does h
/-- What is told of a call of the model's. -/
theorem Does.ofCalls {P : Program} {G : Nat} {B : Base P G} {f : FuncId} {args : List Value} {v : Value} (ha : ∀ x ∈ args, flat x = true) (hv : flat v = true) (hc : ∀ w, B.W w → Calls P f args.toArray w fun e w' => e = .returned v ∧ w' = w) (h : Heap) :
    Does P G (GoodE P B) f args h fun e h' => e = .returned v ∧ h' = h :=
  FlatC.does ⟨ha, hv, fun w hw => (hc w hw).mono fun e w' q => ⟨q.1, by rw [q.2]; exact Quiet.refl w⟩⟩ h
theorem FlatC.any {P : Program} {G : Nat} {B : Base P G} {f : FuncId} {args : List Value} {v : Value} (hc : FlatC P (base0 P 0) f args v) : FlatC P B f args v := ⟨hc.1, hc.2.1, fun w _ => hc.2.2 w trivial⟩
/-- What the relation tells, of any start. -/
theorem GoodE.of {P : Program} {G : Nat} {B : Base P G} {f : FuncId} {args : List Value} {h h' : Heap} {v : Value} (hb : Big P G (GoodE P B) (.call f args) h (.ends (.returned v)) h') : GoodE P B f args h v h' := by
  rintro S ⟨rfl, hS⟩ m w hr hs
  exact (big_sound (goodE_ok B S ⟨rfl, hS⟩) hb).1 m w hr hs

/-- What a call made is one row, of which nothing points anywhere: so the heap may be told as it was, and that row. -/
theorem HRel.gather {P : Program} {S : Start} {m m' : Ren} {h h' : Heap} {w w' : World} (hr : HRel P S m h w) (hr' : HRel P S m' h' w') (ha : m.agree h.next m') (hm : ∀ j, j < h.next → h'.get j = h.get j) {b : Nat} {r : Row} (hb : h.next ≤ b)
    (hg : h'.get b = some (.row r)) (hf : ∀ v ∈ r.vs, flat v = true) : HRel P S (m.put h.next (m'.blk b) (m'.sh b) (m'.ext b)) (h.alloc (.row r)) w' where
  gle := by have := hr.gle; simp; omega
  glob i hi := by
    have := hr.gle
    have e1 := hr.glob i hi
    simp [Ren.put, show ¬ i = h.next by omega, e1]
  obj i p hp := by
    rw [Heap.get_alloc] at hp
    split at hp
    · rename_i e
      subst e
      cases hp
      obtain ⟨_, c, fz, h1, h2, h3, h4, h5, h6, h7, h8⟩ := hr'.obj b _ hg
      refine ⟨fun v hv => sc_flat _ v (hf v hv), c, fz, by rw [Ren.put_blk]; exact h1, by rw [Ren.put_sh, Ren.put_ext]; exact h2, ?_, by rw [Ren.put_blk, Ren.put_sh]; exact h4, by rw [Ren.put_blk]; exact h5, h6, h7, by rw [Ren.put_ext]; exact h8⟩
      intro k v hk
      rw [Ren.put_sh, h3 k v hk, ren_flat _ v (hf v (List.mem_of_getElem? hk)), ren_flat _ v (hf v (List.mem_of_getElem? hk))]
    · have hlt := Heap.lt_of_get hp
      have h0 := hr.obj i p hp
      have h1 := hr'.obj i p (by rw [hm i hlt]; exact hp)
      obtain ⟨e1, e2, e3⟩ := ha i hlt
      have hag : m.agree h.next (m.put h.next (m'.blk b) (m'.sh b) (m'.ext b)) := Ren.agree_put m _ _ _ _ _ (Nat.le_refl _)
      obtain ⟨q1, q2, q3⟩ := hag i hlt
      cases p with
      | dead => trivial
      | row r2 =>
        obtain ⟨s1, _⟩ := h0
        obtain ⟨_, c, fz, b1, b2, b3, b4, b5, b6, b7, b8⟩ := h1
        refine ⟨fun v hv => sc_mono (by simp) v (s1 v hv), c, fz, by rw [← q1, e1]; exact b1, by rw [← q2, ← q3, e2, e3]; exact b2, ?_, by rw [← q1, e1, ← q2, e2]; exact b4, by rw [← q1, e1]; exact b5, b6, b7, by rw [← q3, e3]; exact b8⟩
        intro k v hk
        have hs := s1 v (List.mem_of_getElem? hk)
        rw [← q2, ← ren_congr hag v hs, e2, b3 k v hk, ren_congr ha v hs]
      | map es clock =>
        obtain ⟨s1, _⟩ := h0
        obtain ⟨_, b1, b2⟩ := h1
        refine ⟨fun e he => ⟨sc_mono (by simp) _ (s1 e he).1, sc_mono (by simp) _ (s1 e he).2⟩, ?_, by rw [← q1, e1]; exact b2⟩
        have : es.map (renE (m.put h.next (m'.blk b) (m'.sh b) (m'.ext b))) = es.map (renE m') := List.map_congr_left fun e he => by rw [← renE_congr hag (s1 e he), renE_congr ha (s1 e he)]
        rw [← q1, e1, this]; exact b1
      | iter s pos =>
        obtain ⟨b1, b2⟩ := h1
        exact ⟨by rw [← q1, e1]; exact b1, by rw [← q1, e1]; exact b2⟩
  apart i j p q hij hp hq hpo hqo := by
    have key : ∀ i p, (h.alloc (.row r)).get i = some p → p.own = true → ∃ i', h'.get i' = some p ∧ (m.put h.next (m'.blk b) (m'.sh b) (m'.ext b)).blk i = m'.blk i' ∧ (i = h.next ∧ i' = b ∨ i < h.next ∧ i' = i) := by
      intro i p hp _
      rw [Heap.get_alloc] at hp
      split at hp
      · rename_i e; subst e; cases hp; exact ⟨b, hg, Ren.put_blk _ _ _ _ _, .inl ⟨rfl, rfl⟩⟩
      · have hlt := Heap.lt_of_get hp
        exact ⟨i, by rw [hm i hlt]; exact hp, by rw [← (Ren.agree_put m _ _ _ _ _ (Nat.le_refl _) i hlt).1]; exact (ha i hlt).1, .inr ⟨hlt, rfl⟩⟩
    obtain ⟨i', a1, a2, a3⟩ := key i p hp hpo
    obtain ⟨j', b1, b2, b3⟩ := key j q hq hqo
    rw [a2, b2]
    exact hr'.apart i' j' p q (by omega) a1 b1 hpo hqo
  frame := hr'.frame
  size := hr'.size
  io := hr'.io

/-- What a call made is forgotten. -/
theorem HRel.forget {P : Program} {S : Start} {m m' : Ren} {h h' : Heap} {w w' : World} (hr : HRel P S m h w) (hr' : HRel P S m' h' w') (ha : m.agree h.next m') (hm : ∀ j, j < h.next → h'.get j = h.get j) : HRel P S m h w' where
  gle := hr.gle
  glob := hr.glob
  obj i p hp := by
    have hlt := Heap.lt_of_get hp
    have h0 := hr.obj i p hp
    have h1 := hr'.obj i p (by rw [hm i hlt]; exact hp)
    obtain ⟨e1, e2, e3⟩ := ha i hlt
    cases p with
    | dead => trivial
    | row r2 =>
      obtain ⟨s1, _⟩ := h0
      obtain ⟨_, c, fz, b1, b2, b3, b4, b5, b6, b7, b8⟩ := h1
      refine ⟨s1, c, fz, by rw [e1]; exact b1, by rw [e2, e3]; exact b2, ?_, by rw [e1, e2]; exact b4, by rw [e1]; exact b5, b6, b7, by rw [e3]; exact b8⟩
      intro k v hk
      rw [e2, b3 k v hk, ren_congr ha v (s1 v (List.mem_of_getElem? hk))]
    | map es clock =>
      obtain ⟨s1, _⟩ := h0
      obtain ⟨_, b1, b2⟩ := h1
      refine ⟨s1, ?_, by rw [e1]; exact b2⟩
      have : es.map (renE m) = es.map (renE m') := List.map_congr_left fun e he => renE_congr ha (s1 e he)
      rw [e1, this]; exact b1
    | iter s pos =>
      obtain ⟨b1, b2⟩ := h1
      exact ⟨by rw [e1]; exact b1, by rw [e1]; exact b2⟩
  apart i j p q hij hp hq hpo hqo := by
    have l1 := Heap.lt_of_get hp
    have l2 := Heap.lt_of_get hq
    rw [(ha i l1).1, (ha j l2).1]
    exact hr'.apart i j p q hij (by rw [hm i l1]; exact hp) (by rw [hm j l2]; exact hq) hpo hqo
  frame := hr'.frame
  size := hr'.size
  io := hr'.io
/-- A call that leaves nothing but its result, which names no memory. -/
theorem GoodE.forget {P : Program} {G : Nat} {B : Base P G} {f : FuncId} {args : List Value} {h h' : Heap} {v : Value} (hg : GoodE P B f args h v h') (hm : h.more h') (hv : flat v = true) : GoodE P B f args h v h := by
  intro S hS m w hr hs
  refine (hg S hS m w hr hs).mono ?_
  rintro e w' ⟨m', q1, _, q3, rfl, _⟩
  exact ⟨m, Ren.agree_refl _ _, Nat.le_refl _, hr.forget q3 q1 hm.2, by simp [renN, ren_flat _ v hv], sc_flat _ v hv⟩
/-- A call that leaves nothing but its result: a row that append made, of which nothing points anywhere, in a tuple with what is flat. -/
theorem GoodE.gather {P : Program} {G : Nat} {B : Base P G} {f : FuncId} {args : List Value} {h h' : Heap} {b n : Nat} {r : Row} {g : Value → Value} (hg : GoodE P B f args h (g (.slice (some ⟨b, 0, none⟩) n n)) h') (hm : h.more h') (hb : h.next ≤ b)
    (hrow : h'.get b = some (.row r)) (hf : ∀ v ∈ r.vs, flat v = true) (hren : ∀ m x, ren m (g x) = g (ren m x)) (hsc : ∀ k x, sc k x → sc k (g x)) : GoodE P B f args h (g (.slice (some ⟨h.next, 0, none⟩) n n)) (h.alloc (.row r)) := by
  intro S hS m w hr hs
  refine (hg S hS m w hr hs).mono ?_
  rintro e w' ⟨m', q1, _, q3, rfl, _⟩
  refine ⟨_, Ren.agree_put m _ _ _ _ _ (Nat.le_refl _), by simp, hr.gather q3 q1 hm.2 hb hrow hf, ?_, hsc _ _ (by simp [sc])⟩
  simp only [renN, hren, ren, Ren.put_blk, Ren.put_sh, Ren.put_ext, Nat.zero_add]
end Go.Mini
end
