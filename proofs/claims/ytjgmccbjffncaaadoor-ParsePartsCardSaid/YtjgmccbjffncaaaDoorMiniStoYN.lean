import Derived.Test.YtjgmccbjffncaaaDoorMiniMtoR
import Derived.ProofKit
import Derived.SliceStrings
import Derived.SizedLaws
set_option maxHeartbeats 1000000
set_option linter.unusedSimpArgs false
namespace Go.Mini
section
open Go.ChangeShapes Go.WideShapes Go.RowKit
section
variable {P : Program} {S : Start} {m : Ren} {h : Heap} {w : World}
theorem HRel.outer (hr : HRel P S m h w) {o : AObj} {B s : Nat} (ho : o.own = false) (hobj : ORel P S.base (m.put h.next B s 0) (h.next + 1) w h.next o) : HRel P S (m.put h.next B s 0) (h.alloc o) w where
 gle := by have := hr.gle; simp; omega
 glob i hi := by
  have := hr.gle
  have e1 := hr.glob i hi
  simp [Ren.put, show ¬ i = h.next by omega, e1]
 obj i p hp := by
  rw [Heap.get_alloc] at hp
  split at hp
  ·rename_i e; subst e; cases hp; exact hobj
  ·exact (hr.obj i p hp).keep (Ren.agree_put m _ _ _ _ _ (Nat.le_refl _)) (Heap.lg hp) (by simp) fun x hx => hx
 apart i j p q hij hp hq hpo hqo := by
  rw [Heap.get_alloc] at hp hq
  have key : ∀ i p, (if i = h.next then some o else h.get i) = some p → p.own = true → h.get i = some p ∧ (m.put h.next B s 0).blk i = m.blk i := by
   intro i p hp hpo
   split at hp
   ·cases hp; rw [ho] at hpo; cases hpo
   ·rename_i hne; exact ⟨hp, by simp [Ren.put, hne]⟩
  obtain ⟨a, c⟩ := key i p hp hpo
  obtain ⟨a', c'⟩ := key j q hq hqo
  rw [c, c']
  exact hr.apart i j p q hij a a' hpo hqo
 frame := hr.frame
 size := hr.size
 io := hr.io
theorem HRel.outerRow (hr : HRel P S m h w) (hS : S.base = w.heap.size) (a : Addr) (vs : List Value) (hf : ∀ v ∈ vs, flat v = true) (hc : ∀ i v, vs[i]? = some v → w.cell? (a.add i) = some v) :
  ∃ o, HRel P S (m.put h.next a.block a.off 0) (h.alloc o) w ∧ ∀ i v, vs[i]? = some v → (h.alloc o).ld h.next i = some v := by
 cases vs with
 | nil => exact ⟨.dead, hr.outer rfl trivial, fun i v e => by simp at e⟩
 | cons v0 vs =>
  have h0 := hc 0 v0 rfl
  simp only [Addr.add, if_true] at h0
  unfold World.cell? at h0
  cases hb : w.heap[a.block]? with
  | none => rw [hb] at h0; cases h0
  | some O =>
   rw [hb] at h0
   cases O with
   | cells c e fz =>
    simp only [] at h0
    split at h0
    ·cases h0
    have hlt := lt_of_some hb
    have hcell : ∀ k v, (v0 :: vs)[k]? = some v → c[a.off + k]? = some v := by
     intro k v hk
     have := hc k v hk
     unfold Addr.add at this
     by_cases hk0 : k = 0
     ·subst hk0
      cases hk
      simpa using h0
     ·rw [if_neg hk0] at this
      unfold World.cell? at this
      rw [hb] at this
      simpa using this
    refine ⟨.row { vs := v0 :: vs, elem := e, outer := true }, hr.outer rfl ⟨fun v hv => sc_flat _ v (hf v hv), c, fz, ?_, ?_, ?_, ?_, ?_, ?_, ?_, ?_⟩, ?_⟩
    ·rw [Ren.put_blk]; exact hb
    ·simp only [Ren.put_sh, Ren.put_ext, Nat.zero_mul, Nat.add_zero]
     have hk := hcell vs.length ((v0 :: vs)[vs.length]) (List.getElem?_eq_getElem (by simp))
     have := lt_of_some hk
     simp only [List.length_cons]; omega
    ·intro k v hk
     rw [Ren.put_sh, ren_flat _ v (hf v (List.mem_of_getElem? hk))]
     exact hcell k v hk
    ·intro q; cases q
    ·intro _; rw [Ren.put_blk, hS]; exact hlt
    ·intro q; cases q
    ·intro q; cases q
    ·intro _; exact Ren.put_ext _ _ _ _ _
    ·intro i v e
     exact Heap.lf (Heap.gn h _) e
   | _ => cases h0
end
def bs (l : List UInt8) : ByteArray := ⟨l.toArray⟩
theorem bs_data (s : ByteArray) : bs s.data.toList = s := rfl
@[simp] theorem bs_size (l : List UInt8) : (bs l).size = l.length := rfl
theorem bs_drop (l : List UInt8) (n : Nat) : (bs l).extract n l.length = bs (l.drop n) := by
 apply ByteArray.ext
 simp [bs, ByteArray.data_extract]
 rw [List.take_of_length_le (by simp)]
theorem bs_append (a b : List UInt8) : bs a ++ bs b = bs (a ++ b) := by
 apply ByteArray.ext
 simp [bs]
theorem bs_inj {a b : List UInt8} : bs a = bs b ↔ a = b := by
 constructor
 ·intro h
  have := congrArg (fun x => x.data.toList) h
  simpa [bs] using this
 ·rintro rfl; rfl
theorem Heap.more.ld {h h' : Heap} (hm : h.more h') {i k : Nat} {v : Value} (e : h.ld i k = some v) : h'.ld i k = some v := by
 unfold Heap.ld at e ⊢
 obtain ⟨r, hr, e⟩ := ob e
 rw [Heap.row_of (hm.get (Heap.row_some.1 hr))]
 exact e
def Nums (h : Heap) (v : Value) (k : IntKind) (ns : List Int) : Prop :=
 ∃ a cap, v = .slice a ns.length cap ∧ ∀ j n, ns[j]? = some n → ∃ b o sp, a = some ⟨b, o, sp⟩ ∧ h.ld b (o + j) = some (.int k n)
theorem Nums.more {h h' : Heap} {v : Value} {k : IntKind} {ns : List Int} (hs : Nums h v k ns) (hm : h.more h') : Nums h' v k ns := by
 obtain ⟨a, cap, rfl, hj⟩ := hs
 exact ⟨a, cap, rfl, fun j l e => by obtain ⟨b, o, sp, rfl, q⟩ := hj j l e; exact ⟨b, o, sp, rfl, hm.ld q⟩⟩
section
variable {H : Type} {enc : TypeId × Value → H} {P : Program} {W : World} {G : Nat} {m : Ren} {h : Heap}
end
end
section
open Go.ChangeShapes Go.WideShapes Go.RowKit
section
variable {H : Type} {enc : TypeId × Value → H} {P : Program} {W : World} {G : Nat} {m : Ren} {h : Heap}
theorem open_nums {t e : TypeId} {kd : IntKind} {v : Value} {d : DataW H} {ps : List MemPlace} {base : Nat} (ht : P.underlying t = some (.slice e)) (he : P.underlying e = some (.int kd)) (hc : P.cellsOf e = 1) (hw : 1 ≤ P.bytesOf e)
  (hok : Value.okWide P W .any base t v) (h0 : DataW.Trod enc P W 0 (fun _ => true) true t v d ps) (hr : HRel P ⟨G, W.heap.size, W⟩ m h W) :
  ∃ m' h' v' ns, HRel P ⟨G, W.heap.size, W⟩ m' h' W ∧ m.agree h.next m' ∧ h.more h' ∧ ren m' v' = v ∧ sc h'.next v' ∧ Nums h' v' kd ns ∧ (∀ n ∈ ns, (Lit.int kd n).wf = true) ∧
   ∀ (ts : List TypeId) (ds : List (DataW H)) (j : Nat), (DataW.weightsEach P ts ds).all (· ≤ reachBytes) = true → ts[j]? = some t → ds[j]? = some d → ns.length ≤ reachBytes := by
 obtain ⟨a0, len, cap, rfl⟩ := okWide_slice ht hok
 have hsp : ∀ a, a0 = some a → a.spot = none := by
  rintro a rfl
  simp only [Value.okWide, ht, Cell.okWide, Cell.ok] at hok
  exact hok.2.2.2.1
 obtain ⟨fuel, hf⟩ := h0
 rcases open_ints ht he hc hf with ⟨hcs, hx⟩ | ⟨a, len', cap', zs, hcs, _, hl, hm, hz, hx, hcell, hwz⟩
 ·simp [Value.cells] at hcs
  obtain ⟨rfl, rfl, rfl⟩ := hcs
  exact ⟨m, h, .slice none 0 0, [], hr, Ren.agree_refl _ _, Heap.mr _, by simp [ren], by simp [sc], ⟨none, 0, rfl, fun j l e => by simp at e⟩, by simp, fun _ _ _ _ _ _ => by simp⟩
 ·simp [Value.cells] at hcs
  obtain ⟨rfl, rfl, rfl⟩ := hcs
  simp only [Prod.mk.injEq] at hx
  obtain ⟨rfl, rfl⟩ := hx
  have hlen : len ≤ zs.length := by
   first
    | omega
    | (rw [hz]; split <;> omega)
  obtain ⟨o, hr', hld⟩ := hr.outerRow rfl a ((zs.take len).map (Value.int kd)) (fun v hv => by obtain ⟨s, _, rfl⟩ := List.mem_map.1 hv; rfl) (by
   intro i v hi
   rw [List.getElem?_map, List.getElem?_take] at hi
   split at hi
   ·rename_i hil
    have hi2 := hcell i (by omega)
    rw [hi2]
    rw [List.getElem?_eq_getElem (by omega)] at hi
    simp only [Option.map_some, Option.some.injEq] at hi
    rw [← hi, List.getD_eq_getElem?_getD, List.getElem?_eq_getElem (by omega)]
    rfl
   ·cases hi)
  refine ⟨_, _, .slice (some ⟨h.next, 0, none⟩) len cap, zs.take len, hr', Ren.agree_put m _ _ _ _ _ (Nat.le_refl _), Heap.ma _ _, ?_, ?_, ⟨some ⟨h.next, 0, none⟩, cap, ?_, ?_⟩, fun n hn => hwz n (List.mem_of_mem_take hn), ?_⟩
  ·have h2 := hsp a rfl
   obtain ⟨b, o2, sp⟩ := a
   simp only at h2
   subst h2
   simp only [ren, Ren.put_blk, Ren.put_sh, Ren.put_ext, Nat.zero_add, Nat.add_zero, Option.isSome_none, Bool.false_eq_true, if_false]
  ·simp [sc]
  ·simp; omega
  ·intro j l hj
   refine ⟨h.next, 0, none, rfl, ?_⟩
   rw [Nat.zero_add]
   apply hld
   rw [List.getElem?_map, hj]; rfl
  ·intro ts ds j hall htj hdj
   have hmem := fun n hn => List.all_eq_true.1 hall _ (DataW.weights_mem_each htj hdj n hn)
   simp only [DataW.weights, ht] at hmem
   have := hmem _ (List.mem_cons_self ..)
   have h3 := of_decide_eq_true this
   simp only [lits, List.length_map] at h3
   have h2 : (List.take len zs).length ≤ ((List.take len zs).length + (List.drop len zs).length) * P.bytesOf e := Nat.le_trans (Nat.le_add_right _ _) (Nat.le_mul_of_pos_right _ hw)
   omega
end
end
section
section
variable {P : Program} {G : Nat} {Ext : FuncId → List Value → Heap → Value → Heap → Prop} {fr : Frm} {u : Option FrameMode} {h : Heap} {Q : Exit → Frm → Option FrameMode → Heap → Prop}
theorem WpO.valS {ops : List Oper} {i : Nat} {l : List Nat} {p : Oper} {v : Value} {h1 : Heap} {fr1 : Frm} (ha : aop P (aev G fr) p h = some (.val v, h1)) (hi : ops[i]? = some p) (hw : wantG fr (guardOf ops p) = some true) (hp : fr.put p.dst v = some fr1)
  (hr : WpO P G Ext ops.toArray l fr1 u h1 Q) : WpO P G Ext ops.toArray (i :: l) fr u h Q := by
 obtain ⟨e2, fr2, u2, h3, b2, q2⟩ := hr
 exact ⟨e2, fr2, u2, h3, .opsVal (by simpa using hi) (by rw [awanted_eq]; exact hw) ha hp b2, q2⟩
theorem aop_store {ρ : Operand → Option Value} {o : Oper} {t : TypeId} {a x : Operand} {p v : Value} {h1 : Heap} (ho : o.op = .store t a x) (ha : ρ a = some p) (hx : ρ x = some v) (e : astore P h t p v = some h1) : aop P ρ o h = some (.skip, h1) := by
 unfold aop; rw [ho]; simp only [ha, hx, e, Option.bind_some]
end
end
section
section
variable {P : Program} {G : Nat} {Ext : FuncId → List Value → Heap → Value → Heap → Prop} {ops l : List Oper} {ex pu : List Nat} {q : Nat} {K : Heap → Prop} {fr : Frm} {u : Option FrameMode} {h : Heap}
theorem reader_not_pure {o : Oper} (h : isReader o = true) : isPure o = false := by
 obtain ⟨dst, op, type, pos, after, guard⟩ := o
 cases op with
 | binOp op t x y z => simp only [isReader] at h; simp only [isPure]; rw [h]; rfl
 | call c =>
  obtain ⟨callee, args, ats⟩ := c
  cases callee with
  | builtin b => cases b <;> first | rfl | cases h
  | _ => cases h
 | _ => first | rfl | cases h
def DrT (P : Program) (G : Nat) (Ext : FuncId → List Value → Heap → Value → Heap → Prop) (ops : List Oper) (ex pu : List Nat) (q : Nat) (K : Heap → Prop) (l : List Oper) (fr : Frm) (h : Heap) (Q : Frm → Heap → Prop) : Prop :=
 (q ≤ l.length → K h) → ∃ fr' h', Trd P G Ext ops ex pu q K l fr h fr' h' ∧ Q fr' h'
theorem Wp.drawAs {id : Nat} {Q : Exit → Frm → Option FrameMode → Heap → Prop} (ex pu : List Nat) (q : Nat) (K : Heap → Prop) (hm : P.follows .mixedOrders = true) (hd : drawable ops ex pu q = true) (hK : K h) (ht : DrT P G Ext ops ex pu q K ops fr h fun fr' h' => Q .normal fr' u h') :
  Wp P G Ext (.region id ops.toArray true) fr u h Q := by
 obtain ⟨fr', h', t, hq⟩ := ht fun _ => hK
 exact Wp.drawT ex pu q K hm hd hK t hq
theorem DrT.nil {Q : Frm → Heap → Prop} (hq : Q fr h) : DrT P G Ext ops ex pu q K [] fr h Q := fun _ => ⟨fr, h, .nil, hq⟩
theorem DrT.run {Q : Frm → Heap → Prop} (n : Nat) {fr' : Frm} (hr : runSD P G ops (l.take n) (some (fr, h)) = some (fr', h)) (hn : (l.take n).all (fun o => !isLoud o && !exempt ex o && !exempt pu o) = true)
  (ht : DrT P G Ext ops ex pu q K (l.drop n) fr' h Q) : DrT P G Ext ops ex pu q K l fr h Q := by
 intro hK
 obtain ⟨fr2, h2, t, hq⟩ := ht (fun hl => hK (Nat.le_trans hl (by simp)))
 rw [runSD_eq] at hr
 refine ⟨fr2, h2, ?_, hq⟩
 have key : ∀ (a b : List Oper) (fr fr' : Frm) (h : Heap), (q ≤ (a ++ b).length → K h) → a.all (fun o => !isLoud o && !exempt ex o && !exempt pu o) = true → runD P G ops.toArray a fr h = some (fr', h) → ∀ {F2 H2}, Trd P G Ext ops ex pu q K b fr' h F2 H2 → Trd P G Ext ops ex pu q K (a ++ b) fr h F2 H2 := by
  intro a
  induction a with
  | nil =>
   intro b fr fr' h _ _ e F2 H2 t
   simp only [runD, Option.some.injEq, Prod.mk.injEq] at e
   obtain ⟨rfl, _⟩ := e
   exact t
  | cons o a ih =>
   intro b fr fr' h hK ha e F2 H2 t
   have hK' : q ≤ (a ++ b).length → K h := fun hl => hK (Nat.le_trans hl (by simp))
   simp only [List.all_cons, Bool.and_eq_true, Bool.not_eq_true'] at ha
   obtain ⟨⟨⟨a1, a2⟩, a3⟩, a4⟩ := ha
   have a4' : a.all (fun o => !isLoud o && !exempt ex o && !exempt pu o) = true := by simpa using a4
   simp only [runD] at e
   obtain ⟨w, hw, e⟩ := ob e
   have n1 : exempt ex o = true → False := fun q => by rw [a2] at q; cases q
   have n2 : exempt pu o = true → False := fun q => by rw [a3] at q; cases q
   cases w with
   | false =>
    simp only [Bool.false_eq_true, if_false] at e
    obtain ⟨F1, hp, e⟩ := ob e
    exact .step (.unwanted hw) (fun _ => rfl) (fun _ _ => .unwanted hw) (fun _ _ _ _ _ => .unwanted hw) hK' hp (ih b F1 fr' h hK' a4' e t)
   | true =>
    simp only [if_true] at e
    obtain ⟨⟨r, h1⟩, hr, e⟩ := ob e
    cases r with
    | val v =>
     simp only [] at e
     split at e
     ·rename_i hc
      obtain ⟨F1, hp, e⟩ := ob e
      have hh : h1 = h := aop_quiet_heap a1 hr (by rw [a1] at hc; simpa using hc)
      subst hh
      exact .step (.val hw hr) (fun _ => rfl) (fun hpu H2 => .val hw (aop_pure (hpu.resolve_right n2) hr)) (fun _ q => (n1 q).elim) hK' hp (ih b F1 fr' h1 hK' a4' e t)
     ·cases e
    | skip => simp only [] at e; rw [a1] at e; cases e
    | _ => cases e
 have := key (l.take n) (l.drop n) fr fr' h (by rw [List.take_append_drop]; exact hK) hn hr t
 rwa [List.take_append_drop] at this
theorem DrT.read {Q : Frm → Heap → Prop} {o : Oper} {v : Value} {fr1 : Frm} (hr : isReader o = true) (hn : exempt pu o = false) (hw : wantG fr (guardOf ops o) = some true) (hv0 : aop P (aev G fr) o h = some (.val v, h)) (hv : ∀ H, K H → aop P (aev G fr) o H = some (.val v, H)) (hp : fr.put o.dst v = some fr1)
  (ht : DrT P G Ext ops ex pu q K l fr1 h Q) : DrT P G Ext ops ex pu q K (o :: l) fr h Q := by
 intro hK
 have hK' : q ≤ l.length → K h := fun hl => hK (Nat.le_trans hl (by simp))
 obtain ⟨fr2, h2, t, hq2⟩ := ht hK'
 have hw' : awanted ops.toArray fr o = some true := by rw [awanted_eq]; exact hw
 refine ⟨fr2, h2, .step (.val hw' hv0) (fun _ => rfl) (fun hq => ?_) (fun _ _ _ H hH => .val hw' (hv H hH)) hK' hp t, hq2⟩
 rcases hq with hq | hq
 ·rw [reader_not_pure hr] at hq; cases hq
 ·rw [hn] at hq; cases hq
theorem DrT.pure {Q : Frm → Heap → Prop} {o : Oper} {v : Value} {fr1 : Frm} (hw : wantG fr (guardOf ops o) = some true) (hv : ∀ H, aop P (aev G fr) o H = some (.val v, H)) (hp : fr.put o.dst v = some fr1)
  (ht : DrT P G Ext ops ex pu q K l fr1 h Q) : DrT P G Ext ops ex pu q K (o :: l) fr h Q := by
 intro hK
 have hK' : q ≤ l.length → K h := fun hl => hK (Nat.le_trans hl (by simp))
 obtain ⟨fr2, h2, t, hq2⟩ := ht hK'
 have hw' : awanted ops.toArray fr o = some true := by rw [awanted_eq]; exact hw
 exact ⟨fr2, h2, .step (.val hw' (hv h)) (fun _ => rfl) (fun _ H => .val hw' (hv H)) (fun _ _ _ H _ => .val hw' (hv H)) hK' hp t, hq2⟩
theorem DrT.callP {Q : Frm → Heap → Prop} {o : Oper} {f : FuncId} {args : List Value} {v : Value} {fr1 : Frm} (hd : ∀ H, Does P G Ext f args H fun e H' => e = .returned v ∧ H' = H) (hw : wantG fr (guardOf ops o) = some true)
  (ha : ∀ H, aop P (aev G fr) o H = some (.call f args, H)) (hp : fr.put o.dst v = some fr1) (ht : DrT P G Ext ops ex pu q K l fr1 h Q) : DrT P G Ext ops ex pu q K (o :: l) fr h Q := by
 intro hK
 have hK' : q ≤ l.length → K h := fun hl => hK (Nat.le_trans hl (by simp))
 obtain ⟨fr2, h2, t, hq2⟩ := ht hK'
 have hw' : awanted ops.toArray fr o = some true := by rw [awanted_eq]; exact hw
 have hs : ∀ H, St P G Ext ops o fr H v H := by
  intro H
  obtain ⟨e, H', b, rfl, rfl⟩ := hd H
  exact .call hw' (ha _) b
 exact ⟨fr2, h2, .step (hs h) (fun _ => rfl) (fun _ H => hs H) (fun _ _ _ H _ => hs H) hK' hp t, hq2⟩
theorem DrT.val {Q : Frm → Heap → Prop} {o : Oper} {v : Value} {fr1 : Frm} {h1 : Heap} (ha : aop P (aev G fr) o h = some (.val v, h1)) (hl : isLoud o = true) (hn : exempt pu o = false) (hw : wantG fr (guardOf ops o) = some true) (hp : fr.put o.dst v = some fr1)
  (hk : q ≤ l.length → K h1) (ht : DrT P G Ext ops ex pu q K l fr1 h1 Q) : DrT P G Ext ops ex pu q K (o :: l) fr h Q := by
 intro _
 obtain ⟨fr2, h2, t, hq2⟩ := ht hk
 have hx : loudX pu o = true := by unfold loudX; rw [hl, hn]; rfl
 refine ⟨fr2, h2, .step (.val (by rw [awanted_eq]; exact hw) ha) (fun hq => by rw [hx] at hq; cases hq) (fun hq => ?_) (fun hq => ?_) hk hp t, hq2⟩
 ·rcases hq with hq | hq
  ·unfold isLoud at hl; rw [hq] at hl; cases hl
  ·rw [hn] at hq; cases hq
 ·unfold isLoud at hl; rw [hq] at hl; simp at hl
theorem DrT.skip {Q : Frm → Heap → Prop} {o : Oper} {fr1 : Frm} {h1 : Heap} (ha : aop P (aev G fr) o h = some (.skip, h1)) (hl : isLoud o = true) (hn : exempt pu o = false) (hw : wantG fr (guardOf ops o) = some true) (hp : fr.put o.dst undef = some fr1)
  (hk : q ≤ l.length → K h1) (ht : DrT P G Ext ops ex pu q K l fr1 h1 Q) : DrT P G Ext ops ex pu q K (o :: l) fr h Q := by
 intro _
 obtain ⟨fr2, h2, t, hq2⟩ := ht hk
 have hx : loudX pu o = true := by unfold loudX; rw [hl, hn]; rfl
 refine ⟨fr2, h2, .step (.skip (by rw [awanted_eq]; exact hw) ha) (fun hq => by rw [hx] at hq; cases hq) (fun hq => ?_) (fun hq => ?_) hk hp t, hq2⟩
 ·rcases hq with hq | hq
  ·unfold isLoud at hl; rw [hq] at hl; cases hl
  ·rw [hn] at hq; cases hq
 ·unfold isLoud at hl; rw [hq] at hl; simp at hl
theorem DrT.call {Q : Frm → Heap → Prop} {o : Oper} {f : FuncId} {args : List Value} {h1 : Heap} {R : Ending → Heap → Prop} (hd : Does P G Ext f args h1 R) (hl : isLoud o = true) (hn : exempt pu o = false) (hw : wantG fr (guardOf ops o) = some true)
  (ha : aop P (aev G fr) o h = some (.call f args, h1))
  (hR : ∀ e h2, R e h2 → ∃ v fr1, e = .returned v ∧ (q ≤ l.length → K h2) ∧ fr.put o.dst v = some fr1 ∧ DrT P G Ext ops ex pu q K l fr1 h2 Q) : DrT P G Ext ops ex pu q K (o :: l) fr h Q := by
 intro _
 obtain ⟨e, h2, b, r⟩ := hd
 obtain ⟨v, fr1, rfl, hk, hp, ht⟩ := hR e h2 r
 obtain ⟨fr2, h3, t, hq2⟩ := ht hk
 have hx : loudX pu o = true := by unfold loudX; rw [hl, hn]; rfl
 refine ⟨fr2, h3, .step (.call (by rw [awanted_eq]; exact hw) ha b) (fun hq => by rw [hx] at hq; cases hq) (fun hq => ?_) (fun hq => ?_) hk hp t, hq2⟩
 ·rcases hq with hq | hq
  ·unfold isLoud at hl; rw [hq] at hl; cases hl
  ·rw [hn] at hq; cases hq
 ·unfold isLoud at hl; rw [hq] at hl; simp at hl
end
end
section
abbrev EXT := FuncId → List Value → Heap → Value → Heap → Prop
theorem bs_extract (l : List UInt8) (a b : Nat) : (bs l).extract a b = bs ((l.drop a).take (b - a)) := by
 apply ByteArray.ext
 simp [bs, ByteArray.data_extract]
theorem aslice_str2 {P : Program} {h : Heap} {t : TypeId} (hu : P.underlying t = some .string) {s : ByteArray} {kd kd' : IntKind} {i j : Int} (h0 : 0 ≤ i) (h1 : i ≤ j) (h2 : j ≤ s.size) :
  aslice P h t (.string s) (some (.int kd i)) (some (.int kd' j)) none = some (.string (s.extract i.toNat j.toNat), h) := by
 unfold aslice; simp only [hu]
 simp [abound_int (kd := kd') (d := s.size) (show (0 : Int) ≤ j by omega) h2, abound_int (kd := kd) (d := 0) (y := j.toNat) h0 (by omega)]
end
section
section
variable {P : Program} {G : Nat} {Ext : FuncId → List Value → Heap → Value → Heap → Prop} {fr : Frm} {u : Option FrameMode} {h : Heap} {Q : Exit → Frm → Option FrameMode → Heap → Prop}
theorem WpO.panicS {ops : List Oper} {i : Nat} {l : List Nat} {p : Oper} {v : Value} {h1 : Heap} (ha : aop P (aev G fr) p h = some (.panic v, h1)) (hi : ops[i]? = some p) (hw : wantG fr (guardOf ops p) = some true)
  (hq : Q (.panic [{ v, recovered := false }]) fr u h1) : WpO P G Ext ops.toArray (i :: l) fr u h Q :=
 ⟨_, fr, u, h1, .opsPanic (by simpa using hi) (by rw [awanted_eq]; exact hw) ha, hq⟩
theorem WpO.deferS {ops : List Oper} {i : Nat} {l : List Nat} {p : Oper} {d : Deferred} {h1 : Heap} {fr1 : Frm} (ha : aop P (aev G fr) p h = some (.defer d, h1)) (hi : ops[i]? = some p) (hw : wantG fr (guardOf ops p) = some true)
  (hp : ({ fr with defers := d :: fr.defers } : Frm).put p.dst undef = some fr1) (hr : WpO P G Ext ops.toArray l fr1 u h1 Q) : WpO P G Ext ops.toArray (i :: l) fr u h Q := by
 obtain ⟨e2, fr2, u2, h3, b2, q2⟩ := hr
 exact ⟨e2, fr2, u2, h3, .opsDefer (by simpa using hi) (by rw [awanted_eq]; exact hw) ha hp b2, q2⟩
theorem WpO.recoverS {ops : List Oper} {i : Nat} {l : List Nat} {p : Oper} {v : Value} {older : List _} {h1 : Heap} {fr1 : Frm} (ha : aop P (aev G fr) p h = some (.recover, h1)) (hi : ops[i]? = some p) (hw : wantG fr (guardOf ops p) = some true)
  (hp : fr.put p.dst v = some fr1) (hr : WpO P G Ext ops.toArray l fr1 (some (.panicking ({ v, recovered := true } :: older))) h1 Q) : WpO P G Ext ops.toArray (i :: l) fr (some (.panicking ({ v, recovered := false } :: older))) h Q := by
 obtain ⟨e2, fr2, u2, h3, b2, q2⟩ := hr
 exact ⟨e2, fr2, u2, h3, .opsRecover (by simpa using hi) (by rw [awanted_eq]; exact hw) ha hp b2, q2⟩
theorem WpO.recoverN {ops : List Oper} {i : Nat} {l : List Nat} {p : Oper} {h1 : Heap} {fr1 : Frm} (ha : aop P (aev G fr) p h = some (.recover, h1)) (hi : ops[i]? = some p) (hw : wantG fr (guardOf ops p) = some true)
  (hp : fr.put p.dst .nilIface = some fr1) (hr : WpO P G Ext ops.toArray l fr1 (some .returning) h1 Q) : WpO P G Ext ops.toArray (i :: l) fr (some .returning) h Q := by
 obtain ⟨e2, fr2, u2, h3, b2, q2⟩ := hr
 exact ⟨e2, fr2, u2, h3, .opsRecoverNot (by simpa using hi) (by rw [awanted_eq]; exact hw) ha hp b2, q2⟩
def DoesD (P : Program) (G : Nat) (Ext : FuncId → List Value → Heap → Value → Heap → Prop) (f : FuncId) (args : List Value) (u : FrameMode) (h : Heap) (R : Ending → FrameMode → Heap → Prop) : Prop :=
 ∃ e u1 h1, Big P G Ext (.callD f args u) h (.endsD e u1) h1 ∧ R e u1 h1
theorem DoesD.body {f : FuncId} {args : List Value} {u : FrameMode} {fn : Func} {c : Code} {R : Ending → FrameMode → Heap → Prop} (hf : P.funcs[f]? = some fn) (hb : fn.body = some c)
  (hw : Wp P G Ext c (enterF fn args) (some u) h fun e fr' u' h' => fr'.defers = [] ∧ ∃ u1, u' = some u1 ∧ match e with
   | .normal | .ret => ∃ v, ares P fn fr' h' = some v ∧ R (.returned v) u1 h'
   | .panic ch => R (.panicked ch) u1 h'
   | _ => False) : DoesD P G Ext f args u h R := by
 obtain ⟨e, fr1, u1, h1, b, hd, u2, rfl, q⟩ := hw
 cases e with
 | normal => obtain ⟨v, hv, hr⟩ := q; exact ⟨_, _, h1, .callD hf hb b rfl hd hv, hr⟩
 | ret => obtain ⟨v, hv, hr⟩ := q; exact ⟨_, _, h1, .callD hf hb b rfl hd hv, hr⟩
 | panic ch => exact ⟨_, _, h1, .callDPanic hf hb b hd, q⟩
 | _ => exact q.elim
def Leaves (P : Program) (G : Nat) (Ext : FuncId → List Value → Heap → Value → Heap → Prop) (fn : Func) (fr : Frm) (ds : List Deferred) (u : FrameMode) (h : Heap) (R : Ending → Heap → Prop) : Prop :=
 ∃ e h1, Big P G Ext (.leave fn fr ds u) h (.ends e) h1 ∧ R e h1
theorem Leaves.ret {fn : Func} {v : Value} {R : Ending → Heap → Prop} (hv : ares P fn fr h = some v) (hr : R (.returned v) h) : Leaves P G Ext fn fr [] .returning h R := ⟨_, h, .leaveRet hv, hr⟩
theorem Leaves.cons {fn : Func} {d : Deferred} {ds : List Deferred} {m : FrameMode} {g : FuncId} {cap : Array Value} {R : Ending → Heap → Prop} (hm : m ≠ .run) (ht : d.target = .fn (.func g) cap) (hc : canEnter P g = true)
  (hd : DoesD P G Ext g (d.args.toList ++ cap.toList) m h fun e u1 h1 => ∃ u2, afterD e u1 = some u2 ∧ Leaves P G Ext fn fr ds u2 h1 R) : Leaves P G Ext fn fr (d :: ds) m h R := by
 obtain ⟨e, u1, h1, b, u2, ha, e2, h2, b2, r⟩ := hd
 exact ⟨e2, h2, .leaveCons hm ht hc b ha b2, r⟩
theorem Does.bodyD {f : FuncId} {args : List Value} {fn : Func} {c : Code} {R : Ending → Heap → Prop} (hf : P.funcs[f]? = some fn) (hb : fn.body = some c)
  (hw : Wp P G Ext c (enterF fn args) none h fun e fr' u' h' => u' = none ∧ ∃ m, modeOf e = some m ∧ Leaves P G Ext fn fr' fr'.defers m h' R) : Does P G Ext f args h R := by
 obtain ⟨e, fr1, u1, h1, b, rfl, m, hm, e2, h2, b2, r⟩ := hw
 exact ⟨e2, h2, .call hf hb b hm b2, r⟩
end
end
section
section
variable {P : Program} {G : Nat} {Ext : FuncId → List Value → Heap → Value → Heap → Prop} {ops : List Oper}
variable {V : Nat → Value} {FF : Nat → Frm}
structure DrawnG (ops : List Oper) (V : Nat → Value) (FF : Nat → Frm) : Prop where
 back : ∀ i o, ops[i]? = some o → ∀ e ∈ o.after, Region.binds .any e = true → e.on < i
 slot : ∀ i j x y, i < j → ops[i]? = some x → ops[j]? = some y → clash ops x y = true → ahead ops i j = true
 put : ∀ i o, ops[i]? = some o → (FF i).put o.dst (V i) = some (FF (i + 1))
theorem DrawnG.frames (hd : DrawnG ops V FF) : ∀ i, i ≤ ops.length → (FF i).size = (FF 0).size ∧ (FF i).defers = (FF 0).defers ∧ ∀ t, look t (FF i).slots = vat ops V (FF 0) t (fun _ => true) i
 | 0, _ => ⟨rfl, rfl, fun _ => rfl⟩
 | i + 1, hi => by
  obtain ⟨h1, h2, h3⟩ := hd.frames i (by omega)
  have ho : ops[i]? = some ops[i] := List.getElem?_eq_getElem (by omega)
  have hp := hd.put i _ ho
  obtain ⟨q1, q2⟩ := put_size hp
  refine ⟨q1.trans h1, q2.trans h2, fun t => ?_⟩
  rw [put_look hp, h3 t]
  simp only [vat, ho, Option.bind_some, true_and]
theorem DrawnG.go (hd : DrawnG ops V FF) (B : (Nat → Bool) → List Nat → Frm → Frm → Prop) (hnil : ∀ L F, (∀ j, j < ops.length → L j = true) → B L [] F F)
  (hcons : ∀ L i o l F F1 F', Closed ops L → ops[i]? = some o → L i = false → (∀ e ∈ o.after, Region.binds .any e = true → L e.on = true) → (∀ s ∈ o.looksAt ops.toArray, look s (FF i).slots = look s F.slots) → F.put o.dst (V i) = some F1 → B (also L i) l F1 F' → B L (i :: l) F F')
  (hext : ∀ L L' l F F', (∀ j, j < ops.length → L j = L' j) → B L l F F' → B L' l F F') : ∀ (fuel t : Nat) (listed : Array Bool) (F : Frm), listed.size = ops.length →
  (∀ i o, ops[i]? = some o → listed.getD i true = true → ∀ e ∈ o.after, Region.binds .any e = true → listed.getD e.on false = true) →
  F.size = (FF 0).size → F.defers = (FF 0).defers → (∀ s, look s F.slots = vat ops V (FF 0) s (fun j => listed.getD j true) ops.length) →
  ((List.range ops.length).filter fun j => !listed.getD j true).length ≤ fuel →
  ∃ F', B (fun j => listed.getD j true) (Region.linearise.go .any ops.toArray fuel t listed []) F F' ∧ (FF ops.length).le F' := by
 intro fuel
 induction fuel with
 | zero =>
  intro t listed F hsz hdown h1 h2 h3 hfuel
  have hall : ∀ j, j < ops.length → listed.getD j true = true := by
   intro j hj
   have hnil : ((List.range ops.length).filter fun j => !listed.getD j true) = [] := List.length_eq_zero_iff.1 (by omega)
   have := (List.filter_eq_nil_iff.1 hnil) j (by simpa using hj)
   simpa using this
  refine ⟨F, ?_, ?_⟩
  ·simp only [Region.linearise.go, List.reverse_nil]
   exact hnil _ _ hall
  ·obtain ⟨g1, g2, g3⟩ := hd.frames ops.length (Nat.le_refl _)
   refine ⟨by rw [g1, h1], by rw [g2, h2], fun s v hs => ?_⟩
   rw [h3, vat_congr (L' := fun _ => true) ops.length fun j hj _ => hall j hj, ← g3]
   exact hs
 | succ fuel ih =>
  intro t listed F hsz hdown h1 h2 h3 hfuel
  simp only [Region.linearise.go]
  change ∃ F', B (fun j => listed.getD j true) (match (Region.ready .any ops.toArray listed)[t % (Region.ready .any ops.toArray listed).length]? with
   | some i => Region.linearise.go .any ops.toArray fuel (t / (Region.ready .any ops.toArray listed).length) (listed.setIfInBounds i true) [i]
   | none => [].reverse) F F' ∧ (FF ops.length).le F'
  have hgd : ∀ j, j < ops.length → listed.getD j false = listed.getD j true := by
   intro j hj
   have : j < listed.size := by omega
   simp [this]
  cases hi : (Region.ready .any ops.toArray listed)[t % (Region.ready .any ops.toArray listed).length]? with
  | none =>
   have hnil : Region.ready .any ops.toArray listed = [] := by
    cases hr : Region.ready .any ops.toArray listed with
    | nil => rfl
    | cons x xs =>
     rw [hr] at hi
     have hlt : t % (x :: xs).length < (x :: xs).length := Nat.mod_lt _ (by simp)
     rw [List.getElem?_eq_getElem hlt] at hi
     cases hi
   -- then every operation is done
   have hall : ∀ j, j < ops.length → listed.getD j true = true := by
    intro j
    induction j using Nat.strongRecOn with
    | _ j ihj =>
     intro hj
     cases e : listed.getD j true with
     | true => rfl
     | false =>
      have ho : ops[j]? = some ops[j] := List.getElem?_eq_getElem hj
      have : j ∈ Region.ready .any ops.toArray listed := mem_ready.2 ⟨e, ops[j], by simp, fun ed hed hb => by
       have hlt := hd.back j _ ho ed hed hb
       rw [hgd ed.on (by omega)]
       exact ihj ed.on hlt (by omega)⟩
      rw [hnil] at this; cases this
   obtain ⟨F', b, hle⟩ := ih 0 listed F hsz hdown h1 h2 h3 (by
    have : ((List.range ops.length).filter fun j => !listed.getD j true) = [] := List.filter_eq_nil_iff.2 fun j hj => by simp [hall j (by simpa using hj)]
    rw [this]; simp)
   have hgo : Region.linearise.go .any ops.toArray fuel 0 listed [] = [] := by
    cases fuel with
    | zero => rfl
    | succ f =>
     simp only [Region.linearise.go]
     change (match (Region.ready .any ops.toArray listed)[0 % (Region.ready .any ops.toArray listed).length]? with
      | some i => Region.linearise.go .any ops.toArray f (0 / (Region.ready .any ops.toArray listed).length) (listed.setIfInBounds i true) [i]
      | none => [].reverse) = []
     rw [hnil]; rfl
   rw [hgo] at b
   exact ⟨F', b, hle⟩
  | some i =>
   simp only []
   rw [linearise_go_acc, List.reverse_singleton, List.singleton_append]
   have hmem : i ∈ Region.ready .any ops.toArray listed := List.mem_of_getElem? hi
   obtain ⟨hun, o, ho', hpre⟩ := mem_ready.1 hmem
   have ho : ops[i]? = some o := by simpa using ho'
   have hil := lt_length ho
   -- what is met
   have hclosed : ∀ j, ahead ops j i = true → listed.getD j false = true := ahead_closed ops (fun j => listed.getD j false = true) hd.back
    (fun j x hj hx => hdown j x hx (by rw [← hgd j (lt_length hx)]; exact hj)) i o ho hpre
   have hnot : ∀ j x, ops[j]? = some x → ahead ops i j = true → listed.getD j true = false := by
    intro j x hx ha
    cases e : listed.getD j true with
    | false => rfl
    | true =>
     have := ahead_closed ops (fun j => listed.getD j false = true) hd.back (fun j x hj hx => hdown j x hx (by rw [← hgd j (lt_length hx)]; exact hj)) j x hx (hdown j x hx e) i ha
     rw [hgd i hil, hun] at this; cases this
   -- the slots that it looks at are as in the text's order
   have hlook : ∀ s ∈ o.looksAt ops.toArray, look s (FF i).slots = look s F.slots := by
    intro s hs
    rw [(hd.frames i (by omega)).2.2 s, h3 s, ← vat_below ops.length (by omega)]
    refine vat_congr ops.length fun j hj hdj => ?_
    have hoj : ops[j]? = some ops[j] := List.getElem?_eq_getElem hj
    rw [hoj, Option.bind_some] at hdj
    by_cases hji : j < i
    ·have := hclosed j (hd.slot j i _ _ hji hoj ho (clash_of hdj (.inl hs)))
     rw [hgd j hj] at this
     simp [hji, this]
    ·by_cases hij : j = i
     ·subst hij
      simp [hun]
     ·have := hnot j _ hoj (hd.slot i j _ _ (by omega) ho hoj (clash_of' hdj hs))
      simp [hji, this]
   -- the step
   obtain ⟨F2, hp2⟩ := put_ok (F2 := F) (w := V i) (hd.put i o ho) (by rw [h1, (hd.frames i (by omega)).1])
   obtain ⟨q1, q2⟩ := put_size hp2
   have hcl : Closed ops fun j => listed.getD j true := fun j x hx hj e he hb => by
    have := hdown j x hx hj e he hb
    rwa [hgd e.on (Nat.lt_trans (hd.back j x hx e he hb) (lt_length hx))] at this
   have hdown' : ∀ j x, ops[j]? = some x → (listed.setIfInBounds i true).getD j true = true → ∀ e ∈ x.after, Region.binds .any e = true → (listed.setIfInBounds i true).getD e.on false = true := by
    intro j x hx hj e he hb
    refine getD_set_true ?_
    by_cases e1 : j = i
    ·subst e1
     rw [ho] at hx; cases hx
     exact hpre e he hb
    ·rw [getD_set_ne true (Ne.symm e1)] at hj
     exact hdown j x hx hj e he hb
   have hlook' : ∀ s, look s F2.slots = vat ops V (FF 0) s (fun j => (listed.setIfInBounds i true).getD j true) ops.length := by
    intro s
    rw [put_look hp2]
    by_cases e : o.dst = some s
    ·rw [if_pos e]
     refine (vat_top (i := i) (by simp [show i < listed.size by omega]) (by rw [ho]; exact e) ops.length hil fun j hij hj hdj => ?_).symm
     have hoj : ops[j]? = some ops[j] := List.getElem?_eq_getElem hj
     rw [hoj, Option.bind_some] at hdj
     rw [getD_set_ne true (by omega)]
     exact hnot j _ hoj (hd.slot i j _ _ hij ho hoj (clash_of e (.inr hdj)))
    ·rw [if_neg e, h3 s]
     refine vat_congr ops.length fun j hj hdj => ?_
     have hne : j ≠ i := by
      intro e1; subst e1
      rw [ho] at hdj; exact e hdj
     exact (getD_set_ne true (Ne.symm hne)).symm
   have hfuel' : ((List.range ops.length).filter fun j => !(listed.setIfInBounds i true).getD j true).length ≤ fuel := by
    have hmemf : i ∈ (List.range ops.length).filter (fun j => !listed.getD j true) := List.mem_filter.2 ⟨by simpa using hil, by simp [hun]⟩
    have hsub : ((List.range ops.length).filter fun j => !(listed.setIfInBounds i true).getD j true) = ((List.range ops.length).filter fun j => !listed.getD j true).filter (fun j => decide (j ≠ i)) := by
     rw [List.filter_filter]
     apply List.filter_congr
     intro j hj
     by_cases e : j = i
     ·subst e; simp [show j < listed.size by rw [hsz]; exact hil]
     ·rw [getD_set_ne true (Ne.symm e)]; simp [e]
    rw [hsub]
    have hlt : (((List.range ops.length).filter fun j => !listed.getD j true).filter (fun j => decide (j ≠ i))).length < ((List.range ops.length).filter fun j => !listed.getD j true).length := by
     refine List.length_filter_lt_length_iff_exists.2 ⟨i, hmemf, by simp⟩
    omega
   obtain ⟨F', b, hle⟩ := ih (t / (Region.ready .any ops.toArray listed).length) (listed.setIfInBounds i true) F2 (by simpa using hsz) hdown' (q1.trans h1) (q2.trans h2) hlook' hfuel'
   refine ⟨F', hcons _ i o _ F F2 F' hcl ho hun (fun e he hb => ?_) hlook hp2 (hext _ _ _ _ _ (fun j hj => ?_) b), hle⟩
   ·have := hpre e he hb
    rwa [hgd e.on (Nat.lt_trans (hd.back i o ho e he hb) hil)] at this
   ·unfold also
    by_cases e : j = i
    ·subst e; simp [show j < listed.size by omega]
    ·rw [if_neg e, getD_set_ne true (Ne.symm e)]
end
end
section
theorem HRel.same {P : Program} {S : Start} {m : Ren} {h h2 : Heap} {w : World} (hr : HRel P S m h w) (hn : h2.next = h.next) (hg : ∀ j, h2.get j = h.get j) : HRel P S m h2 w where
 gle := by rw [hn]; exact hr.gle
 glob := hr.glob
 obj i o ho := by rw [hn]; exact hr.obj i o (by rw [← hg]; exact ho)
 apart i j o p hij hi hj := hr.apart i j o p hij (by rw [← hg]; exact hi) (by rw [← hg]; exact hj)
 frame := hr.frame
 size := hr.size
 io := hr.io
def still (o : Oper) : Bool :=
 match o.op with
 | .move _ | .assign _ | .load .. | .fieldAddr .. | .field .. | .indexAddr .. | .index .. | .build .. | .binOp .. | .unOp .. | .nilCheck _ | .extract .. => true
 | .call c => match c.callee with
  | .builtin .len => true
  | _ => false
 | _ => false
section
variable {P : Program} {S : Start} {m : Ren} {h : Heap} {w : World} {ρ : Operand → Option Value} {ρ' : Operand → Value}
theorem run_value {s : Sem Value} {v : Value} (e : s.run P w = .ok v w) : (do pure (.value (← s)) : Sem Next).run P w = .ok (.value v) w := by simp [e]
theorem abuiltin_len (hr : HRel P S m h w) {b : Builtin} (hb : b = .len) {ats : Array TypeId} {ty : TypeId} {consts : Array Bool} {args : List Value} {v : Value} {h' : Heap}
  (e : abuiltin P b ats.toList args h = some (.val v, h')) : h' = h ∧ (builtin b ats ty consts (args.map (ren m)).toArray).run P w = .ok (.value (ren m v)) w ∧ sc h.next v := by
 unfold abuiltin at e
 split at e <;> try (cases hb; done)
 ·rename_i t x h1
  obtain ⟨v, hp, e⟩ := ob e
  cases e
  have ha : ats = #[t] := by apply Array.ext'; simpa using h1
  subst ha
  obtain ⟨q1, q2⟩ := alen_run (ty := ty) hr hp
  exact ⟨rfl, run_value q1, q2⟩
 ·cases e
theorem aop_still (hr : HRel P S m h w) (hρ : ∀ x v, ρ x = some v → ρ' x = ren m v ∧ sc h.next v) {o : Oper} (hs : still o = true) {v : Value} {h' : Heap} (e : aop P ρ o h = some (.val v, h')) :
  h' = h ∧ (execOp ρ' o).run P w = .ok (.value (ren m v)) w ∧ sc h.next v := by
 obtain ⟨dst, op, type, pos, after, guard⟩ := o
 cases op <;> simp only [still] at hs <;> try (cases hs; done)
 all_goals simp only [aop] at e
 case move x => obtain ⟨v, hv, e⟩ := ob e; cases e; obtain ⟨q1, q2⟩ := hρ x v hv; exact ⟨rfl, by simp [execOp, q1], q2⟩
 case assign x => obtain ⟨v, hv, e⟩ := ob e; cases e; obtain ⟨q1, q2⟩ := hρ x v hv; exact ⟨rfl, by simp [execOp, q1], q2⟩
 case load t a =>
  obtain ⟨p, hp, e⟩ := ob e
  obtain ⟨v, hv, e⟩ := ob e
  cases e
  obtain ⟨q1, q2⟩ := aload_run hr hv
  exact ⟨rfl, by simp [execOp, (hρ a p hp).1, q1], q2⟩
 case fieldAddr t x f =>
  obtain ⟨a, ha, e⟩ := ob e
  obtain ⟨v, hv, e⟩ := ob e
  cases e
  obtain ⟨q1, q2⟩ := afieldAddr_run (w := w) (m := m) (hρ x a ha).2 hv
  exact ⟨rfl, by simp [execOp, (hρ x a ha).1, q1], q2⟩
 case field t x f =>
  obtain ⟨a, ha, e⟩ := ob e
  obtain ⟨v, hv, e⟩ := ob e
  cases e
  obtain ⟨q1, q2⟩ := afield_run (w := w) (m := m) (hρ x a ha).2 hv
  exact ⟨rfl, by simp [execOp, (hρ x a ha).1, q1], q2⟩
 case indexAddr t x i =>
  obtain ⟨a, ha, e⟩ := ob e
  obtain ⟨b, hb, e⟩ := ob e
  obtain ⟨v, hv, e⟩ := ob e
  cases e
  obtain ⟨q1, q2⟩ := aindexAddr_run (w := w) (m := m) (hρ x a ha).2 hv
  exact ⟨rfl, by simp [execOp, (hρ x a ha).1, (hρ i b hb).1, q1], q2⟩
 case index t x i =>
  obtain ⟨a, ha, e⟩ := ob e
  obtain ⟨b, hb, e⟩ := ob e
  obtain ⟨v, hv, e⟩ := ob e
  cases e
  obtain ⟨q1, q2⟩ := aindex_run (w := w) (m := m) (hρ x a ha).2 hv
  exact ⟨rfl, by simp [execOp, (hρ x a ha).1, (hρ i b hb).1, q1], q2⟩
 case build t parts =>
  obtain ⟨ps, hps, e⟩ := ob e
  obtain ⟨v, hv, e⟩ := ob e
  cases e
  obtain ⟨q1, q2⟩ := evp_run hρ hps
  obtain ⟨q3, q4⟩ := abuild_run m w q2 hv
  have ha : (parts.map fun (i, x) => (i, ρ' x)) = (ps.map fun p => (p.1, ren m p.2)).toArray := by apply Array.ext'; simpa using q1
  exact ⟨rfl, by simp [execOp, ha, q3], q4⟩
 case binOp op t x y yt =>
  obtain ⟨a, ha, e⟩ := ob e
  obtain ⟨b, hb, e⟩ := ob e
  obtain ⟨v, hv, e⟩ := ob e
  cases e
  obtain ⟨q1, q2⟩ := binA_run hr x y hv
  refine ⟨rfl, ?_, sc_flat _ _ q2⟩
  simp only [execOp, (hρ x a ha).1, (hρ y b hb).1]
  exact run_value (by rw [ren_flat m v q2]; exact q1)
 case unOp op t x =>
  obtain ⟨a, ha, e⟩ := ob e
  obtain ⟨v, hv, e⟩ := ob e
  cases e
  obtain ⟨q1, q2⟩ := aun_run (P := P) m w hv
  exact ⟨rfl, by simp [execOp, (hρ x a ha).1, q1, ren_flat m v q2], sc_flat _ _ q2⟩
 case nilCheck x =>
  obtain ⟨v, hv, e⟩ := ob e
  obtain ⟨q1, q2⟩ := hρ x v hv
  split at e
  ·rename_i hn
   cases e
   refine ⟨rfl, ?_, q2⟩
   unfold notNil at hn
   split at hn
   ·simp [execOp, q1, ren]
   ·simp [execOp, q1, ren]
   ·cases hn
  ·cases e
 case extract x i =>
  obtain ⟨a, ha, e⟩ := ob e
  obtain ⟨v, hv, e⟩ := ob e
  cases e
  obtain ⟨q1, q2⟩ := aextract_run (P := P) (w := w) (m := m) (hρ x a ha).2 hv
  exact ⟨rfl, by simp [execOp, (hρ x a ha).1, q1], q2⟩
 case call c =>
  obtain ⟨callee, args, ats⟩ := c
  cases callee with
  | builtin b =>
   cases b <;> try (cases hs; done)
   simp only at e
   obtain ⟨as, has, e⟩ := ob e
   obtain ⟨q3, q4⟩ := evs_run hρ has
   obtain ⟨r1, r2, r3⟩ := abuiltin_len (ty := type) (consts := args.map fun | .const _ => true | _ => false) hr rfl e
   refine ⟨r1, ?_, r3⟩
   simp only [execOp, resolve, map_eq_toArray q3, Sem.run_bind, Sem.run_pure, Result.andThen_ok, invoke]
   exact r2
  | _ => cases hs
theorem HRel.fill (hr : HRel P S m h w) {k : Nat} {t : TypeId} {vs : List Value} (hk : h.get k = some .dead) (hb : m.blk k = w.heap.size) (hs : m.sh k = 0) (he : m.ext k = 0) (hv : ∀ v ∈ vs, sc h.next v) :
  HRel P S m (h.set k (.row { vs := vs, elem := t })) (w.alloc (.cells (vs.map (ren m)).toArray t)) := by
 have hget : ∀ j, (h.set k (.row { vs := vs, elem := t })).get j = if j = k then some (.row { vs := vs, elem := t }) else h.get j := fun j => Heap.get_set h k _ j (by simp [hk])
 have hne : ∀ j p, h.get j = some p → p.own = true → m.blk j ≠ w.heap.size := by
  intro j p hj hp
  have := hr.obj j p hj
  cases p with
  | dead => cases hp
  | row r => obtain ⟨_, c, fz, hc, _⟩ := this; have := lt_of_some hc; omega
  | map es clock => have := lt_of_some this.2.1; omega
  | iter s pos => have := lt_of_some this.1; omega
 refine ⟨by have := hr.gle; simp; omega, hr.glob, ?_, ?_, ?_, ?_, hr.io⟩
 ·intro j p hj
  rw [hget] at hj
  simp only [Heap.ns]
  split at hj
  ·rename_i e
   subst e; cases hj
   refine ⟨hv, (vs.map (ren m)).toArray, (0, 0), ?_, ?_, ?_, ?_, ?_, ?_, ?_, ?_⟩
   ·show (w.heap.push _)[_]? = _
    rw [hb, Array.getElem?_push, if_pos rfl]
   ·simp [hs, he]
   ·intro i v hi
    have hi' : vs[i]? = some v := hi
    simp only [hs, Nat.zero_add, List.getElem?_toArray, List.getElem?_map, hi', Option.map_some]
   ·intro _; rw [hb]; exact ⟨hr.size, fun _ => hs⟩
   ·intro q; cases q
   ·intro _ _ k _; simp
   ·intro _ _ _; rfl
   ·intro _; exact he
  ·have h0 := hr.obj j p hj
   by_cases hd : p = .dead
   ·subst hd; trivial
   refine h0.keep (Ren.agree_refl _ _) (Heap.lg hj) (Nat.le_refl _) ?_
   intro x hx
   show (w.heap.push _)[_]? = _
   rw [Array.getElem?_push, if_neg (by have := lt_of_some hx; omega)]; exact hx
 ·intro i j o p hij hi hj ho hp
  rw [hget] at hi hj
  split at hi
  ·rename_i e1
   split at hj
   ·rename_i e2; omega
   ·subst e1
    rw [hb]
    exact fun e => hne j p hj hp e.symm
  ·split at hj
   ·rename_i e2
    subst e2
    rw [hb]
    exact hne i o hi ho
   ·exact hr.apart i j o p hij hi hj ho hp
 ·intro b hb'
  show (w.heap.push _)[b]? = _
  have := hr.size
  rw [Array.getElem?_push, if_neg (by omega)]
  exact hr.frame b hb'
 ·show S.base ≤ (w.heap.push _).size
  have := hr.size
  simp; omega
end
inductive PathF (P : Program) (G : Nat) (ops : Array Oper) : List Nat → List Nat → Frm → Heap → Frm → Heap → Prop where
 | nil {F H} : PathF P G ops [] [] F H F H
 | same {ks l F H H2 F' H'} : H2.next = H.next → (∀ j, H2.get j = H.get j) → PathF P G ops ks l F H2 F' H' → PathF P G ops ks l F H F' H'
 | unwanted {ks i l F H o F1 F' H'} : ops[i]? = some o → awanted ops F o = some false → F.put o.dst undef = some F1 → PathF P G ops ks l F1 H F' H' → PathF P G ops ks (i :: l) F H F' H'
 | still {ks i l F H o v F1 F' H'} : ops[i]? = some o → awanted ops F o = some true → still o = true → aop P (aev G F) o H = some (.val v, H) → F.put o.dst v = some F1 → PathF P G ops ks l F1 H F' H' → PathF P G ops ks (i :: l) F H F' H'
 | fill {k ks i l F H o t inf z F1 F' H'} : ops[i]? = some o → awanted ops F o = some true → o.op = .alloc t → P.info? t = some inf → inf.zero = some z → flat z = true → H.get k = some .dead → F.put o.dst (.pointer (some ⟨k, 0, none⟩)) = some F1 →
   PathF P G ops ks l F1 (H.set k (.row { vs := z.cells.toList, elem := t })) F' H' → PathF P G ops (k :: ks) (i :: l) F H F' H'
 | val {i l F H o v H1 F1 F' H'} : ops[i]? = some o → awanted ops F o = some true → aop P (aev G F) o H = some (.val v, H1) → F.put o.dst v = some F1 → PathF P G ops [] l F1 H1 F' H' → PathF P G ops [] (i :: l) F H F' H'
 | skip {i l F H o H1 F1 F' H'} : ops[i]? = some o → awanted ops F o = some true → aop P (aev G F) o H = some (.skip, H1) → F.put o.dst undef = some F1 → PathF P G ops [] l F1 H1 F' H' → PathF P G ops [] (i :: l) F H F' H'
def Pend (m : Ren) (w : World) (n : Nat) (ks : List Nat) : Prop := ∀ j k, ks[j]? = some k → k < n ∧ m.blk k = w.heap.size + j ∧ m.sh k = 0 ∧ m.ext k = 0
theorem run_alloc0 {P : Program} {t : TypeId} {inf : TypeInfo} {z : Value} (hi : P.info? t = some inf) (hz : inf.zero = some z) (w : World) :
  (Instr.alloc t true (.tuple #[])).run P w = .ok (.pointer (some ⟨w.heap.size, 0, none⟩)) (w.alloc (.cells z.cells t)) := by
 simp only [Instr.alloc, Sem.run_bind, run_zeroValue' hi hz w, Result.andThen_ok, newVar, newRow, run_newObj, Sem.run_pure]
 rfl
theorem flat_cells (m : Ren) {z : Value} (h : flat z = true) : (z.cells.toList.map (ren m)).toArray = z.cells := by
 have h1 := ren_cells m z
 rw [ren_flat m z h] at h1
 apply Array.ext'
 rw [List.toList_toArray]
 conv => rhs; rw [h1]
 simp
theorem PathF.sound {P : Program} {S : Start} {ops : Array Oper} {ks l : List Nat} {F F' : Frm} {H H' : Heap} (hp : PathF P S.G ops ks l F H F' H') :
  ∀ m w a, HRel P S m H w → Pend m w H.next ks → FRel m H.next F a → ∀ u, scU H.next u → ∀ (b : Frame) (k : List Item) (c₀ : Frame) (cs₀ : List Frame),
   ∃ m' w' a', m.agree H.next m' ∧ H.next ≤ H'.next ∧ HRel P S m' H' w' ∧ FRel m' H'.next F' a' ∧ scU H'.next u ∧
    Steps P (lone (b.at a (.inRegion ops l :: k)) (csOf m c₀ cs₀ u) w) (lone (b.at a' k) (csOf m' c₀ cs₀ u) w') := by
 induction hp with
 | nil =>
  intro m w a hr _ hf u hu b k c₀ cs₀
  exact ⟨m, w, a, Ren.agree_refl _ _, Nat.le_refl _, hr, hf, hu, .one step_region_end⟩
 | same hn hg _ ih =>
  intro m w a hr hpd hf u hu b k c₀ cs₀
  have := ih m w a (hr.same hn hg) (by rw [hn]; exact hpd) (by rw [hn]; exact hf) u (by rw [hn]; exact hu) b k c₀ cs₀
  rw [hn] at this
  exact this
 | unwanted hi hw hpt _ ih =>
  intro m w a hr hpd hf u hu b k c₀ cs₀
  have hf2 := hf.put hpt (by simp [undef, sc, scA, scL])
  have hu2 : ren m undef = undef := by simp [undef, ren, renA, renL]
  rw [hu2] at hf2
  obtain ⟨m', w', a', g1, g2, g3, g4, g5, g6⟩ := ih m w _ hr hpd hf2 u hu b k c₀ cs₀
  exact ⟨m', w', a', g1, g2, g3, g4, g5, (go_unwanted hi (awanted_run hf hw)).trans g6⟩
 | still hi hw hst ha hpt _ ih =>
  intro m w a hr hpd hf u hu b k c₀ cs₀
  obtain ⟨_, q2, q3⟩ := aop_still hr (fun x v hx => aev_run hr hf hx) hst ha
  obtain ⟨m', w', a', g1, g2, g3, g4, g5, g6⟩ := ih m w _ hr hpd (hf.put hpt q3) u hu b k c₀ cs₀
  exact ⟨m', w', a', g1, g2, g3, g4, g5, (go_value hi (awanted_run hf hw) q2).trans g6⟩
 | @fill k0 ks i l F H o t inf z F1 F' H' hi hw ho hin hz hfl hk hpt _ ih =>
  intro m w a hr hpd hf u hu b k c₀ cs₀
  obtain ⟨p1, p2, p3, p4⟩ := hpd 0 _ rfl
  have hfill := hr.fill (t := t) (vs := z.cells.toList) hk (by omega) p3 p4 (fun v hv => sc_cells (sc_flat H.next z hfl) v (Array.mem_toList_iff.1 hv))
  rw [flat_cells m hfl] at hfill
  have hrun : (execOp a.eval o).run P w = .ok (.value (ren m (.pointer (some ⟨k0, 0, none⟩)))) (w.alloc (.cells z.cells t)) := by
   have hb : m.blk k0 = w.heap.size := by omega
   obtain ⟨dst, op, type, pos, after, guard⟩ := o
   simp only at ho
   subst ho
   simp only [execOp, Sem.run_bind, run_alloc0 hin hz, Result.andThen_ok, Sem.run_pure, ren, hb, p3]
  have hpd2 : Pend m (w.alloc (.cells z.cells t)) (H.set k0 (.row { vs := z.cells.toList, elem := t })).next ks := by
   intro j k hj
   obtain ⟨q1, q2, q3, q4⟩ := hpd (j + 1) k (by simpa using hj)
   refine ⟨by simpa using q1, ?_, q3, q4⟩
   show _ = (w.heap.push _).size + j
   rw [Array.size_push]; omega
  have hn : (H.set k0 (.row { vs := z.cells.toList, elem := t })).next = H.next := Heap.ns _ _ _
  have hf2 := hf.put hpt (show sc H.next (.pointer (some ⟨k0, 0, none⟩)) by simpa [sc] using p1)
  obtain ⟨m', w', a', g1, g2, g3, g4, g5, g6⟩ := ih m _ _ hfill hpd2 (by rw [hn]; exact hf2) u (by rw [hn]; exact hu) b k c₀ cs₀
  rw [hn] at g1 g2
  exact ⟨m', w', a', g1, g2, g3, g4, g5, (go_value hi (awanted_run hf hw) hrun).trans g6⟩
 | val hi hw ha hpt _ ih =>
  intro m w a hr _ hf u hu b k c₀ cs₀
  obtain ⟨m1, w1, f1, f2, f3, f4, f5⟩ := aop_run hr (fun x v hx => aev_run hr hf hx) (fun _ => rfl) ha
  obtain ⟨m', w', a', g1, g2, g3, g4, g5, g6⟩ := ih m1 w1 _ f3 (fun j k hj => by simp at hj) ((hf.agree f1 f5).put hpt f4) u (scU_mono f5 hu) b k c₀ cs₀
  refine ⟨m', w', a', f1.trans (g1.mono f5), by omega, g3, g4, g5, ?_⟩
  rw [csOf_congr f1 hu]
  exact (go_value hi (awanted_run hf hw) f2).trans g6
 | skip hi hw ha hpt _ ih =>
  intro m w a hr _ hf u hu b k c₀ cs₀
  obtain ⟨m1, w1, f1, f2, f3, f4, f5⟩ := aop_run hr (fun x v hx => aev_run hr hf hx) (fun _ => rfl) ha
  have hf2 := (hf.agree f1 f5).put hpt (by simp [undef, sc, scA, scL])
  have hu2 : ren m1 undef = undef := by simp [undef, ren, renA, renL]
  rw [hu2] at hf2
  obtain ⟨m', w', a', g1, g2, g3, g4, g5, g6⟩ := ih m1 w1 _ f3 (fun j k hj => by simp at hj) hf2 u (scU_mono f5 hu) b k c₀ cs₀
  refine ⟨m', w', a', f1.trans (g1.mono f5), by omega, g3, g4, g5, ?_⟩
  rw [csOf_congr f1 hu]
  exact (go_skip hi (awanted_run hf hw) f2).trans g6
end
section
def isFill (o : Oper) : Bool := match o.op with | .alloc _ => true | _ => false
def loudN (o : Oper) : Bool := isLoud o && !isFill o
def readN (ex : List Nat) (o : Oper) : Bool := isReader o && !exempt ex o
def drawableF (ops : List Oper) (ex : List Nat) : Bool :=
 let ms := masks [] ops
 let l := pairs ops 0
 l.all (fun p => p.2.after.all fun e => !Region.binds .any e || decide (e.on < p.1)) &&
 l.all (fun p => l.all fun q => !(decide (p.1 < q.1)) || (ms.getD q.1 0).testBit p.1 || (!(loudN p.2 && loudN q.2) && !clash ops p.2 q.2 && !(loudN p.2 && readN ex q.2) && !(readN ex p.2 && loudN q.2))) &&
 (ops.any isFill) &&
 l.all fun p => !isFill p.2 || l.all fun q => isFill q.2 || ((ms.getD q.1 0).testBit p.1 && decide (p.1 < q.1)) || (still q.2 && (isPure q.2 || exempt ex q.2))
section
variable {P : Program} {G : Nat} {ops : List Oper}
inductive Sf (P : Program) (G : Nat) (ops : List Oper) (o : Oper) (F : Frm) (H : Heap) : Value → Heap → Prop where
 | unwanted : awanted ops.toArray F o = some false → Sf P G ops o F H undef H
 | val {v H'} : awanted ops.toArray F o = some true → aop P (aev G F) o H = some (.val v, H') → Sf P G ops o F H v H'
 | skip {H'} : awanted ops.toArray F o = some true → aop P (aev G F) o H = some (.skip, H') → Sf P G ops o F H undef H'
theorem Sf.congr {o : Oper} {F F2 : Frm} {H H' : Heap} {v : Value} (hs : Sf P G ops o F H v H') (h : ∀ s ∈ o.looksAt ops.toArray, look s F.slots = look s F2.slots) : Sf P G ops o F2 H v H' := by
 have h1 := awanted_congr h
 have h2 : aop P (aev G F) o = aop P (aev G F2) o := funext fun H => aop_congr (aev_congr h) fun _ => rfl
 cases hs with
 | unwanted hw => exact .unwanted (h1 ▸ hw)
 | val hw ha => exact .val (h1 ▸ hw) (h2 ▸ ha)
 | skip hw ha => exact .skip (h1 ▸ hw) (h2 ▸ ha)
theorem abuiltin_len_skip {P : Program} {b : Builtin} (hb : b = .len) {ats : List TypeId} {args : List Value} {h h' : Heap} (e : abuiltin P b ats args h = some (.skip, h')) : False := by
 unfold abuiltin at e
 split at e <;> try (cases hb; done)
 ·obtain ⟨v, hp, e⟩ := ob e
  cases e
 ·cases e
theorem aop_still_skip {ρ : Operand → Option Value} {o : Oper} {h h' : Heap} (hs : still o = true) (e : aop P ρ o h = some (.skip, h')) : False := by
 obtain ⟨dst, op, type, pos, after, guard⟩ := o
 cases op <;> simp only [still] at hs <;> try (cases hs; done)
 case call c =>
  obtain ⟨callee, args, ats⟩ := c
  cases callee with
  | builtin b =>
   cases b <;> simp only at hs <;> try (cases hs; done)
   simp only [aop] at e
   obtain ⟨as, has, e⟩ := ob e
   exact abuiltin_len_skip rfl e
  | _ => cases hs
 case nilCheck x =>
  simp only [aop] at e
  obtain ⟨v, hv, e⟩ := ob e
  split at e <;> simp at e
 all_goals
  simp only [aop] at e
  repeat (rw [Option.bind_eq_some_iff] at e; obtain ⟨_, _, e⟩ := e)
  simp at e
structure Trf (P : Program) (G : Nat) (ops : List Oper) (ex : List Nat) (n : Nat) (h : Heap) (V : Nat → Value) (HH : Nat → Heap) (FF : Nat → Frm) : Prop where
 start : HH 0 = h
 hn : h.next = n
 step : ∀ i o, ops[i]? = some o → Sf P G ops o (FF i) (HH i) (V i) (HH (i + 1))
 put : ∀ i o, ops[i]? = some o → (FF i).put o.dst (V i) = some (FF (i + 1))
 quiet : ∀ i o, ops[i]? = some o → isLoud o = false → HH (i + 1) = HH i
 pure : ∀ i o, ops[i]? = some o → isPure o = true → ∀ H, Sf P G ops o (FF i) H (V i) H
 load : ∀ i o, ops[i]? = some o → isReader o = true → exempt ex o = true → ∀ H, (∀ j, j < n → H.get j = h.get j) → Sf P G ops o (FF i) H (V i) H
 fill : ∀ i o, ops[i]? = some o → isFill o = true → ∃ t inf z, o.op = .alloc t ∧ P.info? t = some inf ∧ inf.zero = some z ∧ flat z = true ∧ V i = (HH i).new ∧ HH (i + 1) = (HH i).alloc (.row { vs := z.cells.toList, elem := t }) ∧ o.guard = none
 old : ∀ i, i ≤ ops.length → ∀ j, j < n → (HH i).get j = h.get j
 next : ∀ i o, ops[i]? = some o → loudN o = true → (HH (i + 1)).next = (HH i).next
def kills (kf : Nat → Nat) (L : Nat → Bool) : List Nat → Heap → Heap
 | [], H => H
 | i :: l, H => kills kf L l (if L i then H else H.set (kf i) .dead)
theorem kills_next (kf : Nat → Nat) (L : Nat → Bool) : ∀ (l : List Nat) (H : Heap), (kills kf L l H).next = H.next
 | [], _ => rfl
 | i :: l, H => by
  simp only [kills]
  rw [kills_next kf L l]
  split
  ·rfl
  ·exact Heap.ns _ _ _
theorem kills_get (kf : Nat → Nat) (L : Nat → Bool) : ∀ (l : List Nat) (H : Heap), (∀ i ∈ l, (H.get (kf i)).isSome) → ∀ j, (kills kf L l H).get j = if l.any (fun i => !L i && (kf i == j)) then some .dead else H.get j
 | [], H, _, j => by simp [kills]
 | i :: l, H, hs, j => by
  simp only [kills, List.any_cons]
  have hi := hs i (by simp)
  by_cases hL : L i = true
  ·rw [if_pos hL, kills_get kf L l H (fun i hi => hs i (by simp [hi]))]
   simp [hL]
  ·rw [if_neg hL, kills_get kf L l _ (fun a ha => by
    rw [Heap.get_set H _ _ _ hi]
    split
    ·rfl
    ·exact hs a (by simp [ha])), Heap.get_set H _ _ _ hi]
   have hL' : L i = false := by simpa using hL
   by_cases e : kf i = j
   ·subst e; simp [hL']
   ·have e1 : (kf i == j) = false := by simpa using e
    simp only [e1, Bool.and_false, Bool.false_or]
    rw [if_neg (Ne.symm e)]
theorem kills_congr (kf : Nat → Nat) {L L' : Nat → Bool} : ∀ (l : List Nat) (H : Heap), (∀ i ∈ l, L i = L' i) → kills kf L l H = kills kf L' l H
 | [], _, _ => rfl
 | i :: l, H, h => by
  simp only [kills, h i (by simp)]
  exact kills_congr kf l _ fun i hi => h i (by simp [hi])
theorem HRel.reserve {P : Program} {S : Start} {m m0 : Ren} {h h2 : Heap} {w : World} (hr : HRel P S m h w) (ha : m.agree h.next m0) (hn : h.next ≤ h2.next)
  (hg : ∀ i o, h2.get i = some o → i < h.next ∧ h.get i = some o ∨ o = .dead) : HRel P S m0 h2 w where
 gle := Nat.le_trans hr.gle hn
 glob i hi := by
  obtain ⟨a1, a2, a3⟩ := hr.glob i hi
  obtain ⟨b1, b2, b3⟩ := ha i (Nat.lt_of_lt_of_le hi hr.gle)
  exact ⟨b1 ▸ a1, b2 ▸ a2, b3 ▸ a3⟩
 obj i o ho := by
  rcases hg i o ho with ⟨h1, h2'⟩ | rfl
  ·exact (hr.obj i o h2').keep ha h1 hn (fun x hx => hx)
  ·trivial
 apart i j o p hij hi hj ho hp := by
  rcases hg i o hi with ⟨h1, h2'⟩ | rfl
  ·rcases hg j p hj with ⟨h3, h4⟩ | rfl
   ·rw [← (ha i h1).1, ← (ha j h3).1]
    exact hr.apart i j o p hij h2' h4 ho hp
   ·cases hp
  ·cases ho
 frame := hr.frame
 size := hr.size
 io := hr.io
variable {Ext : FuncId → List Value → Heap → Value → Heap → Prop}
theorem Big.ofPaths {id : Nat} {fr fr1 : Frm} {u : Option FrameMode} {h h0 h1 : Heap} (hm : P.follows .mixedOrders = true) (hn : h.next ≤ h0.next)
  (hg : ∀ i o, h0.get i = some o → i < h.next ∧ h.get i = some o ∨ o = .dead)
  (hp : ∀ t, ∃ ks F', PathF P G ops.toArray ks (Region.linearise .any ops.toArray t) fr h0 F' h1 ∧ fr1.le F' ∧ ks.Nodup ∧ ∀ k ∈ ks, h.next ≤ k ∧ k < h0.next) :
  Big P G Ext (.code (.region id ops.toArray true) fr u) h (.x .normal fr1 u) h1 := by
 refine .said fun S hS => ?_
 subst hS
 intro m w a hr hf hu b k c₀ cs₀ hk
 have hs := step_region_draw (P := P) (b := b) (a := a) (k := k) (cs := csOf m c₀ cs₀ u) (w := w) (ops := ops.toArray) (id := id)
 simp only [Region.schedule, hm, Bool.true_or, if_true] at hs
 obtain ⟨ks, F', hpath, hle, hnd, hks⟩ := hp _
 let m0 : Ren := ⟨fun i => if i < h.next then m.blk i else w.heap.size + ks.idxOf i, fun i => if i < h.next then m.sh i else 0, fun i => if i < h.next then m.ext i else 0⟩
 have hag : m.agree h.next m0 := fun i hi => ⟨by simp [m0, hi], by simp [m0, hi], by simp [m0, hi]⟩
 have hr0 : HRel P S m h { w with drawn := w.drawn + 1 } := hr.world rfl rfl
 have hpd : Pend m0 { w with drawn := w.drawn + 1 } h0.next ks := by
  intro j k hj
  obtain ⟨h1, h2⟩ := hks k (List.mem_of_getElem? hj)
  have hx : ks.idxOf k = j := by
   obtain ⟨hlt, hjk⟩ := List.getElem?_eq_some_iff.1 hj
   rw [← hjk]
   exact hnd.idxOf_getElem j hlt
  have hge : ¬ k < h.next := by omega
  refine ⟨h2, ?_, by simp [m0, hge], by simp [m0, hge]⟩
  simp [m0, hge, hx]
 obtain ⟨m', w', a', g1, g2, g3, g4, g5, g6⟩ := hpath.sound m0 _ a (hr0.reserve hag hn hg) hpd (hf.agree hag hn) u (scU_mono hn hu) b k c₀ cs₀
 rw [← csOf_congr hag hu] at g6
 exact ⟨m', w', a', hag.trans (g1.mono hn), by omega, g3, g4.weaken hle, g5, trivial, rfl, .of_steps (.one hs) g6⟩
end
end
section
section
variable {P : Program} {G : Nat} {ops : List Oper} {ex : List Nat} {n : Nat} {h : Heap} {V : Nat → Value} {HH : Nat → Heap} {FF : Nat → Frm}
variable {Ext : FuncId → List Value → Heap → Value → Heap → Prop}
def fillsOf (ops : List Oper) : List Nat := (List.range ops.length).filter fun i => ((ops[i]?).map isFill).getD false
theorem mem_fillsOf {i : Nat} : i ∈ fillsOf ops ↔ ∃ o, ops[i]? = some o ∧ isFill o = true := by
 unfold fillsOf
 rw [List.mem_filter, List.mem_range]
 constructor
 ·rintro ⟨h1, h2⟩
  rw [List.getElem?_eq_getElem h1] at h2
  exact ⟨_, List.getElem?_eq_getElem h1, by simpa using h2⟩
 ·rintro ⟨o, h1, h2⟩
  exact ⟨lt_length h1, by rw [h1]; simpa using h2⟩
theorem fill_loud {o : Oper} (h : isFill o = true) : isLoud o = true := by
 unfold isFill at h
 split at h
 ·rename_i t e
  unfold isLoud isPure isReader
  rw [e]; rfl
 ·cases h
theorem loudX_nil (o : Oper) : loudX [] o = isLoud o := by unfold loudX; rw [exempt_nil]; simp
theorem still_quiet {o : Oper} (hs : still o = true) : isLoud o = false := by
 obtain ⟨dst, op, type, pos, after, guard⟩ := o
 cases op <;> simp only [still] at hs <;> try (cases hs; done)
 case call c =>
  obtain ⟨callee, args, ats⟩ := c
  cases callee with
  | builtin b =>
   cases b <;> simp only at hs <;> try (cases hs; done)
   rfl
  | _ => cases hs
 case binOp op t x y yt =>
  unfold isLoud isPure isReader
  simp only
  cases (isEqOp op && !isConstO x && !isConstO y) <;> rfl
 all_goals rfl
theorem Trf.big (ht : Trf P G ops ex n h V HH FF) (hd : drawableF ops ex = true) (hm : P.follows .mixedOrders = true) {id : Nat} {u : Option FrameMode} :
    Big P G Ext (.code (.region id ops.toArray true) (FF 0) u) h (.x .normal (FF ops.length) u) (HH ops.length) := by
  unfold drawableF at hd
  simp only [Bool.and_eq_true, List.all_eq_true] at hd
  obtain ⟨⟨⟨hd1, hd2⟩, hd4⟩, hd3⟩ := hd
  have hpair : ∀ i j x y, i < j → ops[i]? = some x → ops[j]? = some y → ahead ops i j = true ∨ (¬ (loudN x = true ∧ loudN y = true) ∧ clash ops x y = false ∧ ¬ (loudN x = true ∧ readN ex y = true) ∧ ¬ (readN ex x = true ∧ loudN y = true)) := by
    intro i j x y hij hx hy
    have := hd2 _ (by simpa using mem_pairs ops 0 i x hx) _ (by simpa using mem_pairs ops 0 j y hy)
    simp only [decide_eq_true hij, Bool.not_true, Bool.false_or, Bool.or_eq_true, Bool.and_eq_true, Bool.not_eq_true', Bool.and_eq_false_iff] at this
    rcases this with h | ⟨⟨⟨h1, h2⟩, h3⟩, h4⟩
    · exact .inl h
    · refine .inr ⟨?_, h2, ?_, ?_⟩
      · rintro ⟨q1, q2⟩; rcases h1 with h1 | h1 <;> simp_all
      · rintro ⟨q1, q2⟩; rcases h3 with h3 | h3 <;> simp_all
      · rintro ⟨q1, q2⟩; rcases h4 with h4 | h4 <;> simp_all
  have hback : ∀ i o, ops[i]? = some o → ∀ e ∈ o.after, Region.binds .any e = true → e.on < i := by
    intro i o ho e he hb
    have := hd1 _ (by simpa using mem_pairs ops 0 i o ho)
    have h2 := (Array.all_eq_true_iff_forall_mem.1 this) e he
    simp only [hb, Bool.not_true, Bool.false_or] at h2
    exact of_decide_eq_true h2
  have hfills : ∀ i j x y, ops[i]? = some x → isFill x = true → ops[j]? = some y → isFill y = false → (ahead ops i j = true ∧ i < j) ∨ (still y = true ∧ (isPure y = true ∨ exempt ex y = true)) := by
    intro i j x y hx hfx hy hfy
    have := hd3 _ (by simpa using mem_pairs ops 0 i x hx)
    simp only [hfx, Bool.not_true, Bool.false_or, List.all_eq_true] at this
    have := this _ (by simpa using mem_pairs ops 0 j y hy)
    simp only [hfy, Bool.false_or, Bool.or_eq_true, Bool.and_eq_true, decide_eq_true_eq] at this
    exact this
  have hstill : ∀ o : Oper, still o = true → isLoud o = false := fun o ho => still_quiet ho
  have hloudF : ∀ i j x y, ops[i]? = some x → isFill x = true → ops[j]? = some y → loudN y = true → ahead ops i j = true ∧ i < j := by
    intro i j x y hx hfx hy hly
    unfold loudN at hly
    simp only [Bool.and_eq_true, Bool.not_eq_true'] at hly
    rcases hfills i j x y hx hfx hy hly.2 with h1 | ⟨h1, _⟩
    · exact h1
    · rw [hstill _ h1] at hly; cases hly.1
  have hloud : ∀ i j x y, i < j → ops[i]? = some x → ops[j]? = some y → loudN x = true → loudN y = true → ahead ops i j = true :=
    fun i j x y hij hx hy lx ly => (hpair i j x y hij hx hy).resolve_right fun h => h.1 ⟨lx, ly⟩
  have hkind : ∀ o : Oper, isLoud o = true → isFill o = true ∨ loudN o = true := by
    intro o ho
    unfold loudN
    cases h : isFill o
    · right; rw [ho]; rfl
    · exact .inl rfl
  have hconst : ∀ a b, a ≤ b → b ≤ ops.length → (∀ l y, a ≤ l → l < b → ops[l]? = some y → isLoud y = false) → HH b = HH a := by
    intro a b
    induction b with
    | zero => intro h _ _; have : a = 0 := by omega
              subst this; rfl
    | succ b ih =>
      intro h hb hno
      by_cases e : a = b + 1
      · subst e; rfl
      · have ho : ops[b]? = some ops[b] := List.getElem?_eq_getElem (by omega)
        rw [ht.quiet b _ ho (hno b _ (by omega) (by omega) ho)]
        exact ih (by omega) (by omega) fun l y h1 h2 => hno l y h1 (by omega)
  have hsame : ∀ c i, c ≤ ops.length → i ≤ ops.length → (∀ l y, ops[l]? = some y → isLoud y = true → (l < i ↔ l < c)) → HH c = HH i := by
    intro c i hc hi hl
    rcases Nat.le_total c i with q | q
    · refine (hconst c i q hi fun l y h1 h2 hy => ?_).symm
      cases hly : isLoud y with
      | false => rfl
      | true => have := (hl l y hy hly).1 h2; omega
    · refine hconst i c q hc fun l y h1 h2 hy => ?_
      cases hly : isLoud y with
      | false => rfl
      | true => have := (hl l y hy hly).2 h2; omega
  have hbelow : ∀ {L : Nat → Bool} {l : Nat} {y : Oper}, ops[l]? = some y → isLoud y = true → l < cOf ops [] L → L l = true := fun hy hl hlt => cOf_below hy (by rw [loudX_nil]; exact hl) hlt
  have hnotc : ∀ {L : Nat → Bool}, cOf ops [] L < ops.length → ∃ y, ops[cOf ops [] L]? = some y ∧ isLoud y = true ∧ L (cOf ops [] L) = false := fun h => by
    obtain ⟨y, h1, h2, h3⟩ := cOf_not h
    exact ⟨y, h1, by rw [← loudX_nil y]; exact h2, h3⟩
  -- where all places are made
  have hcount : ∀ L, Closed ops L → (∀ i ∈ fillsOf ops, L i = true) → ∀ l y, ops[l]? = some y → isLoud y = true → (L l = true ↔ l < cOf ops [] L) := by
    intro L hL hall l y hy hly
    constructor
    · intro hl
      rcases Nat.lt_or_ge l (cOf ops [] L) with q | q
      · exact q
      · obtain ⟨z, hz, hlz, hnz⟩ := hnotc (L := L) (Nat.lt_of_le_of_lt q (lt_length hy))
        have hzn : loudN z = true := by
          rcases hkind z hlz with h1 | h1
          · rw [hall _ (mem_fillsOf.2 ⟨z, hz, h1⟩)] at hnz; cases hnz
          · exact h1
        rcases Nat.lt_or_ge (cOf ops [] L) l with q2 | q2
        · have hyn : loudN y = true := by
            rcases hkind y hly with h1 | h1
            · have := (hloudF l _ y z hy h1 hz hzn).2; omega
            · exact h1
          have := ahead_closed ops (fun j => L j = true) hback (fun j x hj hx => hL j x hx hj) l y hy (hL l y hy hl) _ (hloud _ _ z y q2 hz hy hzn hyn)
          rw [hnz] at this; cases this
        · have : l = cOf ops [] L := by omega
          rw [this, hnz] at hl; cases hl
    · exact fun h => hbelow hy hly h
  let fl := fillsOf ops
  let kf : Nat → Nat := fun i => (HH i).next
  let c0 := cOf ops [] (fun i => fl.contains i)
  have hc0 : c0 ≤ ops.length := cOf_le _ _ _
  have hc0fill : ∀ l y, ops[l]? = some y → isLoud y = true → (l < c0 ↔ isFill y = true) := by
    intro l y hy hly
    constructor
    · intro hl
      have := hbelow hy hly hl
      have hmem : l ∈ fillsOf ops := by simpa [fl] using this
      obtain ⟨o, ho, hf⟩ := mem_fillsOf.1 hmem
      rw [hy] at ho; cases ho; exact hf
    · intro hf
      rcases Nat.lt_or_ge l c0 with q | q
      · exact q
      · obtain ⟨z, hz, hlz, hnz⟩ := hnotc (L := fun i => fl.contains i) (Nat.lt_of_le_of_lt q (lt_length hy))
        rcases hkind z hlz with h1 | h1
        · have : cOf ops [] (fun i => fl.contains i) ∈ fillsOf ops := mem_fillsOf.2 ⟨z, hz, h1⟩
          have h3 : fl.contains (cOf ops [] (fun i => fl.contains i)) = true := List.contains_iff_mem.2 this
          rw [h3] at hnz; cases hnz
        · have h2 := (hloudF l _ y z hy hf hz h1).2
          exact absurd h2 (Nat.not_lt.2 q)
  -- the numbers of the places
  have hmono1 : ∀ i, i < ops.length → (HH i).next ≤ (HH (i + 1)).next := by
    intro i hi
    have ho : ops[i]? = some ops[i] := List.getElem?_eq_getElem hi
    cases hl : isLoud ops[i] with
    | false => rw [ht.quiet i _ ho hl]; exact Nat.le_refl _
    | true =>
      rcases hkind _ hl with h1 | h1
      · obtain ⟨t, inf, z, _, _, _, _, _, e, _⟩ := ht.fill i _ ho h1
        rw [e, Heap.na]; omega
      · rw [ht.next i _ ho h1]; exact Nat.le_refl _
  have hmono : ∀ i j, i ≤ j → j ≤ ops.length → (HH i).next ≤ (HH j).next := by
    intro i j hij
    induction j with
    | zero => intro _; have : i = 0 := by omega
              subst this; exact Nat.le_refl _
    | succ j ih =>
      intro hj
      by_cases e : i = j + 1
      · subst e; exact Nat.le_refl _
      · exact Nat.le_trans (ih (by omega) (by omega)) (hmono1 j (by omega))
  have hn0 : (HH 0).next = n := by rw [ht.start]; exact ht.hn
  have hkn : ∀ i, i ≤ ops.length → n ≤ kf i := fun i hi => by rw [← hn0]; exact hmono 0 i (Nat.zero_le _) hi
  have hkinj : ∀ i j, i ∈ fl → j ∈ fl → kf i = kf j → i = j := by
    have key : ∀ i j, i ∈ fl → j ∈ fl → i < j → kf i < kf j := by
      intro i j hi hj hij
      obtain ⟨o, ho, hf⟩ := mem_fillsOf.1 hi
      obtain ⟨o2, ho2, hf2⟩ := mem_fillsOf.1 hj
      obtain ⟨t, inf, z, _, _, _, _, _, e, _⟩ := ht.fill i _ ho hf
      have := hmono (i + 1) j (by omega) (Nat.le_of_lt (lt_length ho2))
      rw [e, Heap.na] at this
      show (HH i).next < (HH j).next
      omega
    intro i j hi hj e
    rcases Nat.lt_trichotomy i j with q | q | q
    · have := key i j hi hj q; omega
    · exact q
    · have := key j i hj hi q; omega
  have hrow : ∀ i o, ops[i]? = some o → isFill o = true → ∀ c, i + 1 ≤ c → c ≤ c0 → (HH c).get (kf i) = (HH (i + 1)).get (kf i) := by
    intro i o ho hf c hic
    induction c with
    | zero => omega
    | succ c ih =>
      intro hc
      by_cases e : i = c
      · subst e; rfl
      · rw [← ih (by omega) (by omega)]
        have hoc : ops[c]? = some ops[c] := List.getElem?_eq_getElem (by omega)
        cases hl : isLoud ops[c] with
        | false => rw [ht.quiet c _ hoc hl]
        | true =>
          obtain ⟨t, inf, z, _, _, _, _, _, e2, _⟩ := ht.fill c _ hoc ((hc0fill c _ hoc hl).1 (by omega))
          rw [e2]
          have h1 := hmono (i + 1) c (by omega) (by omega)
          obtain ⟨t, inf, z, _, _, _, _, _, e3, _⟩ := ht.fill i _ ho hf
          rw [e3, Heap.na] at h1
          exact Heap.go _ _ (by show (HH i).next < (HH c).next; omega)
  have hplace : ∀ c, c ≤ c0 → ∀ j, n ≤ j → j < (HH c).next → ∃ i, i ∈ fl ∧ kf i = j := by
    intro c
    induction c with
    | zero => intro _ j h1 h2; rw [hn0] at h2; omega
    | succ c ih =>
      intro hc j h1 h2
      have hoc : ops[c]? = some ops[c] := List.getElem?_eq_getElem (by omega)
      cases hl : isLoud ops[c] with
      | false => rw [ht.quiet c _ hoc hl] at h2; exact ih (by omega) j h1 h2
      | true =>
        have hf := (hc0fill c _ hoc hl).1 (by omega)
        obtain ⟨t, inf, z, _, _, _, _, _, e2, _⟩ := ht.fill c _ hoc hf
        rw [e2, Heap.na] at h2
        rcases Nat.lt_or_ge j (HH c).next with q | q
        · exact ih (by omega) j h1 q
        · exact ⟨c, mem_fillsOf.2 ⟨_, hoc, hf⟩, by show (HH c).next = j; omega⟩
  have hfillc0 : ∀ i o, ops[i]? = some o → isFill o = true → i < c0 := fun i o ho hf => (hc0fill i o ho (fill_loud hf)).2 hf
  -- the memory, told by what is done
  let part : (Nat → Bool) → Heap := fun L => kills kf L fl (HH c0)
  let HS : (Nat → Bool) → Heap := fun L => if fl.all L = true then HH (cOf ops [] L) else part L
  have hsomek : ∀ i ∈ fl, ((HH c0).get (kf i)).isSome := by
    intro i hi
    obtain ⟨o, ho, hf⟩ := mem_fillsOf.1 hi
    obtain ⟨t, inf, z, _, _, _, _, _, e3, _⟩ := ht.fill i _ ho hf
    rw [hrow i o ho hf c0 (hfillc0 i o ho hf) (Nat.le_refl _), e3, Heap.gn]; rfl
  have hpget : ∀ L j, (part L).get j = if fl.any (fun i => !L i && (kf i == j)) then some .dead else (HH c0).get j := fun L j => kills_get kf L fl (HH c0) hsomek j
  have hpnext : ∀ L, (part L).next = (HH c0).next := fun L => kills_next kf L fl _
  have hpold : ∀ L j, j < n → (part L).get j = h.get j := by
    intro L j hj
    rw [hpget, if_neg, ht.old c0 hc0 j hj]
    intro hany
    obtain ⟨i, hi, hx⟩ := List.any_eq_true.1 hany
    simp only [Bool.and_eq_true, beq_iff_eq] at hx
    obtain ⟨o, ho, _⟩ := mem_fillsOf.1 hi
    have := hkn i (Nat.le_of_lt (lt_length ho))
    omega
  have hallof : ∀ L, fl.all L = true → ∀ i ∈ fillsOf ops, L i = true := fun L h i hi => List.all_eq_true.1 h i hi
  let B : (Nat → Bool) → List Nat → Frm → Frm → Prop := fun L l F F' => ∃ ks, PathF P G ops.toArray ks l F (HS L) F' (HH ops.length) ∧ ks.Nodup ∧ ∀ k ∈ ks, ∃ i ∈ fl, L i = false ∧ kf i = k
  have hdr : DrawnG ops V FF := {
    back := hback
    slot := by
      intro i j x y hij hx hy hc
      exact (hpair i j x y hij hx hy).resolve_right fun h => by rw [h.2.1] at hc; cases hc
    put := ht.put }
  have hHSext : ∀ L L', (∀ j, j < ops.length → L j = L' j) → HS L = HS L' := by
    intro L L' hLL
    have hfl : ∀ i ∈ fl, L i = L' i := fun i hi => by
      obtain ⟨o, ho, _⟩ := mem_fillsOf.1 hi
      exact hLL i (lt_length ho)
    have e1 : fl.all L = fl.all L' := by
      rw [Bool.eq_iff_iff, List.all_eq_true, List.all_eq_true]
      exact ⟨fun h i hi => by rw [← hfl i hi]; exact h i hi, fun h i hi => by rw [hfl i hi]; exact h i hi⟩
    show (if fl.all L = true then HH (cOf ops [] L) else part L) = (if fl.all L' = true then HH (cOf ops [] L') else part L')
    rw [e1, cOf_ext hLL, show part L = part L' from kills_congr kf fl _ hfl]
  have hHSall : ∀ L, fl.all L = true → HS L = HH (cOf ops [] L) := fun L h => if_pos h
  have hHSpart : ∀ L, ¬ fl.all L = true → HS L = part L := fun L h => if_neg h
  have hnil : ∀ L F, (∀ j, j < ops.length → L j = true) → B L [] F F := by
    intro L F hL
    refine ⟨[], ?_, List.nodup_nil, fun k hk => by cases hk⟩
    have hall : fl.all L = true := List.all_eq_true.2 fun i hi => by
      obtain ⟨o, ho, _⟩ := mem_fillsOf.1 hi
      exact hL i (lt_length ho)
    have e1 : HH (cOf ops [] L) = HH ops.length := hsame _ _ (cOf_le _ _ _) (Nat.le_refl _) fun l y hy hly => by
      refine ⟨fun _ => ?_, fun _ => lt_length hy⟩
      rcases Nat.lt_or_ge l (cOf ops [] L) with q | q
      · exact q
      · obtain ⟨z, hz, hlz, hnz⟩ := hnotc (L := L) (Nat.lt_of_le_of_lt q (lt_length hy))
        rw [hL _ (lt_length hz)] at hnz; cases hnz
    rw [hHSall L hall, e1]
    exact .nil
  have hext : ∀ L L' l F F', (∀ j, j < ops.length → L j = L' j) → B L l F F' → B L' l F F' := by
    rintro L L' l F F' hLL ⟨ks, h1, h2, h3⟩
    refine ⟨ks, hHSext L L' hLL ▸ h1, h2, fun k hk => ?_⟩
    obtain ⟨i, hi, hx, hy⟩ := h3 k hk
    obtain ⟨o, ho, _⟩ := mem_fillsOf.1 hi
    exact ⟨i, hi, by rw [← hLL i (lt_length ho)]; exact hx, hy⟩
  have hcons : ∀ L i o l F F1 F', Closed ops L → ops[i]? = some o → L i = false → (∀ e ∈ o.after, Region.binds .any e = true → L e.on = true) → (∀ s ∈ o.looksAt ops.toArray, look s (FF i).slots = look s F.slots) → F.put o.dst (V i) = some F1 → B (also L i) l F1 F' → B L (i :: l) F F' := by
    rintro L i o l F F1 F' hL ho hnot hpre hlook hput ⟨ks, hp, hnd, hks⟩
    have hil := lt_length ho
    have ho' : ops.toArray[i]? = some o := by simpa using ho
    have hL' : Closed ops (also L i) := by
      intro j x hx hj e he hb
      unfold also
      split
      · rfl
      · unfold also at hj
        split at hj
        · rename_i q; subst q; rw [ho] at hx; cases hx; exact hpre e he hb
        · exact hL j x hx hj e he hb
    have hmet : ∀ j, ahead ops j i = true → L j = true := ahead_closed ops (fun j => L j = true) hback (fun j x hj hx => hL j x hx hj) i o ho hpre
    have hunmet : ∀ j x, ops[j]? = some x → ahead ops i j = true → L j = false := by
      intro j x hx ha
      cases e : L j with
      | false => rfl
      | true =>
        have := ahead_closed ops (fun j => L j = true) hback (fun j x hj hx => hL j x hx hj) j x hx (hL j x hx e) i ha
        rw [hnot] at this; cases this
    have halso : ∀ k, k ≠ i → also L i k = L k := fun k hk => by unfold also; rw [if_neg hk]
    have halsoi : also L i i = true := by unfold also; rw [if_pos rfl]
    have hksL : ∀ k ∈ ks, ∃ i ∈ fl, L i = false ∧ kf i = k := by
      intro k hk
      obtain ⟨i2, h1, h2, h3⟩ := hks k hk
      by_cases e : i2 = i
      · subst e; rw [halsoi] at h2; cases h2
      · exact ⟨i2, h1, by rw [← halso i2 e]; exact h2, h3⟩
    cases hfo : isFill o with
    | true =>
      have hifl : i ∈ fl := mem_fillsOf.2 ⟨o, ho, hfo⟩
      have hno : ¬ fl.all L = true := fun h => by rw [hallof L h i hifl] at hnot; cases hnot
      obtain ⟨t, inf, z, e1, e2, e3, e4, e5, e6, e7⟩ := ht.fill i o ho hfo
      have hrow0 : (HH c0).get (kf i) = some (.row { vs := z.cells.toList, elem := t }) := by
        rw [hrow i o ho hfo c0 (hfillc0 i o ho hfo) (Nat.le_refl _), e6]; exact Heap.gn _ _
      have hdead : (part L).get (kf i) = some .dead := by
        rw [hpget, if_pos (List.any_eq_true.2 ⟨i, hifl, by simp [hnot]⟩)]
      have hX : (HS (also L i)).next = (HH c0).next ∧ ∀ j, (HS (also L i)).get j = if fl.any (fun k => !also L i k && (kf k == j)) then some .dead else (HH c0).get j := by
        by_cases hall' : fl.all (also L i) = true
        · have e8 : HH (cOf ops [] (also L i)) = HH c0 := hsame _ _ (cOf_le _ _ _) hc0 fun l y hy hly => by
            rw [hc0fill l y hy hly, ← hcount _ hL' (hallof _ hall') l y hy hly]
            constructor
            · intro hf; exact hallof _ hall' l (mem_fillsOf.2 ⟨y, hy, hf⟩)
            · intro hal
              rcases hkind y hly with h1 | h1
              · exact h1
              · have hne : l ≠ i := by rintro rfl; rw [ho] at hy; cases hy; unfold loudN at h1; rw [hfo] at h1; simp at h1
                rw [halso l hne] at hal
                rw [hunmet l y hy (hloudF i l o y ho hfo hy h1).1] at hal; cases hal
          rw [hHSall _ hall', e8]
          refine ⟨rfl, fun j => ?_⟩
          rw [if_neg]
          intro hany
          obtain ⟨k, hk, hx⟩ := List.any_eq_true.1 hany
          rw [hallof _ hall' k hk] at hx
          simp at hx
        · rw [hHSpart _ hall']
          exact ⟨hpnext _, hpget _⟩
      have hg : ∀ j, (HS (also L i)).get j = ((part L).set (kf i) (.row { vs := z.cells.toList, elem := t })).get j := by
        intro j
        rw [hX.2, Heap.get_set _ _ _ _ (by rw [hdead]; rfl)]
        by_cases e : j = kf i
        · rw [if_pos e, if_neg, e, hrow0]
          intro hany
          obtain ⟨k, hk, hx⟩ := List.any_eq_true.1 hany
          simp only [Bool.and_eq_true, beq_iff_eq, Bool.not_eq_true'] at hx
          have := hkinj k i hk hifl (hx.2.trans e)
          rw [this, halsoi] at hx
          cases hx.1
        · rw [if_neg e, hpget]
          have : fl.any (fun k => !also L i k && (kf k == j)) = fl.any (fun k => !L k && (kf k == j)) := by
            rw [Bool.eq_iff_iff, List.any_eq_true, List.any_eq_true]
            constructor
            · rintro ⟨k, hk, hx⟩
              have hne : k ≠ i := by rintro rfl; rw [halsoi] at hx; simp at hx
              exact ⟨k, hk, by rw [halso k hne] at hx; exact hx⟩
            · rintro ⟨k, hk, hx⟩
              have hne : k ≠ i := by
                rintro rfl
                simp only [Bool.and_eq_true, beq_iff_eq] at hx
                exact e hx.2.symm
              exact ⟨k, hk, by rw [halso k hne]; exact hx⟩
          rw [this]
      refine ⟨kf i :: ks, ?_, ?_, ?_⟩
      · rw [hHSpart L hno]
        refine .fill ho' (by unfold awanted; rw [e7]) e1 e2 e3 e4 hdead (by rw [e5] at hput; exact hput) (.same ?_ hg hp)
        rw [hX.1, Heap.ns, hpnext]
      · refine List.nodup_cons.2 ⟨fun hk => ?_, hnd⟩
        obtain ⟨i2, h1, h2, h3⟩ := hks _ hk
        have := hkinj i2 i h1 hifl h3
        rw [this, halsoi] at h2; cases h2
      · intro k hk
        rcases List.mem_cons.1 hk with rfl | hk
        · exact ⟨i, hifl, hnot, rfl⟩
        · exact hksL k hk
    | false =>
      have hinf : ∀ k ∈ fl, k ≠ i := by
        rintro k hk rfl
        obtain ⟨o2, h1, h2⟩ := mem_fillsOf.1 hk
        rw [ho] at h1; cases h1; rw [hfo] at h2; cases h2
      by_cases hall : fl.all L = true
      · have hall' : fl.all (also L i) = true := List.all_eq_true.2 fun k hk => by rw [halso k (hinf k hk)]; exact hallof L hall k hk
        have hks0 : ks = [] := by
          cases ks with
          | nil => rfl
          | cons k ks =>
            obtain ⟨i2, h1, h2, _⟩ := hks k (by simp)
            rw [hallof _ hall' i2 h1] at h2; cases h2
        subst hks0
        have hc := cOf_le ops [] L
        have hc' := cOf_le ops [] (also L i)
        have hcnt := hcount L hL (hallof L hall)
        have hcnt' := hcount _ hL' (hallof _ hall')
        have hstep : Sf P G ops o (FF i) (HS L) (V i) (HS (also L i)) := by
          rw [hHSall L hall, hHSall _ hall']
          cases hlo : isLoud o with
          | false =>
            have hsm : HH (cOf ops [] (also L i)) = HH (cOf ops [] L) := hsame _ _ hc' hc fun l y hy hly => by
              have hne : l ≠ i := by rintro rfl; rw [ho] at hy; cases hy; rw [hlo] at hly; cases hly
              rw [← hcnt l y hy hly, ← hcnt' l y hy hly, halso l hne]
            rw [hsm]
            cases hpu : isPure o with
            | true => exact ht.pure i o ho hpu _
            | false =>
              have hrd : isReader o = true := by
                unfold isLoud at hlo
                rw [hpu] at hlo
                simpa using hlo
              cases hex : exempt ex o with
              | true => exact ht.load i o ho hrd hex _ (ht.old _ hc)
              | false =>
                have hrx : readN ex o = true := by unfold readN; rw [hrd, hex]; rfl
                have hci : HH (cOf ops [] L) = HH i := hsame _ i hc (by omega) fun l y hy hly => by
                  rw [← hcnt l y hy hly]
                  rcases hkind y hly with h1 | h1
                  · constructor
                    · intro _; exact hallof L hall l (mem_fillsOf.2 ⟨y, hy, h1⟩)
                    · intro _
                      rcases hfills l i y o hy h1 ho hfo with h2 | ⟨_, h2⟩
                      · exact h2.2
                      · rcases h2 with h2 | h2
                        · rw [hpu] at h2; cases h2
                        · rw [hex] at h2; cases h2
                  · constructor
                    · intro hli
                      exact hmet l ((hpair l i y o hli hy ho).resolve_right fun h => h.2.2.1 ⟨h1, hrx⟩)
                    · intro hl
                      rcases Nat.lt_trichotomy l i with q | q | q
                      · exact q
                      · subst q; rw [hnot] at hl; cases hl
                      · rw [hunmet l y hy ((hpair i l o y q ho hy).resolve_right fun h => h.2.2.2 ⟨hrx, h1⟩)] at hl; cases hl
                have h1 := ht.step i o ho
                rw [ht.quiet i o ho hlo] at h1
                rw [hci]; exact h1
          | true =>
            have hln : loudN o = true := by unfold loudN; rw [hlo, hfo]; rfl
            have hci : HH (cOf ops [] L) = HH i := hsame _ i hc (by omega) fun l y hy hly => by
              rw [← hcnt l y hy hly]
              rcases hkind y hly with h1 | h1
              · have h2 := hloudF l i y o hy h1 ho hln
                exact ⟨fun _ => hmet l h2.1, fun _ => h2.2⟩
              · constructor
                · intro hli; exact hmet l (hloud l i y o hli hy ho h1 hln)
                · intro hl
                  rcases Nat.lt_trichotomy l i with q | q | q
                  · exact q
                  · subst q; rw [hnot] at hl; cases hl
                  · rw [hunmet l y hy (hloud i l o y q ho hy hln h1)] at hl; cases hl
            have hci' : HH (cOf ops [] (also L i)) = HH (i + 1) := hsame _ (i + 1) hc' (by omega) fun l y hy hly => by
              rw [← hcnt' l y hy hly]
              by_cases hli : l = i
              · subst hli; rw [halsoi]; exact ⟨fun _ => rfl, fun _ => by omega⟩
              · rw [halso l hli]
                rcases hkind y hly with h1 | h1
                · have h2 := hloudF l i y o hy h1 ho hln
                  exact ⟨fun _ => hmet l h2.1, fun _ => by omega⟩
                · constructor
                  · intro hl; exact hmet l (hloud l i y o (by omega) hy ho h1 hln)
                  · intro hl
                    rcases Nat.lt_or_ge l (i + 1) with q | q
                    · exact q
                    · rw [hunmet l y hy (hloud i l o y (by omega) ho hy hln h1)] at hl; cases hl
            rw [hci, hci']
            exact ht.step i o ho
        refine ⟨[], ?_, List.nodup_nil, fun k hk => by cases hk⟩
        have hst := hstep.congr hlook
        generalize V i = v at hst hput
        generalize HS (also L i) = H2 at hst hp
        cases hst with
        | unwanted hw => exact .unwanted ho' hw hput hp
        | val hw ha => exact .val ho' hw ha hput hp
        | skip hw ha => exact .skip ho' hw ha hput hp
      · obtain ⟨f, hf, hLf⟩ : ∃ f ∈ fl, L f = false := by
          have : ¬ ∀ f ∈ fl, L f = true := fun h => hall (List.all_eq_true.2 h)
          simpa using this
        obtain ⟨of, hof, hff⟩ := mem_fillsOf.1 hf
        have hstl : still o = true ∧ (isPure o = true ∨ exempt ex o = true) := by
          rcases hfills f i of o hof hff ho hfo with h1 | h1
          · rw [hmet f h1.1] at hLf; cases hLf
          · exact h1
        have hall' : ¬ fl.all (also L i) = true := fun h => by
          have := hallof _ h f hf
          rw [halso f (hinf f hf), hLf] at this; cases this
        have he : HS (also L i) = part L := by
          rw [hHSpart _ hall']
          exact kills_congr kf fl _ fun k hk => halso k (hinf k hk)
        rw [he] at hp
        have hst : Sf P G ops o (FF i) (part L) (V i) (part L) := by
          cases hpu : isPure o with
          | true => exact ht.pure i o ho hpu _
          | false =>
            have hlo := hstill o hstl.1
            have hrd : isReader o = true := by
              unfold isLoud at hlo
              rw [hpu] at hlo
              simpa using hlo
            have hex : exempt ex o = true := hstl.2.resolve_left (by rw [hpu]; simp)
            exact ht.load i o ho hrd hex _ (hpold L)
        refine ⟨ks, ?_, hnd, hksL⟩
        rw [hHSpart L hall]
        have hst2 := hst.congr hlook
        generalize V i = v at hst2 hput
        generalize hH : part L = H2 at hst2 hp
        generalize hH3 : H2 = H3 at hst2
        cases hst2 with
        | unwanted hw => exact .unwanted ho' hw hput (by first | exact hp | (rw [← hH3]; exact hp) | (rw [hH3] at hp; exact hp))
        | val hw ha => subst hH3; exact .still ho' hw hstl.1 ha hput hp
        | skip hw ha => exact (aop_still_skip hstl.1 ha).elim
  have hne : ∃ i, i ∈ fl := by
    obtain ⟨o, ho, hf⟩ := List.any_eq_true.1 hd4
    obtain ⟨i, hi⟩ := List.getElem?_of_mem ho
    exact ⟨i, mem_fillsOf.2 ⟨o, hi, hf⟩⟩
  have hnone : ¬ fl.all (fun _ => false) = true := by
    obtain ⟨i, hi⟩ := hne
    intro h
    have := hallof _ h i hi
    cases this
  have hgo : ∀ t, ∃ F', B (fun _ => false) (Region.linearise .any ops.toArray t) (FF 0) F' ∧ (FF ops.length).le F' := by
    intro t
    have := hdr.go B hnil hcons hext ops.length t (Array.replicate ops.length false) (FF 0) (by simp) ?_ rfl rfl ?_ ?_
    · obtain ⟨F', b, hle⟩ := this
      refine ⟨F', ?_, hle⟩
      have b2 := hext _ (fun _ => false) _ _ _ (fun j hj => by simp [hj]) b
      simpa [Region.linearise] using b2
    · intro i o ho hi
      have := lt_length ho
      simp [this] at hi
    · intro s
      rw [vat_congr (L' := fun j => decide (j < 0)) ops.length (fun j hj _ => by simp [hj]), vat_below ops.length (Nat.zero_le _)]
      rfl
    · exact Nat.le_trans (List.length_filter_le _ _) (by simp)
  refine Big.ofPaths (h0 := part fun _ => false) hm ?_ ?_ fun t => ?_
  · rw [hpnext, ht.hn]; exact hkn c0 hc0
  · intro i o hio
    by_cases hin : i < n
    · left
      rw [ht.hn]
      exact ⟨hin, by rw [← hpold (fun _ => false) i hin]; exact hio⟩
    · right
      have hlt := Heap.lg hio
      rw [hpnext] at hlt
      obtain ⟨k, hk, e⟩ := hplace c0 (Nat.le_refl _) i (by omega) hlt
      rw [hpget, if_pos (List.any_eq_true.2 ⟨k, hk, by simp [e]⟩)] at hio
      cases hio; rfl
  · obtain ⟨F', ⟨ks, h1, h2, h3⟩, hle⟩ := hgo t
    refine ⟨ks, F', by rw [← hHSpart _ hnone]; exact h1, hle, h2, fun k hk => ?_⟩
    obtain ⟨i, hi, _, rfl⟩ := h3 k hk
    obtain ⟨o, ho, _⟩ := mem_fillsOf.1 hi
    refine ⟨by rw [ht.hn]; exact hkn i (Nat.le_of_lt (lt_length ho)), ?_⟩
    obtain ⟨x, hx⟩ := Option.isSome_iff_exists.1 (hsomek i hi)
    rw [hpnext]
    exact Heap.lg hx
end
end
end Go.Mini
