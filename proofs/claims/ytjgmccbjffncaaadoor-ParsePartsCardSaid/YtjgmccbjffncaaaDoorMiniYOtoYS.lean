import Derived.Test.YtjgmccbjffncaaaDoorMiniStoYN
import Derived.Test.YtjgmccbjffncaaaDoorMiniMtoR
set_option linter.unusedSimpArgs false
namespace Go.Mini
section
def below (G n : Nat) (fr : Frm) (a : Operand) : Bool :=
 match aev G fr a with
 | some (.pointer (some ad)) => decide (ad.block < n)
 | _ => false
def notBelow (G n : Nat) (fr : Frm) (a : Operand) : Bool :=
 match aev G fr a with
 | some (.pointer (some ad)) => decide (n ≤ ad.block)
 | _ => false
def lenOk (G : Nat) (fr : Frm) (args : List Operand) : Bool :=
 match evs (aev G fr) args with
 | some [.slice _ _ _] => true
 | some [.string _] => true
 | _ => false
def loadOk (G n : Nat) (fr : Frm) (o : Oper) : Bool :=
 match o.op with
 | .load _ a => below G n fr a
 | .call c => match c.callee with
  | .builtin .len => lenOk G fr c.args.toList
  | _ => false
 | _ => false
def okF (G n : Nat) (ex : List Nat) (fr : Frm) (o : Oper) (h h1 : Heap) : AN → Option Value
 | .val v => if isFill o then (if o.guard.isNone then some v else none)
   else if !isLoud o && decide (h1.next = h.next) && (!(isReader o && exempt ex o) || loadOk G n fr o) then some v else none
 | .skip => match o.op with
  | .store _ a _ => if notBelow G n fr a then some undef else none
  | _ => none
 | _ => none
noncomputable def runDF (P : Program) (G : Nat) (ops : Array Oper) (n : Nat) (ex : List Nat) : List Oper → Frm → Heap → Option (Frm × Heap)
 | [], fr, h => some (fr, h)
 | o :: l, fr, h => (awanted ops fr o).bind fun t =>
  if t then (aop P (aev G fr) o h).bind fun r => (okF G n ex fr o h r.2 r.1).bind fun v => (fr.put o.dst v).bind fun fr1 => runDF P G ops n ex l fr1 r.2
  else if isFill o then none else (fr.put o.dst undef).bind fun fr1 => runDF P G ops n ex l fr1 h
section
variable {P : Program} {G : Nat} {ops : List Oper} {n : Nat}
theorem Heap.row_congr {H H2 : Heap} {b : Nat} (e : H.get b = H2.get b) : H.row b = H2.row b := by unfold Heap.row; rw [e]
theorem aload_old {H H2 : Heap} {t : TypeId} {a : Addr} (e : H.get a.block = H2.get a.block) : aload P H t (.pointer (some a)) = aload P H2 t (.pointer (some a)) := by
 obtain ⟨b, k, o⟩ := a
 cases o with
 | some o => rfl
 | none =>
  simp only at e
  simp only [aload, Heap.lds, Heap.ld, Heap.row_congr e]
theorem astore_old {H H2 : Heap} {t : TypeId} {a : Addr} {v : Value} (e : astore P H t (.pointer (some a)) v = some H2) : H2.next = H.next ∧ ∀ j, j ≠ a.block → H2.get j = H.get j := by
 obtain ⟨b, k, o⟩ := a
 unfold astore at e
 split at e
 ·rename_i i k2 heq
  cases heq
  split at e
  ·split at e
   ·unfold Heap.sts at e
    obtain ⟨r, hr, e⟩ := ob e
    split at e
    ·cases e
     exact ⟨Heap.ns _ _ _, fun j hj => Heap.gs hj⟩
    ·cases e
   ·cases e
  ·cases e
 ·cases e
theorem alen_any {H H2 : Heap} {t : TypeId} {x v : Value} (hx : ∀ r, x ≠ .map r) (e : alen P H t x = some v) : alen P H2 t x = some v := by
 unfold alen at e ⊢
 split at e <;> first | exact e | (exfalso; exact hx _ rfl) | cases e
theorem abuiltin_len_any {H H2 : Heap} {ats : List TypeId} {x v : Value} {b : Builtin} (hb : b = .len) (hx : ∀ r, x ≠ .map r) (e : abuiltin P b ats [x] H = some (.val v, H)) : abuiltin P b ats [x] H2 = some (.val v, H2) := by
 subst hb
 unfold abuiltin at e ⊢
 cases ats with
 | nil => cases e
 | cons t l =>
  cases l with
  | cons _ _ => cases e
  | nil =>
   simp only at e ⊢
   obtain ⟨u, hu, e⟩ := ob e
   simp only [Option.some.injEq, Prod.mk.injEq, AN.val.injEq, and_true] at e
   subst e
   rw [alen_any hx hu]; rfl
theorem len_any {H H2 : Heap} {ats : List TypeId} {a : Option Addr} {l c : Nat} {v : Value} (e : ((some [Value.slice a l c]).bind fun as => abuiltin P .len ats as H) = some (.val v, H)) : ((some [Value.slice a l c]).bind fun as => abuiltin P .len ats as H2) = some (.val v, H2) :=
 abuiltin_len_any rfl (fun r h => by cases h) e
theorem len_any' {H H2 : Heap} {ats : List TypeId} {s : ByteArray} {v : Value} (e : ((some [Value.string s]).bind fun as => abuiltin P .len ats as H) = some (.val v, H)) : ((some [Value.string s]).bind fun as => abuiltin P .len ats as H2) = some (.val v, H2) :=
 abuiltin_len_any rfl (fun r h => by cases h) e
def TrfL (P : Program) (G : Nat) (ops : List Oper) (n : Nat) (ex : List Nat) (h : Heap) (l : List Oper) (F F' : Frm) (H H' : Heap) : Prop :=
  ∃ (V : Nat → Value) (HH : Nat → Heap) (FF : Nat → Frm), FF 0 = F ∧ HH 0 = H ∧ FF l.length = F' ∧ HH l.length = H' ∧ (∀ i, i ≤ l.length → ∀ j, j < n → (HH i).get j = h.get j) ∧ ∀ i o, l[i]? = some o →
   Sf P G ops o (FF i) (HH i) (V i) (HH (i + 1)) ∧ (FF i).put o.dst (V i) = some (FF (i + 1)) ∧ (isLoud o = false → HH (i + 1) = HH i) ∧ (isPure o = true → ∀ H2, Sf P G ops o (FF i) H2 (V i) H2) ∧
   (isReader o = true → exempt ex o = true → ∀ H2, (∀ j, j < n → H2.get j = h.get j) → Sf P G ops o (FF i) H2 (V i) H2) ∧
   (isFill o = true → ∃ t inf z, o.op = .alloc t ∧ P.info? t = some inf ∧ inf.zero = some z ∧ flat z = true ∧ V i = (HH i).new ∧ HH (i + 1) = (HH i).alloc (.row { vs := z.cells.toList, elem := t }) ∧ o.guard = none) ∧
   (loudN o = true → (HH (i + 1)).next = (HH i).next)
theorem runDF_trf {ex : List Nat} {h : Heap} : ∀ (l : List Oper) (F F' : Frm) (H H' : Heap), runDF P G ops.toArray n ex l F H = some (F', H') → n ≤ H.next → (∀ j, j < n → H.get j = h.get j) → TrfL P G ops n ex h l F F' H H'
 | [], F, F', H, H', e, _, hK => by
  simp only [runDF, Option.some.injEq, Prod.mk.injEq] at e
  obtain ⟨rfl, rfl⟩ := e
  exact ⟨fun _ => undef, fun _ => H, fun _ => F, rfl, rfl, rfl, rfl, fun i hi => hK, fun i o h => by simp at h⟩
 | o :: l, F, F', H, H', e, hge, hK => by
  simp only [runDF] at e
  obtain ⟨t, hw, e0⟩ := ob e
  clear e
  have e := e0
  clear e0
  -- the first, and the others
  have key : ∀ (v : Value) (H1 : Heap) (F1 : Frm), Sf P G ops o F H v H1 → F.put o.dst v = some F1 → (isLoud o = false → H1 = H) → (isPure o = true → ∀ H2, Sf P G ops o F H2 v H2) →
    (isReader o = true → exempt ex o = true → ∀ H2, (∀ j, j < n → H2.get j = h.get j) → Sf P G ops o F H2 v H2) →
    (isFill o = true → ∃ t inf z, o.op = .alloc t ∧ P.info? t = some inf ∧ inf.zero = some z ∧ flat z = true ∧ v = H.new ∧ H1 = H.alloc (.row { vs := z.cells.toList, elem := t }) ∧ o.guard = none) →
    (loudN o = true → H1.next = H.next) → n ≤ H1.next → (∀ j, j < n → H1.get j = h.get j) → runDF P G ops.toArray n ex l F1 H1 = some (F', H') → TrfL P G ops n ex h (o :: l) F F' H H' := by
   intro v H1 F1 a1 a2 a3 a4 a5 a6 a7 a9 a8 er
   obtain ⟨V, HH, FF, e1, e2, e3, e4, e5, e6⟩ := runDF_trf l F1 F' H1 H' er a9 a8
   refine ⟨fun i => match i with | 0 => v | i + 1 => V i, fun i => match i with | 0 => H | i + 1 => HH i, fun i => match i with | 0 => F | i + 1 => FF i, rfl, rfl, e3, e4, ?_, ?_⟩
   ·intro i hi
    cases i with
    | zero => exact hK
    | succ i => exact e5 i (by simp only [List.length_cons] at hi; omega)
   ·intro i o hi
    cases i with
    | zero =>
     simp only [List.getElem?_cons_zero, Option.some.injEq] at hi
     subst hi
     simp only [e1, e2]
     exact ⟨a1, a2, a3, a4, a5, a6, a7⟩
    | succ i => exact e6 i o (by simpa using hi)
  cases t with
  | false =>
   simp only [Bool.false_eq_true, if_false] at e
   split at e
   ·cases e
   ·rename_i hnf
    obtain ⟨F1, hp, e⟩ := ob e
    exact key undef H F1 (.unwanted hw) hp (fun _ => rfl) (fun _ _ => .unwanted hw) (fun _ _ _ _ => .unwanted hw) (fun q => (hnf q).elim) (fun _ => rfl) hge hK e
  | true =>
   simp only [if_true] at e
   obtain ⟨⟨r, H1⟩, hr, e1⟩ := ob e
   clear e
   obtain ⟨v, hv, e2⟩ := ob e1
   clear e1
   obtain ⟨F1, hp, e⟩ := ob e2
   clear e2
   simp only at hv
   replace e : runDF P G ops.toArray n ex l F1 H1 = some (F', H') := e
   cases r with
   | val v0 =>
    simp only [okF] at hv
    split at hv
    ·rename_i hf
     split at hv
     ·rename_i hg
      cases hv
      have hfill : ∃ t inf z, o.op = .alloc t ∧ P.info? t = some inf ∧ inf.zero = some z ∧ flat z = true ∧ v = H.new ∧ H1 = H.alloc (.row { vs := z.cells.toList, elem := t }) ∧ o.guard = none := by
       obtain ⟨dst, op, type, pos, after, guard⟩ := o
       simp only at hf hg
       unfold isFill at hf
       simp only at hf
       split at hf
       ·rename_i t
        simp only [aop] at hr
        obtain ⟨⟨v2, h2⟩, ha, hr⟩ := ob hr
        simp only [Option.some.injEq, Prod.mk.injEq, AN.val.injEq] at hr
        obtain ⟨rfl, rfl⟩ := hr
        unfold aalloc at ha
        obtain ⟨inf, hi, ha⟩ := ob ha
        obtain ⟨z, hz, ha⟩ := ob ha
        split at ha
        ·rename_i hfl
         simp only [Option.some.injEq, Prod.mk.injEq] at ha
         exact ⟨t, inf, z, rfl, hi, hz, hfl, ha.1.symm, ha.2.symm, by simpa using hg⟩
        ·cases ha
       ·cases hf
      have hl := fill_loud hf
      refine key v H1 F1 (.val hw hr) hp (fun q => by rw [hl] at q; cases q) (fun q => ?_) (fun q => ?_) (fun _ => hfill) (fun q => ?_) ?_ ?_ e
      ·unfold isLoud at hl; rw [q] at hl; cases hl
      ·unfold isLoud at hl; rw [q] at hl; simp at hl
      ·unfold loudN at q; rw [hf] at q; simp at q
      ·obtain ⟨t, inf, z, _, _, _, _, _, e2, _⟩ := hfill
       rw [e2, Heap.na]; omega
      ·intro j hj
       obtain ⟨t, inf, z, _, _, _, _, _, e2, _⟩ := hfill
       rw [e2, Heap.get_alloc, if_neg (by omega)]
       exact hK j hj
     ·cases hv
    ·rename_i hf
     split at hv
     ·rename_i hc
      cases hv
      simp only [Bool.and_eq_true, Bool.not_eq_true', decide_eq_true_eq, Bool.or_eq_true, Bool.and_eq_false_iff] at hc
      obtain ⟨⟨hl, hnx⟩, hx⟩ := hc
      have hh : H1 = H := aop_quiet_heap hl hr hnx
      subst hh
      refine key v H1 F1 (.val hw hr) hp (fun _ => rfl) (fun q H2 => .val hw (aop_pure q hr)) (fun q1 q2 H2 hK2 => ?_) (fun q => (hf q).elim) (fun _ => rfl) hge hK e
      have hb : loadOk G n F o = true := by
       rcases hx with (h1 | h1) | h1
       ·rw [q1] at h1; cases h1
       ·rw [q2] at h1; cases h1
       ·exact h1
      refine .val hw ?_
      obtain ⟨dst, op, type, pos, after, guard⟩ := o
      cases op <;> simp only [loadOk] at hb <;> try (cases hb; done)
      case call c =>
       obtain ⟨callee, args, ats⟩ := c
       cases callee with
       | builtin b =>
        cases b <;> simp only at hb <;> try (cases hb; done)
        simp only [aop] at hr ⊢
        unfold lenOk at hb
        split at hb
        ·rename_i e9
         rw [e9] at hr ⊢
         exact len_any hr
        ·rename_i e9
         rw [e9] at hr ⊢
         exact len_any' hr
        ·cases hb
       | _ => cases hb
      rename_i t a
      simp only [aop] at hr ⊢
      obtain ⟨p, hpv, hr⟩ := ob hr
      unfold below at hb
      rw [hpv] at hb
      simp only [hpv, Option.bind_some]
      split at hb
      ·rename_i ad heq
       cases heq
       have hlt := of_decide_eq_true hb
       obtain ⟨v2, hv2, hr⟩ := ob hr
       simp only [Option.some.injEq, Prod.mk.injEq, AN.val.injEq, and_true] at hr
       subst hr
       rw [aload_old (H2 := H1) (by rw [hK2 _ hlt, hK _ hlt]), hv2]
       rfl
      ·cases hb
     ·cases hv
   | skip =>
    simp only [okF] at hv
    split at hv
    ·rename_i t a x hop
     split at hv
     ·rename_i hnb
      cases hv
      have hst : H1.next = H.next ∧ ∀ j, j < n → H1.get j = H.get j := by
       obtain ⟨dst, op, type, pos, after, guard⟩ := o
       simp only at hop
       subst hop
       simp only [aop] at hr
       obtain ⟨p, hpv, hr⟩ := ob hr
       obtain ⟨v2, hv2, hr⟩ := ob hr
       obtain ⟨h2, hh2, hr⟩ := ob hr
       simp only [Option.some.injEq, Prod.mk.injEq, true_and] at hr
       subst hr
       unfold notBelow at hnb
       rw [hpv] at hnb
       split at hnb
       ·rename_i ad heq
        cases heq
        have hge := of_decide_eq_true hnb
        obtain ⟨q1, q2⟩ := astore_old hh2
        exact ⟨q1, fun j hj => q2 j (by omega)⟩
       ·cases hnb
      have hop2 : isLoud o = true ∧ isFill o = false := by
       unfold isLoud isPure isReader isFill
       rw [hop]
       exact ⟨rfl, rfl⟩
      refine key undef H1 F1 (.skip hw hr) hp (fun q => by rw [hop2.1] at q; cases q) (fun q => ?_) (fun q => ?_) (fun q => by rw [hop2.2] at q; cases q) (fun _ => hst.1) (by rw [hst.1]; exact hge) (fun j hj => by rw [hst.2 j hj]; exact hK j hj) e
      ·have := hop2.1; unfold isLoud at this; rw [q] at this; cases this
      ·have := hop2.1; unfold isLoud at this; rw [q] at this; simp at this
     ·cases hv
    ·cases hv
   | _ => simp [okF] at hv
theorem Wp.runF {Ext : FuncId → List Value → Heap → Value → Heap → Prop} {id : Nat} {fr fr' : Frm} {u : Option FrameMode} {h h' : Heap} {Q : Exit → Frm → Option FrameMode → Heap → Prop} (ex : List Nat) (hm : P.follows .mixedOrders = true) (hd : drawableF ops ex = true)
  (hr : runDF P G ops.toArray h.next ex ops fr h = some (fr', h')) (hq : Q .normal fr' u h') : Wp P G Ext (.region id ops.toArray true) fr u h Q := by
 obtain ⟨V, HH, FF, e1, e2, e3, e4, e5, e6⟩ := runDF_trf ops fr fr' h h' hr (Nat.le_refl _) (fun _ _ => rfl)
 have ht : Trf P G ops ex h.next h V HH FF := {
  start := e2
  hn := rfl
  step := fun i o ho => (e6 i o ho).1
  put := fun i o ho => (e6 i o ho).2.1
  quiet := fun i o ho => (e6 i o ho).2.2.1
  pure := fun i o ho => (e6 i o ho).2.2.2.1
  load := fun i o ho => (e6 i o ho).2.2.2.2.1
  fill := fun i o ho => (e6 i o ho).2.2.2.2.2.1
  old := e5
  next := fun i o ho => (e6 i o ho).2.2.2.2.2.2 }
 have hb := ht.big (Ext := Ext) (id := id) (u := u) hd hm
 rw [e1, e3, e4] at hb
 exact ⟨_, _, _, _, hb, hq⟩
end
end
section
theorem bse : type_of% (And.intro @runS.eq_1 (And.intro @runS.eq_2 (And.intro @stepO.eq_1 (And.intro @stepO.eq_2 (And.intro @stepW.eq_1 (And.intro @stepW.eq_2 (And.intro @stepW.eq_3 (And.intro @stepV.eq_1 (And.intro @stepV.eq_2 (And.intro @keep.eq_1 (And.intro @keep.eq_2 (And.intro @guardOf.eq_1 (And.intro @wantV.eq_1 (And.intro @wantV.eq_2 (And.intro @wantG.eq_1 (And.intro @wantG.eq_2 (And.intro @wantG.eq_3 (And.intro @aop.eq_1 (And.intro @binA.eq_1 (And.intro @aev.eq_1 (And.intro @aev.eq_2 (And.intro @aev.eq_3 (And.intro @aev.eq_4 (And.intro @flat.eq_1 (And.intro @flat.eq_2 (And.intro @flat.eq_3 (And.intro @flat.eq_4 (And.intro @flat.eq_5 (And.intro @flat.eq_6 (And.intro @flat.eq_7 (And.intro @flat.eq_8 (And.intro @flat.eq_9 (And.intro @Frm.put.eq_1 (And.intro @Frm.put.eq_2 (And.intro @look.eq_1 (And.intro @look.eq_2 (And.intro @setk.eq_1 (And.intro @setk.eq_2 (And.intro @evs.eq_1 (And.intro @evs.eq_2 (And.intro @evp.eq_1 (And.intro @evp.eq_2 (And.intro @evo.eq_1 (And.intro @evo.eq_2 (And.intro @notNil.eq_1 (And.intro @notNil.eq_2 (And.intro @Option.bind_some.{0,0} (And.intro @Option.map_some.{0,0} (And.intro @List.getElem?_toArray.{0} (And.intro @List.getElem?_cons_succ.{0} (And.intro @List.getElem?_cons_zero.{0} (And.intro Bool.false_eq_true (And.intro Bool.true_eq_false (And.intro @beq_self_eq_true.{0} (And.intro beq_ft (And.intro beq_tf (And.intro Bool.not_true (Bool.not_false)))))))))))))))))))))))))))))))))))))))))))))))))))))))))) :=
 And.intro @runS.eq_1 (And.intro @runS.eq_2 (And.intro @stepO.eq_1 (And.intro @stepO.eq_2 (And.intro @stepW.eq_1 (And.intro @stepW.eq_2 (And.intro @stepW.eq_3 (And.intro @stepV.eq_1 (And.intro @stepV.eq_2 (And.intro @keep.eq_1 (And.intro @keep.eq_2 (And.intro @guardOf.eq_1 (And.intro @wantV.eq_1 (And.intro @wantV.eq_2 (And.intro @wantG.eq_1 (And.intro @wantG.eq_2 (And.intro @wantG.eq_3 (And.intro @aop.eq_1 (And.intro @binA.eq_1 (And.intro @aev.eq_1 (And.intro @aev.eq_2 (And.intro @aev.eq_3 (And.intro @aev.eq_4 (And.intro @flat.eq_1 (And.intro @flat.eq_2 (And.intro @flat.eq_3 (And.intro @flat.eq_4 (And.intro @flat.eq_5 (And.intro @flat.eq_6 (And.intro @flat.eq_7 (And.intro @flat.eq_8 (And.intro @flat.eq_9 (And.intro @Frm.put.eq_1 (And.intro @Frm.put.eq_2 (And.intro @look.eq_1 (And.intro @look.eq_2 (And.intro @setk.eq_1 (And.intro @setk.eq_2 (And.intro @evs.eq_1 (And.intro @evs.eq_2 (And.intro @evp.eq_1 (And.intro @evp.eq_2 (And.intro @evo.eq_1 (And.intro @evo.eq_2 (And.intro @notNil.eq_1 (And.intro @notNil.eq_2 (And.intro @Option.bind_some.{0,0} (And.intro @Option.map_some.{0,0} (And.intro @List.getElem?_toArray.{0} (And.intro @List.getElem?_cons_succ.{0} (And.intro @List.getElem?_cons_zero.{0} (And.intro Bool.false_eq_true (And.intro Bool.true_eq_false (And.intro @beq_self_eq_true.{0} (And.intro beq_ft (And.intro beq_tf (And.intro Bool.not_true (Bool.not_false)))))))))))))))))))))))))))))))))))))))))))))))))))))))))
end
section
section
variable {P : Program} {G : Nat} {Ext : FuncId → List Value → Heap → Value → Heap → Prop} {ops : List Oper}
def panicky (ops : List Oper) (c : Nat) : Bool :=
 let ms := masks [] ops
 let l := pairs ops 0
 l.all (fun p => p.2.after.all fun e => !Region.binds .any e || decide (e.on < p.1)) &&
 l.all (fun p => l.all fun q => !(decide (p.1 < q.1)) || (ms.getD q.1 0).testBit p.1 || !clash ops p.2 q.2) &&
 l.all fun p => if p.1 < c then !isLoud p.2 else decide (p.1 = c) || (ms.getD p.1 0).testBit c
theorem Big.panics {V : Nat → Value} {FF : Nat → Frm} {c : Nat} {oc : Oper} {f : FuncId} {args : List Value} {ch : List PanicEntry} {h h2 : Heap} {fr0 : Frm} {id : Nat} {u : Option FrameMode} (hm : P.follows .mixedOrders = true) (hd : panicky ops c = true) (hoc : ops[c]? = some oc)
  (hst : ∀ i o, i < c → ops[i]? = some o → Sf P G ops o (FF i) h (V i) h) (hput : ∀ i o, ops[i]? = some o → (FF i).put o.dst (V i) = some (FF (i + 1)))
  (hw : awanted ops.toArray (FF c) oc = some true) (ha : aop P (aev G (FF c)) oc h = some (.call f args, h)) (hb : Big P G Ext (.call f args) h (.ends (.panicked ch)) h2)
  (h0 : fr0.le (FF 0)) (h0d : ∀ s v, look s fr0.slots = some v → ∀ o ∈ ops, o.dst ≠ some s) :
  Big P G Ext (.code (.region id ops.toArray true) (FF 0) u) h (.x (.panic ch) fr0 u) h2 := by
 unfold panicky at hd
 simp only [Bool.and_eq_true, List.all_eq_true] at hd
 obtain ⟨⟨hd1, hd2⟩, hd3⟩ := hd
 have hcl := lt_length hoc
 have hg : DrawnG ops V FF := {
  back := by
   intro i o ho e he hb
   have := hd1 _ (by simpa using mem_pairs ops 0 i o ho)
   have h2 := (Array.all_eq_true_iff_forall_mem.1 this) e he
   simp only [hb, Bool.not_true, Bool.false_or] at h2
   exact of_decide_eq_true h2
  slot := by
   intro i j x y hij hx hy hc
   have := hd2 _ (by simpa using mem_pairs ops 0 i x hx) _ (by simpa using mem_pairs ops 0 j y hy)
   simp only [decide_eq_true hij, hc, Bool.not_true, Bool.false_or, Bool.or_false] at this
   exact this
  put := hput }
 have hkind : ∀ i o, ops[i]? = some o → (i < c ∧ isLoud o = false) ∨ i = c ∨ ahead ops c i = true := by
  intro i o ho
  have := hd3 _ (by simpa using mem_pairs ops 0 i o ho)
  by_cases hi : i < c
  ·simp only [hi, if_true, Bool.not_eq_true'] at this
   exact .inl ⟨hi, this⟩
  ·simp only [hi, if_false, Bool.or_eq_true, decide_eq_true_eq] at this
   rcases this with q | q
   ·exact .inr (.inl q)
   ·exact .inr (.inr q)
 have hle : ∀ {F F1 : Frm} {i : Nat} {o : Oper} {v : Value}, ops[i]? = some o → fr0.le F → F.put o.dst v = some F1 → fr0.le F1 := by
  intro F F1 i o v ho hl hp
  obtain ⟨q1, q2⟩ := put_size hp
  refine ⟨hl.1.trans q1.symm, hl.2.1.trans q2.symm, fun s w hs => ?_⟩
  rw [put_look hp, if_neg (h0d s w hs o (List.mem_of_getElem? ho))]
  exact hl.2.2 s w hs
 let B : (Nat → Bool) → List Nat → Frm → Frm → Prop := fun L l F _ => L c = true ∨ (fr0.le F → ∃ F2, Big P G Ext (.ops ops.toArray l F u) h (.x (.panic ch) F2 u) h2 ∧ fr0.le F2)
 have hgo := fun t => hg.go B (fun L F hL => .inl (hL c hcl)) (by
  intro L i o l F F1 F' hcL ho hLi hpre hlook hp hB
  by_cases hic : i = c
  ·subst hic
   obtain rfl : o = oc := Option.some.inj (ho.symm.trans hoc)
   refine .inr fun hl => ⟨F, ?_, hl⟩
   have e1 := awanted_congr hlook
   have e2 : aop P (aev G (FF i)) o = aop P (aev G F) o := funext fun H => aop_congr (aev_congr hlook) fun _ => rfl
   exact .opsCallPanic (by simpa using ho) (e1 ▸ hw) (e2 ▸ ha) hb
  ·by_cases hLc : L c = true
   ·exact .inl hLc
   ·rcases hkind i o ho with ⟨hi, hq⟩ | hq | hq
    ·rcases hB with hB | hB
     ·unfold also at hB
      rw [if_neg (Ne.symm hic)] at hB
      exact .inl hB
     ·refine .inr fun hl => ?_
      obtain ⟨F2, b, hl2⟩ := hB (hle ho hl hp)
      have hs := (hst i o hi ho).congr hlook
      refine ⟨F2, ?_, hl2⟩
      generalize V i = vi at hs hp
      have ho' : ops.toArray[i]? = some o := by simpa using ho
      cases hs with
      | unwanted hw' => exact .opsUnwanted ho' hw' hp b
      | val hw' ha' => exact .opsVal ho' hw' ha' hp b
      | skip hw' ha' => exact .opsSkip ho' hw' ha' hp b
    ·exact absurd hq hic
    ·exact absurd (ahead_closed ops (fun j => L j = true) hg.back (fun j x hj hx => hcL j x hx hj) i o ho hpre c hq) hLc)
  (by
   intro L L' l F F' hLL hB
   rcases hB with hB | hB
   ·exact .inl (by rw [← hLL c hcl]; exact hB)
   ·exact .inr hB)
  ops.length t (Array.replicate ops.length false) (FF 0) (by simp) (by
   intro i o ho hi
   have := lt_length ho
   simp [this] at hi) rfl rfl (by
   intro s
   rw [vat_congr (L' := fun j => decide (j < 0)) ops.length (fun j hj _ => by simp [hj]), vat_below ops.length (Nat.zero_le _)]
   rfl) (Nat.le_trans (List.length_filter_le _ _) (by simp))
 have hall : ∀ t, ∃ F2, Big P G Ext (.ops ops.toArray (Region.linearise .any ops.toArray t) (FF 0) u) h (.x (.panic ch) F2 u) h2 ∧ fr0.le F2 := by
  intro t
  obtain ⟨_, hB, _⟩ := hgo t
  rcases hB with hB | hB
  ·simp [hcl] at hB
  ·have := hB h0
   simpa [Region.linearise] using this
 exact .draw (frs := fun t => (hall t).choose) hm (fun t => (hall t).choose_spec.1) fun t => (hall t).choose_spec.2
def putsU : List Oper → Frm → Bool
 | [], _ => true
 | o :: l, fr => match fr.put o.dst undef with | some fr1 => putsU l fr1 | none => false
theorem putsU_seq : ∀ (l : List Oper) (fr : Frm), putsU l fr = true → ∃ FF : Nat → Frm, FF 0 = fr ∧ ∀ i o, l[i]? = some o → (FF i).put o.dst undef = some (FF (i + 1))
 | [], fr, _ => ⟨fun _ => fr, rfl, fun i o h => by simp at h⟩
 | o :: l, fr, h => by
  unfold putsU at h
  split at h
  ·rename_i fr1 hp
   obtain ⟨FF, h1, h2⟩ := putsU_seq l fr1 h
   refine ⟨fun i => match i with | 0 => fr | j + 1 => FF j, rfl, fun i x hx => ?_⟩
   match i, hx with
   | 0, hx => simp at hx; subst hx; simp only []; rw [h1]; exact hp
   | j + 1, hx => exact h2 j x (by simpa using hx)
  ·cases h
theorem runD_seq (ops0 : List Oper) (h : Heap) : ∀ (l : List Oper) (fr fr' : Frm) (h1 : Heap), l.all (fun o => !isLoud o) = true → runD P G ops0.toArray l fr h = some (fr', h1) →
  ∃ (V : Nat → Value) (FF : Nat → Frm), FF 0 = fr ∧ FF l.length = fr' ∧ h1 = h ∧ ∀ i o, l[i]? = some o → Sf P G ops0 o (FF i) h (V i) h ∧ (FF i).put o.dst (V i) = some (FF (i + 1))
 | [], fr, fr', h1, _, e => by
  simp only [runD, Option.some.injEq, Prod.mk.injEq] at e
  obtain ⟨rfl, rfl⟩ := e
  exact ⟨fun _ => undef, fun _ => fr, rfl, rfl, rfl, fun i o q => by simp at q⟩
 | o :: l, fr, fr', h1, ha, e => by
  simp only [List.all_cons, Bool.and_eq_true, Bool.not_eq_true'] at ha
  obtain ⟨a1, a2⟩ := ha
  have a2' : l.all (fun o => !isLoud o) = true := by simpa using a2
  simp only [runD] at e
  obtain ⟨w, hw, e⟩ := ob e
  have glue : ∀ (v : Value) (F1 : Frm), fr.put o.dst v = some F1 → Sf P G ops0 o fr h v h → runD P G ops0.toArray l F1 h = some (fr', h1) →
    ∃ (V : Nat → Value) (FF : Nat → Frm), FF 0 = fr ∧ FF (o :: l).length = fr' ∧ h1 = h ∧ ∀ i x, (o :: l)[i]? = some x → Sf P G ops0 x (FF i) h (V i) h ∧ (FF i).put x.dst (V i) = some (FF (i + 1)) := by
   intro v F1 hp hs e
   obtain ⟨V, FF, q1, q2, q3, q4⟩ := runD_seq ops0 h l F1 fr' h1 a2' e
   refine ⟨fun i => match i with | 0 => v | j + 1 => V j, fun i => match i with | 0 => fr | j + 1 => FF j, rfl, q2, q3, fun i x hx => ?_⟩
   match i, hx with
   | 0, hx => simp at hx; subst hx; exact ⟨hs, by simp only []; rw [q1]; exact hp⟩
   | j + 1, hx => exact q4 j x (by simpa using hx)
  cases w with
  | false =>
   simp only [Bool.false_eq_true, if_false] at e
   obtain ⟨F1, hp, e⟩ := ob e
   exact glue undef F1 hp (.unwanted hw) e
  | true =>
   simp only [if_true] at e
   obtain ⟨⟨r, h3⟩, hr, e⟩ := ob e
   cases r with
   | val v =>
    simp only [] at e
    split at e
    ·rename_i hc
     obtain ⟨F1, hp, e3⟩ := ob e
     have hh : h3 = h := aop_quiet_heap a1 hr (by rw [a1] at hc; simpa using hc)
     rw [hh] at hr e3
     exact glue v F1 hp (.val hw hr) e3
    ·cases e
   | skip => simp only [] at e; rw [a1] at e; cases e
   | _ => cases e
theorem Wp.drawPanic {id : Nat} {fr frc fr0 : Frm} {u : Option FrameMode} {h : Heap} {Q : Exit → Frm → Option FrameMode → Heap → Prop} {f : FuncId} {args : List Value} {oc : Oper} {R : Ending → Heap → Prop} (c : Nat) (hm : P.follows .mixedOrders = true) (hd : panicky ops c = true)
  (hc : ops[c]? = some oc) (hr : Go.Mini.runSD P G ops (ops.take c) (some (fr, h)) = some (frc, h)) (hu : putsU (ops.drop c) frc = true) (hw : wantG frc (guardOf ops oc) = some true) (ha : aop P (aev G frc) oc h = some (.call f args, h))
  (h0 : fr0.le fr) (h0d : ops.all (fun o => match o.dst with | some s => (look s fr0.slots).isNone | none => true) = true) (hb : Does P G Ext f args h R) (hR : ∀ e h2, R e h2 → ∃ ch, e = .panicked ch ∧ Q (.panic ch) fr0 u h2) :
  Wp P G Ext (.region id ops.toArray true) fr u h Q := by
 obtain ⟨e, h2, b, hre⟩ := hb
 obtain ⟨ch, rfl, hq⟩ := hR e h2 hre
 rw [runSD_eq] at hr
 have hlen : (ops.take c).length = c := by have := lt_length hc; rw [List.length_take]; omega
 have hall : (ops.take c).all (fun o => !isLoud o) = true := by
  unfold panicky at hd
  simp only [Bool.and_eq_true, List.all_eq_true] at hd
  rw [List.all_eq_true]
  intro o ho
  obtain ⟨i, hi⟩ := List.getElem?_of_mem ho
  have hic : i < c := by have := lt_length hi; omega
  rw [List.getElem?_take_of_lt hic] at hi
  have := hd.2 _ (by simpa using mem_pairs ops 0 i o hi)
  simpa [hic] using this
 obtain ⟨V1, F1, a1, a2, _, a4⟩ := runD_seq (P := P) (G := G) ops h (ops.take c) fr frc h hall hr
 obtain ⟨F2, b1, b2⟩ := putsU_seq _ _ hu
 rw [hlen] at a2
 have key := Big.panics (P := P) (G := G) (Ext := Ext) (ops := ops) (V := fun i => if i < c then V1 i else undef) (FF := fun i => if i ≤ c then F1 i else F2 (i - c)) (c := c) (id := id) (u := u) (fr0 := fr0) hm hd hc
  (by
   intro i o hi ho
   simp only [hi, if_true, Nat.le_of_lt hi]
   exact (a4 i o (by rw [List.getElem?_take_of_lt hi]; exact ho)).1)
  (by
   intro i o ho
   by_cases hi : i < c
   ·simp only [hi, if_true, Nat.le_of_lt hi, show i + 1 ≤ c by omega]
    exact (a4 i o (by rw [List.getElem?_take_of_lt hi]; exact ho)).2
   ·have := b2 (i - c) o (by rw [List.getElem?_drop, show c + (i - c) = i by omega]; exact ho)
    simp only [hi, if_false, show ¬ i + 1 ≤ c by omega]
    rw [show i - c + 1 = i + 1 - c by omega] at this
    by_cases hic : i = c
    ·subst hic
     simp only [Nat.le_refl, if_true]
     rw [a2, ← b1]
     simpa using this
    ·simp only [show ¬ i ≤ c by omega, if_false]
     exact this)
  (by simp only [Nat.le_refl, if_true]; rw [a2, awanted_eq]; exact hw) (by simp only [Nat.le_refl, if_true]; rw [a2]; exact ha) b
  (by simp only [Nat.zero_le, if_true]; rw [a1]; exact h0)
  (by
   intro s v hs o ho q
   have := List.all_eq_true.1 h0d o ho
   rw [q] at this
   simp only [hs, Option.isNone_some, Bool.false_eq_true] at this)
 simp only [Nat.zero_le, if_true] at key
 rw [a1] at key
 exact ⟨_, _, _, _, key, hq⟩
end
end
section
theorem bsf : type_of% (And.intro bse (And.intro @if_true.{1} @if_false.{1})) := And.intro bse (And.intro @if_true.{1} @if_false.{1})
theorem bsd : type_of% (And.intro @List.drop_succ_cons.{0} (And.intro @List.drop_zero.{0} (And.intro @List.take_succ_cons.{0} @List.take_zero.{0}))) := And.intro @List.drop_succ_cons.{0} (And.intro @List.drop_zero.{0} (And.intro @List.take_succ_cons.{0} @List.take_zero.{0}))
theorem bsb : type_of% (And.intro Bool.or_true (And.intro Bool.true_or (And.intro Bool.or_self (And.intro Bool.and_self (And.intro Bool.and_true (And.intro Bool.and_false (And.intro Bool.false_and (And.intro Bool.true_and (And.intro @Heap.ns @Heap.na))))))))) := And.intro Bool.or_true (And.intro Bool.true_or (And.intro Bool.or_self (And.intro Bool.and_self (And.intro Bool.and_true (And.intro Bool.and_false (And.intro Bool.false_and (And.intro Bool.true_and (And.intro @Heap.ns @Heap.na))))))))
end
section
section
variable {P : Program} {G : Nat} {ops : List Oper}
end
section
variable {P : Program} {G : Nat} {Ext : FuncId → List Value → Heap → Value → Heap → Prop} {ops : List Oper} {ex pu : List Nat} {q : Nat} {K : Heap → Prop} {fr : Frm} {h : Heap} {l : List Oper}
end
end
section
theorem bsg : type_of% (And.intro @abuiltin.eq_1 (And.intro @abuiltin.eq_2 (And.intro @abuiltin.eq_3 (And.intro @abuiltin.eq_4 (And.intro @abuiltin.eq_5 (And.intro @abuiltin.eq_6 (And.intro @abuiltin.eq_7 (And.intro @abuiltin.eq_8 (And.intro @abuiltin.eq_9 (And.intro @aextract.eq_1 (And.intro @aextract.eq_2 (And.intro @aun.eq_1 (And.intro @aun.eq_2 (And.intro @aun.eq_3 (And.intro @aun.eq_4 (And.intro bsf (And.intro @abin_int (And.intro @abin_str (And.intro @ai_add (And.intro @ai_sub (And.intro @ai_lss (And.intro @ai_leq (And.intro @ai_gtr (And.intro @ai_geq (And.intro @ai_eql (And.intro @ai_neq (And.intro @bs_size (And.intro Nat.zero_add @Heap.new.eq_1)))))))))))))))))))))))))))) := And.intro @abuiltin.eq_1 (And.intro @abuiltin.eq_2 (And.intro @abuiltin.eq_3 (And.intro @abuiltin.eq_4 (And.intro @abuiltin.eq_5 (And.intro @abuiltin.eq_6 (And.intro @abuiltin.eq_7 (And.intro @abuiltin.eq_8 (And.intro @abuiltin.eq_9 (And.intro @aextract.eq_1 (And.intro @aextract.eq_2 (And.intro @aun.eq_1 (And.intro @aun.eq_2 (And.intro @aun.eq_3 (And.intro @aun.eq_4 (And.intro bsf (And.intro @abin_int (And.intro @abin_str (And.intro @ai_add (And.intro @ai_sub (And.intro @ai_lss (And.intro @ai_leq (And.intro @ai_gtr (And.intro @ai_geq (And.intro @ai_eql (And.intro @ai_neq (And.intro @bs_size (And.intro Nat.zero_add @Heap.new.eq_1)))))))))))))))))))))))))))
theorem bsc : type_of% (And.intro @calleeOf.eq_1 (And.intro @calleeOf.eq_2 (And.intro @fnOf.eq_1 (And.intro @fnOf.eq_2 (And.intro (@List.append_nil.{0}) ((@List.nil_append.{0}))))))) := And.intro @calleeOf.eq_1 (And.intro @calleeOf.eq_2 (And.intro @fnOf.eq_1 (And.intro @fnOf.eq_2 (And.intro (@List.append_nil.{0}) ((@List.nil_append.{0}))))))
theorem bss : type_of% (And.intro @runSD.eq_1 (And.intro @runSD.eq_2 (And.intro @stepOD.eq_1 (And.intro @stepOD.eq_2 (And.intro @stepWD.eq_1 (And.intro @stepWD.eq_2 (And.intro @stepWD.eq_3 (And.intro @stepVD.eq_1 (And.intro @stepVD.eq_2 (And.intro @stepVD.eq_3 (And.intro @isLoud.eq_1 (And.intro @isPure.eq_1 (And.intro @isReader.eq_1 (And.intro @isEqOp.eq_1 (And.intro @isEqOp.eq_2 (And.intro @isEqOp.eq_3 (And.intro @isConstO.eq_1 (And.intro @isConstO.eq_2 (And.intro @decide_true (bsb)))))))))))))))))))) := And.intro @runSD.eq_1 (And.intro @runSD.eq_2 (And.intro @stepOD.eq_1 (And.intro @stepOD.eq_2 (And.intro @stepWD.eq_1 (And.intro @stepWD.eq_2 (And.intro @stepWD.eq_3 (And.intro @stepVD.eq_1 (And.intro @stepVD.eq_2 (And.intro @stepVD.eq_3 (And.intro @isLoud.eq_1 (And.intro @isPure.eq_1 (And.intro @isReader.eq_1 (And.intro @isEqOp.eq_1 (And.intro @isEqOp.eq_2 (And.intro @isEqOp.eq_3 (And.intro @isConstO.eq_1 (And.intro @isConstO.eq_2 (And.intro @decide_true (bsb)))))))))))))))))))
theorem bx : type_of% (And.intro @after.eq_1 (And.intro @after.eq_2 (And.intro @leaving.eq_1 (And.intro @blockExit.eq_1 (And.intro @blockExit.eq_2 (And.intro @if_true.{1} @if_false.{1})))))) := And.intro @after.eq_1 (And.intro @after.eq_2 (And.intro @leaving.eq_1 (And.intro @blockExit.eq_1 (And.intro @blockExit.eq_2 (And.intro @if_true.{1} @if_false.{1})))))
theorem Aq {a b : Prop} (x : a) (y : b) : a ∧ b := ⟨x, y⟩
section
variable {P : Program} {G : Nat} {Ext : FuncId → List Value → Heap → Value → Heap → Prop} {fr : Frm} {u : Option FrameMode} {h : Heap} {Q : Exit → Frm → Option FrameMode → Heap → Prop}
theorem Wq {a b : Code} (hw : Wp P G Ext a fr u h (after (fun fr' u' h' => Wp P G Ext b fr' u' h' Q) Q)) : Wp P G Ext (.seq a b) fr u h Q := Wp.seq hw
theorem Wp.cT {c : Operand} {a b : Code} (hw : Wp P G Ext a fr u h Q) (hc : aev G fr c = some (.bool true) := by simp only [bsg, Nat.reduceLT, Nat.reduceEqDiff, reduceCtorEq]) : Wp P G Ext (.cond c a b) fr u h Q := Wp.condT hc hw
theorem Wp.cF {c : Operand} {a b : Code} (hw : Wp P G Ext b fr u h Q) (hc : aev G fr c = some (.bool false) := by simp only [bsg, Nat.reduceLT, Nat.reduceEqDiff, reduceCtorEq]) : Wp P G Ext (.cond c a b) fr u h Q := Wp.condF hc hw
theorem Wp.rS {id : Nat} {ops : List Oper} {fr' : Frm} {h' : Heap} (hq : Q .normal fr' u h') (hr : Mini.runS P G ops ops (some (fr, h)) = some (fr', h') := by simp only [bsg, Nat.reduceLT, Nat.reduceEqDiff, reduceCtorEq] <;> exact rfl) : Wp P G Ext (.region id ops.toArray false) fr u h Q := Wp.runS hr hq
theorem Wp.r {id : Nat} {ops : List Oper} {fr' : Frm} {h' : Heap} {F : Prop} (hF : F) (hq : Q .normal fr' u h') (hr : F → Mini.runS P G ops ops (some (fr, h)) = some (fr', h') := by intro q; simp only [bsg, Nat.reduceLT, Nat.reduceEqDiff, reduceCtorEq, q] <;> exact rfl) : Wp P G Ext (.region id ops.toArray false) fr u h Q := Wp.runS (hr hF) hq
theorem WpO.rS {ops : List Oper} (n : Nat) {k : Nat} {is : List Nat} {fr' : Frm} {h' : Heap} (hw : WpO P G Ext ops.toArray is fr' u h' Q) (hr : Mini.runS P G ops ((ops.drop k).take n) (some (fr, h)) = some (fr', h') := by simp only [bsd, bsg, Nat.reduceLT, Nat.reduceEqDiff, reduceCtorEq] <;> exact rfl) (hn : k + n ≤ ops.length := by decide) : WpO P G Ext ops.toArray (List.range' k n ++ is) fr u h Q := WpO.runS n hr hn hw
theorem WpO.r {ops : List Oper} (n : Nat) {k : Nat} {is : List Nat} {fr' : Frm} {h' : Heap} {F : Prop} (hF : F) (hw : WpO P G Ext ops.toArray is fr' u h' Q) (hr : F → Mini.runS P G ops ((ops.drop k).take n) (some (fr, h)) = some (fr', h') := by intro q; simp only [bsd, bsg, Nat.reduceLT, Nat.reduceEqDiff, reduceCtorEq, q] <;> exact rfl) (hn : k + n ≤ ops.length := by decide) : WpO P G Ext ops.toArray (List.range' k n ++ is) fr u h Q := WpO.runS n (hr hF) hn hw
theorem pt {d : Option Nat} {v : Value} {R : Frm → Prop} {f : Frm} (hw : R f) (hp : fr.put d v = some f := by simp only [bsg, Nat.reduceLT, Nat.reduceEqDiff, reduceCtorEq] <;> exact rfl) : ∃ f, fr.put d v = some f ∧ R f := ⟨f, hp, hw⟩
theorem pu {d : Option Nat} {v : Value} {R : Value → Frm → Prop} {f : Frm} (hw : R v f) (hp : fr.put d v = some f := by simp only [bsg, Nat.reduceLT, Nat.reduceEqDiff, reduceCtorEq] <;> exact rfl) : ∃ w f, Ending.returned v = .returned w ∧ fr.put d w = some f ∧ R w f := ⟨v, f, rfl, hp, hw⟩
theorem WpO.cS {ops : List Oper} {i : Nat} {l : List Nat} {p : Oper} {f : FuncId} {args : List Value} {h1 : Heap} (c : canEnter P f = true) (hd : Does P G Ext f args h1 fun e h2 => match e with
 | .returned v => ∃ fr1, fr.put p.dst v = some fr1 ∧ WpO P G Ext ops.toArray l fr1 u h2 Q
 | .panicked c => Q (.panic c) fr u h2
 | .outgrown => False) (hi : ops[i]? = some p := by exact rfl) (hw : wantG fr (guardOf ops p) = some true := by simp only [bsg, Nat.reduceLT, Nat.reduceEqDiff, reduceCtorEq]) (ha : canEnter P f = true → aop P (aev G fr) p h = some (.call f args, h1) := by intro q; simp only [bsc, bsg, Nat.reduceLT, Nat.reduceEqDiff, reduceCtorEq, q] <;> exact rfl) : WpO P G Ext ops.toArray (i :: l) fr u h Q := WpO.callS hi hw (ha c) hd
theorem WpO.cR {ops : List Oper} {i : Nat} {l : List Nat} {p : Oper} {f : FuncId} {args : List Value} {h1 : Heap} {R : Ending → Heap → Prop} (hd : Does P G Ext f args h1 R) (c : canEnter P f = true) (hR : ∀ e h2, R e h2 → ∃ v fr1, e = .returned v ∧ fr.put p.dst v = some fr1 ∧ WpO P G Ext ops.toArray l fr1 u h2 Q) (hi : ops[i]? = some p := by exact rfl) (hw : wantG fr (guardOf ops p) = some true := by simp only [bsg, Nat.reduceLT, Nat.reduceEqDiff, reduceCtorEq]) (ha : canEnter P f = true → aop P (aev G fr) p h = some (.call f args, h1) := by intro q; simp only [bsc, bsg, Nat.reduceLT, Nat.reduceEqDiff, reduceCtorEq, q] <;> exact rfl) : WpO P G Ext ops.toArray (i :: l) fr u h Q := WpO.callR hd hi hw (ha c) hR
end
end
end Go.Mini
