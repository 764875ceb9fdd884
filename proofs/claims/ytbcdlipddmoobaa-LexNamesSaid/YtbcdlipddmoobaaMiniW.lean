/-
  MINI, part W: regions that draw their order and call, or read unordered.
-/
import Derived.Test.YtbcdlipddmoobaaMiniU
namespace Go.Mini
section
variable {P : Program} {G : Nat} {Ext : FuncId → List Value → Heap → Value → Heap → Prop} {ops l : List Oper} {ex pu : List Nat} {q : Nat} {K : Heap → Prop} {fr : Frm} {u : Option FrameMode} {h : Heap}

theorem reader_not_pure {o : Oper} (h : isReader o = true) : isPure o = false := by
  obtain ⟨dst, op, type, pos, after, guard⟩ := o
  cases op with
  | binOp op t x y z => simp only [isReader] at h; simp only [isPure]; rw [h]; rfl
  | call c =>
    obtain ⟨callee, args, ats⟩ := c
    cases callee with
    | builtin b => cases b <;> first | rfl | cases h
    | _ => cases h
  | _ => first | rfl | cases h
/-- What is left of a region that draws, in the text's order. 'ex': the slots of reads that are not ordered with what writes (K: what they lean on, which holds throughout); 'pu': the slots of what yields the same whatever the memory. -/
def DrT (P : Program) (G : Nat) (Ext : FuncId → List Value → Heap → Value → Heap → Prop) (ops : List Oper) (ex pu : List Nat) (q : Nat) (K : Heap → Prop) (l : List Oper) (fr : Frm) (h : Heap) (Q : Frm → Heap → Prop) : Prop :=
  (q ≤ l.length → K h) → ∃ fr' h', Trd P G Ext ops ex pu q K l fr h fr' h' ∧ Q fr' h'
theorem Wp.drawAs {id : Nat} {Q : Exit → Frm → Option FrameMode → Heap → Prop} (ex pu : List Nat) (q : Nat) (K : Heap → Prop) (hm : P.follows .mixedOrders = true) (hd : drawable ops ex pu q = true) (hK : K h) (ht : DrT P G Ext ops ex pu q K ops fr h fun fr' h' => Q .normal fr' u h') :
    Wp P G Ext (.region id ops.toArray true) fr u h Q := by
  obtain ⟨fr', h', t, hq⟩ := ht fun _ => hK
  exact Wp.drawT ex pu q K hm hd hK t hq
theorem DrT.nil {Q : Frm → Heap → Prop} (hq : Q fr h) : DrT P G Ext ops ex pu q K [] fr h Q := fun _ => ⟨fr, h, .nil, hq⟩
/-- Some operations that leave the memory and are ordered with what writes. -/
theorem DrT.run {Q : Frm → Heap → Prop} (n : Nat) {fr' : Frm} (hr : runSD P G ops (l.take n) (some (fr, h)) = some (fr', h)) (hn : (l.take n).all (fun o => !isLoud o && !exempt ex o && !exempt pu o) = true)
    (ht : DrT P G Ext ops ex pu q K (l.drop n) fr' h Q) : DrT P G Ext ops ex pu q K l fr h Q := by
  intro hK
  obtain ⟨fr2, h2, t, hq⟩ := ht (fun hl => hK (Nat.le_trans hl (by simp)))
  rw [runSD_eq] at hr
  refine ⟨fr2, h2, ?_, hq⟩
  have key : ∀ (a b : List Oper) (fr fr' : Frm) (h : Heap), (q ≤ (a ++ b).length → K h) → a.all (fun o => !isLoud o && !exempt ex o && !exempt pu o) = true → runD P G ops.toArray a fr h = some (fr', h) → ∀ {F2 H2}, Trd P G Ext ops ex pu q K b fr' h F2 H2 → Trd P G Ext ops ex pu q K (a ++ b) fr h F2 H2 := by
    intro a
    induction a with
    | nil =>
      intro b fr fr' h _ _ e F2 H2 t
      simp only [runD, Option.some.injEq, Prod.mk.injEq] at e
      obtain ⟨rfl, _⟩ := e
      exact t
    | cons o a ih =>
      intro b fr fr' h hK ha e F2 H2 t
      have hK' : q ≤ (a ++ b).length → K h := fun hl => hK (Nat.le_trans hl (by simp))
      simp only [List.all_cons, Bool.and_eq_true, Bool.not_eq_true'] at ha
      obtain ⟨⟨⟨a1, a2⟩, a3⟩, a4⟩ := ha
      have a4' : a.all (fun o => !isLoud o && !exempt ex o && !exempt pu o) = true := by simpa using a4
      simp only [runD] at e
      obtain ⟨w, hw, e⟩ := Option.bind_eq_some_iff.1 e
      have n1 : exempt ex o = true → False := fun q => by rw [a2] at q; cases q
      have n2 : exempt pu o = true → False := fun q => by rw [a3] at q; cases q
      cases w with
      | false =>
        simp only [Bool.false_eq_true, if_false] at e
        obtain ⟨F1, hp, e⟩ := Option.bind_eq_some_iff.1 e
        exact .step (.unwanted hw) (fun _ => rfl) (fun _ _ => .unwanted hw) (fun _ _ _ _ _ => .unwanted hw) hK' hp (ih b F1 fr' h hK' a4' e t)
      | true =>
        simp only [if_true] at e
        obtain ⟨⟨r, h1⟩, hr, e⟩ := Option.bind_eq_some_iff.1 e
        cases r with
        | val v =>
          simp only [] at e
          split at e
          · rename_i hc
            obtain ⟨F1, hp, e⟩ := Option.bind_eq_some_iff.1 e
            have hh : h1 = h := aop_quiet_heap a1 hr (by rw [a1] at hc; simpa using hc)
            subst hh
            exact .step (.val hw hr) (fun _ => rfl) (fun hpu H2 => .val hw (aop_pure (hpu.resolve_right n2) hr)) (fun _ q => (n1 q).elim) hK' hp (ih b F1 fr' h1 hK' a4' e t)
          · cases e
        | skip => simp only [] at e; rw [a1] at e; cases e
        | _ => cases e
  have := key (l.take n) (l.drop n) fr fr' h (by rw [List.take_append_drop]; exact hK) hn hr t
  rwa [List.take_append_drop] at this
/-- A read that is not ordered with what writes. -/
theorem DrT.read {Q : Frm → Heap → Prop} {o : Oper} {v : Value} {fr1 : Frm} (hr : isReader o = true) (hn : exempt pu o = false) (hw : wantG fr (guardOf ops o) = some true) (hv0 : aop P (aev G fr) o h = some (.val v, h)) (hv : ∀ H, K H → aop P (aev G fr) o H = some (.val v, H)) (hp : fr.put o.dst v = some fr1)
    (ht : DrT P G Ext ops ex pu q K l fr1 h Q) : DrT P G Ext ops ex pu q K (o :: l) fr h Q := by
  intro hK
  have hK' : q ≤ l.length → K h := fun hl => hK (Nat.le_trans hl (by simp))
  obtain ⟨fr2, h2, t, hq2⟩ := ht hK'
  have hw' : awanted ops.toArray fr o = some true := by rw [awanted_eq]; exact hw
  refine ⟨fr2, h2, .step (.val hw' hv0) (fun _ => rfl) (fun hq => ?_) (fun _ _ _ H hH => .val hw' (hv H hH)) hK' hp t, hq2⟩
  rcases hq with hq | hq
  · rw [reader_not_pure hr] at hq; cases hq
  · rw [hn] at hq; cases hq
/-- What yields the same whatever the memory. -/
theorem DrT.pure {Q : Frm → Heap → Prop} {o : Oper} {v : Value} {fr1 : Frm} (hw : wantG fr (guardOf ops o) = some true) (hv : ∀ H, aop P (aev G fr) o H = some (.val v, H)) (hp : fr.put o.dst v = some fr1)
    (ht : DrT P G Ext ops ex pu q K l fr1 h Q) : DrT P G Ext ops ex pu q K (o :: l) fr h Q := by
  intro hK
  have hK' : q ≤ l.length → K h := fun hl => hK (Nat.le_trans hl (by simp))
  obtain ⟨fr2, h2, t, hq2⟩ := ht hK'
  have hw' : awanted ops.toArray fr o = some true := by rw [awanted_eq]; exact hw
  exact ⟨fr2, h2, .step (.val hw' (hv h)) (fun _ => rfl) (fun _ H => .val hw' (hv H)) (fun _ _ _ H _ => .val hw' (hv H)) hK' hp t, hq2⟩
/-- A call that leaves the memory, and yields the same whatever it is. -/
theorem DrT.callP {Q : Frm → Heap → Prop} {o : Oper} {f : FuncId} {args : List Value} {v : Value} {fr1 : Frm} (hd : ∀ H, Does P G Ext f args H fun e H' => e = .returned v ∧ H' = H) (hw : wantG fr (guardOf ops o) = some true)
    (ha : ∀ H, aop P (aev G fr) o H = some (.call f args, H)) (hp : fr.put o.dst v = some fr1) (ht : DrT P G Ext ops ex pu q K l fr1 h Q) : DrT P G Ext ops ex pu q K (o :: l) fr h Q := by
  intro hK
  have hK' : q ≤ l.length → K h := fun hl => hK (Nat.le_trans hl (by simp))
  obtain ⟨fr2, h2, t, hq2⟩ := ht hK'
  have hw' : awanted ops.toArray fr o = some true := by rw [awanted_eq]; exact hw
  have hs : ∀ H, St P G Ext ops o fr H v H := by
    intro H
    obtain ⟨e, H', b, rfl, rfl⟩ := hd H
    exact .call hw' (ha _) b
  exact ⟨fr2, h2, .step (hs h) (fun _ => rfl) (fun _ H => hs H) (fun _ _ _ H _ => hs H) hK' hp t, hq2⟩
/-- What turns the memory. -/
theorem DrT.val {Q : Frm → Heap → Prop} {o : Oper} {v : Value} {fr1 : Frm} {h1 : Heap} (ha : aop P (aev G fr) o h = some (.val v, h1)) (hl : isLoud o = true) (hn : exempt pu o = false) (hw : wantG fr (guardOf ops o) = some true) (hp : fr.put o.dst v = some fr1)
    (hk : q ≤ l.length → K h1) (ht : DrT P G Ext ops ex pu q K l fr1 h1 Q) : DrT P G Ext ops ex pu q K (o :: l) fr h Q := by
  intro _
  obtain ⟨fr2, h2, t, hq2⟩ := ht hk
  have hx : loudX pu o = true := by unfold loudX; rw [hl, hn]; rfl
  refine ⟨fr2, h2, .step (.val (by rw [awanted_eq]; exact hw) ha) (fun hq => by rw [hx] at hq; cases hq) (fun hq => ?_) (fun hq => ?_) hk hp t, hq2⟩
  · rcases hq with hq | hq
    · unfold isLoud at hl; rw [hq] at hl; cases hl
    · rw [hn] at hq; cases hq
  · unfold isLoud at hl; rw [hq] at hl; simp at hl
theorem DrT.skip {Q : Frm → Heap → Prop} {o : Oper} {fr1 : Frm} {h1 : Heap} (ha : aop P (aev G fr) o h = some (.skip, h1)) (hl : isLoud o = true) (hn : exempt pu o = false) (hw : wantG fr (guardOf ops o) = some true) (hp : fr.put o.dst undef = some fr1)
    (hk : q ≤ l.length → K h1) (ht : DrT P G Ext ops ex pu q K l fr1 h1 Q) : DrT P G Ext ops ex pu q K (o :: l) fr h Q := by
  intro _
  obtain ⟨fr2, h2, t, hq2⟩ := ht hk
  have hx : loudX pu o = true := by unfold loudX; rw [hl, hn]; rfl
  refine ⟨fr2, h2, .step (.skip (by rw [awanted_eq]; exact hw) ha) (fun hq => by rw [hx] at hq; cases hq) (fun hq => ?_) (fun hq => ?_) hk hp t, hq2⟩
  · rcases hq with hq | hq
    · unfold isLoud at hl; rw [hq] at hl; cases hl
    · rw [hn] at hq; cases hq
  · unfold isLoud at hl; rw [hq] at hl; simp at hl
theorem DrT.call {Q : Frm → Heap → Prop} {o : Oper} {f : FuncId} {args : List Value} {h1 : Heap} {R : Ending → Heap → Prop} (hd : Does P G Ext f args h1 R) (hl : isLoud o = true) (hn : exempt pu o = false) (hw : wantG fr (guardOf ops o) = some true)
    (ha : aop P (aev G fr) o h = some (.call f args, h1))
    (hR : ∀ e h2, R e h2 → ∃ v fr1, e = .returned v ∧ (q ≤ l.length → K h2) ∧ fr.put o.dst v = some fr1 ∧ DrT P G Ext ops ex pu q K l fr1 h2 Q) : DrT P G Ext ops ex pu q K (o :: l) fr h Q := by
  intro _
  obtain ⟨e, h2, b, r⟩ := hd
  obtain ⟨v, fr1, rfl, hk, hp, ht⟩ := hR e h2 r
  obtain ⟨fr2, h3, t, hq2⟩ := ht hk
  have hx : loudX pu o = true := by unfold loudX; rw [hl, hn]; rfl
  refine ⟨fr2, h3, .step (.call (by rw [awanted_eq]; exact hw) ha b) (fun hq => by rw [hx] at hq; cases hq) (fun hq => ?_) (fun hq => ?_) hk hp t, hq2⟩
  · rcases hq with hq | hq
    · unfold isLoud at hl; rw [hq] at hl; cases hl
    · rw [hn] at hq; cases hq
  · unfold isLoud at hl; rw [hq] at hl; simp at hl
end
end Go.Mini
