/-
  MINI, part O: rules for regions that draw; loops; frames that tell the same.
-/
import Derived.Test.YtbcdlipddmoobaaMiniN
namespace Go.Mini

/-! ### regions that draw -/
def exempt (ex : List Nat) (o : Oper) : Bool := match o.dst with | some d => ex.contains d | none => false
def pairs : List Oper → Nat → List (Nat × Oper)
  | [], _ => []
  | o :: l, i => (i, o) :: pairs l (i + 1)
theorem exempt_nil (o : Oper) : exempt [] o = false := by unfold exempt; cases o.dst <;> rfl
/-- Loud, and not known to be quiet ('pu': the slots of those operations that yield the same whatever the memory, and leave it). -/
def loudX (pu : List Nat) (o : Oper) : Bool := isLoud o && !exempt pu o
def readX (ex pu : List Nat) (o : Oper) : Bool := isReader o && !exempt ex o && !exempt pu o
def pairOk (ops : List Oper) (ms : List Nat) (ex pu : List Nat) (i : Nat) (x : Oper) (j : Nat) (y : Oper) : Bool :=
  !(decide (i < j)) || (ms.getD j 0).testBit i ||
    (!(loudX pu x && loudX pu y) && !clash ops x y && !(loudX pu x && readX ex pu y) && !(readX ex pu x && loudX pu y))
/-- May the region's order be left to the tape? 'ex': the slots of those reads that need not be ordered with what writes, but come ahead of what writes among the last q operations. -/
def drawable (ops : List Oper) (ex pu : List Nat) (q : Nat) : Bool :=
  let ms := masks [] ops
  let l := pairs ops 0
  let n := ops.length - q
  decide (q ≤ ops.length) && l.all (fun p => p.2.after.all fun e => !Region.binds .any e || decide (e.on < p.1)) && l.all (fun p => l.all fun q => pairOk ops ms ex pu p.1 p.2 q.1 q.2) &&
    l.all fun p => !(isReader p.2 && exempt ex p.2 && !exempt pu p.2) || l.all fun r => !(loudX pu r.2 && decide (n ≤ r.1)) || (ms.getD r.1 0).testBit p.1

theorem mem_pairs : ∀ (l : List Oper) (i j : Nat) (o : Oper), l[j]? = some o → (i + j, o) ∈ pairs l i
  | [], _, _, _, h => by simp at h
  | p :: l, i, 0, o, h => by simp at h; subst h; simp [pairs]
  | p :: l, i, j + 1, o, h => by
    simp only [List.getElem?_cons_succ] at h
    simp only [pairs]
    exact List.mem_cons_of_mem _ (by have := mem_pairs l (i + 1) j o h; rwa [show i + 1 + j = i + (j + 1) by omega] at this)

section
variable {P : Program} {G : Nat} {Ext : FuncId → List Value → Heap → Value → Heap → Prop} {ops : List Oper}

/-- A run in the text's order, with what is asked of each operation that does not turn the memory. -/
inductive Trd (P : Program) (G : Nat) (Ext : FuncId → List Value → Heap → Value → Heap → Prop) (ops : List Oper) (ex pu : List Nat) (q : Nat) (K : Heap → Prop) : List Oper → Frm → Heap → Frm → Heap → Prop where
  | nil {F H} : Trd P G Ext ops ex pu q K [] F H F H
  | step {o l F H v H1 F1 F2 H2} : St P G Ext ops o F H v H1 → (loudX pu o = false → H1 = H) → (isPure o = true ∨ exempt pu o = true → ∀ H', St P G Ext ops o F H' v H') →
      (isReader o = true → exempt ex o = true → exempt pu o = false → ∀ H', K H' → St P G Ext ops o F H' v H') →
      (q ≤ l.length → K H1) → F.put o.dst v = some F1 → Trd P G Ext ops ex pu q K l F1 H1 F2 H2 → Trd P G Ext ops ex pu q K (o :: l) F H F2 H2

theorem Trd.trace {ex pu : List Nat} {q : Nat} {K : Heap → Prop} {l : List Oper} {F F' : Frm} {H H' : Heap} (h : Trd P G Ext ops ex pu q K l F H F' H') (hK : q ≤ l.length → K H) :
    ∃ (V : Nat → Value) (HH : Nat → Heap) (FF : Nat → Frm), FF 0 = F ∧ HH 0 = H ∧ FF l.length = F' ∧ HH l.length = H' ∧ (∀ i, i + q ≤ l.length → K (HH i)) ∧ ∀ i o, l[i]? = some o →
      St P G Ext ops o (FF i) (HH i) (V i) (HH (i + 1)) ∧ (FF i).put o.dst (V i) = some (FF (i + 1)) ∧ (loudX pu o = false → HH (i + 1) = HH i) ∧ (isPure o = true ∨ exempt pu o = true → ∀ H2, St P G Ext ops o (FF i) H2 (V i) H2) ∧
      (isReader o = true → exempt ex o = true → exempt pu o = false → ∀ H2, K H2 → St P G Ext ops o (FF i) H2 (V i) H2) := by
  induction h with
  | nil => exact ⟨fun _ => undef, fun _ => _, fun _ => _, rfl, rfl, rfl, rfl, fun i hi => hK (by omega), fun i o h => by simp at h⟩
  | @step o l F H v H1 F1 F2 H2 h1 h2 h3 h4 hk1 h5 _ ih =>
    obtain ⟨V, HH, FF, e1, e2, e3, e4, e5, e6⟩ := ih hk1
    refine ⟨fun i => match i with | 0 => v | i + 1 => V i, fun i => match i with | 0 => H | i + 1 => HH i, fun i => match i with | 0 => F | i + 1 => FF i, rfl, rfl, e3, e4, ?_, ?_⟩
    · intro i hi
      cases i with
      | zero => exact hK (by simpa using hi)
      | succ i => exact e5 i (by simp only [List.length_cons] at hi; omega)
    · intro i o hi
      cases i with
      | zero =>
        simp only [List.getElem?_cons_zero, Option.some.injEq] at hi
        subst hi
        simp only [e1, e2]
        exact ⟨h1, h5, h2, h3, h4⟩
      | succ i => exact e6 i o (by simpa using hi)

/-- How far the loud ones are done, where they stand in one order. -/
def cOf (ops : List Oper) (pu : List Nat) (L : Nat → Bool) : Nat := ((List.range ops.length).find? fun l => ((ops[l]?).map (loudX pu)).getD false && !L l).getD ops.length
theorem cOf_le (ops : List Oper) (pu : List Nat) (L : Nat → Bool) : cOf ops pu L ≤ ops.length := by
  unfold cOf
  cases h : (List.range ops.length).find? _ with
  | none => simp
  | some l => have := List.mem_of_find?_eq_some h; simp at this; simp; omega
theorem cOf_below {ops : List Oper} {pu : List Nat} {L : Nat → Bool} {l : Nat} {y : Oper} (hy : ops[l]? = some y) (hl : loudX pu y = true) (hlt : l < cOf ops pu L) : L l = true := by
  have hb := lt_length hy
  unfold cOf at hlt
  cases h : (List.range ops.length).find? (fun l => ((ops[l]?).map (loudX pu)).getD false && !L l) with
  | none =>
    have := List.find?_eq_none.1 h l (by simpa using hb)
    simpa [hy, hl] using this
  | some c =>
    rw [h, Option.getD_some] at hlt
    obtain ⟨_, as, bs, e, hno⟩ := List.find?_eq_some_iff_append.1 h
    have hmem : l ∈ as := by
      have hc : (List.range ops.length)[as.length]? = some c := by rw [e]; simp
      rw [List.getElem?_range (by have := congrArg List.length e; simp at this; omega)] at hc
      cases hc
      have hl2 : (List.range ops.length)[l]? = some l := by rw [List.getElem?_range hb]
      rw [e, List.getElem?_append_left hlt] at hl2
      exact List.mem_of_getElem? hl2
    have := hno l hmem
    simpa [hy, hl] using this
theorem cOf_not {ops : List Oper} {pu : List Nat} {L : Nat → Bool} (h : cOf ops pu L < ops.length) : ∃ y, ops[cOf ops pu L]? = some y ∧ loudX pu y = true ∧ L (cOf ops pu L) = false := by
  cases e : (List.range ops.length).find? (fun l => ((ops[l]?).map (loudX pu)).getD false && !L l) with
  | none => unfold cOf at h; rw [e] at h; simp at h
  | some c =>
    have hc : cOf ops pu L = c := by unfold cOf; rw [e]; rfl
    rw [hc]
    have := List.find?_some e
    have hb : c < ops.length := by rw [hc] at h; exact h
    have ho : ops[c]? = some ops[c] := List.getElem?_eq_getElem hb
    rw [ho] at this
    simp only [Option.map_some, Option.getD_some, Bool.and_eq_true, Bool.not_eq_true'] at this
    exact ⟨_, ho, this.1, this.2⟩
theorem cOf_ext {ops : List Oper} {pu : List Nat} {L L' : Nat → Bool} (h : ∀ j, j < ops.length → L j = L' j) : cOf ops pu L = cOf ops pu L' := by
  have key : ∀ l : List Nat, (∀ j ∈ l, j < ops.length) → l.find? (fun l => ((ops[l]?).map (loudX pu)).getD false && !L l) = l.find? (fun l => ((ops[l]?).map (loudX pu)).getD false && !L' l) := by
    intro l
    induction l with
    | nil => intro _; rfl
    | cons a l ih =>
      intro hl
      rw [List.find?_cons, List.find?_cons, h a (hl a (by simp)), ih fun j hj => hl j (by simp [hj])]
  unfold cOf
  rw [key _ (fun j hj => by simpa using hj)]

theorem Wp.drawT {id : Nat} {fr fr' : Frm} {u : Option FrameMode} {h h' : Heap} {Q : Exit → Frm → Option FrameMode → Heap → Prop} (ex pu : List Nat) (q : Nat) (K : Heap → Prop) (hm : P.follows .mixedOrders = true) (hd : drawable ops ex pu q = true) (hK : K h)
    (ht : Trd P G Ext ops ex pu q K ops fr h fr' h') (hq : Q .normal fr' u h') : Wp P G Ext (.region id ops.toArray true) fr u h Q := by
  obtain ⟨V, HH, FF, e1, e2, e3, e4, e5, e6⟩ := ht.trace (fun _ => hK)
  unfold drawable at hd
  simp only [Bool.and_eq_true, List.all_eq_true] at hd
  obtain ⟨⟨⟨hd0, hd1⟩, hd2⟩, hd3⟩ := hd
  replace hd0 := of_decide_eq_true hd0
  have hpair : ∀ i j x y, i < j → ops[i]? = some x → ops[j]? = some y → ahead ops i j = true ∨ (¬ (loudX pu x = true ∧ loudX pu y = true) ∧ clash ops x y = false ∧ ¬ (loudX pu x = true ∧ readX ex pu y = true) ∧ ¬ (readX ex pu x = true ∧ loudX pu y = true)) := by
    intro i j x y hij hx hy
    have := hd2 _ (by simpa using mem_pairs ops 0 i x hx) _ (by simpa using mem_pairs ops 0 j y hy)
    unfold pairOk at this
    simp only [decide_eq_true hij, Bool.not_true, Bool.false_or, Bool.or_eq_true, Bool.and_eq_true, Bool.not_eq_true', Bool.and_eq_false_iff] at this
    rcases this with h | ⟨⟨⟨h1, h2⟩, h3⟩, h4⟩
    · exact .inl h
    · refine .inr ⟨?_, h2, ?_, ?_⟩
      · rintro ⟨q1, q2⟩; rcases h1 with h1 | h1 <;> simp_all
      · rintro ⟨q1, q2⟩; rcases h3 with h3 | h3 <;> simp_all
      · rintro ⟨q1, q2⟩; rcases h4 with h4 | h4 <;> simp_all
  have hback : ∀ i o, ops[i]? = some o → ∀ e ∈ o.after, Region.binds .any e = true → e.on < i := by
    intro i o ho e he hb
    have := hd1 _ (by simpa using mem_pairs ops 0 i o ho)
    have h2 := (Array.all_eq_true_iff_forall_mem.1 this) e he
    simp only [hb, Bool.not_true, Bool.false_or] at h2
    exact of_decide_eq_true h2
  have hloud : ∀ i j x y, i < j → ops[i]? = some x → ops[j]? = some y → loudX pu x = true → loudX pu y = true → ahead ops i j = true :=
    fun i j x y hij hx hy lx ly => (hpair i j x y hij hx hy).resolve_right fun h => h.1 ⟨lx, ly⟩
  have hsame : ∀ c i, c ≤ ops.length → i ≤ ops.length → (∀ l y, ops[l]? = some y → loudX pu y = true → (l < i ↔ l < c)) → HH c = HH i := by
    have hconst : ∀ a b, a ≤ b → b ≤ ops.length → (∀ l y, a ≤ l → l < b → ops[l]? = some y → loudX pu y = false) → HH b = HH a := by
      intro a b
      induction b with
      | zero => intro h _ _; have : a = 0 := by omega
                subst this; rfl
      | succ b ih =>
        intro h hb hno
        by_cases e : a = b + 1
        · subst e; rfl
        · have ho : ops[b]? = some ops[b] := List.getElem?_eq_getElem (by omega)
          rw [(e6 b _ ho).2.2.1 (hno b _ (by omega) (by omega) ho)]
          exact ih (by omega) (by omega) fun l y h1 h2 => hno l y h1 (by omega)
    intro c i hc hi hl
    rcases Nat.le_total c i with q | q
    · refine (hconst c i q hi fun l y h1 h2 hy => ?_).symm
      cases hly : loudX pu y with
      | false => rfl
      | true => have := (hl l y hy hly).1 h2; omega
    · refine hconst i c q hc fun l y h1 h2 hy => ?_
      cases hly : loudX pu y with
      | false => rfl
      | true => have := (hl l y hy hly).2 h2; omega
  -- where all edges of what is done are met, the loud ones that are done are a beginning of them
  have hcount : ∀ L, Closed ops L → ∀ l y, ops[l]? = some y → loudX pu y = true → (L l = true ↔ l < cOf ops pu L) := by
    intro L hL l y hy hly
    constructor
    · intro hl
      rcases Nat.lt_or_ge l (cOf ops pu L) with q | q
      · exact q
      · obtain ⟨z, hz, hlz, hnz⟩ := cOf_not (L := L) (pu := pu) (Nat.lt_of_le_of_lt q (lt_length hy))
        rcases Nat.lt_or_ge (cOf ops pu L) l with q2 | q2
        · have := ahead_closed ops (fun j => L j = true) hback (fun j x hj hx => hL j x hx hj) l y hy (hL l y hy hl) _ (hloud _ _ z y q2 hz hy hlz hly)
          rw [hnz] at this; cases this
        · have : l = cOf ops pu L := by omega
          rw [this, hnz] at hl; cases hl
    · exact fun h => cOf_below hy hly h
  have hdr : Drawn P G Ext ops V (fun L => HH (cOf ops pu L)) FF := {
    back := hback
    slot := by
      intro i j x y hij hx hy hc
      exact (hpair i j x y hij hx hy).resolve_right fun h => by rw [h.2.1] at hc; cases hc
    ext := fun L L' h => by rw [cOf_ext h]
    put := fun i o ho => (e6 i o ho).2.1
    st := by
      intro L i o hL ho hnot hpre
      have hil := lt_length ho
      have hL' : Closed ops (also L i) := by
        intro j x hx hj e he hb
        unfold also
        split
        · rfl
        · unfold also at hj
          split at hj
          · rename_i q; subst q; rw [ho] at hx; cases hx; exact hpre e he hb
          · exact hL j x hx hj e he hb
      have hmet : ∀ j, ahead ops j i = true → L j = true := ahead_closed ops (fun j => L j = true) hback (fun j x hj hx => hL j x hx hj) i o ho hpre
      have hunmet : ∀ j x, ops[j]? = some x → ahead ops i j = true → L j = false := by
        intro j x hx ha
        cases e : L j with
        | false => rfl
        | true =>
          have := ahead_closed ops (fun j => L j = true) hback (fun j x hj hx => hL j x hx hj) j x hx (hL j x hx e) i ha
          rw [hnot] at this; cases this
      have hc := cOf_le ops pu L
      have hc' := cOf_le ops pu (also L i)
      have hcnt := hcount L hL
      have hcnt' := hcount _ hL'
      cases hlo : loudX pu o with
      | false =>
        have hsm : HH (cOf ops pu (also L i)) = HH (cOf ops pu L) := hsame _ _ hc' hc fun l y hy hly => by
          have hne : l ≠ i := by rintro rfl; rw [ho] at hy; cases hy; rw [hlo] at hly; cases hly
          rw [← hcnt l y hy hly, ← hcnt' l y hy hly]
          unfold also; rw [if_neg hne]
        rw [hsm]
        by_cases hp : isPure o = true ∨ exempt pu o = true
        · exact (e6 i o ho).2.2.2.1 hp _
        · have hp1 : isPure o = false := by cases q : isPure o with | false => rfl | true => exact absurd (.inl q) hp
          have hp2 : exempt pu o = false := by cases q : exempt pu o with | false => rfl | true => exact absurd (.inr q) hp
          have hrd : isReader o = true := by
            unfold loudX isLoud at hlo
            rw [hp1, hp2] at hlo
            simpa using hlo
          by_cases hex : exempt ex o = true
          · have hafter : ∀ l y, ops[l]? = some y → loudX pu y = true → ops.length - q ≤ l → ahead ops i l = true := by
              intro l y hy hly hql
              have h1 := hd3 _ (by simpa using mem_pairs ops 0 i o ho)
              simp only [hrd, hex, hp2, Bool.not_false, Bool.and_self, Bool.not_true, Bool.false_or, List.all_eq_true] at h1
              have h2 := h1 _ (by simpa using mem_pairs ops 0 l y hy)
              simp only [hly, decide_eq_true hql, Bool.and_self, Bool.not_true, Bool.false_or] at h2
              exact h2
            have hcc : HH (cOf ops pu L) = HH (min (cOf ops pu L) (ops.length - q)) := hsame _ _ hc (by omega) fun l y hy hly => by
              constructor
              · intro h; omega
              · intro h
                rcases Nat.lt_or_ge l (ops.length - q) with q1 | q1
                · omega
                · have := hunmet l y hy (hafter l y hy hly q1)
                  rw [(hcnt l y hy hly).2 h] at this; cases this
            rw [hcc]
            exact (e6 i o ho).2.2.2.2 hrd hex hp2 _ (e5 _ (by omega))
          · have hrx : readX ex pu o = true := by unfold readX; rw [hrd, hp2]; simpa using hex
            have hci : HH (cOf ops pu L) = HH i := hsame _ i hc (by omega) fun l y hy hly => by
              constructor
              · intro hli
                have := (hpair l i y o hli hy ho).resolve_right fun h => h.2.2.1 ⟨hly, hrx⟩
                exact (hcnt l y hy hly).1 (hmet l this)
              · intro hlc
                rcases Nat.lt_trichotomy l i with q | q | q
                · exact q
                · subst q
                  rw [ho] at hy; cases hy
                  rw [hlo] at hly; cases hly
                · have := (hpair i l o y q ho hy).resolve_right fun h => h.2.2.2 ⟨hrx, hly⟩
                  have := hunmet l y hy this
                  rw [(hcnt l y hy hly).2 hlc] at this; cases this
            have h1 := (e6 i o ho).1
            rw [(e6 i o ho).2.2.1 hlo] at h1
            rw [hci]; exact h1
      | true =>
        have hci : HH (cOf ops pu L) = HH i := hsame _ i hc (by omega) fun l y hy hly => by
          rw [← hcnt l y hy hly]
          constructor
          · intro hli; exact hmet l (hloud l i y o hli hy ho hly hlo)
          · intro hl
            rcases Nat.lt_trichotomy l i with q | q | q
            · exact q
            · subst q; rw [hnot] at hl; cases hl
            · rw [hunmet l y hy (hloud i l o y q ho hy hlo hly)] at hl; cases hl
        have hci' : HH (cOf ops pu (also L i)) = HH (i + 1) := hsame _ (i + 1) hc' (by omega) fun l y hy hly => by
          rw [← hcnt' l y hy hly]
          unfold also
          constructor
          · intro hli
            split
            · rfl
            · exact hmet l (hloud l i y o (by omega) hy ho hly hlo)
          · split
            · intro _; omega
            · rename_i hne
              intro hl
              rcases Nat.lt_or_ge l (i + 1) with q | q
              · exact q
              · rw [hunmet l y hy (hloud i l o y (by omega) ho hy hlo hly)] at hl; cases hl
        rw [hci, hci']
        exact (e6 i o ho).1 }
  have hb := hdr.big (id := id) (u := u) hm
  have h0 : HH (cOf ops pu fun _ => false) = h := by
    rw [← e2]
    refine hsame _ 0 (cOf_le _ _ _) (Nat.zero_le _) fun l y hy hly => ⟨fun q => by omega, fun q => ?_⟩
    have := cOf_below hy hly q; cases this
  have h1 : HH (cOf ops pu fun _ => true) = h' := by
    rw [← e4]
    refine hsame _ _ (cOf_le _ _ _) (Nat.le_refl _) fun l y hy hly => ⟨fun _ => ?_, fun _ => lt_length hy⟩
    rcases Nat.lt_or_ge l (cOf ops pu fun _ => true) with q | q
    · exact q
    · obtain ⟨z, hz, hlz, hnz⟩ := cOf_not (L := fun _ => true) (pu := pu) (Nat.lt_of_le_of_lt q (lt_length hy))
      cases hnz
  rw [h0, h1, e1, e3] at hb
  exact ⟨_, _, _, _, hb, hq⟩

/-- Operations without calls, carried out in the text's order, where the order is drawn. -/
noncomputable def runD (P : Program) (G : Nat) (ops : Array Oper) : List Oper → Frm → Heap → Option (Frm × Heap)
  | [], fr, h => some (fr, h)
  | o :: l, fr, h => (awanted ops fr o).bind fun t =>
    if t then (aop P (aev G fr) o h).bind fun r =>
      match r with
      | (.val v, h1) => if isLoud o || decide (h1.next = h.next) then (fr.put o.dst v).bind fun fr1 => runD P G ops l fr1 h1 else none
      | (.skip, h1) => if isLoud o then (fr.put o.dst undef).bind fun fr1 => runD P G ops l fr1 h1 else none
      | _ => none
    else (fr.put o.dst undef).bind fun fr1 => runD P G ops l fr1 h

theorem aslice_heap {P : Program} {h h1 : Heap} {t : TypeId} {x v : Value} {lo hi mx : Option Value} (e : aslice P h t x lo hi mx = some (v, h1)) (hn : h1.next = h.next) : h1 = h := by
  unfold aslice at e
  split at e
  · split at e
    · cases e
    · obtain ⟨ti, _, e⟩ := Option.bind_eq_some_iff.1 e
      obtain ⟨hh, _, e⟩ := Option.bind_eq_some_iff.1 e
      obtain ⟨l, _, e⟩ := Option.bind_eq_some_iff.1 e
      simp only [Option.some.injEq, Prod.mk.injEq] at e
      exact e.2.symm
  · split at e
    · cases e
    · obtain ⟨hh, _, e⟩ := Option.bind_eq_some_iff.1 e
      obtain ⟨l, _, e⟩ := Option.bind_eq_some_iff.1 e
      simp only [Option.some.injEq, Prod.mk.injEq] at e
      exact e.2.symm
  · obtain ⟨ti, _, e⟩ := Option.bind_eq_some_iff.1 e
    split at e
    · split at e
      · obtain ⟨hh, _, e⟩ := Option.bind_eq_some_iff.1 e
        obtain ⟨l, _, e⟩ := Option.bind_eq_some_iff.1 e
        split at e
        · simp only [Option.some.injEq, Prod.mk.injEq] at e
          exact e.2.symm
        · split at e
          · simp only [Option.some.injEq, Prod.mk.injEq] at e
            exact e.2.symm
          · split at e
            · simp only [Option.some.injEq, Prod.mk.injEq] at e
              exact e.2.symm
            · simp only [Option.some.injEq, Prod.mk.injEq] at e
              rw [← e.2] at hn
              simp [Heap.alloc] at hn
      · cases e
    · obtain ⟨mm, _, e⟩ := Option.bind_eq_some_iff.1 e
      obtain ⟨hh, _, e⟩ := Option.bind_eq_some_iff.1 e
      obtain ⟨l, _, e⟩ := Option.bind_eq_some_iff.1 e
      split at e
      · split at e
        · cases e
        · simp only [Option.some.injEq, Prod.mk.injEq] at e
          exact e.2.symm
      · cases e
  · cases e

theorem bind_same {α : Type} {o : Option α} {f : α → AN} {h h1 : Heap} {x : AN} (e : (o.bind fun v => some (f v, h)) = some (x, h1)) : h1 = h := by
  cases o with
  | none => cases e
  | some v => simp only [Option.bind_some, Option.some.injEq, Prod.mk.injEq] at e; exact e.2.symm

theorem aop_quiet_heap {ρ : Operand → Option Value} {o : Oper} {h h1 : Heap} {v : Value} (hq : isLoud o = false) (e : aop P ρ o h = some (.val v, h1)) (hn : h1.next = h.next) : h1 = h := by
  obtain ⟨dst, op, type, pos, after, guard⟩ := o
  cases op with
  | call c =>
    obtain ⟨callee, args, ats⟩ := c
    cases callee with
    | builtin b =>
      cases b <;> try (cases hq; done)
      all_goals
        simp only [aop] at e
        obtain ⟨as, _, e⟩ := Option.bind_eq_some_iff.1 e
        unfold abuiltin at e
        split at e <;> first
          | (cases e; done)
          | exact bind_same e
          | (rename_i q _ _; cases q; done)
          | (rename_i q _; cases q; done)
    | value => cases hq
    | invoke => cases hq
  | slice t x lo hi mx =>
    simp only [aop] at e
    obtain ⟨a, _, e⟩ := Option.bind_eq_some_iff.1 e
    obtain ⟨l, _, e⟩ := Option.bind_eq_some_iff.1 e
    obtain ⟨hh, _, e⟩ := Option.bind_eq_some_iff.1 e
    obtain ⟨mm, _, e⟩ := Option.bind_eq_some_iff.1 e
    obtain ⟨⟨v', h'⟩, hs, e⟩ := Option.bind_eq_some_iff.1 e
    simp only [Option.some.injEq, Prod.mk.injEq, AN.val.injEq] at e
    rw [← e.2] at hn ⊢
    exact aslice_heap hs hn
  | move => exact bind_same e
  | assign => exact bind_same e
  | pick c a b =>
    simp only [aop] at e
    obtain ⟨cv, _, e⟩ := Option.bind_eq_some_iff.1 e
    split at e
    · exact bind_same e
    · cases e
  | build t parts =>
    simp only [aop] at e
    obtain ⟨ps, _, e⟩ := Option.bind_eq_some_iff.1 e
    exact bind_same e
  | load t a =>
    simp only [aop] at e
    obtain ⟨ps, _, e⟩ := Option.bind_eq_some_iff.1 e
    exact bind_same e
  | nilCheck x =>
    simp only [aop] at e
    obtain ⟨ps, _, e⟩ := Option.bind_eq_some_iff.1 e
    split at e
    · simp only [Option.some.injEq, Prod.mk.injEq] at e; exact e.2.symm
    · cases e
  | binOp op t x y z =>
    simp only [aop] at e
    obtain ⟨a, _, e⟩ := Option.bind_eq_some_iff.1 e
    obtain ⟨b, _, e⟩ := Option.bind_eq_some_iff.1 e
    exact bind_same e
  | unOp op t x =>
    simp only [aop] at e
    obtain ⟨a, _, e⟩ := Option.bind_eq_some_iff.1 e
    exact bind_same e
  | makeInterface t x =>
    simp only [aop] at e
    obtain ⟨a, _, e⟩ := Option.bind_eq_some_iff.1 e
    split at e
    · split at e
      · cases e
      · simp only [Option.some.injEq, Prod.mk.injEq] at e; exact e.2.symm
    · cases e
  | makeFunc fn a b =>
    simp only [aop] at e
    obtain ⟨a, _, e⟩ := Option.bind_eq_some_iff.1 e
    exact bind_same e
  | fieldAddr t x f =>
    simp only [aop] at e
    obtain ⟨a, _, e⟩ := Option.bind_eq_some_iff.1 e
    exact bind_same e
  | field t x f =>
    simp only [aop] at e
    obtain ⟨a, _, e⟩ := Option.bind_eq_some_iff.1 e
    exact bind_same e
  | indexAddr t x i =>
    simp only [aop] at e
    obtain ⟨a, _, e⟩ := Option.bind_eq_some_iff.1 e
    obtain ⟨b, _, e⟩ := Option.bind_eq_some_iff.1 e
    exact bind_same e
  | index t x i =>
    simp only [aop] at e
    obtain ⟨a, _, e⟩ := Option.bind_eq_some_iff.1 e
    obtain ⟨b, _, e⟩ := Option.bind_eq_some_iff.1 e
    exact bind_same e
  | typeAssert x a t ok =>
    simp only [aop] at e
    obtain ⟨a, _, e⟩ := Option.bind_eq_some_iff.1 e
    exact bind_same e
  | extract x i =>
    simp only [aop] at e
    obtain ⟨a, _, e⟩ := Option.bind_eq_some_iff.1 e
    exact bind_same e
  | _ => cases hq

theorem runD_trd {ex pu : List Nat} {q : Nat} {K : Heap → Prop} : ∀ (l : List Oper) (F F' : Frm) (H H' : Heap), (∀ o ∈ l, exempt ex o = false) → (∀ o ∈ l, exempt pu o = false) → (∀ H, K H) → runD P G ops.toArray l F H = some (F', H') → ∀ {l2 F2 H2}, Trd P G Ext ops ex pu q K l2 F' H' F2 H2 → Trd P G Ext ops ex pu q K (l ++ l2) F H F2 H2
  | [], F, F', H, H', _, _, _, e, l2, F2, H2, ht => by
    simp only [runD, Option.some.injEq, Prod.mk.injEq] at e
    obtain ⟨rfl, rfl⟩ := e
    exact ht
  | o :: l, F, F', H, H', hex, hpx, hK, e, l2, F2, H2, ht => by
    simp only [runD] at e
    obtain ⟨t, hw, e⟩ := Option.bind_eq_some_iff.1 e
    have hex' := fun o ho => hex o (List.mem_cons_of_mem _ ho)
    have hpx' := fun o ho => hpx o (List.mem_cons_of_mem _ ho)
    have hno : exempt ex o = true → False := fun q => by rw [hex o (by simp)] at q; cases q
    have hnp : exempt pu o = true → False := fun q => by rw [hpx o (by simp)] at q; cases q
    have hlx : loudX pu o = isLoud o := by unfold loudX; rw [hpx o (by simp)]; simp
    cases t with
    | false =>
      simp only [Bool.false_eq_true, if_false] at e
      obtain ⟨F1, hp, e⟩ := Option.bind_eq_some_iff.1 e
      exact .step (.unwanted hw) (fun _ => rfl) (fun _ _ => .unwanted hw) (fun _ _ _ _ _ => .unwanted hw) (fun _ => hK _) hp (runD_trd l F1 F' H H' hex' hpx' hK e ht)
    | true =>
      simp only [if_true] at e
      obtain ⟨⟨r, h1⟩, hr, e⟩ := Option.bind_eq_some_iff.1 e
      cases r with
      | val v =>
        simp only [] at e
        split at e
        · rename_i hc
          obtain ⟨F1, hp, e⟩ := Option.bind_eq_some_iff.1 e
          have hh : isLoud o = false → h1 = H := fun hq => aop_quiet_heap hq hr (by rw [hq] at hc; simpa using hc)
          refine .step (.val hw hr) (hlx ▸ hh) (fun hpu H2 => ?_) (fun _ q => (hno q).elim) (fun _ => hK _) hp (runD_trd l F1 F' h1 H' hex' hpx' hK e ht)
          replace hpu := hpu.resolve_right hnp
          have hlo : isLoud o = false := by unfold isLoud; rw [hpu]; rfl
          have := hh hlo
          subst this
          exact .val hw (aop_pure hpu hr)
        · cases e
      | skip =>
        simp only [] at e
        split at e
        · rename_i hc
          obtain ⟨F1, hp, e⟩ := Option.bind_eq_some_iff.1 e
          refine .step (.skip hw hr) (fun q => by rw [hlx, hc] at q; cases q) (fun hpu => ?_) (fun _ q => (hno q).elim) (fun _ => hK _) hp (runD_trd l F1 F' h1 H' hex' hpx' hK e ht)
          replace hpu := hpu.resolve_right hnp
          unfold isLoud at hc; rw [hpu] at hc; cases hc
        · cases e
      | _ => cases e

/-- A region without calls that draws its order. -/
theorem Wp.runDr {id : Nat} {ops : List Oper} {fr fr' : Frm} {u : Option FrameMode} {h h' : Heap} {Q : Exit → Frm → Option FrameMode → Heap → Prop} (hm : P.follows .mixedOrders = true) (hd : drawable ops [] [] 0 = true)
    (hr : runD P G ops.toArray ops fr h = some (fr', h')) (hq : Q .normal fr' u h') : Wp P G Ext (.region id ops.toArray true) fr u h Q := by
  refine Wp.drawT [] [] 0 (fun _ => True) hm hd trivial ?_ hq
  have := runD_trd (Ext := Ext) (ops := ops) (ex := []) (pu := []) (q := 0) (K := fun _ => True) ops fr fr' h h' (fun o _ => exempt_nil o) (fun o _ => exempt_nil o) (fun _ => trivial) hr .nil
  simpa using this

/-! ### loops -/
/-- Each of these slots holds this. -/
def holds (l : List (Nat × Value)) (s : List (Nat × Value)) : Prop :=
  match l with
  | [] => True
  | (k, v) :: l => look k s = some v ∧ holds l s
theorem holds_look : ∀ {l s : List (Nat × Value)}, holds l s → ∀ t v, look t l = some v → look t s = some v
  | [], _, _, t, v, h => by simp [look] at h
  | (k, u) :: l, s, ⟨h1, h2⟩, t, v, h => by
    simp only [look] at h
    split at h
    · rename_i e; subst e; cases h; exact h1
    · exact holds_look h2 t v h
theorem Frm.le_of {n : Nat} {l s : List (Nat × Value)} {d : List Deferred} (h : holds l s) : (⟨n, l, d⟩ : Frm).le ⟨n, s, d⟩ := ⟨rfl, rfl, holds_look h⟩

/-- A loop: X tells what is the same at every round's head: the slots and the heap; a measure goes down. -/
theorem Wp.loopI {X : Type} {c : Code} {n : Nat} {s : List (Nat × Value)} {d : List Deferred} {u : Option FrameMode} {h : Heap} {Q : Exit → Frm → Option FrameMode → Heap → Prop}
    (F : X → List (Nat × Value)) (H : X → Heap) (I : X → Prop) (μ : X → Nat) (x0 : X) (hI : I x0) (hF : holds (F x0) s) (hH : H x0 = h)
    (round : ∀ x, I x → Wp P G Ext c ⟨n, F x, d⟩ u (H x) (after (fun fr' u' h' => ∃ x' s', I x' ∧ μ x' < μ x ∧ fr' = ⟨n, s', d⟩ ∧ holds (F x') s' ∧ u' = u ∧ h' = H x') Q)) :
    Wp P G Ext (.loop c) ⟨n, s, d⟩ u h Q := by
  have key : ∀ k x, μ x = k → I x → Wp P G Ext (.loop c) ⟨n, F x, d⟩ u (H x) Q := by
    intro k
    induction k using Nat.strongRecOn with
    | _ k ih =>
      intro x hk hx
      refine Wp.loop ((round x hx).mono ?_)
      intro e fr' u' h' hq
      cases e with
      | normal =>
        obtain ⟨x', s', h1, h2, rfl, h4, rfl, rfl⟩ := hq
        exact Wp.weaken (Frm.le_of h4) (ih (μ x') (by omega) x' rfl h1)
      | _ => exact hq
  subst hH
  exact Wp.weaken (Frm.le_of hF) (key _ x0 rfl hI)
end
end Go.Mini
