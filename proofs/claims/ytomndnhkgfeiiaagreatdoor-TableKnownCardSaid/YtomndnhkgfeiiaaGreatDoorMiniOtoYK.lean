/-
  Parts MiniO to MiniYK.
-/
import Derived.Test.YtomndnhkgfeiiaaGreatDoorMiniJtoN
import Derived.IntWalk
import Derived.KernelRfl
import Derived.ProofKit
import Derived.SliceStrings
import Derived.SizedLaws
section
/-
  MINI, part O: rules for regions that draw; loops; frames that tell the same.
-/
namespace Go.Mini

/-! ### regions that draw -/
def exempt (ex : List Nat) (o : Oper) : Bool := match o.dst with | some d => ex.contains d | none => false
def pairs : List Oper → Nat → List (Nat × Oper)
  | [], _ => []
  | o :: l, i => (i, o) :: pairs l (i + 1)
theorem exempt_nil (o : Oper) : exempt [] o = false := by unfold exempt; cases o.dst <;> rfl
/-- Loud, and not known to be quiet ('pu': the slots of those operations that yield the same whatever the memory, and leave it). -/
def loudX (pu : List Nat) (o : Oper) : Bool := isLoud o && !exempt pu o
def readX (ex pu : List Nat) (o : Oper) : Bool := isReader o && !exempt ex o && !exempt pu o
def pairOk (ops : List Oper) (ms : List Nat) (ex pu : List Nat) (i : Nat) (x : Oper) (j : Nat) (y : Oper) : Bool :=
  !(decide (i < j)) || (ms.getD j 0).testBit i ||
    (!(loudX pu x && loudX pu y) && !clash ops x y && !(loudX pu x && readX ex pu y) && !(readX ex pu x && loudX pu y))
/-- May the region's order be left to the tape? 'ex': the slots of those reads that need not be ordered with what writes, but come ahead of what writes among the last q operations. -/
def drawable (ops : List Oper) (ex pu : List Nat) (q : Nat) : Bool :=
  let ms := masks [] ops
  let l := pairs ops 0
  let n := ops.length - q
  decide (q ≤ ops.length) && l.all (fun p => p.2.after.all fun e => !Region.binds .any e || decide (e.on < p.1)) && l.all (fun p => l.all fun q => pairOk ops ms ex pu p.1 p.2 q.1 q.2) &&
    l.all fun p => !(isReader p.2 && exempt ex p.2 && !exempt pu p.2) || l.all fun r => !(loudX pu r.2 && decide (n ≤ r.1)) || (ms.getD r.1 0).testBit p.1

theorem mem_pairs : ∀ (l : List Oper) (i j : Nat) (o : Oper), l[j]? = some o → (i + j, o) ∈ pairs l i
  | [], _, _, _, h => by simp at h
  | p :: l, i, 0, o, h => by simp at h; subst h; simp [pairs]
  | p :: l, i, j + 1, o, h => by
    simp only [List.getElem?_cons_succ] at h
    simp only [pairs]
    exact List.mem_cons_of_mem _ (by have := mem_pairs l (i + 1) j o h; rwa [show i + 1 + j = i + (j + 1) by omega] at this)

section
variable {P : Program} {G : Nat} {Ext : FuncId → List Value → Heap → Value → Heap → Prop} {ops : List Oper}

/-- A run in the text's order, with what is asked of each operation that does not turn the memory. -/
inductive Trd (P : Program) (G : Nat) (Ext : FuncId → List Value → Heap → Value → Heap → Prop) (ops : List Oper) (ex pu : List Nat) (q : Nat) (K : Heap → Prop) : List Oper → Frm → Heap → Frm → Heap → Prop where
  | nil {F H} : Trd P G Ext ops ex pu q K [] F H F H
  | step {o l F H v H1 F1 F2 H2} : St P G Ext ops o F H v H1 → (loudX pu o = false → H1 = H) → (isPure o = true ∨ exempt pu o = true → ∀ H', St P G Ext ops o F H' v H') →
      (isReader o = true → exempt ex o = true → exempt pu o = false → ∀ H', K H' → St P G Ext ops o F H' v H') →
      (q ≤ l.length → K H1) → F.put o.dst v = some F1 → Trd P G Ext ops ex pu q K l F1 H1 F2 H2 → Trd P G Ext ops ex pu q K (o :: l) F H F2 H2

theorem Trd.trace {ex pu : List Nat} {q : Nat} {K : Heap → Prop} {l : List Oper} {F F' : Frm} {H H' : Heap} (h : Trd P G Ext ops ex pu q K l F H F' H') (hK : q ≤ l.length → K H) :
    ∃ (V : Nat → Value) (HH : Nat → Heap) (FF : Nat → Frm), FF 0 = F ∧ HH 0 = H ∧ FF l.length = F' ∧ HH l.length = H' ∧ (∀ i, i + q ≤ l.length → K (HH i)) ∧ ∀ i o, l[i]? = some o →
      St P G Ext ops o (FF i) (HH i) (V i) (HH (i + 1)) ∧ (FF i).put o.dst (V i) = some (FF (i + 1)) ∧ (loudX pu o = false → HH (i + 1) = HH i) ∧ (isPure o = true ∨ exempt pu o = true → ∀ H2, St P G Ext ops o (FF i) H2 (V i) H2) ∧
      (isReader o = true → exempt ex o = true → exempt pu o = false → ∀ H2, K H2 → St P G Ext ops o (FF i) H2 (V i) H2) := by
  induction h with
  | nil => exact ⟨fun _ => undef, fun _ => _, fun _ => _, rfl, rfl, rfl, rfl, fun i hi => hK (by omega), fun i o h => by simp at h⟩
  | @step o l F H v H1 F1 F2 H2 h1 h2 h3 h4 hk1 h5 _ ih =>
    obtain ⟨V, HH, FF, e1, e2, e3, e4, e5, e6⟩ := ih hk1
    refine ⟨fun i => match i with | 0 => v | i + 1 => V i, fun i => match i with | 0 => H | i + 1 => HH i, fun i => match i with | 0 => F | i + 1 => FF i, rfl, rfl, e3, e4, ?_, ?_⟩
    · intro i hi
      cases i with
      | zero => exact hK (by simpa using hi)
      | succ i => exact e5 i (by simp only [List.length_cons] at hi; omega)
    · intro i o hi
      cases i with
      | zero =>
        simp only [List.getElem?_cons_zero, Option.some.injEq] at hi
        subst hi
        simp only [e1, e2]
        exact ⟨h1, h5, h2, h3, h4⟩
      | succ i => exact e6 i o (by simpa using hi)

/-- How far the loud ones are done, where they stand in one order. -/
def cOf (ops : List Oper) (pu : List Nat) (L : Nat → Bool) : Nat := ((List.range ops.length).find? fun l => ((ops[l]?).map (loudX pu)).getD false && !L l).getD ops.length
theorem cOf_le (ops : List Oper) (pu : List Nat) (L : Nat → Bool) : cOf ops pu L ≤ ops.length := by
  unfold cOf
  cases h : (List.range ops.length).find? _ with
  | none => simp
  | some l => have := List.mem_of_find?_eq_some h; simp at this; simp; omega
theorem cOf_below {ops : List Oper} {pu : List Nat} {L : Nat → Bool} {l : Nat} {y : Oper} (hy : ops[l]? = some y) (hl : loudX pu y = true) (hlt : l < cOf ops pu L) : L l = true := by
  have hb := lt_length hy
  unfold cOf at hlt
  cases h : (List.range ops.length).find? (fun l => ((ops[l]?).map (loudX pu)).getD false && !L l) with
  | none =>
    have := List.find?_eq_none.1 h l (by simpa using hb)
    simpa [hy, hl] using this
  | some c =>
    rw [h, Option.getD_some] at hlt
    obtain ⟨_, as, bs, e, hno⟩ := List.find?_eq_some_iff_append.1 h
    have hmem : l ∈ as := by
      have hc : (List.range ops.length)[as.length]? = some c := by rw [e]; simp
      rw [List.getElem?_range (by have := congrArg List.length e; simp at this; omega)] at hc
      cases hc
      have hl2 : (List.range ops.length)[l]? = some l := by rw [List.getElem?_range hb]
      rw [e, List.getElem?_append_left hlt] at hl2
      exact List.mem_of_getElem? hl2
    have := hno l hmem
    simpa [hy, hl] using this
theorem cOf_not {ops : List Oper} {pu : List Nat} {L : Nat → Bool} (h : cOf ops pu L < ops.length) : ∃ y, ops[cOf ops pu L]? = some y ∧ loudX pu y = true ∧ L (cOf ops pu L) = false := by
  cases e : (List.range ops.length).find? (fun l => ((ops[l]?).map (loudX pu)).getD false && !L l) with
  | none => unfold cOf at h; rw [e] at h; simp at h
  | some c =>
    have hc : cOf ops pu L = c := by unfold cOf; rw [e]; rfl
    rw [hc]
    have := List.find?_some e
    have hb : c < ops.length := by rw [hc] at h; exact h
    have ho : ops[c]? = some ops[c] := List.getElem?_eq_getElem hb
    rw [ho] at this
    simp only [Option.map_some, Option.getD_some, Bool.and_eq_true, Bool.not_eq_true'] at this
    exact ⟨_, ho, this.1, this.2⟩
theorem cOf_ext {ops : List Oper} {pu : List Nat} {L L' : Nat → Bool} (h : ∀ j, j < ops.length → L j = L' j) : cOf ops pu L = cOf ops pu L' := by
  have key : ∀ l : List Nat, (∀ j ∈ l, j < ops.length) → l.find? (fun l => ((ops[l]?).map (loudX pu)).getD false && !L l) = l.find? (fun l => ((ops[l]?).map (loudX pu)).getD false && !L' l) := by
    intro l
    induction l with
    | nil => intro _; rfl
    | cons a l ih =>
      intro hl
      rw [List.find?_cons, List.find?_cons, h a (hl a (by simp)), ih fun j hj => hl j (by simp [hj])]
  unfold cOf
  rw [key _ (fun j hj => by simpa using hj)]

theorem Wp.drawT {id : Nat} {fr fr' : Frm} {u : Option FrameMode} {h h' : Heap} {Q : Exit → Frm → Option FrameMode → Heap → Prop} (ex pu : List Nat) (q : Nat) (K : Heap → Prop) (hm : P.follows .mixedOrders = true) (hd : drawable ops ex pu q = true) (hK : K h)
    (ht : Trd P G Ext ops ex pu q K ops fr h fr' h') (hq : Q .normal fr' u h') : Wp P G Ext (.region id ops.toArray true) fr u h Q := by
  obtain ⟨V, HH, FF, e1, e2, e3, e4, e5, e6⟩ := ht.trace (fun _ => hK)
  unfold drawable at hd
  simp only [Bool.and_eq_true, List.all_eq_true] at hd
  obtain ⟨⟨⟨hd0, hd1⟩, hd2⟩, hd3⟩ := hd
  replace hd0 := of_decide_eq_true hd0
  have hpair : ∀ i j x y, i < j → ops[i]? = some x → ops[j]? = some y → ahead ops i j = true ∨ (¬ (loudX pu x = true ∧ loudX pu y = true) ∧ clash ops x y = false ∧ ¬ (loudX pu x = true ∧ readX ex pu y = true) ∧ ¬ (readX ex pu x = true ∧ loudX pu y = true)) := by
    intro i j x y hij hx hy
    have := hd2 _ (by simpa using mem_pairs ops 0 i x hx) _ (by simpa using mem_pairs ops 0 j y hy)
    unfold pairOk at this
    simp only [decide_eq_true hij, Bool.not_true, Bool.false_or, Bool.or_eq_true, Bool.and_eq_true, Bool.not_eq_true', Bool.and_eq_false_iff] at this
    rcases this with h | ⟨⟨⟨h1, h2⟩, h3⟩, h4⟩
    · exact .inl h
    · refine .inr ⟨?_, h2, ?_, ?_⟩
      · rintro ⟨q1, q2⟩; rcases h1 with h1 | h1 <;> simp_all
      · rintro ⟨q1, q2⟩; rcases h3 with h3 | h3 <;> simp_all
      · rintro ⟨q1, q2⟩; rcases h4 with h4 | h4 <;> simp_all
  have hback : ∀ i o, ops[i]? = some o → ∀ e ∈ o.after, Region.binds .any e = true → e.on < i := by
    intro i o ho e he hb
    have := hd1 _ (by simpa using mem_pairs ops 0 i o ho)
    have h2 := (Array.all_eq_true_iff_forall_mem.1 this) e he
    simp only [hb, Bool.not_true, Bool.false_or] at h2
    exact of_decide_eq_true h2
  have hloud : ∀ i j x y, i < j → ops[i]? = some x → ops[j]? = some y → loudX pu x = true → loudX pu y = true → ahead ops i j = true :=
    fun i j x y hij hx hy lx ly => (hpair i j x y hij hx hy).resolve_right fun h => h.1 ⟨lx, ly⟩
  have hsame : ∀ c i, c ≤ ops.length → i ≤ ops.length → (∀ l y, ops[l]? = some y → loudX pu y = true → (l < i ↔ l < c)) → HH c = HH i := by
    have hconst : ∀ a b, a ≤ b → b ≤ ops.length → (∀ l y, a ≤ l → l < b → ops[l]? = some y → loudX pu y = false) → HH b = HH a := by
      intro a b
      induction b with
      | zero => intro h _ _; have : a = 0 := by omega
                subst this; rfl
      | succ b ih =>
        intro h hb hno
        by_cases e : a = b + 1
        · subst e; rfl
        · have ho : ops[b]? = some ops[b] := List.getElem?_eq_getElem (by omega)
          rw [(e6 b _ ho).2.2.1 (hno b _ (by omega) (by omega) ho)]
          exact ih (by omega) (by omega) fun l y h1 h2 => hno l y h1 (by omega)
    intro c i hc hi hl
    rcases Nat.le_total c i with q | q
    · refine (hconst c i q hi fun l y h1 h2 hy => ?_).symm
      cases hly : loudX pu y with
      | false => rfl
      | true => have := (hl l y hy hly).1 h2; omega
    · refine hconst i c q hc fun l y h1 h2 hy => ?_
      cases hly : loudX pu y with
      | false => rfl
      | true => have := (hl l y hy hly).2 h2; omega
  -- where all edges of what is done are met, the loud ones that are done are a beginning of them
  have hcount : ∀ L, Closed ops L → ∀ l y, ops[l]? = some y → loudX pu y = true → (L l = true ↔ l < cOf ops pu L) := by
    intro L hL l y hy hly
    constructor
    · intro hl
      rcases Nat.lt_or_ge l (cOf ops pu L) with q | q
      · exact q
      · obtain ⟨z, hz, hlz, hnz⟩ := cOf_not (L := L) (pu := pu) (Nat.lt_of_le_of_lt q (lt_length hy))
        rcases Nat.lt_or_ge (cOf ops pu L) l with q2 | q2
        · have := ahead_closed ops (fun j => L j = true) hback (fun j x hj hx => hL j x hx hj) l y hy (hL l y hy hl) _ (hloud _ _ z y q2 hz hy hlz hly)
          rw [hnz] at this; cases this
        · have : l = cOf ops pu L := by omega
          rw [this, hnz] at hl; cases hl
    · exact fun h => cOf_below hy hly h
  have hdr : Drawn P G Ext ops V (fun L => HH (cOf ops pu L)) FF := {
    back := hback
    slot := by
      intro i j x y hij hx hy hc
      exact (hpair i j x y hij hx hy).resolve_right fun h => by rw [h.2.1] at hc; cases hc
    ext := fun L L' h => by rw [cOf_ext h]
    put := fun i o ho => (e6 i o ho).2.1
    st := by
      intro L i o hL ho hnot hpre
      have hil := lt_length ho
      have hL' : Closed ops (also L i) := by
        intro j x hx hj e he hb
        unfold also
        split
        · rfl
        · unfold also at hj
          split at hj
          · rename_i q; subst q; rw [ho] at hx; cases hx; exact hpre e he hb
          · exact hL j x hx hj e he hb
      have hmet : ∀ j, ahead ops j i = true → L j = true := ahead_closed ops (fun j => L j = true) hback (fun j x hj hx => hL j x hx hj) i o ho hpre
      have hunmet : ∀ j x, ops[j]? = some x → ahead ops i j = true → L j = false := by
        intro j x hx ha
        cases e : L j with
        | false => rfl
        | true =>
          have := ahead_closed ops (fun j => L j = true) hback (fun j x hj hx => hL j x hx hj) j x hx (hL j x hx e) i ha
          rw [hnot] at this; cases this
      have hc := cOf_le ops pu L
      have hc' := cOf_le ops pu (also L i)
      have hcnt := hcount L hL
      have hcnt' := hcount _ hL'
      cases hlo : loudX pu o with
      | false =>
        have hsm : HH (cOf ops pu (also L i)) = HH (cOf ops pu L) := hsame _ _ hc' hc fun l y hy hly => by
          have hne : l ≠ i := by rintro rfl; rw [ho] at hy; cases hy; rw [hlo] at hly; cases hly
          rw [← hcnt l y hy hly, ← hcnt' l y hy hly]
          unfold also; rw [if_neg hne]
        rw [hsm]
        by_cases hp : isPure o = true ∨ exempt pu o = true
        · exact (e6 i o ho).2.2.2.1 hp _
        · have hp1 : isPure o = false := by cases q : isPure o with | false => rfl | true => exact absurd (.inl q) hp
          have hp2 : exempt pu o = false := by cases q : exempt pu o with | false => rfl | true => exact absurd (.inr q) hp
          have hrd : isReader o = true := by
            unfold loudX isLoud at hlo
            rw [hp1, hp2] at hlo
            simpa using hlo
          by_cases hex : exempt ex o = true
          · have hafter : ∀ l y, ops[l]? = some y → loudX pu y = true → ops.length - q ≤ l → ahead ops i l = true := by
              intro l y hy hly hql
              have h1 := hd3 _ (by simpa using mem_pairs ops 0 i o ho)
              simp only [hrd, hex, hp2, Bool.not_false, Bool.and_self, Bool.not_true, Bool.false_or, List.all_eq_true] at h1
              have h2 := h1 _ (by simpa using mem_pairs ops 0 l y hy)
              simp only [hly, decide_eq_true hql, Bool.and_self, Bool.not_true, Bool.false_or] at h2
              exact h2
            have hcc : HH (cOf ops pu L) = HH (min (cOf ops pu L) (ops.length - q)) := hsame _ _ hc (by omega) fun l y hy hly => by
              constructor
              · intro h; omega
              · intro h
                rcases Nat.lt_or_ge l (ops.length - q) with q1 | q1
                · omega
                · have := hunmet l y hy (hafter l y hy hly q1)
                  rw [(hcnt l y hy hly).2 h] at this; cases this
            rw [hcc]
            exact (e6 i o ho).2.2.2.2 hrd hex hp2 _ (e5 _ (by omega))
          · have hrx : readX ex pu o = true := by unfold readX; rw [hrd, hp2]; simpa using hex
            have hci : HH (cOf ops pu L) = HH i := hsame _ i hc (by omega) fun l y hy hly => by
              constructor
              · intro hli
                have := (hpair l i y o hli hy ho).resolve_right fun h => h.2.2.1 ⟨hly, hrx⟩
                exact (hcnt l y hy hly).1 (hmet l this)
              · intro hlc
                rcases Nat.lt_trichotomy l i with q | q | q
                · exact q
                · subst q
                  rw [ho] at hy; cases hy
                  rw [hlo] at hly; cases hly
                · have := (hpair i l o y q ho hy).resolve_right fun h => h.2.2.2 ⟨hrx, hly⟩
                  have := hunmet l y hy this
                  rw [(hcnt l y hy hly).2 hlc] at this; cases this
            have h1 := (e6 i o ho).1
            rw [(e6 i o ho).2.2.1 hlo] at h1
            rw [hci]; exact h1
      | true =>
        have hci : HH (cOf ops pu L) = HH i := hsame _ i hc (by omega) fun l y hy hly => by
          rw [← hcnt l y hy hly]
          constructor
          · intro hli; exact hmet l (hloud l i y o hli hy ho hly hlo)
          · intro hl
            rcases Nat.lt_trichotomy l i with q | q | q
            · exact q
            · subst q; rw [hnot] at hl; cases hl
            · rw [hunmet l y hy (hloud i l o y q ho hy hlo hly)] at hl; cases hl
        have hci' : HH (cOf ops pu (also L i)) = HH (i + 1) := hsame _ (i + 1) hc' (by omega) fun l y hy hly => by
          rw [← hcnt' l y hy hly]
          unfold also
          constructor
          · intro hli
            split
            · rfl
            · exact hmet l (hloud l i y o (by omega) hy ho hly hlo)
          · split
            · intro _; omega
            · rename_i hne
              intro hl
              rcases Nat.lt_or_ge l (i + 1) with q | q
              · exact q
              · rw [hunmet l y hy (hloud i l o y (by omega) ho hy hlo hly)] at hl; cases hl
        rw [hci, hci']
        exact (e6 i o ho).1 }
  have hb := hdr.big (id := id) (u := u) hm
  have h0 : HH (cOf ops pu fun _ => false) = h := by
    rw [← e2]
    refine hsame _ 0 (cOf_le _ _ _) (Nat.zero_le _) fun l y hy hly => ⟨fun q => by omega, fun q => ?_⟩
    have := cOf_below hy hly q; cases this
  have h1 : HH (cOf ops pu fun _ => true) = h' := by
    rw [← e4]
    refine hsame _ _ (cOf_le _ _ _) (Nat.le_refl _) fun l y hy hly => ⟨fun _ => ?_, fun _ => lt_length hy⟩
    rcases Nat.lt_or_ge l (cOf ops pu fun _ => true) with q | q
    · exact q
    · obtain ⟨z, hz, hlz, hnz⟩ := cOf_not (L := fun _ => true) (pu := pu) (Nat.lt_of_le_of_lt q (lt_length hy))
      cases hnz
  rw [h0, h1, e1, e3] at hb
  exact ⟨_, _, _, _, hb, hq⟩

/-- Operations without calls, carried out in the text's order, where the order is drawn. -/
noncomputable def runD (P : Program) (G : Nat) (ops : Array Oper) : List Oper → Frm → Heap → Option (Frm × Heap)
  | [], fr, h => some (fr, h)
  | o :: l, fr, h => (awanted ops fr o).bind fun t =>
    if t then (aop P (aev G fr) o h).bind fun r =>
      match r with
      | (.val v, h1) => if isLoud o || decide (h1.next = h.next) then (fr.put o.dst v).bind fun fr1 => runD P G ops l fr1 h1 else none
      | (.skip, h1) => if isLoud o then (fr.put o.dst undef).bind fun fr1 => runD P G ops l fr1 h1 else none
      | _ => none
    else (fr.put o.dst undef).bind fun fr1 => runD P G ops l fr1 h

theorem aslice_heap {P : Program} {h h1 : Heap} {t : TypeId} {x v : Value} {lo hi mx : Option Value} (e : aslice P h t x lo hi mx = some (v, h1)) (hn : h1.next = h.next) : h1 = h := by
  unfold aslice at e
  split at e
  · split at e
    · cases e
    · obtain ⟨ti, _, e⟩ := Option.bind_eq_some_iff.1 e
      obtain ⟨hh, _, e⟩ := Option.bind_eq_some_iff.1 e
      obtain ⟨l, _, e⟩ := Option.bind_eq_some_iff.1 e
      simp only [Option.some.injEq, Prod.mk.injEq] at e
      exact e.2.symm
  · split at e
    · cases e
    · obtain ⟨hh, _, e⟩ := Option.bind_eq_some_iff.1 e
      obtain ⟨l, _, e⟩ := Option.bind_eq_some_iff.1 e
      simp only [Option.some.injEq, Prod.mk.injEq] at e
      exact e.2.symm
  · obtain ⟨ti, _, e⟩ := Option.bind_eq_some_iff.1 e
    split at e
    · split at e
      · obtain ⟨hh, _, e⟩ := Option.bind_eq_some_iff.1 e
        obtain ⟨l, _, e⟩ := Option.bind_eq_some_iff.1 e
        split at e
        · simp only [Option.some.injEq, Prod.mk.injEq] at e
          exact e.2.symm
        · split at e
          · simp only [Option.some.injEq, Prod.mk.injEq] at e
            exact e.2.symm
          · split at e
            · simp only [Option.some.injEq, Prod.mk.injEq] at e
              exact e.2.symm
            · simp only [Option.some.injEq, Prod.mk.injEq] at e
              rw [← e.2] at hn
              simp [Heap.alloc] at hn
      · cases e
    · obtain ⟨mm, _, e⟩ := Option.bind_eq_some_iff.1 e
      obtain ⟨hh, _, e⟩ := Option.bind_eq_some_iff.1 e
      obtain ⟨l, _, e⟩ := Option.bind_eq_some_iff.1 e
      split at e
      · split at e
        · cases e
        · simp only [Option.some.injEq, Prod.mk.injEq] at e
          exact e.2.symm
      · cases e
  · cases e

theorem bind_same {α : Type} {o : Option α} {f : α → AN} {h h1 : Heap} {x : AN} (e : (o.bind fun v => some (f v, h)) = some (x, h1)) : h1 = h := by
  cases o with
  | none => cases e
  | some v => simp only [Option.bind_some, Option.some.injEq, Prod.mk.injEq] at e; exact e.2.symm

theorem aop_quiet_heap {ρ : Operand → Option Value} {o : Oper} {h h1 : Heap} {v : Value} (hq : isLoud o = false) (e : aop P ρ o h = some (.val v, h1)) (hn : h1.next = h.next) : h1 = h := by
  obtain ⟨dst, op, type, pos, after, guard⟩ := o
  cases op with
  | call c =>
    obtain ⟨callee, args, ats⟩ := c
    cases callee with
    | builtin b =>
      cases b <;> try (cases hq; done)
      all_goals
        simp only [aop] at e
        obtain ⟨as, _, e⟩ := Option.bind_eq_some_iff.1 e
        unfold abuiltin at e
        split at e <;> first
          | (cases e; done)
          | exact bind_same e
          | (rename_i q _ _; cases q; done)
          | (rename_i q _; cases q; done)
    | value => cases hq
    | invoke => cases hq
  | slice t x lo hi mx =>
    simp only [aop] at e
    obtain ⟨a, _, e⟩ := Option.bind_eq_some_iff.1 e
    obtain ⟨l, _, e⟩ := Option.bind_eq_some_iff.1 e
    obtain ⟨hh, _, e⟩ := Option.bind_eq_some_iff.1 e
    obtain ⟨mm, _, e⟩ := Option.bind_eq_some_iff.1 e
    obtain ⟨⟨v', h'⟩, hs, e⟩ := Option.bind_eq_some_iff.1 e
    simp only [Option.some.injEq, Prod.mk.injEq, AN.val.injEq] at e
    rw [← e.2] at hn ⊢
    exact aslice_heap hs hn
  | move => exact bind_same e
  | assign => exact bind_same e
  | pick c a b =>
    simp only [aop] at e
    obtain ⟨cv, _, e⟩ := Option.bind_eq_some_iff.1 e
    split at e
    · exact bind_same e
    · cases e
  | build t parts =>
    simp only [aop] at e
    obtain ⟨ps, _, e⟩ := Option.bind_eq_some_iff.1 e
    exact bind_same e
  | load t a =>
    simp only [aop] at e
    obtain ⟨ps, _, e⟩ := Option.bind_eq_some_iff.1 e
    exact bind_same e
  | nilCheck x =>
    simp only [aop] at e
    obtain ⟨ps, _, e⟩ := Option.bind_eq_some_iff.1 e
    split at e
    · simp only [Option.some.injEq, Prod.mk.injEq] at e; exact e.2.symm
    · cases e
  | binOp op t x y z =>
    simp only [aop] at e
    obtain ⟨a, _, e⟩ := Option.bind_eq_some_iff.1 e
    obtain ⟨b, _, e⟩ := Option.bind_eq_some_iff.1 e
    exact bind_same e
  | unOp op t x =>
    simp only [aop] at e
    obtain ⟨a, _, e⟩ := Option.bind_eq_some_iff.1 e
    exact bind_same e
  | makeInterface t x =>
    simp only [aop] at e
    obtain ⟨a, _, e⟩ := Option.bind_eq_some_iff.1 e
    split at e
    · split at e
      · cases e
      · simp only [Option.some.injEq, Prod.mk.injEq] at e; exact e.2.symm
    · cases e
  | makeFunc fn a b =>
    simp only [aop] at e
    obtain ⟨a, _, e⟩ := Option.bind_eq_some_iff.1 e
    exact bind_same e
  | fieldAddr t x f =>
    simp only [aop] at e
    obtain ⟨a, _, e⟩ := Option.bind_eq_some_iff.1 e
    exact bind_same e
  | field t x f =>
    simp only [aop] at e
    obtain ⟨a, _, e⟩ := Option.bind_eq_some_iff.1 e
    exact bind_same e
  | indexAddr t x i =>
    simp only [aop] at e
    obtain ⟨a, _, e⟩ := Option.bind_eq_some_iff.1 e
    obtain ⟨b, _, e⟩ := Option.bind_eq_some_iff.1 e
    exact bind_same e
  | index t x i =>
    simp only [aop] at e
    obtain ⟨a, _, e⟩ := Option.bind_eq_some_iff.1 e
    obtain ⟨b, _, e⟩ := Option.bind_eq_some_iff.1 e
    exact bind_same e
  | typeAssert x a t ok =>
    simp only [aop] at e
    obtain ⟨a, _, e⟩ := Option.bind_eq_some_iff.1 e
    exact bind_same e
  | extract x i =>
    simp only [aop] at e
    obtain ⟨a, _, e⟩ := Option.bind_eq_some_iff.1 e
    exact bind_same e
  | _ => cases hq

theorem runD_trd {ex pu : List Nat} {q : Nat} {K : Heap → Prop} : ∀ (l : List Oper) (F F' : Frm) (H H' : Heap), (∀ o ∈ l, exempt ex o = false) → (∀ o ∈ l, exempt pu o = false) → (∀ H, K H) → runD P G ops.toArray l F H = some (F', H') → ∀ {l2 F2 H2}, Trd P G Ext ops ex pu q K l2 F' H' F2 H2 → Trd P G Ext ops ex pu q K (l ++ l2) F H F2 H2
  | [], F, F', H, H', _, _, _, e, l2, F2, H2, ht => by
    simp only [runD, Option.some.injEq, Prod.mk.injEq] at e
    obtain ⟨rfl, rfl⟩ := e
    exact ht
  | o :: l, F, F', H, H', hex, hpx, hK, e, l2, F2, H2, ht => by
    simp only [runD] at e
    obtain ⟨t, hw, e⟩ := Option.bind_eq_some_iff.1 e
    have hex' := fun o ho => hex o (List.mem_cons_of_mem _ ho)
    have hpx' := fun o ho => hpx o (List.mem_cons_of_mem _ ho)
    have hno : exempt ex o = true → False := fun q => by rw [hex o (by simp)] at q; cases q
    have hnp : exempt pu o = true → False := fun q => by rw [hpx o (by simp)] at q; cases q
    have hlx : loudX pu o = isLoud o := by unfold loudX; rw [hpx o (by simp)]; simp
    cases t with
    | false =>
      simp only [Bool.false_eq_true, if_false] at e
      obtain ⟨F1, hp, e⟩ := Option.bind_eq_some_iff.1 e
      exact .step (.unwanted hw) (fun _ => rfl) (fun _ _ => .unwanted hw) (fun _ _ _ _ _ => .unwanted hw) (fun _ => hK _) hp (runD_trd l F1 F' H H' hex' hpx' hK e ht)
    | true =>
      simp only [if_true] at e
      obtain ⟨⟨r, h1⟩, hr, e⟩ := Option.bind_eq_some_iff.1 e
      cases r with
      | val v =>
        simp only [] at e
        split at e
        · rename_i hc
          obtain ⟨F1, hp, e⟩ := Option.bind_eq_some_iff.1 e
          have hh : isLoud o = false → h1 = H := fun hq => aop_quiet_heap hq hr (by rw [hq] at hc; simpa using hc)
          refine .step (.val hw hr) (hlx ▸ hh) (fun hpu H2 => ?_) (fun _ q => (hno q).elim) (fun _ => hK _) hp (runD_trd l F1 F' h1 H' hex' hpx' hK e ht)
          replace hpu := hpu.resolve_right hnp
          have hlo : isLoud o = false := by unfold isLoud; rw [hpu]; rfl
          have := hh hlo
          subst this
          exact .val hw (aop_pure hpu hr)
        · cases e
      | skip =>
        simp only [] at e
        split at e
        · rename_i hc
          obtain ⟨F1, hp, e⟩ := Option.bind_eq_some_iff.1 e
          refine .step (.skip hw hr) (fun q => by rw [hlx, hc] at q; cases q) (fun hpu => ?_) (fun _ q => (hno q).elim) (fun _ => hK _) hp (runD_trd l F1 F' h1 H' hex' hpx' hK e ht)
          replace hpu := hpu.resolve_right hnp
          unfold isLoud at hc; rw [hpu] at hc; cases hc
        · cases e
      | _ => cases e

/-- A region without calls that draws its order. -/
theorem Wp.runDr {id : Nat} {ops : List Oper} {fr fr' : Frm} {u : Option FrameMode} {h h' : Heap} {Q : Exit → Frm → Option FrameMode → Heap → Prop} (hm : P.follows .mixedOrders = true) (hd : drawable ops [] [] 0 = true)
    (hr : runD P G ops.toArray ops fr h = some (fr', h')) (hq : Q .normal fr' u h') : Wp P G Ext (.region id ops.toArray true) fr u h Q := by
  refine Wp.drawT [] [] 0 (fun _ => True) hm hd trivial ?_ hq
  have := runD_trd (Ext := Ext) (ops := ops) (ex := []) (pu := []) (q := 0) (K := fun _ => True) ops fr fr' h h' (fun o _ => exempt_nil o) (fun o _ => exempt_nil o) (fun _ => trivial) hr .nil
  simpa using this

/-! ### loops -/
/-- Each of these slots holds this. -/
def holds (l : List (Nat × Value)) (s : List (Nat × Value)) : Prop :=
  match l with
  | [] => True
  | (k, v) :: l => look k s = some v ∧ holds l s
theorem holds_look : ∀ {l s : List (Nat × Value)}, holds l s → ∀ t v, look t l = some v → look t s = some v
  | [], _, _, t, v, h => by simp [look] at h
  | (k, u) :: l, s, ⟨h1, h2⟩, t, v, h => by
    simp only [look] at h
    split at h
    · rename_i e; subst e; cases h; exact h1
    · exact holds_look h2 t v h
theorem Frm.le_of {n : Nat} {l s : List (Nat × Value)} {d : List Deferred} (h : holds l s) : (⟨n, l, d⟩ : Frm).le ⟨n, s, d⟩ := ⟨rfl, rfl, holds_look h⟩

/-- A loop: X tells what is the same at every round's head: the slots and the heap; a measure goes down. -/
theorem Wp.loopI {X : Type} {c : Code} {n : Nat} {s : List (Nat × Value)} {d : List Deferred} {u : Option FrameMode} {h : Heap} {Q : Exit → Frm → Option FrameMode → Heap → Prop}
    (F : X → List (Nat × Value)) (H : X → Heap) (I : X → Prop) (μ : X → Nat) (x0 : X) (hI : I x0) (hF : holds (F x0) s) (hH : H x0 = h)
    (round : ∀ x, I x → Wp P G Ext c ⟨n, F x, d⟩ u (H x) (after (fun fr' u' h' => ∃ x' s', I x' ∧ μ x' < μ x ∧ fr' = ⟨n, s', d⟩ ∧ holds (F x') s' ∧ u' = u ∧ h' = H x') Q)) :
    Wp P G Ext (.loop c) ⟨n, s, d⟩ u h Q := by
  have key : ∀ k x, μ x = k → I x → Wp P G Ext (.loop c) ⟨n, F x, d⟩ u (H x) Q := by
    intro k
    induction k using Nat.strongRecOn with
    | _ k ih =>
      intro x hk hx
      refine Wp.loop ((round x hx).mono ?_)
      intro e fr' u' h' hq
      cases e with
      | normal =>
        obtain ⟨x', s', h1, h2, rfl, h4, rfl, rfl⟩ := hq
        exact Wp.weaken (Frm.le_of h4) (ih (μ x') (by omega) x' rfl h1)
      | _ => exact hq
  subst hH
  exact Wp.weaken (Frm.le_of hF) (key _ x0 rfl hI)
end
end Go.Mini
end
section
/-
  MINI, part Q: small laws for walks.
-/
namespace Go.Mini
set_option linter.unusedSimpArgs false
open Go.Lib (strCells strCells_length strCells_oneCell)

def NoExt : FuncId → List Value → Heap → Value → Heap → Prop := fun _ _ _ _ _ => False
theorem noExt_ok (P : Program) (S : Start) : ExtOk P S NoExt := fun _ _ _ _ _ h => h.elim

/-- The heap has grown, and what there was is as it was. -/
def Heap.more (h h' : Heap) : Prop := h.next ≤ h'.next ∧ ∀ j, j < h.next → h'.get j = h.get j
theorem Heap.more_refl (h : Heap) : h.more h := ⟨Nat.le_refl _, fun _ _ => rfl⟩
theorem Heap.more_alloc (h : Heap) (o : AObj) : h.more (h.alloc o) := ⟨Nat.le_succ _, fun _ hj => Heap.get_alloc_old h o hj⟩
theorem Heap.more.trans {a b c : Heap} (h : a.more b) (k : b.more c) : a.more c := ⟨Nat.le_trans h.1 k.1, fun j hj => by rw [k.2 j (by have := h.1; omega), h.2 j hj]⟩
theorem Heap.more.get {a b : Heap} (h : a.more b) {i : Nat} {o : AObj} (e : a.get i = some o) : b.get i = some o := by rw [h.2 i (Heap.lt_of_get e), e]
theorem Heap.more_set_new {h h1 : Heap} (hm : h.more h1) {i : Nat} (hi : h.next ≤ i) (o : AObj) : h.more (h1.set i o) := by
  refine ⟨by simpa using hm.1, fun j hj => ?_⟩
  rw [Heap.get_set_ne (by omega)]
  exact hm.2 j hj
/-- The heap has grown; of what there was at most one object is another. -/
def Heap.but (h : Heap) (i : Nat) (h' : Heap) : Prop := h.next ≤ h'.next ∧ ∀ j, j < h.next → j ≠ i → h'.get j = h.get j
theorem Heap.more.but {a b : Heap} (h : a.more b) (i : Nat) : a.but i b := ⟨h.1, fun j hj _ => h.2 j hj⟩
theorem Heap.but_set (h : Heap) (i : Nat) (o : AObj) (hi : (h.get i).isSome) : h.but i (h.set i o) := ⟨by simp, fun j _ hne => by rw [Heap.get_set h i o j hi, if_neg hne]⟩
theorem Heap.but.trans {a b c : Heap} {i : Nat} (h : a.but i b) (k : b.but i c) : a.but i c := ⟨Nat.le_trans h.1 k.1, fun j hj hne => by rw [k.2 j (by have := h.1; omega) hne, h.2 j hj hne]⟩

theorem Heap.row_of {h : Heap} {i : Nat} {r : Row} (e : h.get i = some (.row r)) : h.row i = some r := Heap.row_some.2 e
theorem Heap.ld_of {h : Heap} {i k : Nat} {r : Row} {v : Value} (e : h.get i = some (.row r)) (hv : r.vs[k]? = some v) : h.ld i k = some v := by
  unfold Heap.ld; rw [Heap.row_of e]; simpa using hv
theorem Heap.lds_of {h : Heap} {i k n : Nat} {r : Row} (e : h.get i = some (.row r)) (hn : k + n ≤ r.vs.length) : h.lds i k n = some ((r.vs.drop k).take n) := by
  unfold Heap.lds; rw [Heap.row_of e]; simp [hn]
theorem Heap.sts_of {h : Heap} {i k : Nat} {r : Row} {vs : List Value} (e : h.get i = some (.row r)) (hn : k + vs.length ≤ r.vs.length) (ho : r.outer = false) (hr : r.ro = false) :
    h.sts i k vs = some (h.set i (.row { r with vs := splice r.vs k vs })) := by
  unfold Heap.sts; rw [Heap.row_of e]; simp [hn, ho, hr]
theorem Heap.get_set_self {h : Heap} {i : Nat} {o p : AObj} (e : h.get i = some p) : (h.set i o).get i = some o := by
  rw [Heap.get_set h i o i (by simp [e]), if_pos rfl]
theorem abin_ptr_nil {P : Program} {t e : TypeId} (hu : P.underlying t = some (.pointer e)) (a : Option Addr) : abin P .eql t (.pointer a) (.pointer none) = some (.bool a.isNone) := by
  cases a <;> simp [abin, plainEq, eqOp, aeq, hu, aeq0]
theorem abin_ptr_nil' {P : Program} {t e : TypeId} (hu : P.underlying t = some (.pointer e)) (a : Option Addr) : abin P .neq t (.pointer a) (.pointer none) = some (.bool a.isSome) := by
  cases a <;> simp [abin, plainEq, eqOp, aeq, hu, aeq0]
theorem abin_int {P : Program} (op : BinOp) (t : TypeId) (k k' : IntKind) (a b : Int) : abin P op t (.int k a) (.int k' b) = abinI op k a k' b := rfl
theorem abin_str {P : Program} (op : BinOp) (t : TypeId) (a b : ByteArray) : abin P op t (.string a) (.string b) = abinS op a b := rfl
theorem ai_add {k : IntKind} {a b : Int} : abinI .add k a k b = some (.int k (k.wrap (a + b))) := by simp [abinI]
theorem ai_sub {k : IntKind} {a b : Int} : abinI .sub k a k b = some (.int k (k.wrap (a - b))) := by simp [abinI]
theorem ai_rem {k : IntKind} {a b : Int} (hb : b ≠ 0) : abinI .rem k a k b = some (.int k (a.tmod b)) := by simp [abinI, hb]
theorem ai_eql {k : IntKind} {a b : Int} : abinI .eql k a k b = some (.bool (a == b)) := by simp [abinI]
theorem ai_neq {k : IntKind} {a b : Int} : abinI .neq k a k b = some (.bool (a != b)) := by simp [abinI]
theorem ai_lss {k : IntKind} {a b : Int} : abinI .lss k a k b = some (.bool (decide (a < b))) := by simp [abinI]
theorem ai_leq {k : IntKind} {a b : Int} : abinI .leq k a k b = some (.bool (decide (a ≤ b))) := by simp [abinI]
theorem ai_gtr {k : IntKind} {a b : Int} : abinI .gtr k a k b = some (.bool (decide (b < a))) := by simp [abinI]
theorem ai_geq {k : IntKind} {a b : Int} : abinI .geq k a k b = some (.bool (decide (b ≤ a))) := by simp [abinI]
theorem wrap_in {n : Int} (h : -9223372036854775808 ≤ n) (h' : n ≤ 9223372036854775807) : IntKind.i64.wrap n = n := by rw [IntKind.wrap_i64]; omega

theorem info_some {P : Program} {t s : Nat} (h : (P.info? t).map (·.size) = some s) : ∃ i, P.info? t = some i ∧ i.size = s := by
  cases e : P.info? t <;> simp [e] at h
  exact ⟨_, rfl, h⟩
theorem aload_cell {P : Program} {h : Heap} {t : TypeId} {i k : Nat} (ha : Program.agg P t = some false) : aload P h t (.pointer (some ⟨i, k, none⟩)) = h.ld i k := by
  unfold aload; simp [ha]
theorem aload_agg {P : Program} {h : Heap} {t : TypeId} {i k s : Nat} (ha : Program.agg P t = some true) (hs : (P.info? t).map (·.size) = some s) : aload P h t (.pointer (some ⟨i, k, none⟩)) = (h.lds i k s).map fun l => .agg l.toArray := by
  obtain ⟨x, h1, h2⟩ := info_some hs
  unfold aload; simp [ha, h1, h2]
theorem astore_cell {P : Program} {h : Heap} {t : TypeId} {i k : Nat} {v : Value} (hs : (P.info? t).map (·.size) = some 1) (hv : one v = true) : astore P h t (.pointer (some ⟨i, k, none⟩)) v = h.sts i k [v] := by
  obtain ⟨x, h1, h2⟩ := info_some hs
  have hc : v.cells = #[v] := by cases v <;> first | rfl | cases hv
  unfold astore; simp [h1, h2, hc, hv]
theorem astore_agg {P : Program} {h : Heap} {t : TypeId} {i k s : Nat} {cs : List Value} (hs : (P.info? t).map (·.size) = some s) (hl : cs.length = s) (hv : cs.all one = true) : astore P h t (.pointer (some ⟨i, k, none⟩)) (.agg cs.toArray) = h.sts i k cs := by
  obtain ⟨x, h1, h2⟩ := info_some hs
  have hv' : cs.toArray.all one = true := by simpa using hv
  have hc : (Value.agg cs.toArray).cells.size = x.size ∧ (Value.agg cs.toArray).cells.all one = true := ⟨by simp [Value.cells, hl, h2], hv'⟩
  unfold astore; simp only [h1]; rw [if_pos hc]; rfl
theorem afieldAddr_eq {P : Program} {t : TypeId} {f o s : Nat} {fs : Array Field} (hu : P.underlying t = some (.struct fs)) (hf : (fs[f]?).map (·.offset) = some o) (hs : ((fs[f]?).bind fun fd => (P.info? fd.type).map (·.size)) = some (s + 1)) (i k : Nat) :
    afieldAddr P t (.pointer (some ⟨i, k, none⟩)) f = some (.pointer (some ⟨i, k + o, none⟩)) := by
  cases e : fs[f]? with
  | none => simp [e] at hf
  | some fd =>
    simp only [e, Option.map_some, Option.some.injEq, Option.bind_some] at hf hs
    obtain ⟨ti, h1, h2⟩ := info_some hs
    unfold afieldAddr; simp [hu, e, h1, h2, hf]
theorem aindexAddr_slice {P : Program} {t e : TypeId} {s : Nat} (hu : P.underlying t = some (.slice e)) (hs : (P.info? e).map (·.size) = some s) {i k len cap : Nat} {sp : Option Nat} {kd : IntKind} {j : Int} (h0 : 0 ≤ j) (h1 : j < len) :
    aindexAddr P t (.slice (some ⟨i, k, sp⟩) len cap) (.int kd j) = some (.pointer (some ⟨i, k + j.toNat * s, none⟩)) := by
  obtain ⟨x, h2, h3⟩ := info_some hs
  unfold aindexAddr; simp [hu, h2, h3, h0, h1]
theorem aindexAddr_array {P : Program} {t e : TypeId} {s n : Nat} (hu : P.underlying t = some (.array n e)) (hs : (P.info? e).map (·.size) = some s) {i k : Nat} {kd : IntKind} {j : Int} (h0 : 0 ≤ j) (h1 : j < n) :
    aindexAddr P t (.pointer (some ⟨i, k, none⟩)) (.int kd j) = some (.pointer (some ⟨i, k + j.toNat * s, none⟩)) := by
  obtain ⟨x, h2, h3⟩ := info_some hs
  unfold aindexAddr; simp [hu, h2, h3, h0, h1]
theorem abound_int {kd : IntKind} {j : Int} {d y : Nat} (h0 : 0 ≤ j) (h1 : j ≤ y) : abound (some (.int kd j)) d y = some j.toNat := by unfold abound; simp [h0, h1]
theorem aslice_str {P : Program} {h : Heap} {t : TypeId} (hu : P.underlying t = some .string) {s : ByteArray} {kd : IntKind} {j : Int} (h0 : 0 ≤ j) (h1 : j ≤ s.size) :
    aslice P h t (.string s) (some (.int kd j)) none none = some (.string (s.extract j.toNat s.size), h) := by
  unfold aslice; simp only [hu]; simp [abound]; simp [h0, h1]
theorem aslice_strhi {P : Program} {h : Heap} {t : TypeId} (hu : P.underlying t = some .string) {s : ByteArray} {kd : IntKind} {j : Int} (h0 : 0 ≤ j) (h1 : j ≤ s.size) :
    aslice P h t (.string s) none (some (.int kd j)) none = some (.string (s.extract 0 j.toNat), h) := by
  unfold aslice; simp only [hu]; simp [abound]; simp [h0, h1]
theorem aslice_array {P : Program} {h : Heap} {t e : TypeId} {n : Nat} (hu : P.underlying t = some (.array n e)) (hs : (P.info? e).map (·.size) = some 1) {i k : Nat} {kd kd' : IntKind} {lo hi : Int} (h0 : 0 ≤ lo) (h1 : lo ≤ hi) (h2 : hi ≤ n) :
    aslice P h t (.pointer (some ⟨i, k, none⟩)) (some (.int kd lo)) (some (.int kd' hi)) none = some (.slice (some ⟨i, if n = lo.toNat then k else k + lo.toNat, some 0⟩) (hi.toNat - lo.toNat) (n - lo.toNat), h) := by
  obtain ⟨x, h3, h4⟩ := info_some hs
  unfold aslice; simp only [hu, h3]
  simp [abound_int (kd := kd') (d := n) (show (0:Int) ≤ hi by omega) h2, abound_int (kd := kd) (d := 0) (y := hi.toNat) h0 (by omega), h4]
theorem alen_str {P : Program} {h : Heap} {t : TypeId} (hu : P.underlying t = some .string) (s : ByteArray) : alen P h t (.string s) = some (.int .i64 (s.size : Nat)) := by unfold alen; simp [hu]
theorem alen_slice {P : Program} {h : Heap} {t e : TypeId} (hu : P.underlying t = some (.slice e)) (a : Option Addr) (l c : Nat) : alen P h t (.slice a l c) = some (.int .i64 (l : Nat)) := by unfold alen; simp [hu]
theorem amm_two {k k' : IntKind} (mx : Bool) (x y : Int) : amm mx [.int k x, .int k' y] = some (.int k (if mx then max x y else min x y)) := by
  cases mx
  · simp only [amm, ammOf, Bool.false_eq_true, if_false, Option.some.injEq, Value.int.injEq, true_and]; split <;> omega
  · simp only [amm, ammOf, if_true, Option.some.injEq, Value.int.injEq, true_and]; split <;> omega
end Go.Mini
end
section
/-
  MINI, part R: operations carried out one by one, in a form that a simplifier reckons with inside out.
-/
namespace Go.Mini

theorem beq_ft : (false == true) = false := rfl
theorem beq_tf : (true == false) = false := rfl
def keep (fr : Option Frm) (h : Heap) : Option (Frm × Heap) := match fr with | some f => some (f, h) | none => none
/-- The guard's slot and what is wanted of it; the slot's number looked up ahead. -/
def guardOf (ops : List Oper) (o : Oper) : Option (Option Nat × Bool) := match o.guard with | none => none | some (j, want) => some ((ops[j]?).bind (·.dst), want)
def wantV (want : Bool) : Option Value → Option Bool
  | none => none
  | some (.bool b) => some (b == want)
  | some _ => some false
def wantG (fr : Frm) : Option (Option Nat × Bool) → Option Bool
  | none => some true
  | some (none, _) => some false
  | some (some d, want) => wantV want (look d fr.slots)
def stepV (fr : Frm) (dst : Option Nat) : Option (AN × Heap) → Option (Frm × Heap)
  | some (.val v, h) => keep (fr.put dst v) h
  | some (.skip, h) => keep (fr.put dst undef) h
  | _ => none
noncomputable def stepW (P : Program) (G : Nat) (o : Oper) (fr : Frm) (h : Heap) : Option Bool → Option (Frm × Heap)
  | some true => stepV fr o.dst (aop P (aev G fr) o h)
  | some false => keep (fr.put o.dst undef) h
  | none => none
noncomputable def stepO (P : Program) (G : Nat) (o : Oper) (g : Option (Option Nat × Bool)) : Option (Frm × Heap) → Option (Frm × Heap)
  | some (fr, h) => stepW P G o fr h (wantG fr g)
  | none => none
noncomputable def runS (P : Program) (G : Nat) (ops : List Oper) : List Oper → Option (Frm × Heap) → Option (Frm × Heap)
  | [], st => st
  | o :: l, st => runS P G ops l (stepO P G o (guardOf ops o) st)

theorem awanted_eq (ops : List Oper) (fr : Frm) (o : Oper) : awanted ops.toArray fr o = wantG fr (guardOf ops o) := by
  unfold awanted guardOf
  cases o.guard with
  | none => rfl
  | some p =>
    obtain ⟨j, want⟩ := p
    simp only [List.getElem?_toArray]
    cases e : (ops[j]?).bind (·.dst) with
    | none => rfl
    | some d =>
      simp only [wantG, wantV]
      cases look d fr.slots with
      | none => rfl
      | some v => cases v <;> rfl
theorem runS_none (P : Program) (G : Nat) (ops : List Oper) : ∀ l, runS P G ops l none = none
  | [] => rfl
  | o :: l => by simp only [runS, stepO]; exact runS_none P G ops l
theorem runS_eq (P : Program) (G : Nat) (ops : List Oper) : ∀ (l : List Oper) (fr : Frm) (h : Heap), runS P G ops l (some (fr, h)) = runL P G ops.toArray l fr h
  | [], fr, h => rfl
  | o :: l, fr, h => by
    have hk : ∀ (x : Option Frm) (h1 : Heap), runS P G ops l (keep x h1) = x.bind fun fr1 => runL P G ops.toArray l fr1 h1 := by
      intro x h1
      cases x with
      | none => exact runS_none P G ops l
      | some f => exact runS_eq P G ops l f h1
    simp only [runS, stepO, runL, awanted_eq]
    cases wantG fr (guardOf ops o) with
    | none => exact runS_none P G ops l
    | some t =>
      cases t with
      | false => simp only [stepW, Option.bind_some, Bool.false_eq_true, if_false]; exact hk _ _
      | true =>
        simp only [stepW, Option.bind_some, if_true]
        cases aop P (aev G fr) o h with
        | none => exact runS_none P G ops l
        | some r =>
          obtain ⟨n, h1⟩ := r
          cases n with
          | val v => exact hk _ _
          | skip => exact hk _ _
          | _ => exact runS_none P G ops l

/-- The same where the order is drawn: what is not loud leaves the memory. -/
def stepVD (fr : Frm) (o : Oper) (n : Nat) : Option (AN × Heap) → Option (Frm × Heap)
  | some (.val v, h) => if isLoud o || decide (h.next = n) then keep (fr.put o.dst v) h else none
  | some (.skip, h) => if isLoud o then keep (fr.put o.dst undef) h else none
  | _ => none
noncomputable def stepWD (P : Program) (G : Nat) (o : Oper) (fr : Frm) (h : Heap) : Option Bool → Option (Frm × Heap)
  | some true => stepVD fr o h.next (aop P (aev G fr) o h)
  | some false => keep (fr.put o.dst undef) h
  | none => none
noncomputable def stepOD (P : Program) (G : Nat) (o : Oper) (g : Option (Option Nat × Bool)) : Option (Frm × Heap) → Option (Frm × Heap)
  | some (fr, h) => stepWD P G o fr h (wantG fr g)
  | none => none
noncomputable def runSD (P : Program) (G : Nat) (ops : List Oper) : List Oper → Option (Frm × Heap) → Option (Frm × Heap)
  | [], st => st
  | o :: l, st => runSD P G ops l (stepOD P G o (guardOf ops o) st)
theorem runSD_none (P : Program) (G : Nat) (ops : List Oper) : ∀ l, runSD P G ops l none = none
  | [] => rfl
  | o :: l => by simp only [runSD, stepOD]; exact runSD_none P G ops l
theorem runSD_eq (P : Program) (G : Nat) (ops : List Oper) : ∀ (l : List Oper) (fr : Frm) (h : Heap), runSD P G ops l (some (fr, h)) = runD P G ops.toArray l fr h
  | [], fr, h => rfl
  | o :: l, fr, h => by
    have hk : ∀ (x : Option Frm) (h1 : Heap), runSD P G ops l (keep x h1) = x.bind fun fr1 => runD P G ops.toArray l fr1 h1 := by
      intro x h1
      cases x with
      | none => exact runSD_none P G ops l
      | some f => exact runSD_eq P G ops l f h1
    simp only [runSD, stepOD, runD, awanted_eq]
    cases wantG fr (guardOf ops o) with
    | none => exact runSD_none P G ops l
    | some t =>
      cases t with
      | false => simp only [stepWD, Option.bind_some, Bool.false_eq_true, if_false]; exact hk _ _
      | true =>
        simp only [stepWD, Option.bind_some, if_true]
        cases aop P (aev G fr) o h with
        | none => exact runSD_none P G ops l
        | some r =>
          obtain ⟨n, h1⟩ := r
          cases n with
          | val v =>
            simp only [stepVD, Option.bind_some]
            split
            · exact hk _ _
            · exact runSD_none P G ops l
          | skip =>
            simp only [stepVD, Option.bind_some]
            split
            · exact hk _ _
            · exact runSD_none P G ops l
          | _ => exact runSD_none P G ops l

section
variable {P : Program} {G : Nat} {Ext : FuncId → List Value → Heap → Value → Heap → Prop} {fr : Frm} {u : Option FrameMode} {h : Heap} {Q : Exit → Frm → Option FrameMode → Heap → Prop}
theorem Wp.runS {id : Nat} {ops : List Oper} {fr' : Frm} {h' : Heap} (hr : Mini.runS P G ops ops (some (fr, h)) = some (fr', h')) (hq : Q .normal fr' u h') : Wp P G Ext (.region id ops.toArray false) fr u h Q :=
  Wp.run (by rw [← runS_eq]; exact hr) hq
theorem Wp.runSD {id : Nat} {ops : List Oper} {fr' : Frm} {h' : Heap} (hm : P.follows .mixedOrders = true) (hd : drawable ops [] [] 0 = true)
    (hr : Mini.runSD P G ops ops (some (fr, h)) = some (fr', h')) (hq : Q .normal fr' u h') : Wp P G Ext (.region id ops.toArray true) fr u h Q :=
  Wp.runDr hm hd (by rw [← runSD_eq]; exact hr) hq
/-- A sequence, with what holds between. -/
theorem Wp.join {a b : Code} (J : Frm → Option FrameMode → Heap → Prop) (hB : ∀ fr u h, J fr u h → Wp P G Ext b fr u h Q) (hA : Wp P G Ext a fr u h (after J Q)) : Wp P G Ext (.seq a b) fr u h Q := by
  refine Wp.seq (hA.mono ?_)
  intro e fr u h q
  cases e with
  | normal => exact hB _ _ _ q
  | _ => exact q
/-- The same for any code. -/
theorem Wp.cut {c : Code} (J : Frm → Option FrameMode → Heap → Prop) (hB : ∀ fr u h, J fr u h → Q .normal fr u h) (hA : Wp P G Ext c fr u h (after J Q)) : Wp P G Ext c fr u h Q := by
  refine hA.mono ?_
  intro e fr u h q
  cases e with
  | normal => exact hB _ _ _ q
  | _ => exact q
theorem Wp.regionAs {id : Nat} {ops : List Oper} {is : List Nat} (hi : List.range ops.toArray.size = is) (hw : WpO P G Ext ops.toArray is fr u h Q) : Wp P G Ext (.region id ops.toArray false) fr u h Q := by
  subst hi; exact Wp.region hw
theorem WpO.callS {ops : List Oper} {i : Nat} {l : List Nat} {p : Oper} {f : FuncId} {args : List Value} {h1 : Heap} (hi : ops[i]? = some p) (hw : wantG fr (guardOf ops p) = some true) (ha : aop P (aev G fr) p h = some (.call f args, h1))
    (hd : Does P G Ext f args h1 fun e h2 => match e with
      | .returned v => ∃ fr1, fr.put p.dst v = some fr1 ∧ WpO P G Ext ops.toArray l fr1 u h2 Q
      | .panicked c => Q (.panic c) fr u h2
      | .outgrown => False) : WpO P G Ext ops.toArray (i :: l) fr u h Q :=
  WpO.call (by simpa using hi) (by rw [awanted_eq]; exact hw) ha hd
/-- A call that its contract says returns. -/
theorem WpO.callR {ops : List Oper} {i : Nat} {l : List Nat} {p : Oper} {f : FuncId} {args : List Value} {h1 : Heap} {R : Ending → Heap → Prop} (hd : Does P G Ext f args h1 R) (hi : ops[i]? = some p) (hw : wantG fr (guardOf ops p) = some true) (ha : aop P (aev G fr) p h = some (.call f args, h1))
    (hR : ∀ e h2, R e h2 → ∃ v fr1, e = .returned v ∧ fr.put p.dst v = some fr1 ∧ WpO P G Ext ops.toArray l fr1 u h2 Q) : WpO P G Ext ops.toArray (i :: l) fr u h Q :=
  WpO.callS hi hw ha (hd.mono fun e h2 r => by obtain ⟨v, fr1, rfl, q⟩ := hR e h2 r; exact ⟨fr1, q⟩)
/-- Some operations of a region: the first n of what is left of it. -/
theorem WpO.runS {ops : List Oper} (n : Nat) {k : Nat} {is : List Nat} {fr' : Frm} {h' : Heap} (hr : Mini.runS P G ops ((ops.drop k).take n) (some (fr, h)) = some (fr', h')) (hn : k + n ≤ ops.length)
    (hw : WpO P G Ext ops.toArray is fr' u h' Q) : WpO P G Ext ops.toArray (List.range' k n ++ is) fr u h Q :=
  WpO.run n (by rw [← runS_eq]; exact hr) (by simpa using hn) hw
end
end Go.Mini
end
section
/-
  MINI, part S: what a law's arguments bring in memory.
-/
namespace Go.Mini
open Go.ChangeShapes Go.WideShapes Go.RowKit

section
variable {P : Program} {S : Start} {m : Ren} {h : Heap} {w : World}

/-- A new object that tells of memory that was there. -/
theorem HRel.outer (hr : HRel P S m h w) {o : AObj} {B s : Nat} (ho : o.own = false) (hobj : ORel P S.base (m.put h.next B s 0) (h.next + 1) w h.next o) : HRel P S (m.put h.next B s 0) (h.alloc o) w where
  gle := by have := hr.gle; simp; omega
  glob i hi := by
    have := hr.gle
    have e1 := hr.glob i hi
    simp [Ren.put, show ¬ i = h.next by omega, e1]
  obj i p hp := by
    rw [Heap.get_alloc] at hp
    split at hp
    · rename_i e; subst e; cases hp; exact hobj
    · exact (hr.obj i p hp).keep (Ren.agree_put m _ _ _ _ _ (Nat.le_refl _)) (Heap.lt_of_get hp) (by simp) fun x hx => hx
  apart i j p q hij hp hq hpo hqo := by
    rw [Heap.get_alloc] at hp hq
    have key : ∀ i p, (if i = h.next then some o else h.get i) = some p → p.own = true → h.get i = some p ∧ (m.put h.next B s 0).blk i = m.blk i := by
      intro i p hp hpo
      split at hp
      · cases hp; rw [ho] at hpo; cases hpo
      · rename_i hne; exact ⟨hp, by simp [Ren.put, hne]⟩
    obtain ⟨a, c⟩ := key i p hp hpo
    obtain ⟨a', c'⟩ := key j q hq hqo
    rw [c, c']
    exact hr.apart i j p q hij a a' hpo hqo
  frame := hr.frame
  size := hr.size
  io := hr.io

/-- A row of plain values that lay there. -/
theorem HRel.outerRow (hr : HRel P S m h w) (hS : S.base = w.heap.size) (a : Addr) (vs : List Value) (hf : ∀ v ∈ vs, flat v = true) (hc : ∀ i v, vs[i]? = some v → w.cell? (a.add i) = some v) :
    ∃ o, HRel P S (m.put h.next a.block a.off 0) (h.alloc o) w ∧ ∀ i v, vs[i]? = some v → (h.alloc o).ld h.next i = some v := by
  cases vs with
  | nil => exact ⟨.dead, hr.outer rfl trivial, fun i v e => by simp at e⟩
  | cons v0 vs =>
    have h0 := hc 0 v0 rfl
    simp only [Addr.add, if_true] at h0
    unfold World.cell? at h0
    cases hb : w.heap[a.block]? with
    | none => rw [hb] at h0; cases h0
    | some O =>
      rw [hb] at h0
      cases O with
      | cells c e fz =>
        simp only [] at h0
        split at h0
        · cases h0
        have hlt := lt_of_some hb
        have hcell : ∀ k v, (v0 :: vs)[k]? = some v → c[a.off + k]? = some v := by
          intro k v hk
          have := hc k v hk
          unfold Addr.add at this
          by_cases hk0 : k = 0
          · subst hk0
            cases hk
            simpa using h0
          · rw [if_neg hk0] at this
            unfold World.cell? at this
            rw [hb] at this
            simpa using this
        refine ⟨.row { vs := v0 :: vs, elem := e, outer := true }, hr.outer rfl ⟨fun v hv => sc_flat _ v (hf v hv), c, fz, ?_, ?_, ?_, ?_, ?_, ?_, ?_, ?_⟩, ?_⟩
        · rw [Ren.put_blk]; exact hb
        · simp only [Ren.put_sh, Ren.put_ext, Nat.zero_mul, Nat.add_zero]
          have hk := hcell vs.length ((v0 :: vs)[vs.length]) (List.getElem?_eq_getElem (by simp))
          have := lt_of_some hk
          simp only [List.length_cons]; omega
        · intro k v hk
          rw [Ren.put_sh, ren_flat _ v (hf v (List.mem_of_getElem? hk))]
          exact hcell k v hk
        · intro q; cases q
        · intro _; rw [Ren.put_blk, hS]; exact hlt
        · intro q; cases q
        · intro q; cases q
        · intro _; exact Ren.put_ext _ _ _ _ _
        · intro i v e
          exact Heap.ld_of (Heap.get_alloc_new h _) e
      | _ => cases h0
end

/-- A string, as its bytes. -/
def bs (l : List UInt8) : ByteArray := ⟨l.toArray⟩
theorem bs_data (s : ByteArray) : bs s.data.toList = s := rfl
@[simp] theorem bs_size (l : List UInt8) : (bs l).size = l.length := rfl
theorem bs_drop (l : List UInt8) (n : Nat) : (bs l).extract n l.length = bs (l.drop n) := by
  apply ByteArray.ext
  simp [bs, ByteArray.data_extract]
  rw [List.take_of_length_le (by simp)]
theorem bs_take (l : List UInt8) (n : Nat) : (bs l).extract 0 n = bs (l.take n) := by
  apply ByteArray.ext
  simp [bs, ByteArray.data_extract]
theorem bs_append (a b : List UInt8) : bs a ++ bs b = bs (a ++ b) := by
  apply ByteArray.ext
  simp [bs]
theorem bs_inj {a b : List UInt8} : bs a = bs b ↔ a = b := by
  constructor
  · intro h
    have := congrArg (fun x => x.data.toList) h
    simpa [bs] using this
  · rintro rfl; rfl

/-- A list of strings in memory. -/
def Strs (h : Heap) (v : Value) (ls : List (List UInt8)) : Prop :=
  ∃ a cap, v = .slice a ls.length cap ∧ ∀ j l, ls[j]? = some l → ∃ b k sp, a = some ⟨b, k, sp⟩ ∧ h.ld b (k + j) = some (.string (bs l))
theorem Heap.more.ld {h h' : Heap} (hm : h.more h') {i k : Nat} {v : Value} (e : h.ld i k = some v) : h'.ld i k = some v := by
  unfold Heap.ld at e ⊢
  obtain ⟨r, hr, e⟩ := Option.bind_eq_some_iff.1 e
  rw [Heap.row_of (hm.get (Heap.row_some.1 hr))]
  exact e
theorem Strs.more {h h' : Heap} {v : Value} {ls : List (List UInt8)} (hs : Strs h v ls) (hm : h.more h') : Strs h' v ls := by
  obtain ⟨a, cap, rfl, hj⟩ := hs
  exact ⟨a, cap, rfl, fun j l e => by obtain ⟨b, k, sp, rfl, q⟩ := hj j l e; exact ⟨b, k, sp, rfl, hm.ld q⟩⟩
/-- A list of numbers in memory. -/
def Nums (h : Heap) (v : Value) (k : IntKind) (ns : List Int) : Prop :=
  ∃ a cap, v = .slice a ns.length cap ∧ ∀ j n, ns[j]? = some n → ∃ b o sp, a = some ⟨b, o, sp⟩ ∧ h.ld b (o + j) = some (.int k n)
theorem Nums.more {h h' : Heap} {v : Value} {k : IntKind} {ns : List Int} (hs : Nums h v k ns) (hm : h.more h') : Nums h' v k ns := by
  obtain ⟨a, cap, rfl, hj⟩ := hs
  exact ⟨a, cap, rfl, fun j l e => by obtain ⟨b, o, sp, rfl, q⟩ := hj j l e; exact ⟨b, o, sp, rfl, hm.ld q⟩⟩

theorem weightsAll_strs {H : Type} {P : Program} {e : TypeId} : ∀ {ss : List ByteArray} {s : ByteArray}, s ∈ ss → s.size ∈ DataW.weightsAll P e (strs (H := H) ss)
  | t :: ss, s, hs => by
    simp only [strs, List.map_cons, DataW.weightsAll, List.mem_append]
    rcases List.mem_cons.1 hs with rfl | hs
    · left
      simp only [DataW.weights, List.mem_singleton, Array.length_toList]
      rfl
    · right; exact weightsAll_strs hs

section
variable {H : Type} {enc : TypeId × Value → H} {P : Program} {W : World} {G : Nat} {m : Ren} {h : Heap}

/-- A slice of strings among a law's arguments. -/
theorem open_strs {t e : TypeId} {v : Value} {d : DataW H} {ps : List MemPlace} {base : Nat} (ht : P.underlying t = some (.slice e)) (he : P.underlying e = some .string) (hc : P.cellsOf e = 1) (hw : 1 ≤ P.bytesOf e)
    (hok : Value.okWide P W .any base t v) (h0 : DataW.Trod enc P W 0 (fun _ => true) true t v d ps) (hr : HRel P ⟨G, W.heap.size, W⟩ m h W) :
    ∃ m' h' v' ls, HRel P ⟨G, W.heap.size, W⟩ m' h' W ∧ m.agree h.next m' ∧ h.more h' ∧ ren m' v' = v ∧ sc h'.next v' ∧ Strs h' v' ls ∧
      ∀ (ts : List TypeId) (ds : List (DataW H)) (j : Nat), (DataW.weightsEach P ts ds).all (· ≤ reachBytes) = true → ts[j]? = some t → ds[j]? = some d → ls.length ≤ reachBytes ∧ ∀ l ∈ ls, l.length ≤ reachBytes := by
  obtain ⟨a0, len, cap, rfl⟩ := okWide_slice ht hok
  have hsp : ∀ a, a0 = some a → a.spot = none := by
    rintro a rfl
    simp only [Value.okWide, ht, Cell.okWide, Cell.ok] at hok
    exact hok.2.2.2.1
  obtain ⟨fuel, hf⟩ := h0
  rcases open_strings ht he hc hf with ⟨hcs, hx⟩ | ⟨a, len', cap', ss, hcs, _, hl, hm, hz, hx, hcell, hsz⟩
  · simp [Value.cells] at hcs
    obtain ⟨rfl, rfl, rfl⟩ := hcs
    exact ⟨m, h, .slice none 0 0, [], hr, Ren.agree_refl _ _, Heap.more_refl _, by simp [ren], by simp [sc], ⟨none, 0, rfl, fun j l e => by simp at e⟩, fun _ _ _ _ _ _ => ⟨by simp, by simp⟩⟩
  · simp [Value.cells] at hcs
    obtain ⟨rfl, rfl, rfl⟩ := hcs
    simp only [Prod.mk.injEq] at hx
    obtain ⟨rfl, rfl⟩ := hx
    have hlen : len ≤ ss.length := by rw [hz]; split <;> omega
    obtain ⟨o, hr', hld⟩ := hr.outerRow rfl a ((ss.take len).map Value.string) (fun v hv => by obtain ⟨s, _, rfl⟩ := List.mem_map.1 hv; rfl) (by
      intro i v hi
      rw [List.getElem?_map, List.getElem?_take] at hi
      split at hi
      · rename_i hil
        have hi2 := hcell i (by omega)
        rw [hi2]
        rw [List.getElem?_eq_getElem (by omega)] at hi
        simp only [Option.map_some, Option.some.injEq] at hi
        rw [← hi, List.getD_eq_getElem?_getD, List.getElem?_eq_getElem (by omega)]
        rfl
      · cases hi)
    refine ⟨_, _, .slice (some ⟨h.next, 0, none⟩) len cap, (ss.take len).map fun s => s.data.toList, hr', Ren.agree_put m _ _ _ _ _ (Nat.le_refl _), Heap.more_alloc _ _, ?_, ?_, ⟨some ⟨h.next, 0, none⟩, cap, ?_, ?_⟩, ?_⟩
    · have h2 := hsp a rfl
      obtain ⟨b, o2, sp⟩ := a
      simp only at h2
      subst h2
      simp only [ren, Ren.put_blk, Ren.put_sh, Ren.put_ext, Nat.zero_add, Nat.add_zero, Option.isSome_none, Bool.false_eq_true, if_false]
    · simp [sc]
    · simp; omega
    · intro j l hj
      refine ⟨h.next, 0, none, rfl, ?_⟩
      rw [Nat.zero_add]
      apply hld
      rw [List.getElem?_map] at hj ⊢
      obtain ⟨s, hs, rfl⟩ := Option.map_eq_some_iff.1 hj
      rw [hs]; rfl
    · intro ts ds j hall htj hdj
      have hmem := fun n hn => List.all_eq_true.1 hall _ (DataW.weights_mem_each htj hdj n hn)
      simp only [DataW.weights, ht] at hmem
      constructor
      · have := hmem _ (List.mem_cons_self ..)
        simp only [strs, List.length_map, decide_eq_true_eq] at this ⊢
        have h2 : (List.take len ss).length ≤ ((List.take len ss).length + (List.drop len ss).length) * P.bytesOf e := Nat.le_trans (Nat.le_add_right _ _) (Nat.le_mul_of_pos_right _ hw)
        omega
      · intro l hl2
        obtain ⟨s, hs, rfl⟩ := List.mem_map.1 hl2
        have := hmem s.size (List.mem_cons_of_mem _ (List.mem_append_left _ (weightsAll_strs hs)))
        have h3 := of_decide_eq_true this
        rw [Array.length_toList]; exact h3
end
end Go.Mini
end
section
/-
  MINI, part V: a slice of strings among a law's arguments, with its data.
-/
namespace Go.Mini
open Go.ChangeShapes Go.WideShapes Go.RowKit
section
variable {H : Type} {enc : TypeId × Value → H} {P : Program} {W : World} {G : Nat} {m : Ren} {h : Heap}

/-- A slice of strings among a law's arguments. -/
theorem open_strsD {t e : TypeId} {v : Value} {d : DataW H} {ps : List MemPlace} {base : Nat} (ht : P.underlying t = some (.slice e)) (he : P.underlying e = some .string) (hc : P.cellsOf e = 1)
    (hok : Value.okWide P W .any base t v) (h0 : DataW.Trod enc P W 0 (fun _ => true) true t v d ps) (hr : HRel P ⟨G, W.heap.size, W⟩ m h W) :
    ∃ m' h' v' ls, HRel P ⟨G, W.heap.size, W⟩ m' h' W ∧ m.agree h.next m' ∧ h.more h' ∧ ren m' v' = v ∧ sc h'.next v' ∧ Strs h' v' ls ∧
      ((d = .nil ∧ ls = []) ∨ ∃ A B, d = .slice (strs A) (strs B) ∧ ls = A.map fun s => s.data.toList) := by
  obtain ⟨a0, len, cap, rfl⟩ := okWide_slice ht hok
  have hsp : ∀ a, a0 = some a → a.spot = none := by
    rintro a rfl
    simp only [Value.okWide, ht, Cell.okWide, Cell.ok] at hok
    exact hok.2.2.2.1
  obtain ⟨fuel, hf⟩ := h0
  rcases open_strings ht he hc hf with ⟨hcs, hx⟩ | ⟨a, len', cap', ss, hcs, _, hl, hm, hz, hx, hcell, hsz⟩
  · simp [Value.cells] at hcs
    obtain ⟨rfl, rfl, rfl⟩ := hcs
    simp only [Prod.mk.injEq] at hx
    obtain ⟨rfl, rfl⟩ := hx
    exact ⟨m, h, .slice none 0 0, [], hr, Ren.agree_refl _ _, Heap.more_refl _, by simp [ren], by simp [sc], ⟨none, 0, rfl, fun j l e => by simp at e⟩, .inl ⟨rfl, rfl⟩⟩
  · simp [Value.cells] at hcs
    obtain ⟨rfl, rfl, rfl⟩ := hcs
    simp only [Prod.mk.injEq] at hx
    obtain ⟨rfl, rfl⟩ := hx
    have hlen : len ≤ ss.length := by rw [hz]; split <;> omega
    obtain ⟨o, hr', hld⟩ := hr.outerRow rfl a ((ss.take len).map Value.string) (fun v hv => by obtain ⟨s, _, rfl⟩ := List.mem_map.1 hv; rfl) (by
      intro i v hi
      rw [List.getElem?_map, List.getElem?_take] at hi
      split at hi
      · rename_i hil
        have hi2 := hcell i (by omega)
        rw [hi2]
        rw [List.getElem?_eq_getElem (by omega)] at hi
        simp only [Option.map_some, Option.some.injEq] at hi
        rw [← hi, List.getD_eq_getElem?_getD, List.getElem?_eq_getElem (by omega)]
        rfl
      · cases hi)
    refine ⟨_, _, .slice (some ⟨h.next, 0, none⟩) len cap, (ss.take len).map fun s => s.data.toList, hr', Ren.agree_put m _ _ _ _ _ (Nat.le_refl _), Heap.more_alloc _ _, ?_, ?_, ⟨some ⟨h.next, 0, none⟩, cap, ?_, ?_⟩, ?_⟩
    · have h2 := hsp a rfl
      obtain ⟨b, o2, sp⟩ := a
      simp only at h2
      subst h2
      simp only [ren, Ren.put_blk, Ren.put_sh, Ren.put_ext, Nat.zero_add, Nat.add_zero, Option.isSome_none, Bool.false_eq_true, if_false]
    · simp [sc]
    · simp; omega
    · intro j l hj
      refine ⟨h.next, 0, none, rfl, ?_⟩
      rw [Nat.zero_add]
      apply hld
      rw [List.getElem?_map] at hj ⊢
      obtain ⟨s, hs, rfl⟩ := Option.map_eq_some_iff.1 hj
      rw [hs]; rfl
    · exact .inr ⟨_, _, rfl, rfl⟩
end
theorem mem_flat_le {ls : List (List UInt8)} {l : List UInt8} (h : l ∈ ls) : l.length ≤ ls.flatten.length := by
  induction ls with
  | nil => cases h
  | cons x r ih =>
    rw [List.flatten_cons, List.length_append]
    rcases List.mem_cons.1 h with rfl | h
    · omega
    · have := ih h; omega
end Go.Mini
end
section
/-
  MINI, part T: a slice of numbers among a law's arguments.
-/
namespace Go.Mini
open Go.ChangeShapes Go.WideShapes Go.RowKit
section
variable {H : Type} {enc : TypeId × Value → H} {P : Program} {W : World} {G : Nat} {m : Ren} {h : Heap}

theorem open_nums {t e : TypeId} {kd : IntKind} {v : Value} {d : DataW H} {ps : List MemPlace} {base : Nat} (ht : P.underlying t = some (.slice e)) (he : P.underlying e = some (.int kd)) (hc : P.cellsOf e = 1) (hw : 1 ≤ P.bytesOf e)
    (hok : Value.okWide P W .any base t v) (h0 : DataW.Trod enc P W 0 (fun _ => true) true t v d ps) (hr : HRel P ⟨G, W.heap.size, W⟩ m h W) :
    ∃ m' h' v' ns, HRel P ⟨G, W.heap.size, W⟩ m' h' W ∧ m.agree h.next m' ∧ h.more h' ∧ ren m' v' = v ∧ sc h'.next v' ∧ Nums h' v' kd ns ∧ (∀ n ∈ ns, (Lit.int kd n).wf = true) ∧
      ∀ (ts : List TypeId) (ds : List (DataW H)) (j : Nat), (DataW.weightsEach P ts ds).all (· ≤ reachBytes) = true → ts[j]? = some t → ds[j]? = some d → ns.length ≤ reachBytes := by
  obtain ⟨a0, len, cap, rfl⟩ := okWide_slice ht hok
  have hsp : ∀ a, a0 = some a → a.spot = none := by
    rintro a rfl
    simp only [Value.okWide, ht, Cell.okWide, Cell.ok] at hok
    exact hok.2.2.2.1
  obtain ⟨fuel, hf⟩ := h0
  rcases open_ints ht he hc hf with ⟨hcs, hx⟩ | ⟨a, len', cap', zs, hcs, _, hl, hm, hz, hx, hcell, hwz⟩
  · simp [Value.cells] at hcs
    obtain ⟨rfl, rfl, rfl⟩ := hcs
    exact ⟨m, h, .slice none 0 0, [], hr, Ren.agree_refl _ _, Heap.more_refl _, by simp [ren], by simp [sc], ⟨none, 0, rfl, fun j l e => by simp at e⟩, by simp, fun _ _ _ _ _ _ => by simp⟩
  · simp [Value.cells] at hcs
    obtain ⟨rfl, rfl, rfl⟩ := hcs
    simp only [Prod.mk.injEq] at hx
    obtain ⟨rfl, rfl⟩ := hx
    have hlen : len ≤ zs.length := by
      first
        | omega
        | (rw [hz]; split <;> omega)
    obtain ⟨o, hr', hld⟩ := hr.outerRow rfl a ((zs.take len).map (Value.int kd)) (fun v hv => by obtain ⟨s, _, rfl⟩ := List.mem_map.1 hv; rfl) (by
      intro i v hi
      rw [List.getElem?_map, List.getElem?_take] at hi
      split at hi
      · rename_i hil
        have hi2 := hcell i (by omega)
        rw [hi2]
        rw [List.getElem?_eq_getElem (by omega)] at hi
        simp only [Option.map_some, Option.some.injEq] at hi
        rw [← hi, List.getD_eq_getElem?_getD, List.getElem?_eq_getElem (by omega)]
        rfl
      · cases hi)
    refine ⟨_, _, .slice (some ⟨h.next, 0, none⟩) len cap, zs.take len, hr', Ren.agree_put m _ _ _ _ _ (Nat.le_refl _), Heap.more_alloc _ _, ?_, ?_, ⟨some ⟨h.next, 0, none⟩, cap, ?_, ?_⟩, fun n hn => hwz n (List.mem_of_mem_take hn), ?_⟩
    · have h2 := hsp a rfl
      obtain ⟨b, o2, sp⟩ := a
      simp only at h2
      subst h2
      simp only [ren, Ren.put_blk, Ren.put_sh, Ren.put_ext, Nat.zero_add, Nat.add_zero, Option.isSome_none, Bool.false_eq_true, if_false]
    · simp [sc]
    · simp; omega
    · intro j l hj
      refine ⟨h.next, 0, none, rfl, ?_⟩
      rw [Nat.zero_add]
      apply hld
      rw [List.getElem?_map, hj]; rfl
    · intro ts ds j hall htj hdj
      have hmem := fun n hn => List.all_eq_true.1 hall _ (DataW.weights_mem_each htj hdj n hn)
      simp only [DataW.weights, ht] at hmem
      have := hmem _ (List.mem_cons_self ..)
      have h3 := of_decide_eq_true this
      simp only [lits, List.length_map] at h3
      have h2 : (List.take len zs).length ≤ ((List.take len zs).length + (List.drop len zs).length) * P.bytesOf e := Nat.le_trans (Nat.le_add_right _ _) (Nat.le_mul_of_pos_right _ hw)
      omega
end
end Go.Mini
end
section
/-
  MINI, part U: operations by their laws, one by one.
-/
namespace Go.Mini
section
variable {P : Program} {G : Nat} {Ext : FuncId → List Value → Heap → Value → Heap → Prop} {fr : Frm} {u : Option FrameMode} {h : Heap} {Q : Exit → Frm → Option FrameMode → Heap → Prop}
theorem WpO.valS {ops : List Oper} {i : Nat} {l : List Nat} {p : Oper} {v : Value} {h1 : Heap} {fr1 : Frm} (ha : aop P (aev G fr) p h = some (.val v, h1)) (hi : ops[i]? = some p) (hw : wantG fr (guardOf ops p) = some true) (hp : fr.put p.dst v = some fr1)
    (hr : WpO P G Ext ops.toArray l fr1 u h1 Q) : WpO P G Ext ops.toArray (i :: l) fr u h Q := by
  obtain ⟨e2, fr2, u2, h3, b2, q2⟩ := hr
  exact ⟨e2, fr2, u2, h3, .opsVal (by simpa using hi) (by rw [awanted_eq]; exact hw) ha hp b2, q2⟩
theorem WpO.skipS {ops : List Oper} {i : Nat} {l : List Nat} {p : Oper} {h1 : Heap} {fr1 : Frm} (ha : aop P (aev G fr) p h = some (.skip, h1)) (hi : ops[i]? = some p) (hw : wantG fr (guardOf ops p) = some true) (hp : fr.put p.dst undef = some fr1)
    (hr : WpO P G Ext ops.toArray l fr1 u h1 Q) : WpO P G Ext ops.toArray (i :: l) fr u h Q := by
  obtain ⟨e2, fr2, u2, h3, b2, q2⟩ := hr
  exact ⟨e2, fr2, u2, h3, .opsSkip (by simpa using hi) (by rw [awanted_eq]; exact hw) ha hp b2, q2⟩
/-- Operations over what is large, by what they do: so that nothing is reckoned out. -/
theorem aop_load {ρ : Operand → Option Value} {o : Oper} {t : TypeId} {x : Operand} {p v : Value} (ho : o.op = .load t x) (hx : ρ x = some p) (e : aload P h t p = some v) : aop P ρ o h = some (.val v, h) := by
  unfold aop; rw [ho]; simp only [hx, e, Option.bind_some]
theorem aop_alloc {ρ : Operand → Option Value} {o : Oper} {t : TypeId} {v : Value} {h1 : Heap} (ho : o.op = .alloc t) (e : aalloc P h t = some (v, h1)) : aop P ρ o h = some (.val v, h1) := by
  unfold aop; rw [ho]; simp only [e, Option.bind_some]
theorem aop_store {ρ : Operand → Option Value} {o : Oper} {t : TypeId} {a x : Operand} {p v : Value} {h1 : Heap} (ho : o.op = .store t a x) (ha : ρ a = some p) (hx : ρ x = some v) (e : astore P h t p v = some h1) : aop P ρ o h = some (.skip, h1) := by
  unfold aop; rw [ho]; simp only [ha, hx, e, Option.bind_some]
theorem aop_make {ρ : Operand → Option Value} {o : Oper} {t : TypeId} {l c : Operand} {a b v : Value} {h1 : Heap} (ho : o.op = .makeSlice t l c) (hl : ρ l = some a) (hc : ρ c = some b) (e : amake P h t a b = some (v, h1)) : aop P ρ o h = some (.val v, h1) := by
  unfold aop; rw [ho]; simp only [hl, hc, e, Option.bind_some]
end
end Go.Mini
end
section
/-
  MINI, part W: regions that draw their order and call, or read unordered.
-/
namespace Go.Mini
section
variable {P : Program} {G : Nat} {Ext : FuncId → List Value → Heap → Value → Heap → Prop} {ops l : List Oper} {ex pu : List Nat} {q : Nat} {K : Heap → Prop} {fr : Frm} {u : Option FrameMode} {h : Heap}

theorem reader_not_pure {o : Oper} (h : isReader o = true) : isPure o = false := by
  obtain ⟨dst, op, type, pos, after, guard⟩ := o
  cases op with
  | binOp op t x y z => simp only [isReader] at h; simp only [isPure]; rw [h]; rfl
  | call c =>
    obtain ⟨callee, args, ats⟩ := c
    cases callee with
    | builtin b => cases b <;> first | rfl | cases h
    | _ => cases h
  | _ => first | rfl | cases h
/-- What is left of a region that draws, in the text's order. 'ex': the slots of reads that are not ordered with what writes (K: what they lean on, which holds throughout); 'pu': the slots of what yields the same whatever the memory. -/
def DrT (P : Program) (G : Nat) (Ext : FuncId → List Value → Heap → Value → Heap → Prop) (ops : List Oper) (ex pu : List Nat) (q : Nat) (K : Heap → Prop) (l : List Oper) (fr : Frm) (h : Heap) (Q : Frm → Heap → Prop) : Prop :=
  (q ≤ l.length → K h) → ∃ fr' h', Trd P G Ext ops ex pu q K l fr h fr' h' ∧ Q fr' h'
theorem Wp.drawAs {id : Nat} {Q : Exit → Frm → Option FrameMode → Heap → Prop} (ex pu : List Nat) (q : Nat) (K : Heap → Prop) (hm : P.follows .mixedOrders = true) (hd : drawable ops ex pu q = true) (hK : K h) (ht : DrT P G Ext ops ex pu q K ops fr h fun fr' h' => Q .normal fr' u h') :
    Wp P G Ext (.region id ops.toArray true) fr u h Q := by
  obtain ⟨fr', h', t, hq⟩ := ht fun _ => hK
  exact Wp.drawT ex pu q K hm hd hK t hq
theorem DrT.nil {Q : Frm → Heap → Prop} (hq : Q fr h) : DrT P G Ext ops ex pu q K [] fr h Q := fun _ => ⟨fr, h, .nil, hq⟩
/-- Some operations that leave the memory and are ordered with what writes. -/
theorem DrT.run {Q : Frm → Heap → Prop} (n : Nat) {fr' : Frm} (hr : runSD P G ops (l.take n) (some (fr, h)) = some (fr', h)) (hn : (l.take n).all (fun o => !isLoud o && !exempt ex o && !exempt pu o) = true)
    (ht : DrT P G Ext ops ex pu q K (l.drop n) fr' h Q) : DrT P G Ext ops ex pu q K l fr h Q := by
  intro hK
  obtain ⟨fr2, h2, t, hq⟩ := ht (fun hl => hK (Nat.le_trans hl (by simp)))
  rw [runSD_eq] at hr
  refine ⟨fr2, h2, ?_, hq⟩
  have key : ∀ (a b : List Oper) (fr fr' : Frm) (h : Heap), (q ≤ (a ++ b).length → K h) → a.all (fun o => !isLoud o && !exempt ex o && !exempt pu o) = true → runD P G ops.toArray a fr h = some (fr', h) → ∀ {F2 H2}, Trd P G Ext ops ex pu q K b fr' h F2 H2 → Trd P G Ext ops ex pu q K (a ++ b) fr h F2 H2 := by
    intro a
    induction a with
    | nil =>
      intro b fr fr' h _ _ e F2 H2 t
      simp only [runD, Option.some.injEq, Prod.mk.injEq] at e
      obtain ⟨rfl, _⟩ := e
      exact t
    | cons o a ih =>
      intro b fr fr' h hK ha e F2 H2 t
      have hK' : q ≤ (a ++ b).length → K h := fun hl => hK (Nat.le_trans hl (by simp))
      simp only [List.all_cons, Bool.and_eq_true, Bool.not_eq_true'] at ha
      obtain ⟨⟨⟨a1, a2⟩, a3⟩, a4⟩ := ha
      have a4' : a.all (fun o => !isLoud o && !exempt ex o && !exempt pu o) = true := by simpa using a4
      simp only [runD] at e
      obtain ⟨w, hw, e⟩ := Option.bind_eq_some_iff.1 e
      have n1 : exempt ex o = true → False := fun q => by rw [a2] at q; cases q
      have n2 : exempt pu o = true → False := fun q => by rw [a3] at q; cases q
      cases w with
      | false =>
        simp only [Bool.false_eq_true, if_false] at e
        obtain ⟨F1, hp, e⟩ := Option.bind_eq_some_iff.1 e
        exact .step (.unwanted hw) (fun _ => rfl) (fun _ _ => .unwanted hw) (fun _ _ _ _ _ => .unwanted hw) hK' hp (ih b F1 fr' h hK' a4' e t)
      | true =>
        simp only [if_true] at e
        obtain ⟨⟨r, h1⟩, hr, e⟩ := Option.bind_eq_some_iff.1 e
        cases r with
        | val v =>
          simp only [] at e
          split at e
          · rename_i hc
            obtain ⟨F1, hp, e⟩ := Option.bind_eq_some_iff.1 e
            have hh : h1 = h := aop_quiet_heap a1 hr (by rw [a1] at hc; simpa using hc)
            subst hh
            exact .step (.val hw hr) (fun _ => rfl) (fun hpu H2 => .val hw (aop_pure (hpu.resolve_right n2) hr)) (fun _ q => (n1 q).elim) hK' hp (ih b F1 fr' h1 hK' a4' e t)
          · cases e
        | skip => simp only [] at e; rw [a1] at e; cases e
        | _ => cases e
  have := key (l.take n) (l.drop n) fr fr' h (by rw [List.take_append_drop]; exact hK) hn hr t
  rwa [List.take_append_drop] at this
/-- A read that is not ordered with what writes. -/
theorem DrT.read {Q : Frm → Heap → Prop} {o : Oper} {v : Value} {fr1 : Frm} (hr : isReader o = true) (hn : exempt pu o = false) (hw : wantG fr (guardOf ops o) = some true) (hv0 : aop P (aev G fr) o h = some (.val v, h)) (hv : ∀ H, K H → aop P (aev G fr) o H = some (.val v, H)) (hp : fr.put o.dst v = some fr1)
    (ht : DrT P G Ext ops ex pu q K l fr1 h Q) : DrT P G Ext ops ex pu q K (o :: l) fr h Q := by
  intro hK
  have hK' : q ≤ l.length → K h := fun hl => hK (Nat.le_trans hl (by simp))
  obtain ⟨fr2, h2, t, hq2⟩ := ht hK'
  have hw' : awanted ops.toArray fr o = some true := by rw [awanted_eq]; exact hw
  refine ⟨fr2, h2, .step (.val hw' hv0) (fun _ => rfl) (fun hq => ?_) (fun _ _ _ H hH => .val hw' (hv H hH)) hK' hp t, hq2⟩
  rcases hq with hq | hq
  · rw [reader_not_pure hr] at hq; cases hq
  · rw [hn] at hq; cases hq
/-- What yields the same whatever the memory. -/
theorem DrT.pure {Q : Frm → Heap → Prop} {o : Oper} {v : Value} {fr1 : Frm} (hw : wantG fr (guardOf ops o) = some true) (hv : ∀ H, aop P (aev G fr) o H = some (.val v, H)) (hp : fr.put o.dst v = some fr1)
    (ht : DrT P G Ext ops ex pu q K l fr1 h Q) : DrT P G Ext ops ex pu q K (o :: l) fr h Q := by
  intro hK
  have hK' : q ≤ l.length → K h := fun hl => hK (Nat.le_trans hl (by simp))
  obtain ⟨fr2, h2, t, hq2⟩ := ht hK'
  have hw' : awanted ops.toArray fr o = some true := by rw [awanted_eq]; exact hw
  exact ⟨fr2, h2, .step (.val hw' (hv h)) (fun _ => rfl) (fun _ H => .val hw' (hv H)) (fun _ _ _ H _ => .val hw' (hv H)) hK' hp t, hq2⟩
/-- A call that leaves the memory, and yields the same whatever it is. -/
theorem DrT.callP {Q : Frm → Heap → Prop} {o : Oper} {f : FuncId} {args : List Value} {v : Value} {fr1 : Frm} (hd : ∀ H, Does P G Ext f args H fun e H' => e = .returned v ∧ H' = H) (hw : wantG fr (guardOf ops o) = some true)
    (ha : ∀ H, aop P (aev G fr) o H = some (.call f args, H)) (hp : fr.put o.dst v = some fr1) (ht : DrT P G Ext ops ex pu q K l fr1 h Q) : DrT P G Ext ops ex pu q K (o :: l) fr h Q := by
  intro hK
  have hK' : q ≤ l.length → K h := fun hl => hK (Nat.le_trans hl (by simp))
  obtain ⟨fr2, h2, t, hq2⟩ := ht hK'
  have hw' : awanted ops.toArray fr o = some true := by rw [awanted_eq]; exact hw
  have hs : ∀ H, St P G Ext ops o fr H v H := by
    intro H
    obtain ⟨e, H', b, rfl, rfl⟩ := hd H
    exact .call hw' (ha _) b
  exact ⟨fr2, h2, .step (hs h) (fun _ => rfl) (fun _ H => hs H) (fun _ _ _ H _ => hs H) hK' hp t, hq2⟩
/-- What turns the memory. -/
theorem DrT.val {Q : Frm → Heap → Prop} {o : Oper} {v : Value} {fr1 : Frm} {h1 : Heap} (ha : aop P (aev G fr) o h = some (.val v, h1)) (hl : isLoud o = true) (hn : exempt pu o = false) (hw : wantG fr (guardOf ops o) = some true) (hp : fr.put o.dst v = some fr1)
    (hk : q ≤ l.length → K h1) (ht : DrT P G Ext ops ex pu q K l fr1 h1 Q) : DrT P G Ext ops ex pu q K (o :: l) fr h Q := by
  intro _
  obtain ⟨fr2, h2, t, hq2⟩ := ht hk
  have hx : loudX pu o = true := by unfold loudX; rw [hl, hn]; rfl
  refine ⟨fr2, h2, .step (.val (by rw [awanted_eq]; exact hw) ha) (fun hq => by rw [hx] at hq; cases hq) (fun hq => ?_) (fun hq => ?_) hk hp t, hq2⟩
  · rcases hq with hq | hq
    · unfold isLoud at hl; rw [hq] at hl; cases hl
    · rw [hn] at hq; cases hq
  · unfold isLoud at hl; rw [hq] at hl; simp at hl
theorem DrT.skip {Q : Frm → Heap → Prop} {o : Oper} {fr1 : Frm} {h1 : Heap} (ha : aop P (aev G fr) o h = some (.skip, h1)) (hl : isLoud o = true) (hn : exempt pu o = false) (hw : wantG fr (guardOf ops o) = some true) (hp : fr.put o.dst undef = some fr1)
    (hk : q ≤ l.length → K h1) (ht : DrT P G Ext ops ex pu q K l fr1 h1 Q) : DrT P G Ext ops ex pu q K (o :: l) fr h Q := by
  intro _
  obtain ⟨fr2, h2, t, hq2⟩ := ht hk
  have hx : loudX pu o = true := by unfold loudX; rw [hl, hn]; rfl
  refine ⟨fr2, h2, .step (.skip (by rw [awanted_eq]; exact hw) ha) (fun hq => by rw [hx] at hq; cases hq) (fun hq => ?_) (fun hq => ?_) hk hp t, hq2⟩
  · rcases hq with hq | hq
    · unfold isLoud at hl; rw [hq] at hl; cases hl
    · rw [hn] at hq; cases hq
  · unfold isLoud at hl; rw [hq] at hl; simp at hl
theorem DrT.call {Q : Frm → Heap → Prop} {o : Oper} {f : FuncId} {args : List Value} {h1 : Heap} {R : Ending → Heap → Prop} (hd : Does P G Ext f args h1 R) (hl : isLoud o = true) (hn : exempt pu o = false) (hw : wantG fr (guardOf ops o) = some true)
    (ha : aop P (aev G fr) o h = some (.call f args, h1))
    (hR : ∀ e h2, R e h2 → ∃ v fr1, e = .returned v ∧ (q ≤ l.length → K h2) ∧ fr.put o.dst v = some fr1 ∧ DrT P G Ext ops ex pu q K l fr1 h2 Q) : DrT P G Ext ops ex pu q K (o :: l) fr h Q := by
  intro _
  obtain ⟨e, h2, b, r⟩ := hd
  obtain ⟨v, fr1, rfl, hk, hp, ht⟩ := hR e h2 r
  obtain ⟨fr2, h3, t, hq2⟩ := ht hk
  have hx : loudX pu o = true := by unfold loudX; rw [hl, hn]; rfl
  refine ⟨fr2, h3, .step (.call (by rw [awanted_eq]; exact hw) ha b) (fun hq => by rw [hx] at hq; cases hq) (fun hq => ?_) (fun hq => ?_) hk hp t, hq2⟩
  · rcases hq with hq | hq
    · unfold isLoud at hl; rw [hq] at hl; cases hl
    · rw [hn] at hq; cases hq
  · unfold isLoud at hl; rw [hq] at hl; simp at hl
end
end Go.Mini
end
section
/-
  MINI, part X: parts of strings.
-/
namespace Go.Mini
set_option linter.unusedSimpArgs false
abbrev EXT := FuncId → List Value → Heap → Value → Heap → Prop
theorem bs_extract (l : List UInt8) (a b : Nat) : (bs l).extract a b = bs ((l.drop a).take (b - a)) := by
  apply ByteArray.ext
  simp [bs, ByteArray.data_extract]
theorem take_len {α : Type} (X : List α) (n : Nat) : X.take (X.take n).length = X.take n := by
  rw [List.length_take]
  rcases Nat.le_total n X.length with h | h
  · rw [Nat.min_eq_left h]
  · rw [Nat.min_eq_right h, List.take_length, List.take_of_length_le h]
theorem aslice_str2 {P : Program} {h : Heap} {t : TypeId} (hu : P.underlying t = some .string) {s : ByteArray} {kd kd' : IntKind} {i j : Int} (h0 : 0 ≤ i) (h1 : i ≤ j) (h2 : j ≤ s.size) :
    aslice P h t (.string s) (some (.int kd i)) (some (.int kd' j)) none = some (.string (s.extract i.toNat j.toNat), h) := by
  unfold aslice; simp only [hu]
  simp [abound_int (kd := kd') (d := s.size) (show (0 : Int) ≤ j by omega) h2, abound_int (kd := kd) (d := 0) (y := j.toNat) h0 (by omega)]
end Go.Mini
end
section
/-
  MINI, part Y: panics, deferred calls, recover.
-/
namespace Go.Mini
section
variable {P : Program} {G : Nat} {Ext : FuncId → List Value → Heap → Value → Heap → Prop} {fr : Frm} {u : Option FrameMode} {h : Heap} {Q : Exit → Frm → Option FrameMode → Heap → Prop}

theorem WpO.panicS {ops : List Oper} {i : Nat} {l : List Nat} {p : Oper} {v : Value} {h1 : Heap} (ha : aop P (aev G fr) p h = some (.panic v, h1)) (hi : ops[i]? = some p) (hw : wantG fr (guardOf ops p) = some true)
    (hq : Q (.panic [{ v, recovered := false }]) fr u h1) : WpO P G Ext ops.toArray (i :: l) fr u h Q :=
  ⟨_, fr, u, h1, .opsPanic (by simpa using hi) (by rw [awanted_eq]; exact hw) ha, hq⟩
theorem WpO.deferS {ops : List Oper} {i : Nat} {l : List Nat} {p : Oper} {d : Deferred} {h1 : Heap} {fr1 : Frm} (ha : aop P (aev G fr) p h = some (.defer d, h1)) (hi : ops[i]? = some p) (hw : wantG fr (guardOf ops p) = some true)
    (hp : ({ fr with defers := d :: fr.defers } : Frm).put p.dst undef = some fr1) (hr : WpO P G Ext ops.toArray l fr1 u h1 Q) : WpO P G Ext ops.toArray (i :: l) fr u h Q := by
  obtain ⟨e2, fr2, u2, h3, b2, q2⟩ := hr
  exact ⟨e2, fr2, u2, h3, .opsDefer (by simpa using hi) (by rw [awanted_eq]; exact hw) ha hp b2, q2⟩
theorem WpO.recoverS {ops : List Oper} {i : Nat} {l : List Nat} {p : Oper} {v : Value} {older : List _} {h1 : Heap} {fr1 : Frm} (ha : aop P (aev G fr) p h = some (.recover, h1)) (hi : ops[i]? = some p) (hw : wantG fr (guardOf ops p) = some true)
    (hp : fr.put p.dst v = some fr1) (hr : WpO P G Ext ops.toArray l fr1 (some (.panicking ({ v, recovered := true } :: older))) h1 Q) : WpO P G Ext ops.toArray (i :: l) fr (some (.panicking ({ v, recovered := false } :: older))) h Q := by
  obtain ⟨e2, fr2, u2, h3, b2, q2⟩ := hr
  exact ⟨e2, fr2, u2, h3, .opsRecover (by simpa using hi) (by rw [awanted_eq]; exact hw) ha hp b2, q2⟩
theorem WpO.recoverN {ops : List Oper} {i : Nat} {l : List Nat} {p : Oper} {h1 : Heap} {fr1 : Frm} (ha : aop P (aev G fr) p h = some (.recover, h1)) (hi : ops[i]? = some p) (hw : wantG fr (guardOf ops p) = some true)
    (hp : fr.put p.dst .nilIface = some fr1) (hr : WpO P G Ext ops.toArray l fr1 (some .returning) h1 Q) : WpO P G Ext ops.toArray (i :: l) fr (some .returning) h Q := by
  obtain ⟨e2, fr2, u2, h3, b2, q2⟩ := hr
  exact ⟨e2, fr2, u2, h3, .opsRecoverNot (by simpa using hi) (by rw [awanted_eq]; exact hw) ha hp b2, q2⟩

/-- A deferred call. -/
def DoesD (P : Program) (G : Nat) (Ext : FuncId → List Value → Heap → Value → Heap → Prop) (f : FuncId) (args : List Value) (u : FrameMode) (h : Heap) (R : Ending → FrameMode → Heap → Prop) : Prop :=
  ∃ e u1 h1, Big P G Ext (.callD f args u) h (.endsD e u1) h1 ∧ R e u1 h1
theorem DoesD.body {f : FuncId} {args : List Value} {u : FrameMode} {fn : Func} {c : Code} {R : Ending → FrameMode → Heap → Prop} (hf : P.funcs[f]? = some fn) (hb : fn.body = some c)
    (hw : Wp P G Ext c (enterF fn args) (some u) h fun e fr' u' h' => fr'.defers = [] ∧ ∃ u1, u' = some u1 ∧ match e with
      | .normal | .ret => ∃ v, ares P fn fr' h' = some v ∧ R (.returned v) u1 h'
      | .panic ch => R (.panicked ch) u1 h'
      | _ => False) : DoesD P G Ext f args u h R := by
  obtain ⟨e, fr1, u1, h1, b, hd, u2, rfl, q⟩ := hw
  cases e with
  | normal => obtain ⟨v, hv, hr⟩ := q; exact ⟨_, _, h1, .callD hf hb b rfl hd hv, hr⟩
  | ret => obtain ⟨v, hv, hr⟩ := q; exact ⟨_, _, h1, .callD hf hb b rfl hd hv, hr⟩
  | panic ch => exact ⟨_, _, h1, .callDPanic hf hb b hd, q⟩
  | _ => exact q.elim

/-- A function's end, its deferred calls one by one. -/
def Leaves (P : Program) (G : Nat) (Ext : FuncId → List Value → Heap → Value → Heap → Prop) (fn : Func) (fr : Frm) (ds : List Deferred) (u : FrameMode) (h : Heap) (R : Ending → Heap → Prop) : Prop :=
  ∃ e h1, Big P G Ext (.leave fn fr ds u) h (.ends e) h1 ∧ R e h1
theorem Leaves.ret {fn : Func} {v : Value} {R : Ending → Heap → Prop} (hv : ares P fn fr h = some v) (hr : R (.returned v) h) : Leaves P G Ext fn fr [] .returning h R := ⟨_, h, .leaveRet hv, hr⟩
theorem Leaves.panic {fn : Func} {c : List _} {R : Ending → Heap → Prop} (hr : R (.panicked c) h) : Leaves P G Ext fn fr [] (.panicking c) h R := ⟨_, h, .leavePanic, hr⟩
theorem Leaves.cons {fn : Func} {d : Deferred} {ds : List Deferred} {m : FrameMode} {g : FuncId} {cap : Array Value} {R : Ending → Heap → Prop} (hm : m ≠ .run) (ht : d.target = .fn (.func g) cap) (hc : canEnter P g = true)
    (hd : DoesD P G Ext g (d.args.toList ++ cap.toList) m h fun e u1 h1 => ∃ u2, afterD e u1 = some u2 ∧ Leaves P G Ext fn fr ds u2 h1 R) : Leaves P G Ext fn fr (d :: ds) m h R := by
  obtain ⟨e, u1, h1, b, u2, ha, e2, h2, b2, r⟩ := hd
  exact ⟨e2, h2, .leaveCons hm ht hc b ha b2, r⟩
/-- A function with deferred calls. -/
theorem Does.bodyD {f : FuncId} {args : List Value} {fn : Func} {c : Code} {R : Ending → Heap → Prop} (hf : P.funcs[f]? = some fn) (hb : fn.body = some c)
    (hw : Wp P G Ext c (enterF fn args) none h fun e fr' u' h' => u' = none ∧ ∃ m, modeOf e = some m ∧ Leaves P G Ext fn fr' fr'.defers m h' R) : Does P G Ext f args h R := by
  obtain ⟨e, fr1, u1, h1, b, rfl, m, hm, e2, h2, b2, r⟩ := hw
  exact ⟨e2, h2, .call hf hb b hm b2, r⟩
end
end Go.Mini
end
section
/-
  MINI, part YK: a region that draws its order, with several places that are made in no told order.
-/
namespace Go.Mini
set_option linter.unusedSimpArgs false

section
variable {P : Program} {G : Nat} {Ext : FuncId → List Value → Heap → Value → Heap → Prop} {ops : List Oper}
variable {V : Nat → Value} {FF : Nat → Frm}

/-- The order of a region that draws, and the slots. -/
structure DrawnG (ops : List Oper) (V : Nat → Value) (FF : Nat → Frm) : Prop where
  back : ∀ i o, ops[i]? = some o → ∀ e ∈ o.after, Region.binds .any e = true → e.on < i
  slot : ∀ i j x y, i < j → ops[i]? = some x → ops[j]? = some y → clash ops x y = true → ahead ops i j = true
  put : ∀ i o, ops[i]? = some o → (FF i).put o.dst (V i) = some (FF (i + 1))

theorem DrawnG.frames (hd : DrawnG ops V FF) : ∀ i, i ≤ ops.length → (FF i).size = (FF 0).size ∧ (FF i).defers = (FF 0).defers ∧ ∀ t, look t (FF i).slots = vat ops V (FF 0) t (fun _ => true) i
  | 0, _ => ⟨rfl, rfl, fun _ => rfl⟩
  | i + 1, hi => by
    obtain ⟨h1, h2, h3⟩ := hd.frames i (by omega)
    have ho : ops[i]? = some ops[i] := List.getElem?_eq_getElem (by omega)
    have hp := hd.put i _ ho
    obtain ⟨q1, q2⟩ := put_size hp
    refine ⟨q1.trans h1, q2.trans h2, fun t => ?_⟩
    rw [put_look hp, h3 t]
    simp only [vat, ho, Option.bind_some, true_and]

theorem DrawnG.go (hd : DrawnG ops V FF) (B : (Nat → Bool) → List Nat → Frm → Frm → Prop) (hnil : ∀ L F, (∀ j, j < ops.length → L j = true) → B L [] F F)
    (hcons : ∀ L i o l F F1 F', Closed ops L → ops[i]? = some o → L i = false → (∀ e ∈ o.after, Region.binds .any e = true → L e.on = true) → (∀ s ∈ o.looksAt ops.toArray, look s (FF i).slots = look s F.slots) → F.put o.dst (V i) = some F1 → B (also L i) l F1 F' → B L (i :: l) F F')
    (hext : ∀ L L' l F F', (∀ j, j < ops.length → L j = L' j) → B L l F F' → B L' l F F') : ∀ (fuel t : Nat) (listed : Array Bool) (F : Frm), listed.size = ops.length →
    (∀ i o, ops[i]? = some o → listed.getD i true = true → ∀ e ∈ o.after, Region.binds .any e = true → listed.getD e.on false = true) →
    F.size = (FF 0).size → F.defers = (FF 0).defers → (∀ s, look s F.slots = vat ops V (FF 0) s (fun j => listed.getD j true) ops.length) →
    ((List.range ops.length).filter fun j => !listed.getD j true).length ≤ fuel →
    ∃ F', B (fun j => listed.getD j true) (Region.linearise.go .any ops.toArray fuel t listed []) F F' ∧ (FF ops.length).le F' := by
  intro fuel
  induction fuel with
  | zero =>
    intro t listed F hsz hdown h1 h2 h3 hfuel
    have hall : ∀ j, j < ops.length → listed.getD j true = true := by
      intro j hj
      have hnil : ((List.range ops.length).filter fun j => !listed.getD j true) = [] := List.length_eq_zero_iff.1 (by omega)
      have := (List.filter_eq_nil_iff.1 hnil) j (by simpa using hj)
      simpa using this
    refine ⟨F, ?_, ?_⟩
    · simp only [Region.linearise.go, List.reverse_nil]
      exact hnil _ _ hall
    · obtain ⟨g1, g2, g3⟩ := hd.frames ops.length (Nat.le_refl _)
      refine ⟨by rw [g1, h1], by rw [g2, h2], fun s v hs => ?_⟩
      rw [h3, vat_congr (L' := fun _ => true) ops.length fun j hj _ => hall j hj, ← g3]
      exact hs
  | succ fuel ih =>
    intro t listed F hsz hdown h1 h2 h3 hfuel
    simp only [Region.linearise.go]
    change ∃ F', B (fun j => listed.getD j true) (match (Region.ready .any ops.toArray listed)[t % (Region.ready .any ops.toArray listed).length]? with
      | some i => Region.linearise.go .any ops.toArray fuel (t / (Region.ready .any ops.toArray listed).length) (listed.setIfInBounds i true) [i]
      | none => [].reverse) F F' ∧ (FF ops.length).le F'
    have hgd : ∀ j, j < ops.length → listed.getD j false = listed.getD j true := by
      intro j hj
      have : j < listed.size := by omega
      simp [this]
    cases hi : (Region.ready .any ops.toArray listed)[t % (Region.ready .any ops.toArray listed).length]? with
    | none =>
      have hnil : Region.ready .any ops.toArray listed = [] := by
        cases hr : Region.ready .any ops.toArray listed with
        | nil => rfl
        | cons x xs =>
          rw [hr] at hi
          have hlt : t % (x :: xs).length < (x :: xs).length := Nat.mod_lt _ (by simp)
          rw [List.getElem?_eq_getElem hlt] at hi
          cases hi
      -- then every operation is done
      have hall : ∀ j, j < ops.length → listed.getD j true = true := by
        intro j
        induction j using Nat.strongRecOn with
        | _ j ihj =>
          intro hj
          cases e : listed.getD j true with
          | true => rfl
          | false =>
            have ho : ops[j]? = some ops[j] := List.getElem?_eq_getElem hj
            have : j ∈ Region.ready .any ops.toArray listed := mem_ready.2 ⟨e, ops[j], by simp, fun ed hed hb => by
              have hlt := hd.back j _ ho ed hed hb
              rw [hgd ed.on (by omega)]
              exact ihj ed.on hlt (by omega)⟩
            rw [hnil] at this; cases this
      obtain ⟨F', b, hle⟩ := ih 0 listed F hsz hdown h1 h2 h3 (by
        have : ((List.range ops.length).filter fun j => !listed.getD j true) = [] := List.filter_eq_nil_iff.2 fun j hj => by simp [hall j (by simpa using hj)]
        rw [this]; simp)
      have hgo : Region.linearise.go .any ops.toArray fuel 0 listed [] = [] := by
        cases fuel with
        | zero => rfl
        | succ f =>
          simp only [Region.linearise.go]
          change (match (Region.ready .any ops.toArray listed)[0 % (Region.ready .any ops.toArray listed).length]? with
            | some i => Region.linearise.go .any ops.toArray f (0 / (Region.ready .any ops.toArray listed).length) (listed.setIfInBounds i true) [i]
            | none => [].reverse) = []
          rw [hnil]; rfl
      rw [hgo] at b
      exact ⟨F', b, hle⟩
    | some i =>
      simp only []
      rw [linearise_go_acc, List.reverse_singleton, List.singleton_append]
      have hmem : i ∈ Region.ready .any ops.toArray listed := List.mem_of_getElem? hi
      obtain ⟨hun, o, ho', hpre⟩ := mem_ready.1 hmem
      have ho : ops[i]? = some o := by simpa using ho'
      have hil := lt_length ho
      -- what is met
      have hclosed : ∀ j, ahead ops j i = true → listed.getD j false = true := ahead_closed ops (fun j => listed.getD j false = true) hd.back
        (fun j x hj hx => hdown j x hx (by rw [← hgd j (lt_length hx)]; exact hj)) i o ho hpre
      have hnot : ∀ j x, ops[j]? = some x → ahead ops i j = true → listed.getD j true = false := by
        intro j x hx ha
        cases e : listed.getD j true with
        | false => rfl
        | true =>
          have := ahead_closed ops (fun j => listed.getD j false = true) hd.back (fun j x hj hx => hdown j x hx (by rw [← hgd j (lt_length hx)]; exact hj)) j x hx (hdown j x hx e) i ha
          rw [hgd i hil, hun] at this; cases this
      -- the slots that it looks at are as in the text's order
      have hlook : ∀ s ∈ o.looksAt ops.toArray, look s (FF i).slots = look s F.slots := by
        intro s hs
        rw [(hd.frames i (by omega)).2.2 s, h3 s, ← vat_below ops.length (by omega)]
        refine vat_congr ops.length fun j hj hdj => ?_
        have hoj : ops[j]? = some ops[j] := List.getElem?_eq_getElem hj
        rw [hoj, Option.bind_some] at hdj
        by_cases hji : j < i
        · have := hclosed j (hd.slot j i _ _ hji hoj ho (clash_of hdj (.inl hs)))
          rw [hgd j hj] at this
          simp [hji, this]
        · by_cases hij : j = i
          · subst hij
            simp [hun]
          · have := hnot j _ hoj (hd.slot i j _ _ (by omega) ho hoj (clash_of' hdj hs))
            simp [hji, this]
      -- the step
      obtain ⟨F2, hp2⟩ := put_ok (F2 := F) (w := V i) (hd.put i o ho) (by rw [h1, (hd.frames i (by omega)).1])
      obtain ⟨q1, q2⟩ := put_size hp2
      have hcl : Closed ops fun j => listed.getD j true := fun j x hx hj e he hb => by
        have := hdown j x hx hj e he hb
        rwa [hgd e.on (Nat.lt_trans (hd.back j x hx e he hb) (lt_length hx))] at this
      have hdown' : ∀ j x, ops[j]? = some x → (listed.setIfInBounds i true).getD j true = true → ∀ e ∈ x.after, Region.binds .any e = true → (listed.setIfInBounds i true).getD e.on false = true := by
        intro j x hx hj e he hb
        refine getD_set_true ?_
        by_cases e1 : j = i
        · subst e1
          rw [ho] at hx; cases hx
          exact hpre e he hb
        · rw [getD_set_ne true (Ne.symm e1)] at hj
          exact hdown j x hx hj e he hb
      have hlook' : ∀ s, look s F2.slots = vat ops V (FF 0) s (fun j => (listed.setIfInBounds i true).getD j true) ops.length := by
        intro s
        rw [put_look hp2]
        by_cases e : o.dst = some s
        · rw [if_pos e]
          refine (vat_top (i := i) (by simp [show i < listed.size by omega]) (by rw [ho]; exact e) ops.length hil fun j hij hj hdj => ?_).symm
          have hoj : ops[j]? = some ops[j] := List.getElem?_eq_getElem hj
          rw [hoj, Option.bind_some] at hdj
          rw [getD_set_ne true (by omega)]
          exact hnot j _ hoj (hd.slot i j _ _ hij ho hoj (clash_of e (.inr hdj)))
        · rw [if_neg e, h3 s]
          refine vat_congr ops.length fun j hj hdj => ?_
          have hne : j ≠ i := by
            intro e1; subst e1
            rw [ho] at hdj; exact e hdj
          exact (getD_set_ne true (Ne.symm hne)).symm
      have hfuel' : ((List.range ops.length).filter fun j => !(listed.setIfInBounds i true).getD j true).length ≤ fuel := by
        have hmemf : i ∈ (List.range ops.length).filter (fun j => !listed.getD j true) := List.mem_filter.2 ⟨by simpa using hil, by simp [hun]⟩
        have hsub : ((List.range ops.length).filter fun j => !(listed.setIfInBounds i true).getD j true) = ((List.range ops.length).filter fun j => !listed.getD j true).filter (fun j => decide (j ≠ i)) := by
          rw [List.filter_filter]
          apply List.filter_congr
          intro j hj
          by_cases e : j = i
          · subst e; simp [show j < listed.size by rw [hsz]; exact hil]
          · rw [getD_set_ne true (Ne.symm e)]; simp [e]
        rw [hsub]
        have hlt : (((List.range ops.length).filter fun j => !listed.getD j true).filter (fun j => decide (j ≠ i))).length < ((List.range ops.length).filter fun j => !listed.getD j true).length := by
          refine List.length_filter_lt_length_iff_exists.2 ⟨i, hmemf, by simp⟩
        omega
      obtain ⟨F', b, hle⟩ := ih (t / (Region.ready .any ops.toArray listed).length) (listed.setIfInBounds i true) F2 (by simpa using hsz) hdown' (q1.trans h1) (q2.trans h2) hlook' hfuel'
      refine ⟨F', hcons _ i o _ F F2 F' hcl ho hun (fun e he hb => ?_) hlook hp2 (hext _ _ _ _ _ (fun j hj => ?_) b), hle⟩
      · have := hpre e he hb
        rwa [hgd e.on (Nat.lt_trans (hd.back i o ho e he hb) hil)] at this
      · unfold also
        by_cases e : j = i
        · subst e; simp [show j < listed.size by omega]
        · rw [if_neg e, getD_set_ne true (Ne.symm e)]

end
end Go.Mini
end
