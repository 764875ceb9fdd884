/-
  MINI, part O: rules for regions that draw; loops; frames that tell the same.
-/
import Derived.Test.YtcmijnchfejohaaMiniN
namespace Go.Mini

/-! ### regions that draw -/
def exempt (ex : List Nat) (o : Oper) : Bool := match o.dst with | some d => ex.contains d | none => false
def pairs : List Oper → Nat → List (Nat × Oper)
  | [], _ => []
  | o :: l, i => (i, o) :: pairs l (i + 1)
def pairOk (ops : List Oper) (ms : List Nat) (ex : List Nat) (i : Nat) (x : Oper) (j : Nat) (y : Oper) : Bool :=
  !(decide (i < j)) || (ms.getD j 0).testBit i ||
    (!(isLoud x && isLoud y) && !clash ops x y && !(isLoud x && isReader y && !exempt ex y) && !(isReader x && !exempt ex x && isLoud y))
/-- May the region's order be left to the tape? 'ex': the slots of those reads that need not be ordered with what writes. -/
def drawable (ops : List Oper) (ex : List Nat) : Bool :=
  let ms := masks [] ops
  let l := pairs ops 0
  l.all (fun p => p.2.after.all fun e => !Region.binds .any e || decide (e.on < p.1)) && l.all fun p => l.all fun q => pairOk ops ms ex p.1 p.2 q.1 q.2

theorem mem_pairs : ∀ (l : List Oper) (i j : Nat) (o : Oper), l[j]? = some o → (i + j, o) ∈ pairs l i
  | [], _, _, _, h => by simp at h
  | p :: l, i, 0, o, h => by simp at h; subst h; simp [pairs]
  | p :: l, i, j + 1, o, h => by
    simp only [List.getElem?_cons_succ] at h
    simp only [pairs]
    exact List.mem_cons_of_mem _ (by have := mem_pairs l (i + 1) j o h; rwa [show i + 1 + j = i + (j + 1) by omega] at this)

section
variable {P : Program} {G : Nat} {Ext : FuncId → List Value → Heap → Value → Heap → Prop} {ops : List Oper}

/-- A run in the text's order, with what is asked of each operation that does not turn the memory. -/
inductive Trd (P : Program) (G : Nat) (Ext : FuncId → List Value → Heap → Value → Heap → Prop) (ops : List Oper) (ex : List Nat) (K : Heap → Prop) : List Oper → Frm → Heap → Frm → Heap → Prop where
  | nil {F H} : Trd P G Ext ops ex K [] F H F H
  | step {o l F H v H1 F1 F2 H2} : St P G Ext ops o F H v H1 → (isLoud o = false → H1 = H) → (isPure o = true → ∀ H', St P G Ext ops o F H' v H') → (isReader o = true → exempt ex o = true → ∀ H', K H' → St P G Ext ops o F H' v H') →
      K H1 → F.put o.dst v = some F1 → Trd P G Ext ops ex K l F1 H1 F2 H2 → Trd P G Ext ops ex K (o :: l) F H F2 H2

theorem Trd.trace {ex : List Nat} {K : Heap → Prop} {l : List Oper} {F F' : Frm} {H H' : Heap} (h : Trd P G Ext ops ex K l F H F' H') (hK : K H) :
    ∃ (V : Nat → Value) (HH : Nat → Heap) (FF : Nat → Frm), FF 0 = F ∧ HH 0 = H ∧ FF l.length = F' ∧ HH l.length = H' ∧ (∀ i, i ≤ l.length → K (HH i)) ∧ ∀ i o, l[i]? = some o →
      St P G Ext ops o (FF i) (HH i) (V i) (HH (i + 1)) ∧ (FF i).put o.dst (V i) = some (FF (i + 1)) ∧ (isLoud o = false → HH (i + 1) = HH i) ∧ (isPure o = true → ∀ H2, St P G Ext ops o (FF i) H2 (V i) H2) ∧
      (isReader o = true → exempt ex o = true → ∀ H2, K H2 → St P G Ext ops o (FF i) H2 (V i) H2) := by
  induction h with
  | nil => exact ⟨fun _ => undef, fun _ => _, fun _ => _, rfl, rfl, rfl, rfl, fun i _ => hK, fun i o h => by simp at h⟩
  | @step o l F H v H1 F1 F2 H2 h1 h2 h3 h4 hk1 h5 _ ih =>
    obtain ⟨V, HH, FF, e1, e2, e3, e4, e5, e6⟩ := ih hk1
    refine ⟨fun i => match i with | 0 => v | i + 1 => V i, fun i => match i with | 0 => H | i + 1 => HH i, fun i => match i with | 0 => F | i + 1 => FF i, rfl, rfl, e3, e4, ?_, ?_⟩
    · intro i hi
      cases i with
      | zero => exact hK
      | succ i => exact e5 i (by simpa using hi)
    · intro i o hi
      cases i with
      | zero =>
        simp only [List.getElem?_cons_zero, Option.some.injEq] at hi
        subst hi
        simp only [e1, e2]
        exact ⟨h1, h5, h2, h3, h4⟩
      | succ i => exact e6 i o (by simpa using hi)

theorem Wp.drawT {id : Nat} {fr fr' : Frm} {u : Option FrameMode} {h h' : Heap} {Q : Exit → Frm → Option FrameMode → Heap → Prop} (ex : List Nat) (K : Heap → Prop) (hm : P.follows .mixedOrders = true) (hd : drawable ops ex = true) (hK : K h)
    (ht : Trd P G Ext ops ex K ops fr h fr' h') (hq : Q .normal fr' u h') : Wp P G Ext (.region id ops.toArray true) fr u h Q := by
  obtain ⟨V, HH, FF, e1, e2, e3, e4, e5, e6⟩ := ht.trace hK
  unfold drawable at hd
  simp only [Bool.and_eq_true, List.all_eq_true] at hd
  obtain ⟨hd1, hd2⟩ := hd
  have hpair : ∀ i j x y, i < j → ops[i]? = some x → ops[j]? = some y → ahead ops i j = true ∨ (¬ (isLoud x = true ∧ isLoud y = true) ∧ clash ops x y = false ∧ ¬ (isLoud x = true ∧ isReader y = true ∧ exempt ex y = false) ∧ ¬ (isReader x = true ∧ exempt ex x = false ∧ isLoud y = true)) := by
    intro i j x y hij hx hy
    have := hd2 _ (by simpa using mem_pairs ops 0 i x hx) _ (by simpa using mem_pairs ops 0 j y hy)
    unfold pairOk at this
    simp only [decide_eq_true hij, Bool.not_true, Bool.false_or, Bool.or_eq_true, Bool.and_eq_true, Bool.not_eq_true', Bool.and_eq_false_iff] at this
    rcases this with h | ⟨⟨⟨h1, h2⟩, h3⟩, h4⟩
    · exact .inl h
    · refine .inr ⟨?_, h2, ?_, ?_⟩
      · rintro ⟨q1, q2⟩; rcases h1 with h1 | h1 <;> simp_all
      · rintro ⟨q1, q2, q3⟩; rcases h3 with (h3 | h3) | h3 <;> simp_all
      · rintro ⟨q1, q2, q3⟩; rcases h4 with (h4 | h4) | h4 <;> simp_all
  have hsame : ∀ c i, c ≤ ops.length → i ≤ ops.length → (∀ l y, ops[l]? = some y → isLoud y = true → (l < i ↔ l < c)) → HH c = HH i := by
    have hconst : ∀ a b, a ≤ b → b ≤ ops.length → (∀ l y, a ≤ l → l < b → ops[l]? = some y → isLoud y = false) → HH b = HH a := by
      intro a b
      induction b with
      | zero => intro h _ _; have : a = 0 := by omega
                subst this; rfl
      | succ b ih =>
        intro h hb hno
        by_cases e : a = b + 1
        · subst e; rfl
        · have ho : ops[b]? = some ops[b] := List.getElem?_eq_getElem (by omega)
          rw [(e6 b _ ho).2.2.1 (hno b _ (by omega) (by omega) ho)]
          exact ih (by omega) (by omega) fun l y h1 h2 => hno l y h1 (by omega)
    intro c i hc hi hl
    rcases Nat.le_total c i with q | q
    · refine (hconst c i q hi fun l y h1 h2 hy => ?_).symm
      cases hly : isLoud y with
      | false => rfl
      | true => have := (hl l y hy hly).1 h2; omega
    · refine hconst i c q hc fun l y h1 h2 hy => ?_
      cases hly : isLoud y with
      | false => rfl
      | true => have := (hl l y hy hly).2 h2; omega
  have hdr : Drawn P G Ext ops V HH FF := {
    back := by
      intro i o ho e he hb
      have := hd1 _ (by simpa using mem_pairs ops 0 i o ho)
      have h2 := (Array.all_eq_true_iff_forall_mem.1 this) e he
      simp only [hb, Bool.not_true, Bool.false_or] at h2
      exact of_decide_eq_true h2
    loud := by
      intro i j x y hij hx hy lx ly
      exact (hpair i j x y hij hx hy).resolve_right fun h => h.1 ⟨lx, ly⟩
    slot := by
      intro i j x y hij hx hy hc
      exact (hpair i j x y hij hx hy).resolve_right fun h => by rw [h.2.1] at hc; cases hc
    st := fun i o ho => (e6 i o ho).1
    put := fun i o ho => (e6 i o ho).2.1
    quiet := by
      intro i o ho hl
      refine ⟨(e6 i o ho).2.2.1 hl, fun c hc hcond => ?_⟩
      by_cases hp : isPure o = true
      · exact (e6 i o ho).2.2.2.1 hp _
      · have hrd : isReader o = true := by
          unfold isLoud at hl
          simp only [Bool.not_eq_true] at hp
          rw [hp] at hl; simpa using hl
        by_cases hex : exempt ex o = true
        · exact (e6 i o ho).2.2.2.2 hrd hex _ (e5 c hc)
        · have hil := lt_length ho
          have hex' : exempt ex o = false := by simpa using hex
          have hci : HH c = HH i := hsame c i hc (by omega) fun l y hy hly => by
            constructor
            · intro hli
              have := (hpair l i y o hli hy ho).resolve_right fun h => h.2.2.1 ⟨hly, hrd, hex'⟩
              exact (hcond l y hy hly).1 this
            · intro hlc
              rcases Nat.lt_trichotomy l i with q | q | q
              · exact q
              · subst q
                rw [ho] at hy; cases hy
                rw [hl] at hly; cases hly
              · have := (hpair i l o y q ho hy).resolve_right fun h => h.2.2.2 ⟨hrd, hex', hly⟩
                have := (hcond l y hy hly).2 this
                omega
          have h1 := (e6 i o ho).1
          rw [(e6 i o ho).2.2.1 hl] at h1
          rw [hci]; exact h1 }
  have hgo : ∀ t, ∃ F', Big P G Ext (.ops ops.toArray (Region.linearise .any ops.toArray t) fr u) h (.x .normal F' u) h' ∧ fr'.le F' := by
    intro t
    have := hdr.go (u := u) ops.length t (Array.replicate ops.length false) fr 0 (by simp) ?_ (by rw [e1]) (by rw [e1]) ?_ (Nat.zero_le _) ?_ ?_
    · obtain ⟨F', b, hle⟩ := this
      rw [e2, e4] at b
      rw [e3] at hle
      refine ⟨F', ?_, hle⟩
      simpa [Region.linearise] using b
    · intro i o ho hi
      have := lt_length ho
      simp [this] at hi
    · intro s
      rw [e1, vat_congr (L' := fun j => decide (j < 0)) ops.length (fun j hj _ => by simp [hj]), vat_below ops.length (Nat.zero_le _)]
      rfl
    · intro l y hy _
      have := lt_length hy
      simp [this]
    · exact Nat.le_trans (List.length_filter_le _ _) (by simp)
  exact ⟨.normal, fr', u, h', .draw (frs := fun t => (hgo t).choose) hm (fun t => (hgo t).choose_spec.1) (fun t => (hgo t).choose_spec.2), hq⟩

/-- Operations without calls, carried out in the text's order, where the order is drawn. -/
def runD (P : Program) (G : Nat) (ops : Array Oper) : List Oper → Frm → Heap → Option (Frm × Heap)
  | [], fr, h => some (fr, h)
  | o :: l, fr, h => (awanted ops fr o).bind fun t =>
    if t then (aop P (aev G fr) o h).bind fun r =>
      match r with
      | (.val v, h1) => if isLoud o || decide (h1.next = h.next) then (fr.put o.dst v).bind fun fr1 => runD P G ops l fr1 h1 else none
      | (.skip, h1) => if isLoud o then (fr.put o.dst undef).bind fun fr1 => runD P G ops l fr1 h1 else none
      | _ => none
    else (fr.put o.dst undef).bind fun fr1 => runD P G ops l fr1 h

theorem aslice_heap {P : Program} {h h1 : Heap} {t : TypeId} {x v : Value} {lo hi mx : Option Value} (e : aslice P h t x lo hi mx = some (v, h1)) (hn : h1.next = h.next) : h1 = h := by
  unfold aslice at e
  split at e
  · split at e
    · cases e
    · obtain ⟨ti, _, e⟩ := Option.bind_eq_some_iff.1 e
      obtain ⟨hh, _, e⟩ := Option.bind_eq_some_iff.1 e
      obtain ⟨l, _, e⟩ := Option.bind_eq_some_iff.1 e
      simp only [Option.some.injEq, Prod.mk.injEq] at e
      exact e.2.symm
  · split at e
    · cases e
    · obtain ⟨hh, _, e⟩ := Option.bind_eq_some_iff.1 e
      obtain ⟨l, _, e⟩ := Option.bind_eq_some_iff.1 e
      simp only [Option.some.injEq, Prod.mk.injEq] at e
      exact e.2.symm
  · obtain ⟨ti, _, e⟩ := Option.bind_eq_some_iff.1 e
    split at e
    · split at e
      · obtain ⟨hh, _, e⟩ := Option.bind_eq_some_iff.1 e
        obtain ⟨l, _, e⟩ := Option.bind_eq_some_iff.1 e
        split at e
        · simp only [Option.some.injEq, Prod.mk.injEq] at e
          exact e.2.symm
        · split at e
          · simp only [Option.some.injEq, Prod.mk.injEq] at e
            exact e.2.symm
          · split at e
            · simp only [Option.some.injEq, Prod.mk.injEq] at e
              exact e.2.symm
            · simp only [Option.some.injEq, Prod.mk.injEq] at e
              rw [← e.2] at hn
              simp [Heap.alloc] at hn
      · cases e
    · obtain ⟨mm, _, e⟩ := Option.bind_eq_some_iff.1 e
      obtain ⟨hh, _, e⟩ := Option.bind_eq_some_iff.1 e
      obtain ⟨l, _, e⟩ := Option.bind_eq_some_iff.1 e
      split at e
      · split at e
        · cases e
        · simp only [Option.some.injEq, Prod.mk.injEq] at e
          exact e.2.symm
      · cases e
  · cases e

theorem bind_same {α : Type} {o : Option α} {f : α → AN} {h h1 : Heap} {x : AN} (e : (o.bind fun v => some (f v, h)) = some (x, h1)) : h1 = h := by
  cases o with
  | none => cases e
  | some v => simp only [Option.bind_some, Option.some.injEq, Prod.mk.injEq] at e; exact e.2.symm

theorem aop_quiet_heap {ρ : Operand → Option Value} {o : Oper} {h h1 : Heap} {v : Value} (hq : isLoud o = false) (e : aop P ρ o h = some (.val v, h1)) (hn : h1.next = h.next) : h1 = h := by
  obtain ⟨dst, op, type, pos, after, guard⟩ := o
  cases op with
  | call c =>
    obtain ⟨callee, args, ats⟩ := c
    cases callee with
    | builtin b =>
      cases b <;> try (cases hq; done)
      all_goals
        simp only [aop] at e
        obtain ⟨as, _, e⟩ := Option.bind_eq_some_iff.1 e
        unfold abuiltin at e
        split at e <;> first
          | (cases e; done)
          | exact bind_same e
          | (rename_i q _ _; cases q; done)
          | (rename_i q _; cases q; done)
    | value => cases hq
    | invoke => cases hq
  | slice t x lo hi mx =>
    simp only [aop] at e
    obtain ⟨a, _, e⟩ := Option.bind_eq_some_iff.1 e
    obtain ⟨l, _, e⟩ := Option.bind_eq_some_iff.1 e
    obtain ⟨hh, _, e⟩ := Option.bind_eq_some_iff.1 e
    obtain ⟨mm, _, e⟩ := Option.bind_eq_some_iff.1 e
    obtain ⟨⟨v', h'⟩, hs, e⟩ := Option.bind_eq_some_iff.1 e
    simp only [Option.some.injEq, Prod.mk.injEq, AN.val.injEq] at e
    rw [← e.2] at hn ⊢
    exact aslice_heap hs hn
  | move => exact bind_same e
  | assign => exact bind_same e
  | pick c a b =>
    simp only [aop] at e
    obtain ⟨cv, _, e⟩ := Option.bind_eq_some_iff.1 e
    split at e
    · exact bind_same e
    · cases e
  | build t parts =>
    simp only [aop] at e
    obtain ⟨ps, _, e⟩ := Option.bind_eq_some_iff.1 e
    exact bind_same e
  | load t a =>
    simp only [aop] at e
    obtain ⟨ps, _, e⟩ := Option.bind_eq_some_iff.1 e
    exact bind_same e
  | nilCheck x =>
    simp only [aop] at e
    obtain ⟨ps, _, e⟩ := Option.bind_eq_some_iff.1 e
    split at e
    · simp only [Option.some.injEq, Prod.mk.injEq] at e; exact e.2.symm
    · cases e
  | binOp op t x y z =>
    simp only [aop] at e
    obtain ⟨a, _, e⟩ := Option.bind_eq_some_iff.1 e
    obtain ⟨b, _, e⟩ := Option.bind_eq_some_iff.1 e
    exact bind_same e
  | unOp op t x =>
    simp only [aop] at e
    obtain ⟨a, _, e⟩ := Option.bind_eq_some_iff.1 e
    exact bind_same e
  | makeInterface t x =>
    simp only [aop] at e
    obtain ⟨a, _, e⟩ := Option.bind_eq_some_iff.1 e
    split at e
    · split at e
      · cases e
      · simp only [Option.some.injEq, Prod.mk.injEq] at e; exact e.2.symm
    · cases e
  | makeFunc fn a b =>
    simp only [aop] at e
    obtain ⟨a, _, e⟩ := Option.bind_eq_some_iff.1 e
    exact bind_same e
  | fieldAddr t x f =>
    simp only [aop] at e
    obtain ⟨a, _, e⟩ := Option.bind_eq_some_iff.1 e
    exact bind_same e
  | field t x f =>
    simp only [aop] at e
    obtain ⟨a, _, e⟩ := Option.bind_eq_some_iff.1 e
    exact bind_same e
  | indexAddr t x i =>
    simp only [aop] at e
    obtain ⟨a, _, e⟩ := Option.bind_eq_some_iff.1 e
    obtain ⟨b, _, e⟩ := Option.bind_eq_some_iff.1 e
    exact bind_same e
  | index t x i =>
    simp only [aop] at e
    obtain ⟨a, _, e⟩ := Option.bind_eq_some_iff.1 e
    obtain ⟨b, _, e⟩ := Option.bind_eq_some_iff.1 e
    exact bind_same e
  | typeAssert x a t ok =>
    simp only [aop] at e
    obtain ⟨a, _, e⟩ := Option.bind_eq_some_iff.1 e
    exact bind_same e
  | extract x i =>
    simp only [aop] at e
    obtain ⟨a, _, e⟩ := Option.bind_eq_some_iff.1 e
    exact bind_same e
  | _ => cases hq

theorem runD_trd {ex : List Nat} {K : Heap → Prop} : ∀ (l : List Oper) (F F' : Frm) (H H' : Heap), (∀ o ∈ l, exempt ex o = false) → (∀ H, K H) → runD P G ops.toArray l F H = some (F', H') → ∀ {l2 F2 H2}, Trd P G Ext ops ex K l2 F' H' F2 H2 → Trd P G Ext ops ex K (l ++ l2) F H F2 H2
  | [], F, F', H, H', _, _, e, l2, F2, H2, ht => by
    simp only [runD, Option.some.injEq, Prod.mk.injEq] at e
    obtain ⟨rfl, rfl⟩ := e
    exact ht
  | o :: l, F, F', H, H', hex, hK, e, l2, F2, H2, ht => by
    simp only [runD] at e
    obtain ⟨t, hw, e⟩ := Option.bind_eq_some_iff.1 e
    have hex' := fun o ho => hex o (List.mem_cons_of_mem _ ho)
    have hno : exempt ex o = true → False := fun q => by rw [hex o (by simp)] at q; cases q
    cases t with
    | false =>
      simp only [Bool.false_eq_true, if_false] at e
      obtain ⟨F1, hp, e⟩ := Option.bind_eq_some_iff.1 e
      exact .step (.unwanted hw) (fun _ => rfl) (fun _ _ => .unwanted hw) (fun _ _ _ _ => .unwanted hw) (hK _) hp (runD_trd l F1 F' H H' hex' hK e ht)
    | true =>
      simp only [if_true] at e
      obtain ⟨⟨r, h1⟩, hr, e⟩ := Option.bind_eq_some_iff.1 e
      cases r with
      | val v =>
        simp only [] at e
        split at e
        · rename_i hc
          obtain ⟨F1, hp, e⟩ := Option.bind_eq_some_iff.1 e
          have hh : isLoud o = false → h1 = H := fun hq => aop_quiet_heap hq hr (by rw [hq] at hc; simpa using hc)
          refine .step (.val hw hr) hh (fun hpu H2 => ?_) (fun _ q => (hno q).elim) (hK _) hp (runD_trd l F1 F' h1 H' hex' hK e ht)
          have hlo : isLoud o = false := by unfold isLoud; rw [hpu]; rfl
          have := hh hlo
          subst this
          exact .val hw (aop_pure hpu hr)
        · cases e
      | skip =>
        simp only [] at e
        split at e
        · rename_i hc
          obtain ⟨F1, hp, e⟩ := Option.bind_eq_some_iff.1 e
          refine .step (.skip hw hr) (fun q => by rw [hc] at q; cases q) (fun hpu => ?_) (fun _ q => (hno q).elim) (hK _) hp (runD_trd l F1 F' h1 H' hex' hK e ht)
          unfold isLoud at hc; rw [hpu] at hc; cases hc
        · cases e
      | _ => cases e

/-- A region without calls that draws its order. -/
theorem Wp.runDr {id : Nat} {ops : List Oper} {fr fr' : Frm} {u : Option FrameMode} {h h' : Heap} {Q : Exit → Frm → Option FrameMode → Heap → Prop} (hm : P.follows .mixedOrders = true) (hd : drawable ops [] = true)
    (hr : runD P G ops.toArray ops fr h = some (fr', h')) (hq : Q .normal fr' u h') : Wp P G Ext (.region id ops.toArray true) fr u h Q := by
  refine Wp.drawT [] (fun _ => True) hm hd trivial ?_ hq
  have := runD_trd (Ext := Ext) (ops := ops) (ex := []) (K := fun _ => True) ops fr fr' h h' (fun o _ => by unfold exempt; cases o.dst <;> rfl) (fun _ => trivial) hr .nil
  simpa using this

/-! ### loops -/
/-- Each of these slots holds this. -/
def holds (l : List (Nat × Value)) (s : List (Nat × Value)) : Prop :=
  match l with
  | [] => True
  | (k, v) :: l => look k s = some v ∧ holds l s
theorem holds_look : ∀ {l s : List (Nat × Value)}, holds l s → ∀ t v, look t l = some v → look t s = some v
  | [], _, _, t, v, h => by simp [look] at h
  | (k, u) :: l, s, ⟨h1, h2⟩, t, v, h => by
    simp only [look] at h
    split at h
    · rename_i e; subst e; cases h; exact h1
    · exact holds_look h2 t v h
theorem Frm.le_of {n : Nat} {l s : List (Nat × Value)} {d : List Deferred} (h : holds l s) : (⟨n, l, d⟩ : Frm).le ⟨n, s, d⟩ := ⟨rfl, rfl, holds_look h⟩

/-- A loop: X tells what is the same at every round's head: the slots and the heap; a measure goes down. -/
theorem Wp.loopI {X : Type} {c : Code} {n : Nat} {s : List (Nat × Value)} {d : List Deferred} {u : Option FrameMode} {h : Heap} {Q : Exit → Frm → Option FrameMode → Heap → Prop}
    (F : X → List (Nat × Value)) (H : X → Heap) (I : X → Prop) (μ : X → Nat) (x0 : X) (hI : I x0) (hF : holds (F x0) s) (hH : H x0 = h)
    (round : ∀ x, I x → Wp P G Ext c ⟨n, F x, d⟩ u (H x) (after (fun fr' u' h' => ∃ x' s', I x' ∧ μ x' < μ x ∧ fr' = ⟨n, s', d⟩ ∧ holds (F x') s' ∧ u' = u ∧ h' = H x') Q)) :
    Wp P G Ext (.loop c) ⟨n, s, d⟩ u h Q := by
  have key : ∀ k x, μ x = k → I x → Wp P G Ext (.loop c) ⟨n, F x, d⟩ u (H x) Q := by
    intro k
    induction k using Nat.strongRecOn with
    | _ k ih =>
      intro x hk hx
      refine Wp.loop ((round x hx).mono ?_)
      intro e fr' u' h' hq
      cases e with
      | normal =>
        obtain ⟨x', s', h1, h2, rfl, h4, rfl, rfl⟩ := hq
        exact Wp.weaken (Frm.le_of h4) (ih (μ x') (by omega) x' rfl h1)
      | _ => exact hq
  subst hH
  exact Wp.weaken (Frm.le_of hF) (key _ x0 rfl hI)
end
end Go.Mini
