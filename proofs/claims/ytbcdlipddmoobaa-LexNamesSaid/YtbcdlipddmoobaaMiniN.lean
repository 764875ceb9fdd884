/-
  MINI, part N: a region that draws its order: one run in the text's order serves every order.
-/
import Derived.Test.YtbcdlipddmoobaaMiniM
import Derived.Still
namespace Go.Mini

/-! ### which operations look at the memory, and which turn it -/
/-- It looks at no memory (a slice's tail at the end of unknown room apart). -/
def isPure (o : Oper) : Bool :=
  match o.op with
  | .move _ | .assign _ | .pick .. | .build .. | .nilCheck _ | .unOp .. | .makeInterface .. | .makeFunc .. | .slice .. | .fieldAddr .. | .field .. | .indexAddr .. | .index .. | .typeAssert .. | .extract .. => true
  | .binOp op _ x y _ => !(isEqOp op && !isConstO x && !isConstO y)
  | .call c => match c.callee with
    | .builtin .max | .builtin .min => true
    | _ => false
  | _ => false
/-- It looks at the memory, and leaves it. -/
def isReader (o : Oper) : Bool :=
  match o.op with
  | .load .. => true
  | .binOp op _ x y _ => isEqOp op && !isConstO x && !isConstO y
  | .call c => match c.callee with
    | .builtin .len => true
    | _ => false
  | _ => false
def isLoud (o : Oper) : Bool := !isPure o && !isReader o

theorem aslice_indep {P : Program} {h h2 : Heap} {t : TypeId} {x v : Value} {lo hi mx : Option Value} (e : aslice P h t x lo hi mx = some (v, h)) : aslice P h2 t x lo hi mx = some (v, h2) := by
  unfold aslice at e ⊢
  split at e
  · split at e
    · cases e
    · rename_i hmx
      obtain ⟨ti, h1, e⟩ := Option.bind_eq_some_iff.1 e
      obtain ⟨hh, h3, e⟩ := Option.bind_eq_some_iff.1 e
      obtain ⟨l, h4, e⟩ := Option.bind_eq_some_iff.1 e
      simp only [Option.some.injEq, Prod.mk.injEq, and_true] at e
      simp [hmx, h1, h3, h4, e]
  · split at e
    · cases e
    · rename_i hmx
      obtain ⟨hh, h3, e⟩ := Option.bind_eq_some_iff.1 e
      obtain ⟨l, h4, e⟩ := Option.bind_eq_some_iff.1 e
      simp only [Option.some.injEq, Prod.mk.injEq, and_true] at e
      simp [hmx, h3, h4, e]
  · obtain ⟨ti, h1, e⟩ := Option.bind_eq_some_iff.1 e
    simp only [h1, Option.bind_some]
    cases mx with
    | none =>
      simp only [] at e ⊢
      split at e
      · rename_i hlc
        rw [if_pos hlc]
        obtain ⟨hh, h3, e⟩ := Option.bind_eq_some_iff.1 e
        obtain ⟨l, h4, e⟩ := Option.bind_eq_some_iff.1 e
        simp only [h3, h4, Option.bind_some]
        split at e
        · simp only [Option.some.injEq, Prod.mk.injEq, and_true] at e; simp [e]
        · split at e
          · rename_i hne
            simp only [Option.some.injEq, Prod.mk.injEq, and_true] at e; simp [hne, e]
          · rename_i hne
            split at e
            · rename_i hsp
              simp only [Option.some.injEq, Prod.mk.injEq, and_true] at e; simp [hne, hsp, e]
            · simp only [Option.some.injEq, Prod.mk.injEq] at e
              have := congrArg Heap.next e.2
              simp at this
      · cases e
    | some mv =>
      simp only [] at e ⊢
      obtain ⟨mm, h2', e⟩ := Option.bind_eq_some_iff.1 e
      obtain ⟨hh, h3, e⟩ := Option.bind_eq_some_iff.1 e
      obtain ⟨l, h4, e⟩ := Option.bind_eq_some_iff.1 e
      simp only [h2', h3, h4, Option.bind_some]
      split at e
      · rename_i hhi
        rw [if_pos hhi]
        split at e
        · cases e
        · simp only [Option.some.injEq, Prod.mk.injEq, and_true] at e; simp [e]
      · cases e
  · cases e

theorem aop_pure {P : Program} {ρ : Operand → Option Value} {o : Oper} {h h2 : Heap} {v : Value} (hp : isPure o = true) (e : aop P ρ o h = some (.val v, h)) : aop P ρ o h2 = some (.val v, h2) := by
  obtain ⟨dst, op, type, pos, after, guard⟩ := o
  cases op <;> simp only [isPure] at hp <;> try (cases hp; done)
  case call c =>
    obtain ⟨callee, args, ats⟩ := c
    cases callee with
    | builtin b =>
      cases b <;> try (cases hp; done)
      all_goals
        simp only [aop] at e ⊢
        obtain ⟨as, has, e⟩ := Option.bind_eq_some_iff.1 e
        simp only [has, Option.bind_some]
        unfold abuiltin at e ⊢
        simp only [] at e ⊢
        obtain ⟨r, hr, e⟩ := Option.bind_eq_some_iff.1 e
        simp only [Option.some.injEq, Prod.mk.injEq, AN.val.injEq, and_true] at e
        simp [hr, e]
    | _ => cases hp
  case slice t x lo hi mx =>
    simp only [aop] at e ⊢
    obtain ⟨a, ha, e⟩ := Option.bind_eq_some_iff.1 e
    obtain ⟨l, hl, e⟩ := Option.bind_eq_some_iff.1 e
    obtain ⟨hh, hhh, e⟩ := Option.bind_eq_some_iff.1 e
    obtain ⟨mm, hmm, e⟩ := Option.bind_eq_some_iff.1 e
    obtain ⟨⟨v', h'⟩, hs, e⟩ := Option.bind_eq_some_iff.1 e
    simp only [Option.some.injEq, Prod.mk.injEq, AN.val.injEq] at e
    obtain ⟨rfl, rfl⟩ := e
    simp only [ha, hl, hhh, hmm, Option.bind_some, aslice_indep (h2 := h2) hs]
  case pick c a b =>
    simp only [aop] at e ⊢
    obtain ⟨cv, hc, e⟩ := Option.bind_eq_some_iff.1 e
    simp only [hc, Option.bind_some]
    cases cv <;> try (cases e; done)
    obtain ⟨r, hr, e⟩ := Option.bind_eq_some_iff.1 e
    simp only [Option.some.injEq, Prod.mk.injEq, AN.val.injEq, and_true] at e
    simp [hr, e]
  case nilCheck x =>
    simp only [aop] at e ⊢
    obtain ⟨cv, hc, e⟩ := Option.bind_eq_some_iff.1 e
    simp only [hc, Option.bind_some]
    split at e
    · rename_i hn
      simp only [Option.some.injEq, Prod.mk.injEq, AN.val.injEq, and_true] at e
      subst e
      simp [hn]
    · cases e
  case binOp op t x y yt =>
    have hp' : (isEqOp op && !isConstO x && !isConstO y) = false := Bool.not_eq_true' _ ▸ hp
    simp only [aop, hp', binA, Bool.false_eq_true, if_false] at e ⊢
    obtain ⟨a, ha, e⟩ := Option.bind_eq_some_iff.1 e
    obtain ⟨b, hb, e⟩ := Option.bind_eq_some_iff.1 e
    obtain ⟨u, hu, e⟩ := Option.bind_eq_some_iff.1 e
    simp only [Option.some.injEq, Prod.mk.injEq, AN.val.injEq, and_true] at e
    subst e
    simp only [ha, hb, hu, Option.bind_some]
  case makeInterface t x =>
    simp only [aop] at e ⊢
    obtain ⟨cv, hc, e⟩ := Option.bind_eq_some_iff.1 e
    simp only [hc, Option.bind_some]
    split at e
    · split at e
      · cases e
      · simp only [Option.some.injEq, Prod.mk.injEq, AN.val.injEq, and_true] at e
        simp [e]
    · cases e
  all_goals
    simp only [aop] at e ⊢
    repeat (first
      | (obtain ⟨_, hx, e⟩ := Option.bind_eq_some_iff.1 e; rw [hx, Option.bind_some])
      | (simp only [Option.some.injEq, Prod.mk.injEq, AN.val.injEq, and_true] at e; subst e; rfl))

/-! ### operands -/
theorem evs_congr {ρ ρ' : Operand → Option Value} : ∀ {l : List Operand}, (∀ x ∈ l, ρ x = ρ' x) → evs ρ l = evs ρ' l
  | [], _ => rfl
  | x :: l, h => by simp only [evs]; rw [h x (by simp), evs_congr fun y hy => h y (by simp [hy])]
theorem evp_congr {ρ ρ' : Operand → Option Value} : ∀ {l : List (Nat × Operand)}, (∀ x ∈ l, ρ x.2 = ρ' x.2) → evp ρ l = evp ρ' l
  | [], _ => rfl
  | x :: l, h => by simp only [evp]; rw [h x (by simp), evp_congr fun y hy => h y (by simp [hy])]
theorem evo_congr {ρ ρ' : Operand → Option Value} {x : Option Operand} (h : ∀ y, x = some y → ρ y = ρ' y) : evo ρ x = evo ρ' x := by
  cases x with
  | none => rfl
  | some y => simp only [evo]; rw [h y rfl]

theorem aop_congr {P : Program} {ρ ρ' : Operand → Option Value} {o : Oper} {h : Heap} (hx : ∀ x ∈ o.op.operands, ρ x = ρ' x) (hg : ∀ g, ρ (.global g) = ρ' (.global g)) : aop P ρ o h = aop P ρ' o h := by
  have hext : (fun g => ρ (.global g)) = fun g => ρ' (.global g) := funext hg
  obtain ⟨dst, op, type, pos, after, guard⟩ := o
  cases op <;> simp only [Op.operands] at hx <;> simp only [aop]
  case build t ps => rw [evp_congr fun x hm => hx x.2 (by simp only [List.mem_toArray, List.mem_map]; exact ⟨x, hm, rfl⟩)]
  case buildSlice t n ps => rw [evp_congr fun x hm => hx x.2 (by simp only [List.mem_toArray, List.mem_map]; exact ⟨x, hm, rfl⟩)]
  case pick c a b =>
    rw [hx c (by simp)]
    congr 1
    funext cv
    cases cv <;> try rfl
    rename_i t
    cases t
    · simp only [Bool.false_eq_true, if_false]; rw [hx b (by simp)]
    · simp only [if_true]; rw [hx a (by simp)]
  case makeFunc fn first captured =>
    rw [evs_congr fun x hm => hx x (by simp; exact .inl (by simpa using hm)), evs_congr (l := captured.toList) fun x hm => hx x (by simp; exact .inr (by simpa using hm))]
  case slice t x lo hi mx =>
    rw [hx x (by simp), evo_congr (x := lo) fun y hy => hx y (by subst hy; simp), evo_congr (x := hi) fun y hy => hx y (by subst hy; simp), evo_congr (x := mx) fun y hy => hx y (by subst hy; simp)]
  case call c =>
    obtain ⟨callee, args, ats⟩ := c
    simp only [Call.operands] at hx
    cases callee with
    | value f => simp only [hext]; rw [hx f (by simp), evs_congr (l := args.toList) fun x hm => hx x (by simp; exact .inr (by simpa using hm))]
    | builtin b => simp only []; rw [evs_congr (l := args.toList) fun x hm => hx x (by simpa using hm)]
    | invoke r s => rfl
  case defer c =>
    obtain ⟨callee, args, ats⟩ := c
    simp only [Call.operands] at hx
    cases callee with
    | value f => simp only []; rw [hx f (by simp), evs_congr (l := args.toList) fun x hm => hx x (by simp; exact .inr (by simpa using hm))]
    | _ => rfl
  case store t a x => rw [hx a (by simp), hx x (by simp)]
  case binOp op t x y yt => rw [hx x (by simp), hx y (by simp)]
  case makeSlice t l c => rw [hx l (by simp), hx c (by simp)]
  case indexAddr t x i => rw [hx x (by simp), hx i (by simp)]
  case index t x i => rw [hx x (by simp), hx i (by simp)]
  all_goals first
    | rfl
    | (rename_i x; rw [hx x (by simp)])
    | (rename_i x _; rw [hx x (by simp)])
    | (rename_i x _ _; rw [hx x (by simp)])
    | (rename_i x _ _ _; rw [hx x (by simp)])

/-! ### the order -/
def maskE (acc : List Nat) (s : Nat) (e : Edge) : Nat := if Region.binds .any e then s ||| 2 ^ e.on ||| acc.getD e.on 0 else s
def maskOf (acc : List Nat) (o : Oper) : Nat := o.after.toList.foldl (maskE acc) 0
def masks (acc : List Nat) : List Oper → List Nat
  | [] => acc
  | o :: l => masks (acc ++ [maskOf acc o]) l
theorem masks_prefix : ∀ (l : List Oper) (acc : List Nat) (i : Nat), i < acc.length → (masks acc l)[i]? = acc[i]?
  | [], acc, i, _ => rfl
  | o :: l, acc, i, hi => by
    simp only [masks]
    rw [masks_prefix l _ i (by simp; omega), List.getElem?_append_left hi]
theorem masks_at : ∀ (l : List Oper) (acc : List Nat) (j : Nat) (o : Oper), l[j]? = some o → ∃ acc', (masks acc l)[acc.length + j]? = some (maskOf acc' o) ∧ ∀ i, i < acc.length + j → acc'[i]? = (masks acc l)[i]?
  | [], acc, j, o, h => by simp at h
  | p :: l, acc, 0, o, h => by
    simp only [List.getElem?_cons_zero, Option.some.injEq] at h
    subst h
    refine ⟨acc, ?_, fun i hi => ?_⟩
    · simp only [masks, Nat.add_zero]
      rw [masks_prefix l _ _ (by simp), List.getElem?_append_right (Nat.le_refl _)]
      simp
    · simp only [masks]
      rw [masks_prefix l _ i (by simp; omega), List.getElem?_append_left (by omega)]
  | p :: l, acc, j + 1, o, h => by
    simp only [List.getElem?_cons_succ] at h
    obtain ⟨acc', h1, h2⟩ := masks_at l (acc ++ [maskOf acc p]) j o h
    simp only [List.length_append, List.length_singleton] at h1 h2
    refine ⟨acc', ?_, fun i hi => ?_⟩
    · simp only [masks]; rw [← h1]; congr 1; omega
    · simp only [masks]; exact h2 i (by omega)
theorem foldl_maskE (acc : List Nat) (j : Nat) : ∀ (es : List Edge) (s : Nat), (es.foldl (maskE acc) s).testBit j = true → s.testBit j = true ∨ ∃ e ∈ es, Region.binds .any e = true ∧ (j = e.on ∨ (acc.getD e.on 0).testBit j = true)
  | [], s, h => .inl h
  | e :: es, s, h => by
    simp only [List.foldl_cons] at h
    rcases foldl_maskE acc j es _ h with h | ⟨e', he', hb, hj⟩
    · unfold maskE at h
      split at h
      · rename_i hb
        simp only [Nat.testBit_or, Bool.or_eq_true] at h
        rcases h with (h | h) | h
        · exact .inl h
        · refine .inr ⟨e, by simp, hb, .inl ?_⟩
          rw [Nat.testBit_two_pow] at h
          simpa using (of_decide_eq_true h).symm
        · exact .inr ⟨e, by simp, hb, .inr h⟩
      · exact .inl h
    · exact .inr ⟨e', by simp [he'], hb, hj⟩

/-- Does operation i surely come ahead of operation j? -/
def ahead (ops : List Oper) (i j : Nat) : Bool := ((masks [] ops).getD j 0).testBit i

/-- What is ahead of an operation all of whose edges are met is met. -/
theorem ahead_closed (ops : List Oper) (L : Nat → Prop) (hback : ∀ i o, ops[i]? = some o → ∀ e ∈ o.after, Region.binds .any e = true → e.on < i)
    (hdown : ∀ i o, L i → ops[i]? = some o → ∀ e ∈ o.after, Region.binds .any e = true → L e.on) :
    ∀ (j : Nat) (o : Oper), ops[j]? = some o → (∀ e ∈ o.after, Region.binds .any e = true → L e.on) → ∀ i, ahead ops i j = true → L i := by
  intro j
  induction j using Nat.strongRecOn with
  | _ j ih =>
    intro o ho hall i ha
    obtain ⟨acc, h1, h2⟩ := masks_at ops [] j o ho
    simp only [List.length_nil, Nat.zero_add] at h1 h2
    unfold ahead at ha
    rw [List.getD_eq_getElem?_getD, h1, Option.getD_some] at ha
    unfold maskOf at ha
    rcases foldl_maskE acc i _ _ ha with h | ⟨e, he, hb, h⟩
    · simp at h
    · have he' : e ∈ o.after := by simpa using he
      have hlt := hback j o ho e he' hb
      have hL := hall e he' hb
      rcases h with h | h
      · rw [h]; exact hL
      · have hlen : e.on < ops.length := by
          have : j < ops.length := by
            rcases Nat.lt_or_ge j ops.length with q | q
            · exact q
            · rw [List.getElem?_eq_none q] at ho; cases ho
          omega
        have hoo : ops[e.on]? = some ops[e.on] := List.getElem?_eq_getElem hlen
        refine ih e.on hlt _ hoo (fun e2 he2 hb2 => hdown e.on _ hL hoo e2 he2 hb2) i ?_
        unfold ahead
        rw [List.getD_eq_getElem?_getD, ← h2 e.on hlt, ← List.getD_eq_getElem?_getD]
        exact h

/-! ### one operation, whatever it is, that hands back a value -/
section
variable {P : Program} {G : Nat} {Ext : FuncId → List Value → Heap → Value → Heap → Prop} {ops : List Oper}

inductive St (P : Program) (G : Nat) (Ext : FuncId → List Value → Heap → Value → Heap → Prop) (ops : List Oper) (o : Oper) (F : Frm) (H : Heap) : Value → Heap → Prop where
  | unwanted : awanted ops.toArray F o = some false → St P G Ext ops o F H undef H
  | val {v H'} : awanted ops.toArray F o = some true → aop P (aev G F) o H = some (.val v, H') → St P G Ext ops o F H v H'
  | skip {H'} : awanted ops.toArray F o = some true → aop P (aev G F) o H = some (.skip, H') → St P G Ext ops o F H undef H'
  | call {f args H1 v H'} : awanted ops.toArray F o = some true → aop P (aev G F) o H = some (.call f args, H1) → Big P G Ext (.call f args) H1 (.ends (.returned v)) H' → St P G Ext ops o F H v H'

theorem St.big {o : Oper} {i : Nat} {F F' : Frm} {H H' : Heap} {v : Value} (hs : St P G Ext ops o F H v H') (hi : ops[i]? = some o) (hp : F.put o.dst v = some F') {l : List Nat} {u : Option FrameMode} {out : Out} {H2 : Heap}
    (hb : Big P G Ext (.ops ops.toArray l F' u) H' out H2) : Big P G Ext (.ops ops.toArray (i :: l) F u) H out H2 := by
  have hi' : ops.toArray[i]? = some o := by simpa using hi
  cases hs with
  | unwanted hw => exact .opsUnwanted hi' hw hp hb
  | val hw ha => exact .opsVal hi' hw ha hp hb
  | skip hw ha => exact .opsSkip hi' hw ha hp hb
  | call hw ha hc => exact .opsCall hi' hw ha hc hp hb

theorem aev_congr {F F2 : Frm} {o : Oper} (h : ∀ s ∈ o.looksAt ops.toArray, look s F.slots = look s F2.slots) : ∀ x ∈ o.op.operands, aev G F x = aev G F2 x := by
  intro x hx
  cases x with
  | tmp t => exact h t (List.mem_append_left _ (List.mem_filterMap.2 ⟨.tmp t, by simpa using hx, rfl⟩))
  | _ => rfl
theorem awanted_congr {F F2 : Frm} {o : Oper} (h : ∀ s ∈ o.looksAt ops.toArray, look s F.slots = look s F2.slots) : awanted ops.toArray F o = awanted ops.toArray F2 o := by
  unfold awanted
  cases hg : o.guard with
  | none => rfl
  | some g =>
    obtain ⟨j, want⟩ := g
    simp only []
    cases hd : (ops.toArray[j]?).bind (·.dst) with
    | none => rfl
    | some d =>
      simp only []
      rw [h d (by unfold Oper.looksAt; rw [hg]; exact List.mem_append_right _ (by simp only [hd]; simp))]
theorem St.congr {o : Oper} {F F2 : Frm} {H H' : Heap} {v : Value} (hs : St P G Ext ops o F H v H') (h : ∀ s ∈ o.looksAt ops.toArray, look s F.slots = look s F2.slots) : St P G Ext ops o F2 H v H' := by
  have h1 := awanted_congr h
  have h2 : aop P (aev G F) o = aop P (aev G F2) o := funext fun H => aop_congr (aev_congr h) fun _ => rfl
  cases hs with
  | unwanted hw => exact .unwanted (h1 ▸ hw)
  | val hw ha => exact .val (h1 ▸ hw) (h2 ▸ ha)
  | skip hw ha => exact .skip (h1 ▸ hw) (h2 ▸ ha)
  | call hw ha hc => exact .call (h1 ▸ hw) (h2 ▸ ha) hc

/-- What a slot holds when the operations of L are done. -/
def vat (ops : List Oper) (V : Nat → Value) (fr : Frm) (t : Nat) (L : Nat → Bool) : Nat → Option Value
  | 0 => look t fr.slots
  | k + 1 => if L k = true ∧ (ops[k]?).bind (·.dst) = some t then some (V k) else vat ops V fr t L k
theorem vat_congr {V : Nat → Value} {fr : Frm} {t : Nat} {L L' : Nat → Bool} : ∀ (k : Nat), (∀ j, j < k → (ops[j]?).bind (·.dst) = some t → L j = L' j) → vat ops V fr t L k = vat ops V fr t L' k
  | 0, _ => rfl
  | k + 1, h => by
    simp only [vat]
    by_cases hd : (ops[k]?).bind (·.dst) = some t
    · rw [h k (by omega) hd, vat_congr k fun j hj => h j (by omega)]
    · simp only [hd, and_false, if_false]
      exact vat_congr k fun j hj => h j (by omega)
theorem vat_top {V : Nat → Value} {fr : Frm} {t i : Nat} {L : Nat → Bool} (hL : L i = true) (hd : (ops[i]?).bind (·.dst) = some t) : ∀ (k : Nat), i < k → (∀ j, i < j → j < k → (ops[j]?).bind (·.dst) = some t → L j = false) → vat ops V fr t L k = some (V i)
  | 0, h, _ => by omega
  | k + 1, h, hno => by
    simp only [vat]
    by_cases e : k = i
    · subst e; rw [if_pos ⟨hL, hd⟩]
    · rw [if_neg (fun q => by have := hno k (by omega) (by omega) q.2; rw [this] at q; cases q.1)]
      exact vat_top hL hd k (by omega) fun j h1 h2 => hno j h1 (by omega)
theorem vat_below {V : Nat → Value} {fr : Frm} {t i : Nat} : ∀ (k : Nat), i ≤ k → vat ops V fr t (fun j => decide (j < i)) k = vat ops V fr t (fun _ => true) i
  | 0, h => by
    have : i = 0 := by omega
    subst this; rfl
  | k + 1, h => by
    by_cases e : i = k + 1
    · subst e
      exact vat_congr (k + 1) fun j hj _ => by simp [hj]
    · simp only [vat]
      rw [if_neg (by simp; omega)]
      exact vat_below k (by omega)

/-- The two operations touch one slot, and one of them writes it. -/
def clash (ops : List Oper) (x y : Oper) : Bool :=
  (match x.dst with | some d => (y.looksAt ops.toArray).contains d || y.dst == some d | none => false) ||
  (match y.dst with | some d => (x.looksAt ops.toArray).contains d | none => false)

/-- All edges of what is in L lie in L. -/
def Closed (ops : List Oper) (L : Nat → Bool) : Prop := ∀ i o, ops[i]? = some o → L i = true → ∀ e ∈ o.after, Region.binds .any e = true → L e.on = true
def also (L : Nat → Bool) (i : Nat) : Nat → Bool := fun j => if j = i then true else L j

/-- A region that draws: what each operation yields is one, whatever was done ahead of it; the memory is told by which operations are done. -/
structure Drawn (P : Program) (G : Nat) (Ext : FuncId → List Value → Heap → Value → Heap → Prop) (ops : List Oper) (V : Nat → Value) (HS : (Nat → Bool) → Heap) (FF : Nat → Frm) : Prop where
  back : ∀ i o, ops[i]? = some o → ∀ e ∈ o.after, Region.binds .any e = true → e.on < i
  slot : ∀ i j x y, i < j → ops[i]? = some x → ops[j]? = some y → clash ops x y = true → ahead ops i j = true
  ext : ∀ L L', (∀ j, j < ops.length → L j = L' j) → HS L = HS L'
  st : ∀ L i o, Closed ops L → ops[i]? = some o → L i = false → (∀ e ∈ o.after, Region.binds .any e = true → L e.on = true) → St P G Ext ops o (FF i) (HS L) (V i) (HS (also L i))
  put : ∀ i o, ops[i]? = some o → (FF i).put o.dst (V i) = some (FF (i + 1))

theorem lt_length {i : Nat} {o : Oper} (h : ops[i]? = some o) : i < ops.length := by
  rcases Nat.lt_or_ge i ops.length with q | q
  · exact q
  · rw [List.getElem?_eq_none q] at h; cases h

variable {V : Nat → Value} {HS : (Nat → Bool) → Heap} {FF : Nat → Frm}

theorem put_size {F F' : Frm} {d : Option Nat} {v : Value} (h : F.put d v = some F') : F'.size = F.size ∧ F'.defers = F.defers := by
  unfold Frm.put at h
  split at h
  · cases h; exact ⟨rfl, rfl⟩
  · split at h
    · cases h; exact ⟨rfl, rfl⟩
    · cases h
theorem put_look {F F' : Frm} {d : Option Nat} {v : Value} (h : F.put d v = some F') (t : Nat) : look t F'.slots = if d = some t then some v else look t F.slots := by
  unfold Frm.put at h
  split at h
  · cases h; simp
  · rename_i d
    split at h
    · cases h
      simp only [look_setk, Option.some.injEq]
      by_cases e : t = d
      · subst e; simp
      · rw [if_neg e, if_neg (Ne.symm e)]
    · cases h
theorem put_ok {F F1 F2 : Frm} {d : Option Nat} {v w : Value} (h : F.put d v = some F1) (hs : F2.size = F.size) : ∃ F3, F2.put d w = some F3 := by
  unfold Frm.put at h ⊢
  cases d with
  | none => exact ⟨_, rfl⟩
  | some d =>
    simp only [] at h ⊢
    split at h
    · rename_i hd
      rw [hs, if_pos hd]; exact ⟨_, rfl⟩
    · cases h

theorem Drawn.frames (hd : Drawn P G Ext ops V HS FF) : ∀ i, i ≤ ops.length → (FF i).size = (FF 0).size ∧ (FF i).defers = (FF 0).defers ∧ ∀ t, look t (FF i).slots = vat ops V (FF 0) t (fun _ => true) i
  | 0, _ => ⟨rfl, rfl, fun _ => rfl⟩
  | i + 1, hi => by
    obtain ⟨h1, h2, h3⟩ := hd.frames i (by omega)
    have ho : ops[i]? = some ops[i] := List.getElem?_eq_getElem (by omega)
    have hp := hd.put i _ ho
    obtain ⟨q1, q2⟩ := put_size hp
    refine ⟨q1.trans h1, q2.trans h2, fun t => ?_⟩
    rw [put_look hp, h3 t]
    simp only [vat, ho, Option.bind_some, true_and]

theorem clash_of {x y : Oper} {t : Nat} (hx : x.dst = some t) (hy : t ∈ y.looksAt ops.toArray ∨ y.dst = some t) : clash ops x y = true := by
  unfold clash
  rw [hx]
  simp only [Bool.or_eq_true]
  left
  rcases hy with hy | hy
  · left; simpa using hy
  · right; simp [hy]
theorem clash_of' {x y : Oper} {t : Nat} (hy : y.dst = some t) (hx : t ∈ x.looksAt ops.toArray) : clash ops x y = true := by
  unfold clash
  rw [hy]
  simp only [Bool.or_eq_true]
  right
  simpa using hx

theorem Drawn.go (hd : Drawn P G Ext ops V HS FF) {u : Option FrameMode} : ∀ (fuel t : Nat) (listed : Array Bool) (F : Frm), listed.size = ops.length →
    (∀ i o, ops[i]? = some o → listed.getD i true = true → ∀ e ∈ o.after, Region.binds .any e = true → listed.getD e.on false = true) →
    F.size = (FF 0).size → F.defers = (FF 0).defers → (∀ s, look s F.slots = vat ops V (FF 0) s (fun j => listed.getD j true) ops.length) →
    ((List.range ops.length).filter fun j => !listed.getD j true).length ≤ fuel →
    ∃ F', Big P G Ext (.ops ops.toArray (Region.linearise.go .any ops.toArray fuel t listed []) F u) (HS fun j => listed.getD j true) (.x .normal F' u) (HS fun _ => true) ∧ (FF ops.length).le F' := by
  intro fuel
  induction fuel with
  | zero =>
    intro t listed F hsz hdown h1 h2 h3 hfuel
    have hall : ∀ j, j < ops.length → listed.getD j true = true := by
      intro j hj
      have hnil : ((List.range ops.length).filter fun j => !listed.getD j true) = [] := List.length_eq_zero_iff.1 (by omega)
      have := (List.filter_eq_nil_iff.1 hnil) j (by simpa using hj)
      simpa using this
    refine ⟨F, ?_, ?_⟩
    · simp only [Region.linearise.go, List.reverse_nil]
      rw [hd.ext (fun j => listed.getD j true) (fun _ => true) hall]
      exact .opsNil
    · obtain ⟨g1, g2, g3⟩ := hd.frames ops.length (Nat.le_refl _)
      refine ⟨by rw [g1, h1], by rw [g2, h2], fun s v hs => ?_⟩
      rw [h3, vat_congr (L' := fun _ => true) ops.length fun j hj _ => hall j hj, ← g3]
      exact hs
  | succ fuel ih =>
    intro t listed F hsz hdown h1 h2 h3 hfuel
    simp only [Region.linearise.go]
    change ∃ F', Big P G Ext (.ops ops.toArray (match (Region.ready .any ops.toArray listed)[t % (Region.ready .any ops.toArray listed).length]? with
      | some i => Region.linearise.go .any ops.toArray fuel (t / (Region.ready .any ops.toArray listed).length) (listed.setIfInBounds i true) [i]
      | none => [].reverse) F u) (HS fun j => listed.getD j true) (.x .normal F' u) (HS fun _ => true) ∧ (FF ops.length).le F'
    have hgd : ∀ j, j < ops.length → listed.getD j false = listed.getD j true := by
      intro j hj
      have : j < listed.size := by omega
      simp [this]
    cases hi : (Region.ready .any ops.toArray listed)[t % (Region.ready .any ops.toArray listed).length]? with
    | none =>
      have hnil : Region.ready .any ops.toArray listed = [] := by
        cases hr : Region.ready .any ops.toArray listed with
        | nil => rfl
        | cons x xs =>
          rw [hr] at hi
          have hlt : t % (x :: xs).length < (x :: xs).length := Nat.mod_lt _ (by simp)
          rw [List.getElem?_eq_getElem hlt] at hi
          cases hi
      -- then every operation is done
      have hall : ∀ j, j < ops.length → listed.getD j true = true := by
        intro j
        induction j using Nat.strongRecOn with
        | _ j ihj =>
          intro hj
          cases e : listed.getD j true with
          | true => rfl
          | false =>
            have ho : ops[j]? = some ops[j] := List.getElem?_eq_getElem hj
            have : j ∈ Region.ready .any ops.toArray listed := mem_ready.2 ⟨e, ops[j], by simp, fun ed hed hb => by
              have hlt := hd.back j _ ho ed hed hb
              rw [hgd ed.on (by omega)]
              exact ihj ed.on hlt (by omega)⟩
            rw [hnil] at this; cases this
      obtain ⟨F', b, hle⟩ := ih 0 listed F hsz hdown h1 h2 h3 (by
        have : ((List.range ops.length).filter fun j => !listed.getD j true) = [] := List.filter_eq_nil_iff.2 fun j hj => by simp [hall j (by simpa using hj)]
        rw [this]; simp)
      have hgo : Region.linearise.go .any ops.toArray fuel 0 listed [] = [] := by
        cases fuel with
        | zero => rfl
        | succ f =>
          simp only [Region.linearise.go]
          change (match (Region.ready .any ops.toArray listed)[0 % (Region.ready .any ops.toArray listed).length]? with
            | some i => Region.linearise.go .any ops.toArray f (0 / (Region.ready .any ops.toArray listed).length) (listed.setIfInBounds i true) [i]
            | none => [].reverse) = []
          rw [hnil]; rfl
      rw [hgo] at b
      exact ⟨F', b, hle⟩
    | some i =>
      simp only []
      rw [linearise_go_acc, List.reverse_singleton, List.singleton_append]
      have hmem : i ∈ Region.ready .any ops.toArray listed := List.mem_of_getElem? hi
      obtain ⟨hun, o, ho', hpre⟩ := mem_ready.1 hmem
      have ho : ops[i]? = some o := by simpa using ho'
      have hil := lt_length ho
      -- what is met
      have hclosed : ∀ j, ahead ops j i = true → listed.getD j false = true := ahead_closed ops (fun j => listed.getD j false = true) hd.back
        (fun j x hj hx => hdown j x hx (by rw [← hgd j (lt_length hx)]; exact hj)) i o ho hpre
      have hnot : ∀ j x, ops[j]? = some x → ahead ops i j = true → listed.getD j true = false := by
        intro j x hx ha
        cases e : listed.getD j true with
        | false => rfl
        | true =>
          have := ahead_closed ops (fun j => listed.getD j false = true) hd.back (fun j x hj hx => hdown j x hx (by rw [← hgd j (lt_length hx)]; exact hj)) j x hx (hdown j x hx e) i ha
          rw [hgd i hil, hun] at this; cases this
      -- the slots that it looks at are as in the text's order
      have hlook : ∀ s ∈ o.looksAt ops.toArray, look s (FF i).slots = look s F.slots := by
        intro s hs
        rw [(hd.frames i (by omega)).2.2 s, h3 s, ← vat_below ops.length (by omega)]
        refine vat_congr ops.length fun j hj hdj => ?_
        have hoj : ops[j]? = some ops[j] := List.getElem?_eq_getElem hj
        rw [hoj, Option.bind_some] at hdj
        by_cases hji : j < i
        · have := hclosed j (hd.slot j i _ _ hji hoj ho (clash_of hdj (.inl hs)))
          rw [hgd j hj] at this
          simp [hji, this]
        · by_cases hij : j = i
          · subst hij
            simp [hun]
          · have := hnot j _ hoj (hd.slot i j _ _ (by omega) ho hoj (clash_of' hdj hs))
            simp [hji, this]
      -- the step
      obtain ⟨F2, hp2⟩ := put_ok (F2 := F) (w := V i) (hd.put i o ho) (by rw [h1, (hd.frames i (by omega)).1])
      obtain ⟨q1, q2⟩ := put_size hp2
      have hst : St P G Ext ops o F (HS fun j => listed.getD j true) (V i) (HS fun j => (listed.setIfInBounds i true).getD j true) := by
        have hcl : Closed ops fun j => listed.getD j true := fun j x hx hj e he hb => by
          have := hdown j x hx hj e he hb
          rwa [hgd e.on (Nat.lt_trans (hd.back j x hx e he hb) (lt_length hx))] at this
        have h := St.congr (hd.st _ i o hcl ho hun fun e he hb => by
          have := hpre e he hb
          rwa [hgd e.on (Nat.lt_trans (hd.back i o ho e he hb) hil)] at this) hlook
        rw [hd.ext (also (fun j => listed.getD j true) i) (fun j => (listed.setIfInBounds i true).getD j true) fun j hj => ?_] at h
        · exact h
        · unfold also
          by_cases e : j = i
          · subst e; simp [show j < listed.size by omega]
          · rw [if_neg e, getD_set_ne true (Ne.symm e)]
      have hdown' : ∀ j x, ops[j]? = some x → (listed.setIfInBounds i true).getD j true = true → ∀ e ∈ x.after, Region.binds .any e = true → (listed.setIfInBounds i true).getD e.on false = true := by
        intro j x hx hj e he hb
        refine getD_set_true ?_
        by_cases e1 : j = i
        · subst e1
          rw [ho] at hx; cases hx
          exact hpre e he hb
        · rw [getD_set_ne true (Ne.symm e1)] at hj
          exact hdown j x hx hj e he hb
      have hlook' : ∀ s, look s F2.slots = vat ops V (FF 0) s (fun j => (listed.setIfInBounds i true).getD j true) ops.length := by
        intro s
        rw [put_look hp2]
        by_cases e : o.dst = some s
        · rw [if_pos e]
          refine (vat_top (i := i) (by simp [show i < listed.size by omega]) (by rw [ho]; exact e) ops.length hil fun j hij hj hdj => ?_).symm
          have hoj : ops[j]? = some ops[j] := List.getElem?_eq_getElem hj
          rw [hoj, Option.bind_some] at hdj
          rw [getD_set_ne true (by omega)]
          exact hnot j _ hoj (hd.slot i j _ _ hij ho hoj (clash_of e (.inr hdj)))
        · rw [if_neg e, h3 s]
          refine vat_congr ops.length fun j hj hdj => ?_
          have hne : j ≠ i := by
            intro e1; subst e1
            rw [ho] at hdj; exact e hdj
          exact (getD_set_ne true (Ne.symm hne)).symm
      have hfuel' : ((List.range ops.length).filter fun j => !(listed.setIfInBounds i true).getD j true).length ≤ fuel := by
        have hmemf : i ∈ (List.range ops.length).filter (fun j => !listed.getD j true) := List.mem_filter.2 ⟨by simpa using hil, by simp [hun]⟩
        have hsub : ((List.range ops.length).filter fun j => !(listed.setIfInBounds i true).getD j true) = ((List.range ops.length).filter fun j => !listed.getD j true).filter (fun j => decide (j ≠ i)) := by
          rw [List.filter_filter]
          apply List.filter_congr
          intro j hj
          by_cases e : j = i
          · subst e; simp [show j < listed.size by rw [hsz]; exact hil]
          · rw [getD_set_ne true (Ne.symm e)]; simp [e]
        rw [hsub]
        have hlt : (((List.range ops.length).filter fun j => !listed.getD j true).filter (fun j => decide (j ≠ i))).length < ((List.range ops.length).filter fun j => !listed.getD j true).length := by
          refine List.length_filter_lt_length_iff_exists.2 ⟨i, hmemf, by simp⟩
        omega
      obtain ⟨F', b, hle⟩ := ih (t / (Region.ready .any ops.toArray listed).length) (listed.setIfInBounds i true) F2 (by simpa using hsz) hdown' (q1.trans h1) (q2.trans h2) hlook' hfuel'
      exact ⟨F', hst.big ho hp2 b, hle⟩

theorem Drawn.big (hd : Drawn P G Ext ops V HS FF) {id : Nat} {u : Option FrameMode} (hm : P.follows .mixedOrders = true) :
    Big P G Ext (.code (.region id ops.toArray true) (FF 0) u) (HS fun _ => false) (.x .normal (FF ops.length) u) (HS fun _ => true) := by
  have hgo : ∀ t, ∃ F', Big P G Ext (.ops ops.toArray (Region.linearise .any ops.toArray t) (FF 0) u) (HS fun _ => false) (.x .normal F' u) (HS fun _ => true) ∧ (FF ops.length).le F' := by
    intro t
    have := hd.go (u := u) ops.length t (Array.replicate ops.length false) (FF 0) (by simp) ?_ rfl rfl ?_ ?_
    · obtain ⟨F', b, hle⟩ := this
      refine ⟨F', ?_, hle⟩
      rw [hd.ext (fun j => (Array.replicate ops.length false).getD j true) (fun _ => false) fun j hj => by simp [hj]] at b
      simpa [Region.linearise] using b
    · intro i o ho hi
      have := lt_length ho
      simp [this] at hi
    · intro s
      rw [vat_congr (L' := fun j => decide (j < 0)) ops.length (fun j hj _ => by simp [hj]), vat_below ops.length (Nat.zero_le _)]
      rfl
    · exact Nat.le_trans (List.length_filter_le _ _) (by simp)
  exact .draw (frs := fun t => (hgo t).choose) hm (fun t => (hgo t).choose_spec.1) (fun t => (hgo t).choose_spec.2)
end
end Go.Mini
