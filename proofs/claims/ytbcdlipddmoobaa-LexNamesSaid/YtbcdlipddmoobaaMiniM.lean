/-
  MINI, part M: proving with the relation: rules for code, operations one by one, calls by contracts; the end of a law.
-/
import Derived.Test.YtbcdlipddmoobaaMiniL
import Derived.Below
namespace Go.Mini

/-! ### a list of operations without calls, carried out -/
noncomputable def runL (P : Program) (G : Nat) (ops : Array Oper) : List Oper → Frm → Heap → Option (Frm × Heap)
  | [], fr, h => some (fr, h)
  | o :: l, fr, h => (awanted ops fr o).bind fun t =>
    if t then (aop P (aev G fr) o h).bind fun r =>
      match r with
      | (.val v, h1) => (fr.put o.dst v).bind fun fr1 => runL P G ops l fr1 h1
      | (.skip, h1) => (fr.put o.dst undef).bind fun fr1 => runL P G ops l fr1 h1
      | _ => none
    else (fr.put o.dst undef).bind fun fr1 => runL P G ops l fr1 h

section
variable {P : Program} {G : Nat} {Ext : FuncId → List Value → Heap → Value → Heap → Prop}

theorem runL_big {ops : Array Oper} {u : Option FrameMode} : ∀ (l : List Oper) (k : Nat) (is : List Nat) (fr fr' : Frm) (h h' : Heap), (∀ j p, l[j]? = some p → ops[k + j]? = some p) → runL P G ops l fr h = some (fr', h') →
    ∀ {o h2}, Big P G Ext (.ops ops is fr' u) h' o h2 → Big P G Ext (.ops ops ((List.range' k l.length) ++ is) fr u) h o h2
  | [], k, is, fr, fr', h, h', _, e, o, h2, hb => by
    simp only [runL, Option.some.injEq, Prod.mk.injEq] at e
    obtain ⟨rfl, rfl⟩ := e
    simpa using hb
  | p :: l, k, is, fr, fr', h, h', hl, e, o, h2, hb => by
    have hk : ops[k]? = some p := by simpa using hl 0 p rfl
    have hl' : ∀ j q, l[j]? = some q → ops[(k + 1) + j]? = some q := fun j q hq => by have := hl (j + 1) q (by simpa using hq); rwa [show k + (j + 1) = k + 1 + j by omega] at this
    simp only [runL] at e
    obtain ⟨t, ht, e⟩ := Option.bind_eq_some_iff.1 e
    simp only [List.length_cons, List.range'_succ, List.cons_append]
    cases t with
    | false =>
      simp only [Bool.false_eq_true, if_false] at e
      obtain ⟨fr1, hp, e⟩ := Option.bind_eq_some_iff.1 e
      exact .opsUnwanted hk ht hp (runL_big l (k + 1) is fr1 fr' h h' hl' e hb)
    | true =>
      simp only [if_true] at e
      obtain ⟨⟨r, h1⟩, hr, e⟩ := Option.bind_eq_some_iff.1 e
      cases r with
      | val v =>
        obtain ⟨fr1, hp, e⟩ := Option.bind_eq_some_iff.1 e
        exact .opsVal hk ht hr hp (runL_big l (k + 1) is fr1 fr' h1 h' hl' e hb)
      | skip =>
        obtain ⟨fr1, hp, e⟩ := Option.bind_eq_some_iff.1 e
        exact .opsSkip hk ht hr hp (runL_big l (k + 1) is fr1 fr' h1 h' hl' e hb)
      | _ => cases e

/-! ### rules -/
/-- The code c comes to an end of which Q holds. -/
def Wp (P : Program) (G : Nat) (Ext : FuncId → List Value → Heap → Value → Heap → Prop) (c : Code) (fr : Frm) (u : Option FrameMode) (h : Heap) (Q : Exit → Frm → Option FrameMode → Heap → Prop) : Prop :=
  ∃ e fr' u' h', Big P G Ext (.code c fr u) h (.x e fr' u') h' ∧ Q e fr' u' h'
/-- Operations. -/
def WpO (P : Program) (G : Nat) (Ext : FuncId → List Value → Heap → Value → Heap → Prop) (ops : Array Oper) (l : List Nat) (fr : Frm) (u : Option FrameMode) (h : Heap) (Q : Exit → Frm → Option FrameMode → Heap → Prop) : Prop :=
  ∃ e fr' u' h', Big P G Ext (.ops ops l fr u) h (.x e fr' u') h' ∧ Q e fr' u' h'
/-- A call. -/
def Does (P : Program) (G : Nat) (Ext : FuncId → List Value → Heap → Value → Heap → Prop) (f : FuncId) (args : List Value) (h : Heap) (R : Ending → Heap → Prop) : Prop :=
  ∃ e h', Big P G Ext (.call f args) h (.ends e) h' ∧ R e h'

variable {fr : Frm} {u : Option FrameMode} {h : Heap} {Q Q' : Exit → Frm → Option FrameMode → Heap → Prop}
theorem Wp.mono {c : Code} (hw : Wp P G Ext c fr u h Q) (hq : ∀ e fr u h, Q e fr u h → Q' e fr u h) : Wp P G Ext c fr u h Q' :=
  let ⟨e, fr', u', h', b, q⟩ := hw; ⟨e, fr', u', h', b, hq _ _ _ _ q⟩
theorem Does.mono {f : FuncId} {args : List Value} {R R' : Ending → Heap → Prop} (hw : Does P G Ext f args h R) (hq : ∀ e h, R e h → R' e h) : Does P G Ext f args h R' :=
  let ⟨e, h', b, q⟩ := hw; ⟨e, h', b, hq _ _ q⟩

/-- What follows in a sequence. -/
def after (next : Frm → Option FrameMode → Heap → Prop) (Q : Exit → Frm → Option FrameMode → Heap → Prop) : Exit → Frm → Option FrameMode → Heap → Prop
  | .normal, fr, u, h => next fr u h
  | e, fr, u, h => Q e fr u h
theorem Wp.seq {a b : Code} (hw : Wp P G Ext a fr u h (after (fun fr u h => Wp P G Ext b fr u h Q) Q)) : Wp P G Ext (.seq a b) fr u h Q := by
  obtain ⟨e, fr1, u1, h1, b1, q⟩ := hw
  cases e with
  | normal =>
    obtain ⟨e2, fr2, u2, h2, b2, q2⟩ := q
    exact ⟨e2, fr2, u2, h2, .seq b1 b2, q2⟩
  | _ => exact ⟨_, fr1, u1, h1, .seqStop b1 (by simp), q⟩
/-- The same, what follows behind a name. -/
theorem Wp.seqK {a b : Code} (hw : ∀ K : Frm → Option FrameMode → Heap → Prop, (∀ fr u h, Wp P G Ext b fr u h Q → K fr u h) → Wp P G Ext a fr u h (after K Q)) : Wp P G Ext (.seq a b) fr u h Q :=
  Wp.seq (hw _ fun _ _ _ h => h)
theorem Wp.skip (hq : Q .normal fr u h) : Wp P G Ext .skip fr u h Q := ⟨_, _, _, _, .skip, hq⟩
theorem Wp.label {l : Nat} (hq : Q .normal fr u h) : Wp P G Ext (.label l) fr u h Q := ⟨_, _, _, _, .label, hq⟩
theorem Wp.exit {id : Nat} (hq : Q (.exit id) fr u h) : Wp P G Ext (.exit id) fr u h Q := ⟨_, _, _, _, .exit, hq⟩
theorem Wp.goto {l : Nat} (hq : Q (.goto l) fr u h) : Wp P G Ext (.goto l) fr u h Q := ⟨_, _, _, _, .goto, hq⟩
theorem Wp.ret (hq : Q .ret fr u h) : Wp P G Ext .ret fr u h Q := ⟨_, _, _, _, .ret, hq⟩
theorem Wp.cond {c : Operand} {a b : Code} {t : Bool} (hc : aev G fr c = some (.bool t)) (hw : Wp P G Ext (if t then a else b) fr u h Q) : Wp P G Ext (.cond c a b) fr u h Q :=
  let ⟨e, fr', u', h', b, q⟩ := hw; ⟨e, fr', u', h', .cond hc b, q⟩
theorem Wp.condT {c : Operand} {a b : Code} (hc : aev G fr c = some (.bool true)) (hw : Wp P G Ext a fr u h Q) : Wp P G Ext (.cond c a b) fr u h Q := Wp.cond hc (by simpa using hw)
theorem Wp.condF {c : Operand} {a b : Code} (hc : aev G fr c = some (.bool false)) (hw : Wp P G Ext b fr u h Q) : Wp P G Ext (.cond c a b) fr u h Q := Wp.cond hc (by simpa using hw)
theorem Wp.condSplit {c : Operand} {a b : Code} {t : Bool} (hc : aev G fr c = some (.bool t)) (h1 : t = true → Wp P G Ext a fr u h Q) (h2 : t = false → Wp P G Ext b fr u h Q) : Wp P G Ext (.cond c a b) fr u h Q := by
  cases t
  · exact Wp.condF hc (h2 rfl)
  · exact Wp.condT hc (h1 rfl)
def leaving (id : Nat) (Q : Exit → Frm → Option FrameMode → Heap → Prop) : Exit → Frm → Option FrameMode → Heap → Prop := fun e fr u h => Q (blockExit id e) fr u h
theorem Wp.block {id : Nat} {c : Code} (hw : Wp P G Ext c fr u h (leaving id Q)) : Wp P G Ext (.block id c) fr u h Q :=
  let ⟨_, fr', u', h', b, q⟩ := hw; ⟨_, fr', u', h', .block b, q⟩
/-- One round of a loop, and the loop again. -/
theorem Wp.loop {c : Code} (hw : Wp P G Ext c fr u h (after (fun fr u h => Wp P G Ext (.loop c) fr u h Q) Q)) : Wp P G Ext (.loop c) fr u h Q := by
  obtain ⟨e, fr1, u1, h1, b1, q⟩ := hw
  cases e with
  | normal =>
    obtain ⟨e2, fr2, u2, h2, b2, q2⟩ := q
    exact ⟨e2, fr2, u2, h2, .loop b1 b2, q2⟩
  | _ => exact ⟨_, fr1, u1, h1, .loopStop b1 (by simp), q⟩
theorem Wp.weaken {c : Code} {fr' : Frm} (hle : fr'.le fr) (hw : Wp P G Ext c fr' u h Q) : Wp P G Ext c fr u h Q :=
  let ⟨e, fr1, u1, h1, b, q⟩ := hw; ⟨e, fr1, u1, h1, .weaken b hle, q⟩
theorem Wp.region {id : Nat} {ops : Array Oper} (hw : WpO P G Ext ops (List.range ops.size) fr u h Q) : Wp P G Ext (.region id ops false) fr u h Q :=
  let ⟨e, fr', u', h', b, q⟩ := hw; ⟨e, fr', u', h', .region b, q⟩
/-- A region without calls. -/
theorem Wp.run {id : Nat} {ops : List Oper} {fr' : Frm} {h' : Heap} (hr : runL P G ops.toArray ops fr h = some (fr', h')) (hq : Q .normal fr' u h') : Wp P G Ext (.region id ops.toArray false) fr u h Q := by
  refine Wp.region ⟨_, fr', u, h', ?_, hq⟩
  have := runL_big (Ext := Ext) (u := u) ops 0 [] fr fr' h h' (fun j p hj => by simpa using hj) hr .opsNil
  simpa [List.range_eq_range'] using this
theorem WpO.nil {ops : Array Oper} (hq : Q .normal fr u h) : WpO P G Ext ops [] fr u h Q := ⟨_, _, _, _, .opsNil, hq⟩
/-- A call among the operations, by its contract. -/
theorem WpO.call {ops : Array Oper} {i : Nat} {l : List Nat} {p : Oper} {f : FuncId} {args : List Value} {h1 : Heap} (hi : ops[i]? = some p) (hw : awanted ops fr p = some true) (ha : aop P (aev G fr) p h = some (.call f args, h1))
    (hd : Does P G Ext f args h1 fun e h2 => match e with
      | .returned v => ∃ fr1, fr.put p.dst v = some fr1 ∧ WpO P G Ext ops l fr1 u h2 Q
      | .panicked c => Q (.panic c) fr u h2
      | .outgrown => False) : WpO P G Ext ops (i :: l) fr u h Q := by
  obtain ⟨e, h2, b, q⟩ := hd
  cases e with
  | returned v =>
    obtain ⟨fr1, hp, e2, fr2, u2, h3, b2, q2⟩ := q
    exact ⟨e2, fr2, u2, h3, .opsCall hi hw ha b hp b2, q2⟩
  | panicked c => exact ⟨_, fr, u, h2, .opsCallPanic hi hw ha b, q⟩
  | outgrown => exact q.elim
/-- Some operations without calls, and what follows. -/
theorem WpO.run {ops : Array Oper} (n : Nat) {k : Nat} {is : List Nat} {fr' : Frm} {h' : Heap} (hr : runL P G ops ((ops.toList.drop k).take n) fr h = some (fr', h')) (hn : k + n ≤ ops.size)
    (hw : WpO P G Ext ops is fr' u h' Q) : WpO P G Ext ops (List.range' k n ++ is) fr u h Q := by
  obtain ⟨e2, fr2, u2, h3, b2, q2⟩ := hw
  refine ⟨e2, fr2, u2, h3, ?_, q2⟩
  have hlen : ((ops.toList.drop k).take n).length = n := by simp; omega
  have := runL_big (Ext := Ext) (u := u) ((ops.toList.drop k).take n) k is fr fr' h h' ?_ hr b2
  · rwa [hlen] at this
  · intro j p hj
    rw [List.getElem?_take] at hj
    split at hj
    · rwa [List.getElem?_drop, Array.getElem?_toList] at hj
    · cases hj

/-- A function without deferred calls. -/
theorem Does.body {f : FuncId} {args : List Value} {fn : Func} {c : Code} {R : Ending → Heap → Prop} (hf : P.funcs[f]? = some fn) (hb : fn.body = some c)
    (hw : Wp P G Ext c (enterF fn args) none h fun e fr' u' h' => u' = none ∧ fr'.defers = [] ∧ match e with
      | .normal | .ret => ∃ v, ares P fn fr' h' = some v ∧ R (.returned v) h'
      | .panic ch => R (.panicked ch) h'
      | _ => False) : Does P G Ext f args h R := by
  obtain ⟨e, fr1, u1, h1, b, rfl, hd, q⟩ := hw
  cases e with
  | normal => obtain ⟨v, hv, hr⟩ := q; exact ⟨_, h1, .call hf hb b rfl (by rw [hd]; exact .leaveRet hv), hr⟩
  | ret => obtain ⟨v, hv, hr⟩ := q; exact ⟨_, h1, .call hf hb b rfl (by rw [hd]; exact .leaveRet hv), hr⟩
  | panic ch => exact ⟨_, h1, .call hf hb b rfl (by rw [hd]; exact .leavePanic), q⟩
  | _ => exact q.elim
end

/-! ### a law's end -/
/-- A heap of nothing but the program's variables, of which nothing is told. -/
def heap0 (G : Nat) : Heap := ⟨G, List.replicate G .dead⟩
def ren0 : Ren := ⟨id, fun _ => 0, fun _ => 0⟩
theorem heap0_rel (P : Program) (G : Nat) (w : World) : HRel P ⟨G, w.heap.size, w⟩ ren0 (heap0 G) w where
  gle := Nat.le_refl _
  glob i _ := ⟨rfl, rfl, rfl⟩
  obj i o hg := by
    have : o = .dead := by
      unfold heap0 Heap.get at hg
      simp only at hg
      split at hg
      · have := List.mem_of_getElem? hg
        exact (List.mem_replicate.1 this).2
      · cases hg
    subst this; trivial
  apart i j o p _ hi _ ho := by
    have : o = .dead := by
      unfold heap0 Heap.get at hi
      simp only at hi
      split at hi
      · have := List.mem_of_getElem? hi
        exact (List.mem_replicate.1 this).2
      · cases hi
    subst this; simp [AObj.own] at ho
  frame _ _ := rfl
  size := Nat.le_refl _
  io := rfl

theorem HRel.below {P : Program} {S : Start} {m : Ren} {h : Heap} {w : World} (hr : HRel P S m h w) (hS : S.base = S.w0.heap.size) : Go.RowKit.Below S.base S.w0 w := by
  have hio := hr.io
  unfold Mini.io at hio
  simp only [Prod.mk.injEq] at hio
  exact ⟨hio.1, hio.2.1, hio.2.2, by rw [← hS]; exact hr.size, fun k hk => hr.frame k hk⟩

/-- What the relation tells of a call, the model's call does. -/
theorem Does.calls {P : Program} {S : Start} {Ext : FuncId → List Value → Heap → Value → Heap → Prop} (hext : ExtOk P S Ext) {f : FuncId} {args : List Value} {h : Heap} {m : Ren} {w : World}
    (hd : Does P S.G Ext f args h fun e _ => e = .returned (.bool true)) (hr : HRel P S m h w) (hs : ∀ x ∈ args, sc h.next x) (hS : S.base = S.w0.heap.size) :
    Calls P f (args.map (ren m)).toArray w fun e w' => e = .returned (.bool true) ∧ Go.RowKit.Below S.base S.w0 w' := by
  obtain ⟨e, h', hb, rfl⟩ := hd
  refine ((big_sound hext hb).1 m w hr hs).mono ?_
  rintro e w' ⟨m', _, _, h3, rfl, _⟩
  exact ⟨by simp [renN, ren], h3.below hS⟩
end Go.Mini
