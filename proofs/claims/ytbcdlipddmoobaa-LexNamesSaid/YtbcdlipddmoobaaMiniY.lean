/-
  MINI, part Y: panics, deferred calls, recover.
-/
import Derived.Test.YtbcdlipddmoobaaMiniX
namespace Go.Mini
section
variable {P : Program} {G : Nat} {Ext : FuncId → List Value → Heap → Value → Heap → Prop} {fr : Frm} {u : Option FrameMode} {h : Heap} {Q : Exit → Frm → Option FrameMode → Heap → Prop}

theorem WpO.panicS {ops : List Oper} {i : Nat} {l : List Nat} {p : Oper} {v : Value} {h1 : Heap} (ha : aop P (aev G fr) p h = some (.panic v, h1)) (hi : ops[i]? = some p) (hw : wantG fr (guardOf ops p) = some true)
    (hq : Q (.panic [{ v, recovered := false }]) fr u h1) : WpO P G Ext ops.toArray (i :: l) fr u h Q :=
  ⟨_, fr, u, h1, .opsPanic (by simpa using hi) (by rw [awanted_eq]; exact hw) ha, hq⟩
theorem WpO.deferS {ops : List Oper} {i : Nat} {l : List Nat} {p : Oper} {d : Deferred} {h1 : Heap} {fr1 : Frm} (ha : aop P (aev G fr) p h = some (.defer d, h1)) (hi : ops[i]? = some p) (hw : wantG fr (guardOf ops p) = some true)
    (hp : ({ fr with defers := d :: fr.defers } : Frm).put p.dst undef = some fr1) (hr : WpO P G Ext ops.toArray l fr1 u h1 Q) : WpO P G Ext ops.toArray (i :: l) fr u h Q := by
  obtain ⟨e2, fr2, u2, h3, b2, q2⟩ := hr
  exact ⟨e2, fr2, u2, h3, .opsDefer (by simpa using hi) (by rw [awanted_eq]; exact hw) ha hp b2, q2⟩
theorem WpO.recoverS {ops : List Oper} {i : Nat} {l : List Nat} {p : Oper} {v : Value} {older : List _} {h1 : Heap} {fr1 : Frm} (ha : aop P (aev G fr) p h = some (.recover, h1)) (hi : ops[i]? = some p) (hw : wantG fr (guardOf ops p) = some true)
    (hp : fr.put p.dst v = some fr1) (hr : WpO P G Ext ops.toArray l fr1 (some (.panicking ({ v, recovered := true } :: older))) h1 Q) : WpO P G Ext ops.toArray (i :: l) fr (some (.panicking ({ v, recovered := false } :: older))) h Q := by
  obtain ⟨e2, fr2, u2, h3, b2, q2⟩ := hr
  exact ⟨e2, fr2, u2, h3, .opsRecover (by simpa using hi) (by rw [awanted_eq]; exact hw) ha hp b2, q2⟩
theorem WpO.recoverN {ops : List Oper} {i : Nat} {l : List Nat} {p : Oper} {h1 : Heap} {fr1 : Frm} (ha : aop P (aev G fr) p h = some (.recover, h1)) (hi : ops[i]? = some p) (hw : wantG fr (guardOf ops p) = some true)
    (hp : fr.put p.dst .nilIface = some fr1) (hr : WpO P G Ext ops.toArray l fr1 (some .returning) h1 Q) : WpO P G Ext ops.toArray (i :: l) fr (some .returning) h Q := by
  obtain ⟨e2, fr2, u2, h3, b2, q2⟩ := hr
  exact ⟨e2, fr2, u2, h3, .opsRecoverNot (by simpa using hi) (by rw [awanted_eq]; exact hw) ha hp b2, q2⟩

/-- A deferred call. -/
def DoesD (P : Program) (G : Nat) (Ext : FuncId → List Value → Heap → Value → Heap → Prop) (f : FuncId) (args : List Value) (u : FrameMode) (h : Heap) (R : Ending → FrameMode → Heap → Prop) : Prop :=
  ∃ e u1 h1, Big P G Ext (.callD f args u) h (.endsD e u1) h1 ∧ R e u1 h1
theorem DoesD.body {f : FuncId} {args : List Value} {u : FrameMode} {fn : Func} {c : Code} {R : Ending → FrameMode → Heap → Prop} (hf : P.funcs[f]? = some fn) (hb : fn.body = some c)
    (hw : Wp P G Ext c (enterF fn args) (some u) h fun e fr' u' h' => fr'.defers = [] ∧ ∃ u1, u' = some u1 ∧ match e with
      | .normal | .ret => ∃ v, ares P fn fr' h' = some v ∧ R (.returned v) u1 h'
      | .panic ch => R (.panicked ch) u1 h'
      | _ => False) : DoesD P G Ext f args u h R := by
  obtain ⟨e, fr1, u1, h1, b, hd, u2, rfl, q⟩ := hw
  cases e with
  | normal => obtain ⟨v, hv, hr⟩ := q; exact ⟨_, _, h1, .callD hf hb b rfl hd hv, hr⟩
  | ret => obtain ⟨v, hv, hr⟩ := q; exact ⟨_, _, h1, .callD hf hb b rfl hd hv, hr⟩
  | panic ch => exact ⟨_, _, h1, .callDPanic hf hb b hd, q⟩
  | _ => exact q.elim

/-- A function's end, its deferred calls one by one. -/
def Leaves (P : Program) (G : Nat) (Ext : FuncId → List Value → Heap → Value → Heap → Prop) (fn : Func) (fr : Frm) (ds : List Deferred) (u : FrameMode) (h : Heap) (R : Ending → Heap → Prop) : Prop :=
  ∃ e h1, Big P G Ext (.leave fn fr ds u) h (.ends e) h1 ∧ R e h1
theorem Leaves.ret {fn : Func} {v : Value} {R : Ending → Heap → Prop} (hv : ares P fn fr h = some v) (hr : R (.returned v) h) : Leaves P G Ext fn fr [] .returning h R := ⟨_, h, .leaveRet hv, hr⟩
theorem Leaves.panic {fn : Func} {c : List _} {R : Ending → Heap → Prop} (hr : R (.panicked c) h) : Leaves P G Ext fn fr [] (.panicking c) h R := ⟨_, h, .leavePanic, hr⟩
theorem Leaves.cons {fn : Func} {d : Deferred} {ds : List Deferred} {m : FrameMode} {g : FuncId} {cap : Array Value} {R : Ending → Heap → Prop} (hm : m ≠ .run) (ht : d.target = .fn (.func g) cap) (hc : canEnter P g = true)
    (hd : DoesD P G Ext g (d.args.toList ++ cap.toList) m h fun e u1 h1 => ∃ u2, afterD e u1 = some u2 ∧ Leaves P G Ext fn fr ds u2 h1 R) : Leaves P G Ext fn fr (d :: ds) m h R := by
  obtain ⟨e, u1, h1, b, u2, ha, e2, h2, b2, r⟩ := hd
  exact ⟨e2, h2, .leaveCons hm ht hc b ha b2, r⟩
/-- A function with deferred calls. -/
theorem Does.bodyD {f : FuncId} {args : List Value} {fn : Func} {c : Code} {R : Ending → Heap → Prop} (hf : P.funcs[f]? = some fn) (hb : fn.body = some c)
    (hw : Wp P G Ext c (enterF fn args) none h fun e fr' u' h' => u' = none ∧ ∃ m, modeOf e = some m ∧ Leaves P G Ext fn fr' fr'.defers m h' R) : Does P G Ext f args h R := by
  obtain ⟨e, fr1, u1, h1, b, rfl, m, hm, e2, h2, b2, r⟩ := hw
  exact ⟨e2, h2, .call hf hb b hm b2, r⟩
end
end Go.Mini
