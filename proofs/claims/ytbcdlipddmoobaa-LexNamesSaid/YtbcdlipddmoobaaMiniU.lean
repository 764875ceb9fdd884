/-
  MINI, part U: operations by their laws, one by one.
-/
import Derived.Test.YtbcdlipddmoobaaMiniT
namespace Go.Mini
section
variable {P : Program} {G : Nat} {Ext : FuncId → List Value → Heap → Value → Heap → Prop} {fr : Frm} {u : Option FrameMode} {h : Heap} {Q : Exit → Frm → Option FrameMode → Heap → Prop}
theorem WpO.valS {ops : List Oper} {i : Nat} {l : List Nat} {p : Oper} {v : Value} {h1 : Heap} {fr1 : Frm} (ha : aop P (aev G fr) p h = some (.val v, h1)) (hi : ops[i]? = some p) (hw : wantG fr (guardOf ops p) = some true) (hp : fr.put p.dst v = some fr1)
    (hr : WpO P G Ext ops.toArray l fr1 u h1 Q) : WpO P G Ext ops.toArray (i :: l) fr u h Q := by
  obtain ⟨e2, fr2, u2, h3, b2, q2⟩ := hr
  exact ⟨e2, fr2, u2, h3, .opsVal (by simpa using hi) (by rw [awanted_eq]; exact hw) ha hp b2, q2⟩
theorem WpO.skipS {ops : List Oper} {i : Nat} {l : List Nat} {p : Oper} {h1 : Heap} {fr1 : Frm} (ha : aop P (aev G fr) p h = some (.skip, h1)) (hi : ops[i]? = some p) (hw : wantG fr (guardOf ops p) = some true) (hp : fr.put p.dst undef = some fr1)
    (hr : WpO P G Ext ops.toArray l fr1 u h1 Q) : WpO P G Ext ops.toArray (i :: l) fr u h Q := by
  obtain ⟨e2, fr2, u2, h3, b2, q2⟩ := hr
  exact ⟨e2, fr2, u2, h3, .opsSkip (by simpa using hi) (by rw [awanted_eq]; exact hw) ha hp b2, q2⟩
/-- Operations over what is large, by what they do: so that nothing is reckoned out. -/
theorem aop_load {ρ : Operand → Option Value} {o : Oper} {t : TypeId} {x : Operand} {p v : Value} (ho : o.op = .load t x) (hx : ρ x = some p) (e : aload P h t p = some v) : aop P ρ o h = some (.val v, h) := by
  unfold aop; rw [ho]; simp only [hx, e, Option.bind_some]
theorem aop_alloc {ρ : Operand → Option Value} {o : Oper} {t : TypeId} {v : Value} {h1 : Heap} (ho : o.op = .alloc t) (e : aalloc P h t = some (v, h1)) : aop P ρ o h = some (.val v, h1) := by
  unfold aop; rw [ho]; simp only [e, Option.bind_some]
theorem aop_store {ρ : Operand → Option Value} {o : Oper} {t : TypeId} {a x : Operand} {p v : Value} {h1 : Heap} (ho : o.op = .store t a x) (ha : ρ a = some p) (hx : ρ x = some v) (e : astore P h t p v = some h1) : aop P ρ o h = some (.skip, h1) := by
  unfold aop; rw [ho]; simp only [ha, hx, e, Option.bind_some]
theorem aop_make {ρ : Operand → Option Value} {o : Oper} {t : TypeId} {l c : Operand} {a b v : Value} {h1 : Heap} (ho : o.op = .makeSlice t l c) (hl : ρ l = some a) (hc : ρ c = some b) (e : amake P h t a b = some (v, h1)) : aop P ρ o h = some (.val v, h1) := by
  unfold aop; rw [ho]; simp only [hl, hc, e, Option.bind_some]
end
end Go.Mini
