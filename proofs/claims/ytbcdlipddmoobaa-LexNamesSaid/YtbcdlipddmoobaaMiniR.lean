/-
  MINI, part R: operations carried out one by one, in a form that a simplifier reckons with inside out.
-/
import Derived.Test.YtbcdlipddmoobaaMiniQ
namespace Go.Mini

theorem beq_ft : (false == true) = false := rfl
theorem beq_tf : (true == false) = false := rfl
def keep (fr : Option Frm) (h : Heap) : Option (Frm × Heap) := match fr with | some f => some (f, h) | none => none
/-- The guard's slot and what is wanted of it; the slot's number looked up ahead. -/
def guardOf (ops : List Oper) (o : Oper) : Option (Option Nat × Bool) := match o.guard with | none => none | some (j, want) => some ((ops[j]?).bind (·.dst), want)
def wantV (want : Bool) : Option Value → Option Bool
  | none => none
  | some (.bool b) => some (b == want)
  | some _ => some false
def wantG (fr : Frm) : Option (Option Nat × Bool) → Option Bool
  | none => some true
  | some (none, _) => some false
  | some (some d, want) => wantV want (look d fr.slots)
def stepV (fr : Frm) (dst : Option Nat) : Option (AN × Heap) → Option (Frm × Heap)
  | some (.val v, h) => keep (fr.put dst v) h
  | some (.skip, h) => keep (fr.put dst undef) h
  | _ => none
noncomputable def stepW (P : Program) (G : Nat) (o : Oper) (fr : Frm) (h : Heap) : Option Bool → Option (Frm × Heap)
  | some true => stepV fr o.dst (aop P (aev G fr) o h)
  | some false => keep (fr.put o.dst undef) h
  | none => none
noncomputable def stepO (P : Program) (G : Nat) (o : Oper) (g : Option (Option Nat × Bool)) : Option (Frm × Heap) → Option (Frm × Heap)
  | some (fr, h) => stepW P G o fr h (wantG fr g)
  | none => none
noncomputable def runS (P : Program) (G : Nat) (ops : List Oper) : List Oper → Option (Frm × Heap) → Option (Frm × Heap)
  | [], st => st
  | o :: l, st => runS P G ops l (stepO P G o (guardOf ops o) st)

theorem awanted_eq (ops : List Oper) (fr : Frm) (o : Oper) : awanted ops.toArray fr o = wantG fr (guardOf ops o) := by
  unfold awanted guardOf
  cases o.guard with
  | none => rfl
  | some p =>
    obtain ⟨j, want⟩ := p
    simp only [List.getElem?_toArray]
    cases e : (ops[j]?).bind (·.dst) with
    | none => rfl
    | some d =>
      simp only [wantG, wantV]
      cases look d fr.slots with
      | none => rfl
      | some v => cases v <;> rfl
theorem runS_none (P : Program) (G : Nat) (ops : List Oper) : ∀ l, runS P G ops l none = none
  | [] => rfl
  | o :: l => by simp only [runS, stepO]; exact runS_none P G ops l
theorem runS_eq (P : Program) (G : Nat) (ops : List Oper) : ∀ (l : List Oper) (fr : Frm) (h : Heap), runS P G ops l (some (fr, h)) = runL P G ops.toArray l fr h
  | [], fr, h => rfl
  | o :: l, fr, h => by
    have hk : ∀ (x : Option Frm) (h1 : Heap), runS P G ops l (keep x h1) = x.bind fun fr1 => runL P G ops.toArray l fr1 h1 := by
      intro x h1
      cases x with
      | none => exact runS_none P G ops l
      | some f => exact runS_eq P G ops l f h1
    simp only [runS, stepO, runL, awanted_eq]
    cases wantG fr (guardOf ops o) with
    | none => exact runS_none P G ops l
    | some t =>
      cases t with
      | false => simp only [stepW, Option.bind_some, Bool.false_eq_true, if_false]; exact hk _ _
      | true =>
        simp only [stepW, Option.bind_some, if_true]
        cases aop P (aev G fr) o h with
        | none => exact runS_none P G ops l
        | some r =>
          obtain ⟨n, h1⟩ := r
          cases n with
          | val v => exact hk _ _
          | skip => exact hk _ _
          | _ => exact runS_none P G ops l

/-- The same where the order is drawn: what is not loud leaves the memory. -/
def stepVD (fr : Frm) (o : Oper) (n : Nat) : Option (AN × Heap) → Option (Frm × Heap)
  | some (.val v, h) => if isLoud o || decide (h.next = n) then keep (fr.put o.dst v) h else none
  | some (.skip, h) => if isLoud o then keep (fr.put o.dst undef) h else none
  | _ => none
noncomputable def stepWD (P : Program) (G : Nat) (o : Oper) (fr : Frm) (h : Heap) : Option Bool → Option (Frm × Heap)
  | some true => stepVD fr o h.next (aop P (aev G fr) o h)
  | some false => keep (fr.put o.dst undef) h
  | none => none
noncomputable def stepOD (P : Program) (G : Nat) (o : Oper) (g : Option (Option Nat × Bool)) : Option (Frm × Heap) → Option (Frm × Heap)
  | some (fr, h) => stepWD P G o fr h (wantG fr g)
  | none => none
noncomputable def runSD (P : Program) (G : Nat) (ops : List Oper) : List Oper → Option (Frm × Heap) → Option (Frm × Heap)
  | [], st => st
  | o :: l, st => runSD P G ops l (stepOD P G o (guardOf ops o) st)
theorem runSD_none (P : Program) (G : Nat) (ops : List Oper) : ∀ l, runSD P G ops l none = none
  | [] => rfl
  | o :: l => by simp only [runSD, stepOD]; exact runSD_none P G ops l
theorem runSD_eq (P : Program) (G : Nat) (ops : List Oper) : ∀ (l : List Oper) (fr : Frm) (h : Heap), runSD P G ops l (some (fr, h)) = runD P G ops.toArray l fr h
  | [], fr, h => rfl
  | o :: l, fr, h => by
    have hk : ∀ (x : Option Frm) (h1 : Heap), runSD P G ops l (keep x h1) = x.bind fun fr1 => runD P G ops.toArray l fr1 h1 := by
      intro x h1
      cases x with
      | none => exact runSD_none P G ops l
      | some f => exact runSD_eq P G ops l f h1
    simp only [runSD, stepOD, runD, awanted_eq]
    cases wantG fr (guardOf ops o) with
    | none => exact runSD_none P G ops l
    | some t =>
      cases t with
      | false => simp only [stepWD, Option.bind_some, Bool.false_eq_true, if_false]; exact hk _ _
      | true =>
        simp only [stepWD, Option.bind_some, if_true]
        cases aop P (aev G fr) o h with
        | none => exact runSD_none P G ops l
        | some r =>
          obtain ⟨n, h1⟩ := r
          cases n with
          | val v =>
            simp only [stepVD, Option.bind_some]
            split
            · exact hk _ _
            · exact runSD_none P G ops l
          | skip =>
            simp only [stepVD, Option.bind_some]
            split
            · exact hk _ _
            · exact runSD_none P G ops l
          | _ => exact runSD_none P G ops l

section
variable {P : Program} {G : Nat} {Ext : FuncId → List Value → Heap → Value → Heap → Prop} {fr : Frm} {u : Option FrameMode} {h : Heap} {Q : Exit → Frm → Option FrameMode → Heap → Prop}
theorem Wp.runS {id : Nat} {ops : List Oper} {fr' : Frm} {h' : Heap} (hr : Mini.runS P G ops ops (some (fr, h)) = some (fr', h')) (hq : Q .normal fr' u h') : Wp P G Ext (.region id ops.toArray false) fr u h Q :=
  Wp.run (by rw [← runS_eq]; exact hr) hq
theorem Wp.runSD {id : Nat} {ops : List Oper} {fr' : Frm} {h' : Heap} (hm : P.follows .mixedOrders = true) (hd : drawable ops [] [] 0 = true)
    (hr : Mini.runSD P G ops ops (some (fr, h)) = some (fr', h')) (hq : Q .normal fr' u h') : Wp P G Ext (.region id ops.toArray true) fr u h Q :=
  Wp.runDr hm hd (by rw [← runSD_eq]; exact hr) hq
/-- A sequence, with what holds between. -/
theorem Wp.join {a b : Code} (J : Frm → Option FrameMode → Heap → Prop) (hB : ∀ fr u h, J fr u h → Wp P G Ext b fr u h Q) (hA : Wp P G Ext a fr u h (after J Q)) : Wp P G Ext (.seq a b) fr u h Q := by
  refine Wp.seq (hA.mono ?_)
  intro e fr u h q
  cases e with
  | normal => exact hB _ _ _ q
  | _ => exact q
/-- The same for any code. -/
theorem Wp.cut {c : Code} (J : Frm → Option FrameMode → Heap → Prop) (hB : ∀ fr u h, J fr u h → Q .normal fr u h) (hA : Wp P G Ext c fr u h (after J Q)) : Wp P G Ext c fr u h Q := by
  refine hA.mono ?_
  intro e fr u h q
  cases e with
  | normal => exact hB _ _ _ q
  | _ => exact q
theorem Wp.regionAs {id : Nat} {ops : List Oper} {is : List Nat} (hi : List.range ops.toArray.size = is) (hw : WpO P G Ext ops.toArray is fr u h Q) : Wp P G Ext (.region id ops.toArray false) fr u h Q := by
  subst hi; exact Wp.region hw
theorem WpO.callS {ops : List Oper} {i : Nat} {l : List Nat} {p : Oper} {f : FuncId} {args : List Value} {h1 : Heap} (hi : ops[i]? = some p) (hw : wantG fr (guardOf ops p) = some true) (ha : aop P (aev G fr) p h = some (.call f args, h1))
    (hd : Does P G Ext f args h1 fun e h2 => match e with
      | .returned v => ∃ fr1, fr.put p.dst v = some fr1 ∧ WpO P G Ext ops.toArray l fr1 u h2 Q
      | .panicked c => Q (.panic c) fr u h2
      | .outgrown => False) : WpO P G Ext ops.toArray (i :: l) fr u h Q :=
  WpO.call (by simpa using hi) (by rw [awanted_eq]; exact hw) ha hd
/-- A call that its contract says returns. -/
theorem WpO.callR {ops : List Oper} {i : Nat} {l : List Nat} {p : Oper} {f : FuncId} {args : List Value} {h1 : Heap} {R : Ending → Heap → Prop} (hd : Does P G Ext f args h1 R) (hi : ops[i]? = some p) (hw : wantG fr (guardOf ops p) = some true) (ha : aop P (aev G fr) p h = some (.call f args, h1))
    (hR : ∀ e h2, R e h2 → ∃ v fr1, e = .returned v ∧ fr.put p.dst v = some fr1 ∧ WpO P G Ext ops.toArray l fr1 u h2 Q) : WpO P G Ext ops.toArray (i :: l) fr u h Q :=
  WpO.callS hi hw ha (hd.mono fun e h2 r => by obtain ⟨v, fr1, rfl, q⟩ := hR e h2 r; exact ⟨fr1, q⟩)
/-- Some operations of a region: the first n of what is left of it. -/
theorem WpO.runS {ops : List Oper} (n : Nat) {k : Nat} {is : List Nat} {fr' : Frm} {h' : Heap} (hr : Mini.runS P G ops ((ops.drop k).take n) (some (fr, h)) = some (fr', h')) (hn : k + n ≤ ops.length)
    (hw : WpO P G Ext ops.toArray is fr' u h' Q) : WpO P G Ext ops.toArray (List.range' k n ++ is) fr u h Q :=
  WpO.run n (by rw [← runS_eq]; exact hr) (by simpa using hn) hw
end
end Go.Mini
