/-
  MINI, part YR: a region that draws its order and makes places, reckoned by simp: the rule.
-/
import Derived.Test.YtjgmccbjffncaaaDoorMiniYLtoV
import Derived.Test.YtjgmccbjffncaaaDoorMiniOtoYK
import Derived.Test.YtjgmccbjffncaaaDoorMiniOtoYK
namespace Go.Mini
set_option linter.unusedSimpArgs false

def stepVF (G n : Nat) (ex : List Nat) (fr : Frm) (o : Oper) (h : Heap) : Option (AN × Heap) → Option (Frm × Heap)
  | some (r, h1) => match okF G n ex fr o h h1 r with | some v => keep (fr.put o.dst v) h1 | none => none
  | none => none
noncomputable def stepWF (P : Program) (G n : Nat) (ex : List Nat) (o : Oper) (fr : Frm) (h : Heap) : Option Bool → Option (Frm × Heap)
  | some true => stepVF G n ex fr o h (aop P (aev G fr) o h)
  | some false => if isFill o then none else keep (fr.put o.dst undef) h
  | none => none
noncomputable def stepOF (P : Program) (G n : Nat) (ex : List Nat) (o : Oper) (g : Option (Option Nat × Bool)) : Option (Frm × Heap) → Option (Frm × Heap)
  | some (fr, h) => stepWF P G n ex o fr h (wantG fr g)
  | none => none
noncomputable def runSF (P : Program) (G n : Nat) (ex : List Nat) (ops : List Oper) : List Oper → Option (Frm × Heap) → Option (Frm × Heap)
  | [], st => st
  | o :: l, st => runSF P G n ex ops l (stepOF P G n ex o (guardOf ops o) st)
theorem runSF_none (P : Program) (G n : Nat) (ex : List Nat) (ops : List Oper) : ∀ l, runSF P G n ex ops l none = none
  | [] => rfl
  | _ :: l => by rw [runSF, stepOF]; exact runSF_none P G n ex ops l
theorem keep_bind {P : Program} {G n : Nat} {ex : List Nat} {ops l : List Oper} (f : Option Frm) (h : Heap) : runSF P G n ex ops l (keep f h) = f.bind fun fr => runSF P G n ex ops l (some (fr, h)) := by
  cases f with
  | none => rw [keep, runSF_none]; rfl
  | some f => rfl
theorem runSF_eq (P : Program) (G n : Nat) (ex : List Nat) (ops : List Oper) : ∀ (l : List Oper) (fr : Frm) (h : Heap), runSF P G n ex ops l (some (fr, h)) = runDF P G ops.toArray n ex l fr h
  | [], _, _ => rfl
  | o :: l, fr, h => by
    rw [runSF, runDF, stepOF, awanted_eq]
    cases wantG fr (guardOf ops o) with
    | none => rw [stepWF, runSF_none]; rfl
    | some t =>
      cases t with
      | true =>
        rw [stepWF, Option.bind_some, if_pos rfl]
        cases aop P (aev G fr) o h with
        | none => rw [stepVF, runSF_none]; rfl
        | some r =>
          obtain ⟨r, h1⟩ := r
          rw [stepVF, Option.bind_some]
          simp only []
          cases okF G n ex fr o h h1 r with
          | none => simp only [runSF_none, Option.bind_none]
          | some v =>
            simp only [Option.bind_some, keep_bind]
            congr 1
            funext fr1
            exact runSF_eq P G n ex ops l fr1 h1
      | false =>
        simp only [stepWF, Option.bind_some, Bool.false_eq_true, if_false]
        split
        · rw [runSF_none]
        · rw [keep_bind]
          congr 1
          funext fr1
          exact runSF_eq P G n ex ops l fr1 h
section
variable {P : Program} {G : Nat} {ops : List Oper}
theorem Wp.runSF {Ext : FuncId → List Value → Heap → Value → Heap → Prop} {id : Nat} {fr fr' : Frm} {u : Option FrameMode} {h h' : Heap} {Q : Exit → Frm → Option FrameMode → Heap → Prop} (ex : List Nat) (hm : P.follows .mixedOrders = true) (hd : drawableF ops ex = true)
    (hr : Mini.runSF P G h.next ex ops ops (some (fr, h)) = some (fr', h')) (hq : Q .normal fr' u h') : Wp P G Ext (.region id ops.toArray true) fr u h Q :=
  Wp.runF ex hm hd (by rw [← runSF_eq]; exact hr) hq
end
section
variable {P : Program} {G : Nat} {Ext : FuncId → List Value → Heap → Value → Heap → Prop} {ops : List Oper} {ex pu : List Nat} {q : Nat} {K : Heap → Prop} {fr : Frm} {h : Heap} {l : List Oper}
/-- What its guard leaves out. -/
theorem DrT.off {Q : Frm → Heap → Prop} {o : Oper} {fr1 : Frm} (hw : wantG fr (guardOf ops o) = some false) (hp : fr.put o.dst undef = some fr1)
    (ht : DrT P G Ext ops ex pu q K l fr1 h Q) : DrT P G Ext ops ex pu q K (o :: l) fr h Q := by
  intro hK
  have hK' : q ≤ l.length → K h := fun hl => hK (Nat.le_trans hl (by simp))
  obtain ⟨fr2, h2, t, hq2⟩ := ht hK'
  have hw' : awanted ops.toArray fr o = some false := by rw [awanted_eq]; exact hw
  exact ⟨fr2, h2, .step (.unwanted hw') (fun _ => rfl) (fun _ _ => .unwanted hw') (fun _ _ _ _ _ => .unwanted hw') hK' hp t, hq2⟩
end
end Go.Mini
