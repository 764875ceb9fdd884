/-
  MINI, part K: what a piece of code, and a call, come to: the relation; and that the model comes to the same.
-/
import Derived.Test.YtbcdlipddmoobaaMiniJ
import Derived.Scope
namespace Go.Mini

/-! ### renaming of what surrounds a frame -/
def renP (m : Ren) (p : PanicEntry) : PanicEntry := { p with v := ren m p.v }
def renC (m : Ren) (c : List PanicEntry) : List PanicEntry := c.map (renP m)
def scC (n : Nat) (c : List PanicEntry) : Prop := ∀ p ∈ c, sc n p.v
theorem renC_congr {n : Nat} {m m' : Ren} (h : m.agree n m') {c : List PanicEntry} (hs : scC n c) : renC m c = renC m' c :=
  List.map_congr_left fun p hp => by simp [renP, ren_congr h p.v (hs p hp)]
theorem scC_mono {n k : Nat} (hk : n ≤ k) {c : List PanicEntry} (hs : scC n c) : scC k c := fun p hp => sc_mono hk _ (hs p hp)
def renM (m : Ren) : FrameMode → FrameMode
  | .panicking c => .panicking (renC m c)
  | u => u
def scM (n : Nat) : FrameMode → Prop
  | .panicking c => scC n c
  | _ => True
theorem renM_congr {n : Nat} {m m' : Ren} (h : m.agree n m') {u : FrameMode} (hs : scM n u) : renM m u = renM m' u := by
  cases u <;> simp only [renM]
  rw [renC_congr h hs]
theorem scM_mono {n k : Nat} (hk : n ≤ k) {u : FrameMode} (hs : scM n u) : scM k u := by
  cases u <;> first | trivial | exact scC_mono hk hs
def renX (m : Ren) : Exit → Exit
  | .panic c => .panic (renC m c)
  | e => e
def scX (n : Nat) : Exit → Prop
  | .panic c => scC n c
  | .outgrown => False
  | _ => True
def renN (m : Ren) : Ending → Ending
  | .returned v => .returned (ren m v)
  | .panicked c => .panicked (renC m c)
  | .outgrown => .outgrown
def scN (n : Nat) : Ending → Prop
  | .returned v => sc n v
  | .panicked c => scC n c
  | .outgrown => False
def scU (n : Nat) : Option FrameMode → Prop
  | none => True
  | some u => scM n u
theorem scU_mono {n k : Nat} (hk : n ≤ k) {u : Option FrameMode} (hs : scU n u) : scU k u := by
  cases u <;> first | trivial | exact scM_mono hk hs

/-- The callers, where the frame below is in the mode u. -/
def csOf (m : Ren) (c₀ : Frame) (cs₀ : List Frame) : Option FrameMode → List Frame
  | none => cs₀
  | some u => { c₀ with mode := renM m u } :: cs₀
theorem csOf_congr {n : Nat} {m m' : Ren} (h : m.agree n m') {u : Option FrameMode} (hs : scU n u) (c₀ : Frame) (cs₀ : List Frame) : csOf m c₀ cs₀ u = csOf m' c₀ cs₀ u := by
  cases u with
  | none => rfl
  | some u => simp only [csOf]; rw [renM_congr h hs]
def kindOk (b : Frame) : Option FrameMode → Prop
  | none => True
  | some _ => b.kind = .deferred

/-! ### results -/
def aresult (P : Program) (fr : Frm) (h : Heap) : ResultVar → Option Value
  | .tmp t => look t fr.slots
  | .cell a t => (look a fr.slots).bind fun p => aload P h t p
def aresults (P : Program) (fr : Frm) (h : Heap) : List ResultVar → Option (List Value)
  | [] => some []
  | r :: l => (aresult P fr h r).bind fun v => (aresults P fr h l).bind fun vs => some (v :: vs)
/-- What a function hands back. -/
def ares (P : Program) (fn : Func) (fr : Frm) (h : Heap) : Option Value :=
  (aresults P fr h fn.results.toList).bind fun vs => match vs with
    | [v] => some v
    | vs => some (.tuple vs.toArray)

theorem loadVar_of_loadAt {P : Program} {t : TypeId} {p : Value} {w : World} {v : Value} (m : Ren) (h : (Instr.loadAt t (ren m p)).run P w = .ok v w) :
    (do loadVar t (← asAddr (ren m p)) : Sem Value).run P w = .ok v w := by
  simp only [Instr.loadAt] at h
  cases p with
  | pointer a =>
    cases a with
    | some a => simpa [ren, Instr.sureAddr, asAddr] using h
    | none => simp [ren, Instr.sureAddr] at h
  | slice a l c => cases a <;> simp [ren, Instr.sureAddr] at h
  | map r => cases r <;> simp [ren, Instr.sureAddr] at h
  | _ => simp [ren, Instr.sureAddr] at h

theorem ares_run {P : Program} {S : Start} {m : Ren} {h : Heap} {w : World} {fr : Frm} {a : Act} {fn : Func} {v : Value} (hr : HRel P S m h w) (hf : FRel m h.next fr a) (e : ares P fn fr h = some v) :
    (results fn a.tmps).run P w = .ok (ren m v) w ∧ sc h.next v := by
  unfold ares at e
  obtain ⟨vs, hvs, e⟩ := Option.bind_eq_some_iff.1 e
  have key : ∀ (l : List ResultVar) (vs : List Value), aresults P fr h l = some vs →
      (l.mapM (fun | .tmp t => pure (a.tmps.getD t undef) | .cell x t => do loadVar t (← asAddr (a.tmps.getD x undef)) : ResultVar → Sem Value)).run P w = .ok (vs.map (ren m)) w ∧ ∀ v ∈ vs, sc h.next v := by
    intro l
    induction l with
    | nil => intro vs hv; simp only [aresults] at hv; cases hv; simp
    | cons r l ih =>
      intro vs hv
      simp only [aresults] at hv
      obtain ⟨u, hu, hv⟩ := Option.bind_eq_some_iff.1 hv
      obtain ⟨us, hus, hv⟩ := Option.bind_eq_some_iff.1 hv
      cases hv
      obtain ⟨h1, h2⟩ := ih us hus
      have hone : ((fun | .tmp t => pure (a.tmps.getD t undef) | .cell x t => do loadVar t (← asAddr (a.tmps.getD x undef)) : ResultVar → Sem Value) r).run P w = .ok (ren m u) w ∧ sc h.next u := by
        cases r with
        | tmp t =>
          obtain ⟨q1, q2⟩ := hf.slot t u hu
          exact ⟨by simp [q2], q1⟩
        | cell x t =>
          simp only [aresult] at hu
          obtain ⟨p, hp, hl⟩ := Option.bind_eq_some_iff.1 hu
          obtain ⟨q1, q2⟩ := hf.slot x p hp
          obtain ⟨q3, q4⟩ := aload_run hr hl
          have := loadVar_of_loadAt m q3
          refine ⟨?_, q4⟩
          have hx : a.tmps.getD x undef = ren m p := by simp [q2]
          simpa only [hx] using this
      refine ⟨?_, ?_⟩
      · simp only [List.mapM_cons, Sem.run_bind, hone.1, Result.andThen_ok, h1]
        simp
      · intro v hv
        rcases List.mem_cons.1 hv with hv | hv
        · subst hv; exact hone.2
        · exact h2 v hv
  obtain ⟨h1, h2⟩ := key _ _ hvs
  have hrun : ∀ (g : Array Value → Value), ((fn.results.mapM (fun | .tmp t => pure (a.tmps.getD t undef) | .cell x t => do loadVar t (← asAddr (a.tmps.getD x undef)) : ResultVar → Sem Value)).run P w).andThen (fun vs w => .ok (g vs) w) = .ok (g (vs.map (ren m)).toArray) w := by
    intro g
    rw [Array.mapM_eq_mapM_toList, Sem.run_map, h1]
    rfl
  have hres := hrun (fun vs => if h : vs.size = 1 then vs[0] else .tuple vs)
  have hdef : (results fn a.tmps).run P w = ((fn.results.mapM (fun | .tmp t => pure (a.tmps.getD t undef) | .cell x t => do loadVar t (← asAddr (a.tmps.getD x undef)) : ResultVar → Sem Value)).run P w).andThen (fun vs w => .ok (if h : vs.size = 1 then vs[0] else .tuple vs) w) := by
    unfold results
    simp only [Sem.run_bind, Sem.run_pure]
    rfl
  rw [hdef, hres]
  split at e
  · rename_i u
    cases e
    exact ⟨by simp, h2 v (by simp)⟩
  · rename_i us hne
    cases e
    refine ⟨?_, by simp only [sc, scA, scL_all]; exact h2⟩
    have hl : ¬ (vs.map (ren m)).toArray.size = 1 := by
      simp only [List.size_toArray, List.length_map]
      intro hl
      match hh : vs, hl with
      | [x], _ => exact hne x hh
    rw [dif_neg hl]
    simp [ren, renA, renL_map]

/-! ### the relation -/
inductive Task where
  | code (c : Code) (fr : Frm) (u : Option FrameMode)
  | scope (body cur : Code) (fr : Frm) (u : Option FrameMode)
  | ops (ops : Array Oper) (l : List Nat) (fr : Frm) (u : Option FrameMode)
  | call (f : FuncId) (args : List Value)
  | callD (f : FuncId) (args : List Value) (u : FrameMode)
  | leave (fn : Func) (fr : Frm) (ds : List Deferred) (u : FrameMode)
inductive Out where
  | x (e : Exit) (fr : Frm) (u : Option FrameMode)
  | ends (e : Ending)
  | endsD (e : Ending) (u : FrameMode)

def blockExit (id : Nat) : Exit → Exit
  | .exit i => if i = id then .normal else .exit i
  | e => e
def numbered : Nat → List Value → List (Nat × Value)
  | _, [] => []
  | i, v :: l => (i, v) :: numbered (i + 1) l
def enterF (fn : Func) (args : List Value) : Frm := { size := max fn.ntmps args.length, slots := numbered 0 args, defers := [] }
/-- The mode in which the deferred calls of a frame begin. -/
def modeOf : Exit → Option FrameMode
  | .normal | .ret => some .returning
  | .panic c => some (.panicking c)
  | _ => none
/-- fr' tells no more than fr. -/
def Frm.le (fr' fr : Frm) : Prop := fr'.size = fr.size ∧ fr'.defers = fr.defers ∧ ∀ t v, look t fr'.slots = some v → look t fr.slots = some v
def afterD (e : Ending) (u : FrameMode) : Option FrameMode :=
  match e with
  | .returned _ => some (settle u)
  | .panicked c => some (raised u c)
  | .outgrown => none

inductive Big (P : Program) (G : Nat) (Ext : FuncId → List Value → Heap → Value → Heap → Prop) : Task → Heap → Out → Heap → Prop where
  | skip {fr u h} : Big P G Ext (.code .skip fr u) h (.x .normal fr u) h
  | label {l fr u h} : Big P G Ext (.code (.label l) fr u) h (.x .normal fr u) h
  | exit {id fr u h} : Big P G Ext (.code (.exit id) fr u) h (.x (.exit id) fr u) h
  | goto {l fr u h} : Big P G Ext (.code (.goto l) fr u) h (.x (.goto l) fr u) h
  | ret {fr u h} : Big P G Ext (.code .ret fr u) h (.x .ret fr u) h
  | seq {a b fr u h fr1 u1 h1 o h2} : Big P G Ext (.code a fr u) h (.x .normal fr1 u1) h1 → Big P G Ext (.code b fr1 u1) h1 o h2 → Big P G Ext (.code (.seq a b) fr u) h o h2
  | seqStop {a b fr u h e fr1 u1 h1} : Big P G Ext (.code a fr u) h (.x e fr1 u1) h1 → e ≠ .normal → Big P G Ext (.code (.seq a b) fr u) h (.x e fr1 u1) h1
  | cond {c a b fr u h t o h1} : aev G fr c = some (.bool t) → Big P G Ext (.code (if t then a else b) fr u) h o h1 → Big P G Ext (.code (.cond c a b) fr u) h o h1
  | block {id c fr u h e fr1 u1 h1} : Big P G Ext (.code c fr u) h (.x e fr1 u1) h1 → Big P G Ext (.code (.block id c) fr u) h (.x (blockExit id e) fr1 u1) h1
  | loop {c fr u h fr1 u1 h1 o h2} : Big P G Ext (.code c fr u) h (.x .normal fr1 u1) h1 → Big P G Ext (.code (.loop c) fr1 u1) h1 o h2 → Big P G Ext (.code (.loop c) fr u) h o h2
  | loopStop {c fr u h e fr1 u1 h1} : Big P G Ext (.code c fr u) h (.x e fr1 u1) h1 → e ≠ .normal → Big P G Ext (.code (.loop c) fr u) h (.x e fr1 u1) h1
  | region {id ops fr u h o h1} : Big P G Ext (.ops ops (List.range ops.size) fr u) h o h1 → Big P G Ext (.code (.region id ops false) fr u) h o h1
  | draw {id ops fr u h} {frs : Nat → Frm} {fr1 h1} : P.follows .mixedOrders = true → (∀ t, Big P G Ext (.ops ops (Region.linearise .any ops t) fr u) h (.x .normal (frs t) u) h1) → (∀ t, fr1.le (frs t)) →
      Big P G Ext (.code (.region id ops true) fr u) h (.x .normal fr1 u) h1
  | scope {c fr u h o h1} : Big P G Ext (.scope c c fr u) h o h1 → Big P G Ext (.code (.scope c) fr u) h o h1
  | scopeEnd {c cur fr u h e fr1 u1 h1} : Big P G Ext (.code cur fr u) h (.x e fr1 u1) h1 → (∀ l, e = .goto l → findLabel c l = none) → Big P G Ext (.scope c cur fr u) h (.x e fr1 u1) h1
  | scopeJump {c cur fr u h l rest fr1 u1 h1 o h2} : Big P G Ext (.code cur fr u) h (.x (.goto l) fr1 u1) h1 → findLabel c l = some rest → Big P G Ext (.scope c rest fr1 u1) h1 o h2 → Big P G Ext (.scope c cur fr u) h o h2
  | weaken {c fr fr' u h o h1} : Big P G Ext (.code c fr' u) h o h1 → fr'.le fr → Big P G Ext (.code c fr u) h o h1
  | opsNil {ops fr u h} : Big P G Ext (.ops ops [] fr u) h (.x .normal fr u) h
  | opsMissing {ops i l fr u h o h1} : ops[i]? = none → Big P G Ext (.ops ops l fr u) h o h1 → Big P G Ext (.ops ops (i :: l) fr u) h o h1
  | opsUnwanted {ops i l fr u h p fr1 o h1} : ops[i]? = some p → awanted ops fr p = some false → fr.put p.dst undef = some fr1 → Big P G Ext (.ops ops l fr1 u) h o h1 → Big P G Ext (.ops ops (i :: l) fr u) h o h1
  | opsVal {ops i l fr u h p v h1 fr1 o h2} : ops[i]? = some p → awanted ops fr p = some true → aop P (aev G fr) p h = some (.val v, h1) → fr.put p.dst v = some fr1 →
      Big P G Ext (.ops ops l fr1 u) h1 o h2 → Big P G Ext (.ops ops (i :: l) fr u) h o h2
  | opsSkip {ops i l fr u h p h1 fr1 o h2} : ops[i]? = some p → awanted ops fr p = some true → aop P (aev G fr) p h = some (.skip, h1) → fr.put p.dst undef = some fr1 →
      Big P G Ext (.ops ops l fr1 u) h1 o h2 → Big P G Ext (.ops ops (i :: l) fr u) h o h2
  | opsDefer {ops i l fr u h p d h1 fr1 o h2} : ops[i]? = some p → awanted ops fr p = some true → aop P (aev G fr) p h = some (.defer d, h1) →
      ({ fr with defers := d :: fr.defers } : Frm).put p.dst undef = some fr1 → Big P G Ext (.ops ops l fr1 u) h1 o h2 → Big P G Ext (.ops ops (i :: l) fr u) h o h2
  | opsPanic {ops i l fr u h p v h1} : ops[i]? = some p → awanted ops fr p = some true → aop P (aev G fr) p h = some (.panic v, h1) →
      Big P G Ext (.ops ops (i :: l) fr u) h (.x (.panic [{ v, recovered := false }]) fr u) h1
  | opsRecover {ops i l fr h p h1 v older fr1 o h2} : ops[i]? = some p → awanted ops fr p = some true → aop P (aev G fr) p h = some (.recover, h1) → fr.put p.dst v = some fr1 →
      Big P G Ext (.ops ops l fr1 (some (.panicking ({ v, recovered := true } :: older)))) h1 o h2 → Big P G Ext (.ops ops (i :: l) fr (some (.panicking ({ v, recovered := false } :: older)))) h o h2
  | opsRecoverNot {ops i l fr h p h1 fr1 o h2} : ops[i]? = some p → awanted ops fr p = some true → aop P (aev G fr) p h = some (.recover, h1) → fr.put p.dst .nilIface = some fr1 →
      Big P G Ext (.ops ops l fr1 (some .returning)) h1 o h2 → Big P G Ext (.ops ops (i :: l) fr (some .returning)) h o h2
  | opsCall {ops i l fr u h p f args h1 v h2 fr1 o h3} : ops[i]? = some p → awanted ops fr p = some true → aop P (aev G fr) p h = some (.call f args, h1) →
      Big P G Ext (.call f args) h1 (.ends (.returned v)) h2 → fr.put p.dst v = some fr1 → Big P G Ext (.ops ops l fr1 u) h2 o h3 → Big P G Ext (.ops ops (i :: l) fr u) h o h3
  | opsCallPanic {ops i l fr u h p f args h1 c h2} : ops[i]? = some p → awanted ops fr p = some true → aop P (aev G fr) p h = some (.call f args, h1) →
      Big P G Ext (.call f args) h1 (.ends (.panicked c)) h2 → Big P G Ext (.ops ops (i :: l) fr u) h (.x (.panic c) fr u) h2
  | ext {f args h v h1} : Ext f args h v h1 → Big P G Ext (.call f args) h (.ends (.returned v)) h1
  | call {f args h fn c e fr1 h1 u o h2} : P.funcs[f]? = some fn → fn.body = some c → Big P G Ext (.code c (enterF fn args) none) h (.x e fr1 none) h1 → modeOf e = some u →
      Big P G Ext (.leave fn fr1 fr1.defers u) h1 o h2 → Big P G Ext (.call f args) h o h2
  | leaveRet {fn fr h v} : ares P fn fr h = some v → Big P G Ext (.leave fn fr [] .returning) h (.ends (.returned v)) h
  | leavePanic {fn fr h c} : Big P G Ext (.leave fn fr [] (.panicking c)) h (.ends (.panicked c)) h
  | leaveCons {fn fr d ds u h g cap e u1 h1 u2 o h2} : u ≠ .run → d.target = .fn (.func g) cap → canEnter P g = true → Big P G Ext (.callD g (d.args.toList ++ cap.toList) u) h (.endsD e u1) h1 →
      afterD e u1 = some u2 → Big P G Ext (.leave fn fr ds u2) h1 o h2 → Big P G Ext (.leave fn fr (d :: ds) u) h o h2
  | callD {f args u h fn c e fr1 u1 h1 v} : P.funcs[f]? = some fn → fn.body = some c → Big P G Ext (.code c (enterF fn args) (some u)) h (.x e fr1 (some u1)) h1 → modeOf e = some .returning → fr1.defers = [] →
      ares P fn fr1 h1 = some v → Big P G Ext (.callD f args u) h (.endsD (.returned v) u1) h1
  | callDPanic {f args u h fn c ch fr1 u1 h1} : P.funcs[f]? = some fn → fn.body = some c → Big P G Ext (.code c (enterF fn args) (some u)) h (.x (.panic ch) fr1 (some u1)) h1 → fr1.defers = [] →
      Big P G Ext (.callD f args u) h (.endsD (.panicked ch) u1) h1
end Go.Mini
