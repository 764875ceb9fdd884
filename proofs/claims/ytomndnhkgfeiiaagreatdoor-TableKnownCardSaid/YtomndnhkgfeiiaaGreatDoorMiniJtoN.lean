/-
  Parts MiniJ to MiniN.
-/
import Derived.Test.YtomndnhkgfeiiaaGreatDoorMiniFtoI
import Derived.Scope
import Derived.Below
import Derived.Still
section
/-
  MINI, part J: frames; the machine's steps at an operation.
-/
namespace Go.Mini

/-! ### frames -/
def look (t : Nat) : List (Nat × Value) → Option Value
  | [] => none
  | (k, v) :: l => if t = k then some v else look t l
def setk (t : Nat) (v : Value) : List (Nat × Value) → List (Nat × Value)
  | [] => [(t, v)]
  | (k, u) :: l => if t = k then (k, v) :: l else (k, u) :: setk t v l
theorem look_setk (t : Nat) (v : Value) (s : Nat) : ∀ l, look s (setk t v l) = if s = t then some v else look s l
  | [] => by simp [setk, look]
  | (k, u) :: l => by
    simp only [setk]
    split
    · rename_i e
      subst e
      simp only [look]
      split <;> simp_all
    · rename_i e
      simp only [look, look_setk t v s l]
      split
      · rename_i e2
        rw [if_neg (by omega)]
      · rfl

structure Frm where
  size : Nat
  slots : List (Nat × Value)
  defers : List Deferred

def Frm.put (fr : Frm) (dst : Option Nat) (v : Value) : Option Frm :=
  match dst with
  | none => some fr
  | some d => if d < fr.size then some { fr with slots := setk d v fr.slots } else none

/-- An operand's value. -/
def aev (G : Nat) (fr : Frm) : Operand → Option Value
  | .tmp t => look t fr.slots
  | .const v => if flat v then some v else none
  | .global g => if g < G then some (.pointer (some ⟨g, 0, none⟩)) else none
  | .func f => some (.func (.func f) #[] #[])

structure FRel (m : Ren) (n : Nat) (fr : Frm) (a : Act) : Prop where
  size : a.tmps.size = fr.size
  slot : ∀ t v, look t fr.slots = some v → sc n v ∧ a.tmps[t]? = some (ren m v)
  defers : a.defers = fr.defers.map (renD m)
  scd : ∀ d ∈ fr.defers, scD n d

theorem FRel.agree {m m' : Ren} {n n' : Nat} {fr : Frm} {a : Act} (hf : FRel m n fr a) (ha : m.agree n m') (hn : n ≤ n') : FRel m' n' fr a where
  size := hf.size
  slot t v hl := by
    obtain ⟨h1, h2⟩ := hf.slot t v hl
    exact ⟨sc_mono hn v h1, by rw [h2, ren_congr ha v h1]⟩
  defers := by
    rw [hf.defers]
    exact List.map_congr_left fun d hd => renD_congr ha (hf.scd d hd)
  scd d hd := scD_mono hn (hf.scd d hd)

theorem FRel.put {m : Ren} {n : Nat} {fr fr' : Frm} {a : Act} (hf : FRel m n fr a) {dst : Option Nat} {v : Value} (hp : fr.put dst v = some fr') (hs : sc n v) : FRel m n fr' (a.put dst (ren m v)) := by
  unfold Frm.put at hp
  split at hp
  · cases hp; exact hf
  · rename_i d
    split at hp
    · rename_i hd
      cases hp
      refine ⟨by simp [Act.put, hf.size], ?_, by simp [Act.put, hf.defers], hf.scd⟩
      intro t u hl
      rw [look_setk] at hl
      simp only [Act.put]
      split at hl
      · rename_i e
        subst e
        cases hl
        exact ⟨hs, by rw [Array.getElem?_setIfInBounds_self, if_pos (by rw [hf.size]; exact hd)]⟩
      · rename_i e
        obtain ⟨h1, h2⟩ := hf.slot t u hl
        exact ⟨h1, by rw [Array.getElem?_setIfInBounds_ne (Ne.symm e)]; exact h2⟩
    · cases hp

theorem aev_run {P : Program} {S : Start} {m : Ren} {h : Heap} {w : World} {fr : Frm} {a : Act} (hr : HRel P S m h w) (hf : FRel m h.next fr a) {x : Operand} {v : Value} (e : aev S.G fr x = some v) :
    a.eval x = ren m v ∧ sc h.next v := by
  cases x with
  | tmp t =>
    obtain ⟨h1, h2⟩ := hf.slot t v e
    exact ⟨by simp [Act.eval, h2], h1⟩
  | const u =>
    simp only [aev] at e
    split at e
    · rename_i hfl; cases e; exact ⟨by simp [Act.eval, ren_flat m _ hfl], sc_flat _ _ hfl⟩
    · cases e
  | global g =>
    simp only [aev] at e
    split at e
    · rename_i hg
      cases e
      obtain ⟨h1, h2, _⟩ := hr.glob g hg
      have := hr.gle
      exact ⟨by simp [Act.eval, ren, h1, h2], by simp only [sc]; omega⟩
    · cases e
  | func f => simp only [aev] at e; cases e; exact ⟨by simp [Act.eval, ren, renA, renL], by simp [sc, scA, scL]⟩

/-- Is an operation carried out? -/
def awanted (ops : Array Oper) (fr : Frm) (o : Oper) : Option Bool :=
  match o.guard with
  | none => some true
  | some (j, want) =>
    match (ops[j]?).bind (·.dst) with
    | none => some false
    | some d => (look d fr.slots).bind fun v => match v with
      | .bool b => some (b == want)
      | _ => some false
theorem awanted_run {m : Ren} {n : Nat} {fr : Frm} {a : Act} (hf : FRel m n fr a) {ops : Array Oper} {o : Oper} {t : Bool} (e : awanted ops fr o = some t) :
    Region.wanted o (yielded ops a.tmps) = t := by
  unfold awanted at e
  unfold Region.wanted
  split at e
  · rename_i hg; cases e; rw [hg]
  · rename_i j want hg
    rw [hg]
    simp only [yielded]
    split at e
    · rename_i hd
      cases e
      rw [hd]; rfl
    · rename_i d hd
      obtain ⟨v, hv, e⟩ := Option.bind_eq_some_iff.1 e
      obtain ⟨h1, h2⟩ := hf.slot d v hv
      rw [hd]
      simp only [Option.bind_some, h2]
      cases v with
      | bool b => simp only [Option.some.injEq] at e; subst e; simp [ren]
      | pointer x => cases x <;> (cases e; simp [ren])
      | slice x l c => cases x <;> (cases e; simp [ren])
      | map r => cases r <;> (cases e; simp [ren])
      | chan r => cases r <;> (cases e; simp [ren])
      | _ => cases e; simp [ren]

/-! ### the machine at an operation -/
section
variable {P : Program} {b : Frame} {a : Act} {k : List Item} {cs : List Frame} {w w' : World} {ops : Array Oper} {i : Nat} {rest : List Nat} {o : Oper}

theorem finish_at' (ho : ops[i]? = some o) (v : Value) : (b.at a (.inRegion ops (i :: rest) :: k)).finish v = b.at (a.put o.dst v) (.inRegion ops rest :: k) := by
  rw [Frame.finish_at, ho]; rfl

theorem go_value (ho : ops[i]? = some o) (hw : Region.wanted o (yielded ops a.tmps) = true) {v : Value} (hr : (execOp a.eval o).run P w = .ok (.value v) w') :
    Steps P (lone (b.at a (.inRegion ops (i :: rest) :: k)) cs w) (lone (b.at (a.put o.dst v) (.inRegion ops rest :: k)) cs w') :=
  .one (step_lone_go (by rw [stepG_op ho hw, ← finish_at' ho]; simp [stepG.apply, hr]))
theorem go_skip (ho : ops[i]? = some o) (hw : Region.wanted o (yielded ops a.tmps) = true) (hr : (execOp a.eval o).run P w = .ok .skip w') :
    Steps P (lone (b.at a (.inRegion ops (i :: rest) :: k)) cs w) (lone (b.at (a.put o.dst undef) (.inRegion ops rest :: k)) cs w') :=
  .one (step_lone_go (by rw [stepG_op ho hw, ← finish_at' ho]; simp [stepG.apply, hr]))
theorem go_unwanted (ho : ops[i]? = some o) (hw : Region.wanted o (yielded ops a.tmps) = false) :
    Steps P (lone (b.at a (.inRegion ops (i :: rest) :: k)) cs w) (lone (b.at (a.put o.dst undef) (.inRegion ops rest :: k)) cs w) := by
  have hs := step_op_skip (P := P) (b := b) (a := a) (k := k) (cs := cs) (w := w) (ops := ops) (i := i) (rest := rest) (by simp [ho]; simpa using hw)
  simp only [ho, Option.bind_some] at hs
  exact .one hs
theorem go_missing (ho : ops[i]? = none) :
    Steps P (lone (b.at a (.inRegion ops (i :: rest) :: k)) cs w) (lone (b.at a (.inRegion ops rest :: k)) cs w) := by
  have hs := step_op_skip (P := P) (b := b) (a := a) (k := k) (cs := cs) (w := w) (ops := ops) (i := i) (rest := rest) (by simp [ho])
  simp only [ho, Option.bind_none, Act.put] at hs
  exact .one hs
theorem go_defer (ho : ops[i]? = some o) (hw : Region.wanted o (yielded ops a.tmps) = true) {d : Deferred} (hr : (execOp a.eval o).run P w = .ok (.defer d) w') :
    Steps P (lone (b.at a (.inRegion ops (i :: rest) :: k)) cs w) (lone (b.at ({ a with defers := d :: a.defers }.put o.dst undef) (.inRegion ops rest :: k)) cs w') := by
  refine .one (step_lone_go ?_)
  have : ({ b.at a (.inRegion ops (i :: rest) :: k) with defers := d :: a.defers } : Frame).finish undef =
      b.at ({ a with defers := d :: a.defers }.put o.dst undef) (.inRegion ops rest :: k) := by
    have := Frame.finish_at b { a with defers := d :: a.defers } ops i rest k undef
    rw [ho] at this; exact this
  rw [stepG_op ho hw]; simp only [stepG.apply, Sem.runT_eq, hr, GStep.bare_after]
  exact congrArg (fun fr => GStep.go { frame := fr, callers := cs, status := .running, dying := none } w') this
theorem go_panic (ho : ops[i]? = some o) (hw : Region.wanted o (yielded ops a.tmps) = true) {v : Value} (hr : (execOp a.eval o).run P w = .halt (.panic v) w') :
    Steps P (lone (b.at a (.inRegion ops (i :: rest) :: k)) cs w) (lone { b.at a (.inRegion ops (i :: rest) :: k) with mode := .panicking [{ v, recovered := false }] } cs w') :=
  .one (step_lone_go (by rw [stepG_op ho hw, ← Frame.raise_at]; simp [stepG.apply, hr]))
theorem go_recover (hk : b.kind = .deferred) (ho : ops[i]? = some o) (hw : Region.wanted o (yielded ops a.tmps) = true) (hr : (execOp a.eval o).run P w = .ok .recover w') :
    Steps P (lone (b.at a (.inRegion ops (i :: rest) :: k)) cs w) (match recoverD cs with
      | some (v, cs') => lone (b.at (a.put o.dst v) (.inRegion ops rest :: k)) cs' w'
      | none => lone (b.at (a.put o.dst .nilIface) (.inRegion ops rest :: k)) cs w') := by
  have hkk : (b.at a (.inRegion ops (i :: rest) :: k)).kind = .deferred := hk
  have htr := tryRecover_deferred hkk cs
  cases hrec : recoverD cs with
  | some q =>
    obtain ⟨v, cs'⟩ := q
    refine .one (step_lone_go ?_)
    rw [stepG_op ho hw, ← finish_at' ho]
    simp only [Frame.at] at htr ⊢
    simp [stepG.apply, hr, htr, hrec]
  | none =>
    refine .one (step_lone_go ?_)
    rw [stepG_op ho hw, ← finish_at' ho]
    simp only [Frame.at] at htr ⊢
    simp [stepG.apply, hr, htr, hrec]
theorem go_call_returned (ho : ops[i]? = some o) (hw : Region.wanted o (yielded ops a.tmps) = true) {f : FuncId} {args : Array Value} (hr : (execOp a.eval o).run P w = .ok (.enter f args) w')
    {v : Value} {w'' : World} {fr : Frame} (hs : Comes P (lone (Frame.enter P f args .normal) (b.at a (.inRegion ops (i :: rest) :: k) :: cs) w') (lone fr (b.at a (.inRegion ops (i :: rest) :: k) :: cs) w'') (.returned v))
    (hl : fr.leaving P w'' (.returned v)) :
    Steps P (lone (b.at a (.inRegion ops (i :: rest) :: k)) cs w) (lone (b.at (a.put o.dst v) (.inRegion ops rest :: k)) cs w'') := by
  have henter : step P (lone (b.at a (.inRegion ops (i :: rest) :: k)) cs w) = .next (lone (Frame.enter P f args .normal) (b.at a (.inRegion ops (i :: rest) :: k) :: cs) w') :=
    step_lone_go (by rw [stepG_op ho hw]; simp [stepG.apply, hr, Frame.at])
  refine .head henter (Steps.trans hs (.one ?_))
  rw [← finish_at' ho]; exact step_leave_returned hl
theorem go_call_panicked (ho : ops[i]? = some o) (hw : Region.wanted o (yielded ops a.tmps) = true) {f : FuncId} {args : Array Value} (hr : (execOp a.eval o).run P w = .ok (.enter f args) w')
    {chain : List PanicEntry} {w'' : World} {fr : Frame} (hs : Comes P (lone (Frame.enter P f args .normal) (b.at a (.inRegion ops (i :: rest) :: k) :: cs) w') (lone fr (b.at a (.inRegion ops (i :: rest) :: k) :: cs) w'') (.panicked chain))
    (hl : fr.leaving P w'' (.panicked chain)) :
    Steps P (lone (b.at a (.inRegion ops (i :: rest) :: k)) cs w) (lone { b.at a (.inRegion ops (i :: rest) :: k) with mode := .panicking chain } cs w'') := by
  have henter : step P (lone (b.at a (.inRegion ops (i :: rest) :: k)) cs w) = .next (lone (Frame.enter P f args .normal) (b.at a (.inRegion ops (i :: rest) :: k) :: cs) w') :=
    step_lone_go (by rw [stepG_op ho hw]; simp [stepG.apply, hr, Frame.at])
  refine .head henter (Steps.trans hs (.one ?_))
  rw [← Frame.raise_at]; exact step_leave_panicked hl
end
end Go.Mini
end
section
/-
  MINI, part K: what a piece of code, and a call, come to: the relation; and that the model comes to the same.
-/
namespace Go.Mini

/-! ### renaming of what surrounds a frame -/
def renP (m : Ren) (p : PanicEntry) : PanicEntry := { p with v := ren m p.v }
def renC (m : Ren) (c : List PanicEntry) : List PanicEntry := c.map (renP m)
def scC (n : Nat) (c : List PanicEntry) : Prop := ∀ p ∈ c, sc n p.v
theorem renC_congr {n : Nat} {m m' : Ren} (h : m.agree n m') {c : List PanicEntry} (hs : scC n c) : renC m c = renC m' c :=
  List.map_congr_left fun p hp => by simp [renP, ren_congr h p.v (hs p hp)]
theorem scC_mono {n k : Nat} (hk : n ≤ k) {c : List PanicEntry} (hs : scC n c) : scC k c := fun p hp => sc_mono hk _ (hs p hp)
def renM (m : Ren) : FrameMode → FrameMode
  | .panicking c => .panicking (renC m c)
  | u => u
def scM (n : Nat) : FrameMode → Prop
  | .panicking c => scC n c
  | _ => True
theorem renM_congr {n : Nat} {m m' : Ren} (h : m.agree n m') {u : FrameMode} (hs : scM n u) : renM m u = renM m' u := by
  cases u <;> simp only [renM]
  rw [renC_congr h hs]
theorem scM_mono {n k : Nat} (hk : n ≤ k) {u : FrameMode} (hs : scM n u) : scM k u := by
  cases u <;> first | trivial | exact scC_mono hk hs
def renX (m : Ren) : Exit → Exit
  | .panic c => .panic (renC m c)
  | e => e
def scX (n : Nat) : Exit → Prop
  | .panic c => scC n c
  | .outgrown => False
  | _ => True
def renN (m : Ren) : Ending → Ending
  | .returned v => .returned (ren m v)
  | .panicked c => .panicked (renC m c)
  | .outgrown => .outgrown
def scN (n : Nat) : Ending → Prop
  | .returned v => sc n v
  | .panicked c => scC n c
  | .outgrown => False
def scU (n : Nat) : Option FrameMode → Prop
  | none => True
  | some u => scM n u
theorem scU_mono {n k : Nat} (hk : n ≤ k) {u : Option FrameMode} (hs : scU n u) : scU k u := by
  cases u <;> first | trivial | exact scM_mono hk hs

/-- The callers, where the frame below is in the mode u. -/
def csOf (m : Ren) (c₀ : Frame) (cs₀ : List Frame) : Option FrameMode → List Frame
  | none => cs₀
  | some u => { c₀ with mode := renM m u } :: cs₀
theorem csOf_congr {n : Nat} {m m' : Ren} (h : m.agree n m') {u : Option FrameMode} (hs : scU n u) (c₀ : Frame) (cs₀ : List Frame) : csOf m c₀ cs₀ u = csOf m' c₀ cs₀ u := by
  cases u with
  | none => rfl
  | some u => simp only [csOf]; rw [renM_congr h hs]
def kindOk (b : Frame) : Option FrameMode → Prop
  | none => True
  | some _ => b.kind = .deferred

/-! ### results -/
def aresult (P : Program) (fr : Frm) (h : Heap) : ResultVar → Option Value
  | .tmp t => look t fr.slots
  | .cell a t => (look a fr.slots).bind fun p => aload P h t p
def aresults (P : Program) (fr : Frm) (h : Heap) : List ResultVar → Option (List Value)
  | [] => some []
  | r :: l => (aresult P fr h r).bind fun v => (aresults P fr h l).bind fun vs => some (v :: vs)
/-- What a function hands back. -/
def ares (P : Program) (fn : Func) (fr : Frm) (h : Heap) : Option Value :=
  (aresults P fr h fn.results.toList).bind fun vs => match vs with
    | [v] => some v
    | vs => some (.tuple vs.toArray)

theorem loadVar_of_loadAt {P : Program} {t : TypeId} {p : Value} {w : World} {v : Value} (m : Ren) (h : (Instr.loadAt t (ren m p)).run P w = .ok v w) :
    (do loadVar t (← asAddr (ren m p)) : Sem Value).run P w = .ok v w := by
  simp only [Instr.loadAt] at h
  cases p with
  | pointer a =>
    cases a with
    | some a => simpa [ren, Instr.sureAddr, asAddr] using h
    | none => simp [ren, Instr.sureAddr] at h
  | slice a l c => cases a <;> simp [ren, Instr.sureAddr] at h
  | map r => cases r <;> simp [ren, Instr.sureAddr] at h
  | chan r => cases r <;> simp [ren, Instr.sureAddr] at h
  | _ => simp [ren, Instr.sureAddr] at h

theorem ares_run {P : Program} {S : Start} {m : Ren} {h : Heap} {w : World} {fr : Frm} {a : Act} {fn : Func} {v : Value} (hr : HRel P S m h w) (hf : FRel m h.next fr a) (e : ares P fn fr h = some v) :
    (results fn a.tmps).run P w = .ok (ren m v) w ∧ sc h.next v := by
  unfold ares at e
  obtain ⟨vs, hvs, e⟩ := Option.bind_eq_some_iff.1 e
  have key : ∀ (l : List ResultVar) (vs : List Value), aresults P fr h l = some vs →
      (l.mapM (fun | .tmp t => pure (a.tmps.getD t undef) | .cell x t => do loadVar t (← asAddr (a.tmps.getD x undef)) : ResultVar → Sem Value)).run P w = .ok (vs.map (ren m)) w ∧ ∀ v ∈ vs, sc h.next v := by
    intro l
    induction l with
    | nil => intro vs hv; simp only [aresults] at hv; cases hv; simp
    | cons r l ih =>
      intro vs hv
      simp only [aresults] at hv
      obtain ⟨u, hu, hv⟩ := Option.bind_eq_some_iff.1 hv
      obtain ⟨us, hus, hv⟩ := Option.bind_eq_some_iff.1 hv
      cases hv
      obtain ⟨h1, h2⟩ := ih us hus
      have hone : ((fun | .tmp t => pure (a.tmps.getD t undef) | .cell x t => do loadVar t (← asAddr (a.tmps.getD x undef)) : ResultVar → Sem Value) r).run P w = .ok (ren m u) w ∧ sc h.next u := by
        cases r with
        | tmp t =>
          obtain ⟨q1, q2⟩ := hf.slot t u hu
          exact ⟨by simp [q2], q1⟩
        | cell x t =>
          simp only [aresult] at hu
          obtain ⟨p, hp, hl⟩ := Option.bind_eq_some_iff.1 hu
          obtain ⟨q1, q2⟩ := hf.slot x p hp
          obtain ⟨q3, q4⟩ := aload_run hr hl
          have := loadVar_of_loadAt m q3
          refine ⟨?_, q4⟩
          have hx : a.tmps.getD x undef = ren m p := by simp [q2]
          simpa only [hx] using this
      refine ⟨?_, ?_⟩
      · simp only [List.mapM_cons, Sem.run_bind, hone.1, Result.andThen_ok, h1]
        simp
      · intro v hv
        rcases List.mem_cons.1 hv with hv | hv
        · subst hv; exact hone.2
        · exact h2 v hv
  obtain ⟨h1, h2⟩ := key _ _ hvs
  have hrun : ∀ (g : Array Value → Value), ((fn.results.mapM (fun | .tmp t => pure (a.tmps.getD t undef) | .cell x t => do loadVar t (← asAddr (a.tmps.getD x undef)) : ResultVar → Sem Value)).run P w).andThen (fun vs w => .ok (g vs) w) = .ok (g (vs.map (ren m)).toArray) w := by
    intro g
    rw [Array.mapM_eq_mapM_toList, Sem.run_map, h1]
    rfl
  have hres := hrun (fun vs => if h : vs.size = 1 then vs[0] else .tuple vs)
  have hdef : (results fn a.tmps).run P w = ((fn.results.mapM (fun | .tmp t => pure (a.tmps.getD t undef) | .cell x t => do loadVar t (← asAddr (a.tmps.getD x undef)) : ResultVar → Sem Value)).run P w).andThen (fun vs w => .ok (if h : vs.size = 1 then vs[0] else .tuple vs) w) := by
    unfold results
    simp only [Sem.run_bind, Sem.run_pure]
    rfl
  rw [hdef, hres]
  split at e
  · rename_i u
    cases e
    exact ⟨by simp, h2 v (by simp)⟩
  · rename_i us hne
    cases e
    refine ⟨?_, by simp only [sc, scA, scL_all]; exact h2⟩
    have hl : ¬ (vs.map (ren m)).toArray.size = 1 := by
      simp only [List.size_toArray, List.length_map]
      intro hl
      match hh : vs, hl with
      | [x], _ => exact hne x hh
    rw [dif_neg hl]
    simp [ren, renA, renL_map]

/-! ### the relation -/
inductive Task where
  | code (c : Code) (fr : Frm) (u : Option FrameMode)
  | scope (body cur : Code) (fr : Frm) (u : Option FrameMode)
  | ops (ops : Array Oper) (l : List Nat) (fr : Frm) (u : Option FrameMode)
  | call (f : FuncId) (args : List Value)
  | callD (f : FuncId) (args : List Value) (u : FrameMode)
  | leave (fn : Func) (fr : Frm) (ds : List Deferred) (u : FrameMode)
inductive Out where
  | x (e : Exit) (fr : Frm) (u : Option FrameMode)
  | ends (e : Ending)
  | endsD (e : Ending) (u : FrameMode)

def blockExit (id : Nat) : Exit → Exit
  | .exit i => if i = id then .normal else .exit i
  | e => e
def numbered : Nat → List Value → List (Nat × Value)
  | _, [] => []
  | i, v :: l => (i, v) :: numbered (i + 1) l
def enterF (fn : Func) (args : List Value) : Frm := { size := max fn.ntmps args.length, slots := numbered 0 args, defers := [] }
/-- The mode in which the deferred calls of a frame begin. -/
def modeOf : Exit → Option FrameMode
  | .normal | .ret => some .returning
  | .panic c => some (.panicking c)
  | _ => none
/-- fr' tells no more than fr. -/
def Frm.le (fr' fr : Frm) : Prop := fr'.size = fr.size ∧ fr'.defers = fr.defers ∧ ∀ t v, look t fr'.slots = some v → look t fr.slots = some v
def afterD (e : Ending) (u : FrameMode) : Option FrameMode :=
  match e with
  | .returned _ => some (settle u)
  | .panicked c => some (raised u c)
  | .outgrown => none

/-- From a list of items on, in whatever surroundings. -/
def Runs (P : Program) (S : Start) (todo : List Item) (fr : Frm) (u : Option FrameMode) (h : Heap) (e : Exit) (fr' : Frm) (u' : Option FrameMode) (h' : Heap) : Prop :=
  ∀ m w a, HRel P S m h w → FRel m h.next fr a → scU h.next u → ∀ (b : Frame) (k : List Item) (c₀ : Frame) (cs₀ : List Frame), kindOk b u →
    ∃ m' w' a', m.agree h.next m' ∧ h.next ≤ h'.next ∧ HRel P S m' h' w' ∧ FRel m' h'.next fr' a' ∧ scU h'.next u' ∧ scX h'.next e ∧ u'.isSome = u.isSome ∧
      Arrives P (lone (b.at a (todo ++ k)) (csOf m c₀ cs₀ u) w) b k (csOf m' c₀ cs₀ u') (renX m' e) a' w'

/-- A frame and a memory tell the same as others, under other numbers from n on. -/
def Turns (P : Program) (G n : Nat) (F : Frm) (H : Heap) (F1 : Frm) (H1 : Heap) : Prop :=
  ∀ (S : Start) (m : Ren) (w : World) (a : Act), S.G = G → HRel P S m H w → FRel m H.next F a → G ≤ n → n ≤ H.next → ∃ m', m.agree n m' ∧ n ≤ H1.next ∧ HRel P S m' H1 w ∧ FRel m' H1.next F1 a

inductive Big (P : Program) (G : Nat) (Ext : FuncId → List Value → Heap → Value → Heap → Prop) : Task → Heap → Out → Heap → Prop where
  | skip {fr u h} : Big P G Ext (.code .skip fr u) h (.x .normal fr u) h
  | label {l fr u h} : Big P G Ext (.code (.label l) fr u) h (.x .normal fr u) h
  | exit {id fr u h} : Big P G Ext (.code (.exit id) fr u) h (.x (.exit id) fr u) h
  | goto {l fr u h} : Big P G Ext (.code (.goto l) fr u) h (.x (.goto l) fr u) h
  | ret {fr u h} : Big P G Ext (.code .ret fr u) h (.x .ret fr u) h
  | seq {a b fr u h fr1 u1 h1 o h2} : Big P G Ext (.code a fr u) h (.x .normal fr1 u1) h1 → Big P G Ext (.code b fr1 u1) h1 o h2 → Big P G Ext (.code (.seq a b) fr u) h o h2
  | seqStop {a b fr u h e fr1 u1 h1} : Big P G Ext (.code a fr u) h (.x e fr1 u1) h1 → e ≠ .normal → Big P G Ext (.code (.seq a b) fr u) h (.x e fr1 u1) h1
  | cond {c a b fr u h t o h1} : aev G fr c = some (.bool t) → Big P G Ext (.code (if t then a else b) fr u) h o h1 → Big P G Ext (.code (.cond c a b) fr u) h o h1
  | block {id c fr u h e fr1 u1 h1} : Big P G Ext (.code c fr u) h (.x e fr1 u1) h1 → Big P G Ext (.code (.block id c) fr u) h (.x (blockExit id e) fr1 u1) h1
  | loop {c fr u h fr1 u1 h1 o h2} : Big P G Ext (.code c fr u) h (.x .normal fr1 u1) h1 → Big P G Ext (.code (.loop c) fr1 u1) h1 o h2 → Big P G Ext (.code (.loop c) fr u) h o h2
  | loopStop {c fr u h e fr1 u1 h1} : Big P G Ext (.code c fr u) h (.x e fr1 u1) h1 → e ≠ .normal → Big P G Ext (.code (.loop c) fr u) h (.x e fr1 u1) h1
  | region {id ops fr u h o h1} : Big P G Ext (.ops ops (List.range ops.size) fr u) h o h1 → Big P G Ext (.code (.region id ops false) fr u) h o h1
  | draw {id ops fr u h} {frs : Nat → Frm} {fr1 e u1 h1} : P.follows .mixedOrders = true → (∀ t, Big P G Ext (.ops ops (Region.linearise .any ops t) fr u) h (.x e (frs t) u1) h1) → (∀ t, fr1.le (frs t)) →
      Big P G Ext (.code (.region id ops true) fr u) h (.x e fr1 u1) h1
  | turned {id ops fr u h} {frs : Nat → Frm} {hs : Nat → Heap} {fr1 h1} : P.follows .mixedOrders = true → (∀ t, Big P G Ext (.ops ops (Region.linearise .any ops t) fr u) h (.x .normal (frs t) u) (hs t)) → (∀ t, Turns P G h.next (frs t) (hs t) fr1 h1) →
      Big P G Ext (.code (.region id ops true) fr u) h (.x .normal fr1 u) h1
  | said {id ops fr u h fr1 h1} : (∀ S : Start, S.G = G → Runs P S [.code (.region id ops true)] fr u h .normal fr1 u h1) → Big P G Ext (.code (.region id ops true) fr u) h (.x .normal fr1 u) h1
  | scope {c fr u h o h1} : Big P G Ext (.scope c c fr u) h o h1 → Big P G Ext (.code (.scope c) fr u) h o h1
  | scopeEnd {c cur fr u h e fr1 u1 h1} : Big P G Ext (.code cur fr u) h (.x e fr1 u1) h1 → (∀ l, e = .goto l → findLabel c l = none) → Big P G Ext (.scope c cur fr u) h (.x e fr1 u1) h1
  | scopeJump {c cur fr u h l rest fr1 u1 h1 o h2} : Big P G Ext (.code cur fr u) h (.x (.goto l) fr1 u1) h1 → findLabel c l = some rest → Big P G Ext (.scope c rest fr1 u1) h1 o h2 → Big P G Ext (.scope c cur fr u) h o h2
  | weaken {c fr fr' u h o h1} : Big P G Ext (.code c fr' u) h o h1 → fr'.le fr → Big P G Ext (.code c fr u) h o h1
  | opsNil {ops fr u h} : Big P G Ext (.ops ops [] fr u) h (.x .normal fr u) h
  | opsMissing {ops i l fr u h o h1} : ops[i]? = none → Big P G Ext (.ops ops l fr u) h o h1 → Big P G Ext (.ops ops (i :: l) fr u) h o h1
  | opsUnwanted {ops i l fr u h p fr1 o h1} : ops[i]? = some p → awanted ops fr p = some false → fr.put p.dst undef = some fr1 → Big P G Ext (.ops ops l fr1 u) h o h1 → Big P G Ext (.ops ops (i :: l) fr u) h o h1
  | opsVal {ops i l fr u h p v h1 fr1 o h2} : ops[i]? = some p → awanted ops fr p = some true → aop P (aev G fr) p h = some (.val v, h1) → fr.put p.dst v = some fr1 →
      Big P G Ext (.ops ops l fr1 u) h1 o h2 → Big P G Ext (.ops ops (i :: l) fr u) h o h2
  | opsSkip {ops i l fr u h p h1 fr1 o h2} : ops[i]? = some p → awanted ops fr p = some true → aop P (aev G fr) p h = some (.skip, h1) → fr.put p.dst undef = some fr1 →
      Big P G Ext (.ops ops l fr1 u) h1 o h2 → Big P G Ext (.ops ops (i :: l) fr u) h o h2
  | opsDefer {ops i l fr u h p d h1 fr1 o h2} : ops[i]? = some p → awanted ops fr p = some true → aop P (aev G fr) p h = some (.defer d, h1) →
      ({ fr with defers := d :: fr.defers } : Frm).put p.dst undef = some fr1 → Big P G Ext (.ops ops l fr1 u) h1 o h2 → Big P G Ext (.ops ops (i :: l) fr u) h o h2
  | opsPanic {ops i l fr u h p v h1} : ops[i]? = some p → awanted ops fr p = some true → aop P (aev G fr) p h = some (.panic v, h1) →
      Big P G Ext (.ops ops (i :: l) fr u) h (.x (.panic [{ v, recovered := false }]) fr u) h1
  | opsRecover {ops i l fr h p h1 v older fr1 o h2} : ops[i]? = some p → awanted ops fr p = some true → aop P (aev G fr) p h = some (.recover, h1) → fr.put p.dst v = some fr1 →
      Big P G Ext (.ops ops l fr1 (some (.panicking ({ v, recovered := true } :: older)))) h1 o h2 → Big P G Ext (.ops ops (i :: l) fr (some (.panicking ({ v, recovered := false } :: older)))) h o h2
  | opsRecoverNot {ops i l fr h p h1 fr1 o h2} : ops[i]? = some p → awanted ops fr p = some true → aop P (aev G fr) p h = some (.recover, h1) → fr.put p.dst .nilIface = some fr1 →
      Big P G Ext (.ops ops l fr1 (some .returning)) h1 o h2 → Big P G Ext (.ops ops (i :: l) fr (some .returning)) h o h2
  | opsCall {ops i l fr u h p f args h1 v h2 fr1 o h3} : ops[i]? = some p → awanted ops fr p = some true → aop P (aev G fr) p h = some (.call f args, h1) →
      Big P G Ext (.call f args) h1 (.ends (.returned v)) h2 → fr.put p.dst v = some fr1 → Big P G Ext (.ops ops l fr1 u) h2 o h3 → Big P G Ext (.ops ops (i :: l) fr u) h o h3
  | opsCallPanic {ops i l fr u h p f args h1 c h2} : ops[i]? = some p → awanted ops fr p = some true → aop P (aev G fr) p h = some (.call f args, h1) →
      Big P G Ext (.call f args) h1 (.ends (.panicked c)) h2 → Big P G Ext (.ops ops (i :: l) fr u) h (.x (.panic c) fr u) h2
  | ext {f args h v h1} : Ext f args h v h1 → Big P G Ext (.call f args) h (.ends (.returned v)) h1
  | call {f args h fn c e fr1 h1 u o h2} : P.funcs[f]? = some fn → fn.body = some c → Big P G Ext (.code c (enterF fn args) none) h (.x e fr1 none) h1 → modeOf e = some u →
      Big P G Ext (.leave fn fr1 fr1.defers u) h1 o h2 → Big P G Ext (.call f args) h o h2
  | leaveRet {fn fr h v} : ares P fn fr h = some v → Big P G Ext (.leave fn fr [] .returning) h (.ends (.returned v)) h
  | leavePanic {fn fr h c} : Big P G Ext (.leave fn fr [] (.panicking c)) h (.ends (.panicked c)) h
  | leaveCons {fn fr d ds u h g cap e u1 h1 u2 o h2} : u ≠ .run → d.target = .fn (.func g) cap → canEnter P g = true → Big P G Ext (.callD g (d.args.toList ++ cap.toList) u) h (.endsD e u1) h1 →
      afterD e u1 = some u2 → Big P G Ext (.leave fn fr ds u2) h1 o h2 → Big P G Ext (.leave fn fr (d :: ds) u) h o h2
  | callD {f args u h fn c e fr1 u1 h1 v} : P.funcs[f]? = some fn → fn.body = some c → Big P G Ext (.code c (enterF fn args) (some u)) h (.x e fr1 (some u1)) h1 → modeOf e = some .returning → fr1.defers = [] →
      ares P fn fr1 h1 = some v → Big P G Ext (.callD f args u) h (.endsD (.returned v) u1) h1
  | callDPanic {f args u h fn c ch fr1 u1 h1} : P.funcs[f]? = some fn → fn.body = some c → Big P G Ext (.code c (enterF fn args) (some u)) h (.x (.panic ch) fr1 (some u1)) h1 → fr1.defers = [] →
      Big P G Ext (.callD f args u) h (.endsD (.panicked ch) u1) h1
end Go.Mini
end
section
/-
  MINI, part L: what the relation tells, the model does.
-/
namespace Go.Mini

def Ends (P : Program) (S : Start) (m : Ren) (h h' : Heap) (e : Ending) (e' : Ending) (w' : World) : Prop :=
  ∃ m', m.agree h.next m' ∧ h.next ≤ h'.next ∧ HRel P S m' h' w' ∧ e' = renN m' e ∧ scN h'.next e
def EndsD (P : Program) (S : Start) (m : Ren) (h h' : Heap) (e : Ending) (u : FrameMode) (e' : Ending) (u' : FrameMode) (w' : World) : Prop :=
  ∃ m', m.agree h.next m' ∧ h.next ≤ h'.next ∧ HRel P S m' h' w' ∧ e' = renN m' e ∧ scN h'.next e ∧ u' = renM m' u ∧ scM h'.next u

def ExtOk (P : Program) (S : Start) (Ext : FuncId → List Value → Heap → Value → Heap → Prop) : Prop :=
  ∀ f args h v h', Ext f args h v h' → ∀ m w, HRel P S m h w → (∀ x ∈ args, sc h.next x) → Calls P f (args.map (ren m)).toArray w (Ends P S m h h' (.returned v))

def Sound (P : Program) (S : Start) : Task → Heap → Out → Heap → Prop
  | .code c fr u, h, .x e fr' u', h' => Runs P S [.code c] fr u h e fr' u' h'
  | .scope body cur fr u, h, .x e fr' u', h' => Runs P S [.code cur, .inScope body] fr u h e fr' u' h'
  | .ops ops l fr u, h, .x e fr' u', h' => Runs P S [.inRegion ops l] fr u h e fr' u' h'
  | .call f args, h, .ends e, h' => ∀ m w, HRel P S m h w → (∀ x ∈ args, sc h.next x) → Calls P f (args.map (ren m)).toArray w (Ends P S m h h' e)
  | .callD f args u, h, .endsD e u', h' => ∀ m w, HRel P S m h w → (∀ x ∈ args, sc h.next x) → scM h.next u → CallsD P f (args.map (ren m)).toArray (renM m u) w (EndsD P S m h h' e u')
  | .leave fn fr ds u, h, .ends e, h' => ∀ m w a, HRel P S m h w → FRel m h.next fr a → (∀ d ∈ ds, scD h.next d) → scM h.next u →
      Leaves P fn a.tmps (Ends P S m h h' e) (ds.map (renD m)) (renM m u) w
  | _, _, _, _ => False

theorem kindOk_of {b : Frame} {u u' : Option FrameMode} (h : kindOk b u) (e : u'.isSome = u.isSome) : kindOk b u' := by
  cases u <;> cases u' <;> simp_all [kindOk]

theorem look_numbered : ∀ (l : List Value) (i t : Nat), look t (numbered i l) = if i ≤ t then l[t - i]? else none
  | [], i, t => by simp [numbered, look]
  | v :: l, i, t => by
    simp only [numbered, look, look_numbered l (i + 1) t]
    by_cases e : t = i
    · subst e; simp
    · rw [if_neg e]
      by_cases q : i ≤ t
      · rw [if_pos q, if_pos (by omega), show t - i = (t - (i + 1)) + 1 by omega, List.getElem?_cons_succ]
      · rw [if_neg q, if_neg (by omega)]

theorem FRel.enter {m : Ren} {n : Nat} (fn : Func) {args : List Value} (hs : ∀ x ∈ args, sc n x) :
    FRel m n (enterF fn args) { tmps := (args.map (ren m)).toArray ++ Array.replicate (fn.ntmps - (args.map (ren m)).toArray.size) undef, defers := [] } where
  size := by simp [enterF]; omega
  slot t v hl := by
    simp only [enterF, look_numbered, Nat.zero_le, if_true, Nat.sub_zero] at hl
    refine ⟨hs v (List.mem_of_getElem? hl), ?_⟩
    have hlt : t < args.length := by
      rcases Nat.lt_or_ge t args.length with q | q
      · exact q
      · rw [List.getElem?_eq_none q] at hl; cases hl
    rw [Array.getElem?_append_left (by simpa using hlt)]
    simp [hl]
  defers := rfl
  scd d hd := by simp [enterF] at hd

theorem FRel.weaken {m : Ren} {n : Nat} {fr fr' : Frm} {a : Act} (hf : FRel m n fr a) (hle : fr'.le fr) : FRel m n fr' a where
  size := by rw [hle.1]; exact hf.size
  slot t v hl := hf.slot t v (hle.2.2 t v hl)
  defers := by rw [hle.2.1]; exact hf.defers
  scd d hd := hf.scd d (by rw [← hle.2.1]; exact hd)

theorem Leaves.mono {P : Program} {fn : Func} {tmps : Array Value} {R R' : Ending → World → Prop} (hR : ∀ e w, R e w → R' e w) : ∀ (ds : List Deferred) (u : FrameMode) (w : World), Leaves P fn tmps R ds u w → Leaves P fn tmps R' ds u w
  | [], .returning, _, ⟨v, h1, h2⟩ => ⟨v, h1, hR _ _ h2⟩
  | [], .panicking _, _, h => hR _ _ h
  | [], .run, _, h => h
  | d :: ds, u, w, ⟨h1, fv, cap, f, args, h2, h3, h4⟩ => ⟨h1, fv, cap, f, args, h2, h3, h4.mono fun e u' w' he => by
      cases e with
      | returned v => exact Leaves.mono hR ds _ _ he
      | panicked c => exact Leaves.mono hR ds _ _ he
      | outgrown => exact hR _ _ he⟩

theorem dropWhile_renC (m : Ren) : ∀ c : List PanicEntry, (renC m c).dropWhile (fun x => !x.goexit) = renC m (c.dropWhile fun x => !x.goexit)
  | [] => rfl
  | p :: c => by
    simp only [renC, List.map_cons, List.dropWhile_cons, renP]
    split
    · exact dropWhile_renC m c
    · rfl
theorem settle_ren (m : Ren) (u : FrameMode) : settle (renM m u) = renM m (settle u) := by
  cases u with
  | panicking c =>
    cases c with
    | nil => rfl
    | cons p c =>
      obtain ⟨v, r, g⟩ := p
      cases r with
      | false => rfl
      | true =>
        simp only [renM, renC, List.map_cons, renP, settle]
        have := dropWhile_renC m c
        unfold renC at this
        rw [this]
        cases (c.dropWhile fun x => !x.goexit) <;> rfl
  | _ => rfl
theorem settle_sc {n : Nat} {u : FrameMode} (h : scM n u) : scM n (settle u) := by
  cases u with
  | panicking c =>
    cases c with
    | nil => exact h
    | cons p c =>
      obtain ⟨v, r, g⟩ := p
      cases r with
      | false => exact h
      | true =>
        simp only [settle]
        split
        · trivial
        · rename_i rest hrest
          intro q hq
          exact h q (List.mem_cons_of_mem _ ((List.dropWhile_suffix _).subset hq))
  | _ => trivial
theorem raised_ren (m : Ren) (u : FrameMode) (c : List PanicEntry) : raised (renM m u) (renC m c) = renM m (raised u c) := by
  cases u <;> simp [raised, renM, renC]
theorem raised_sc {n : Nat} {u : FrameMode} {c : List PanicEntry} (h : scM n u) (hc : scC n c) : scM n (raised u c) := by
  cases u with
  | panicking d =>
    intro p hp0
    have hp : p ∈ c ++ d := hp0
    rcases List.mem_append.1 hp with hp | hp
    · exact hc p hp
    · exact h p hp
  | _ => exact hc

section
variable {P : Program} {S : Start}

theorem Ends.trans {m m1 : Ren} {h h1 h2 : Heap} {e e' : Ending} {w : World} (ha : m.agree h.next m1) (hn : h.next ≤ h1.next) (he : Ends P S m1 h1 h2 e e' w) : Ends P S m h h2 e e' w := by
  obtain ⟨m', g1, g2, g3, g4, g5⟩ := he
  exact ⟨m', ha.trans (g1.mono hn), by omega, g3, g4, g5⟩

theorem EndsD.trans {m m1 : Ren} {h h1 h2 : Heap} {e e' : Ending} {u u' : FrameMode} {w : World} (ha : m.agree h.next m1) (hn : h.next ≤ h1.next) (he : EndsD P S m1 h1 h2 e u e' u' w) : EndsD P S m h h2 e u e' u' w := by
  obtain ⟨m', g1, g2, g3, g4⟩ := he
  exact ⟨m', ha.trans (g1.mono hn), by omega, g3, g4⟩

/-- One step into other items. -/
theorem Runs.pre {it : Item} {todo : List Item} {fr fr2 : Frm} {u u2 : Option FrameMode} {h h2 : Heap} {e : Exit}
    (hstep : ∀ m w a, HRel P S m h w → FRel m h.next fr a → ∀ (b : Frame) (k : List Item) (cs : List Frame), step P (lone (b.at a (it :: k)) cs w) = .next (lone (b.at a (todo ++ k)) cs w))
    (hr : Runs P S todo fr u h e fr2 u2 h2) : Runs P S [it] fr u h e fr2 u2 h2 := by
  intro m w a h1 h3 h4 b k c₀ cs₀ hk
  obtain ⟨m2, w2, a2, f1, f2, f3, f4, f5, f6, f7, f8⟩ := hr m w a h1 h3 h4 b k c₀ cs₀ hk
  exact ⟨m2, w2, a2, f1, f2, f3, f4, f5, f6, f7, .of_steps (.one (hstep m w a h1 h3 b k _)) f8⟩

/-- One item, and what follows. -/
theorem Runs.next {x : Item} {rest : List Item} {fr fr1 fr2 : Frm} {u u1 u2 : Option FrameMode} {h h1 h2 : Heap} {e : Exit}
    (hx : Runs P S [x] fr u h .normal fr1 u1 h1) (hrest : Runs P S rest fr1 u1 h1 e fr2 u2 h2) : Runs P S (x :: rest) fr u h e fr2 u2 h2 := by
  intro m w a hr hf hu b k c₀ cs₀ hk
  obtain ⟨m1, w1, a1, g1, g2, g3, g4, g5, _, g6, g7⟩ := hx m w a hr hf hu b (rest ++ k) c₀ cs₀ hk
  obtain ⟨m2, w2, a2, f1, f2, f3, f4, f5, f6, f7, f8⟩ := hrest m1 w1 a1 g3 g4 g5 b k c₀ cs₀ (kindOk_of hk g6)
  exact ⟨m2, w2, a2, g1.trans (f1.mono g2), by omega, f3, f4, f5, f6, f7.trans g6, .of_steps g7 f8⟩

theorem renX_ne {m : Ren} {e : Exit} (h : e ≠ .normal) : renX m e ≠ .normal := by
  cases e <;> simp_all [renX]

/-- An exit that is none of the item's own passes it by. -/
theorem Runs.stop {x y : Item} {fr fr1 : Frm} {u u1 : Option FrameMode} {h h1 : Heap} {e : Exit} (hy : y.plain = true) (he : e ≠ .normal)
    (hx : Runs P S [x] fr u h e fr1 u1 h1) : Runs P S [x, y] fr u h e fr1 u1 h1 := by
  intro m w a hr hf hu b k c₀ cs₀ hk
  obtain ⟨m1, w1, a1, g1, g2, g3, g4, g5, g6, g7, g8⟩ := hx m w a hr hf hu b (y :: k) c₀ cs₀ hk
  exact ⟨m1, w1, a1, g1, g2, g3, g4, g5, g6, g7, Arrives.pass hy (fun _ _ => .inl (renX_ne he)) g8⟩

theorem Runs.block {x : Item} {id : Nat} {fr fr1 : Frm} {u u1 : Option FrameMode} {h h1 : Heap} {e : Exit}
    (hx : Runs P S [x] fr u h e fr1 u1 h1) : Runs P S [x, .inBlock id] fr u h (blockExit id e) fr1 u1 h1 := by
  intro m w a hr hf hu b k c₀ cs₀ hk
  obtain ⟨m1, w1, a1, g1, g2, g3, g4, g5, g6, g7, g8⟩ := hx m w a hr hf hu b (.inBlock id :: k) c₀ cs₀ hk
  refine ⟨m1, w1, a1, g1, g2, g3, g4, g5, ?_, g7, ?_⟩
  · cases e <;> simp only [blockExit] <;> first | exact g6 | (split <;> trivial)
  · cases e with
    | normal => exact Steps.trans g8 (.one step_inBlock)
    | exit id' =>
      simp only [blockExit]
      by_cases hid : id' = id
      · rw [if_pos hid]
        exact g8 k (by simp [exitTo, hid])
      · rw [if_neg hid]
        intro k' hk'
        refine g8 k' ?_
        have : (id == id') = false := by simp; exact fun h => hid h.symm
        simp [exitTo, this, hk']
    | goto l => intro k' hk'; exact g8 k' (by simp [gotoIn, hk'])
    | ret => exact g8
    | panic c => exact g8
    | outgrown => exact g8

/-- The end of a scope: a jump to one of its labels goes on in it. -/
theorem Runs.scopeEnd {x : Item} {c : Code} {fr fr1 : Frm} {u u1 : Option FrameMode} {h h1 : Heap} {e : Exit} (hno : ∀ l, e = .goto l → findLabel c l = none)
    (hx : Runs P S [x] fr u h e fr1 u1 h1) : Runs P S [x, .inScope c] fr u h e fr1 u1 h1 := by
  intro m w a hr hf hu b k c₀ cs₀ hk
  obtain ⟨m1, w1, a1, g1, g2, g3, g4, g5, g6, g7, g8⟩ := hx m w a hr hf hu b (.inScope c :: k) c₀ cs₀ hk
  refine ⟨m1, w1, a1, g1, g2, g3, g4, g5, g6, g7, ?_⟩
  cases e with
  | normal => exact Steps.trans g8 (.one step_inScope)
  | exit id' => intro k' hk'; exact g8 k' (by simp [exitTo, hk'])
  | goto l => intro k' hk'; exact g8 k' (by simp [gotoIn, hno l rfl, hk'])
  | ret => exact g8
  | panic c => exact g8
  | outgrown => exact g8
theorem Runs.scopeJump {x : Item} {c rest : Code} {l : Nat} {fr fr1 fr2 : Frm} {u u1 u2 : Option FrameMode} {h h1 h2 : Heap} {e : Exit} (hl : findLabel c l = some rest)
    (hx : Runs P S [x] fr u h (.goto l) fr1 u1 h1) (hrest : Runs P S [.code rest, .inScope c] fr1 u1 h1 e fr2 u2 h2) : Runs P S [x, .inScope c] fr u h e fr2 u2 h2 := by
  intro m w a hr hf hu b k c₀ cs₀ hk
  obtain ⟨m1, w1, a1, g1, g2, g3, g4, g5, _, g6, g7⟩ := hx m w a hr hf hu b (.inScope c :: k) c₀ cs₀ hk
  obtain ⟨m2, w2, a2, f1, f2, f3, f4, f5, f6, f7, f8⟩ := hrest m1 w1 a1 g3 g4 g5 b k c₀ cs₀ (kindOk_of hk g6)
  exact ⟨m2, w2, a2, g1.trans (f1.mono g2), by omega, f3, f4, f5, f6, f7.trans g6, .of_steps (g7 _ (by simp [gotoIn, hl])) f8⟩

/-- Exits that end a list of items at once. -/
theorem Runs.now {it : Item} {fr : Frm} {u : Option FrameMode} {h : Heap} {e : Exit} (hs : scX h.next e)
    (ha : ∀ m w a, HRel P S m h w → FRel m h.next fr a → ∀ (b : Frame) (k : List Item) (cs : List Frame), Arrives P (lone (b.at a (it :: k)) cs w) b k cs (renX m e) a w) : Runs P S [it] fr u h e fr u h := by
  intro m w a hr hf hu b k c₀ cs₀ _
  exact ⟨m, w, a, Ren.agree_refl _ _, Nat.le_refl _, hr, hf, hu, hs, rfl, ha m w a hr hf b k _⟩

/-- An operation is carried out, and the region goes on. -/
theorem Runs.op {ops : Array Oper} {i : Nat} {l : List Nat} {fr fr1 fr2 : Frm} {u u1 u2 : Option FrameMode} {h h1 h2 : Heap} {e : Exit}
    (hgo : ∀ m w a, HRel P S m h w → FRel m h.next fr a → scU h.next u → ∀ (b : Frame) (k : List Item) (c₀ : Frame) (cs₀ : List Frame), kindOk b u →
      ∃ m1 w1 a1, m.agree h.next m1 ∧ h.next ≤ h1.next ∧ HRel P S m1 h1 w1 ∧ FRel m1 h1.next fr1 a1 ∧ scU h1.next u1 ∧ u1.isSome = u.isSome ∧
        Steps P (lone (b.at a (.inRegion ops (i :: l) :: k)) (csOf m c₀ cs₀ u) w) (lone (b.at a1 (.inRegion ops l :: k)) (csOf m1 c₀ cs₀ u1) w1))
    (hrest : Runs P S [.inRegion ops l] fr1 u1 h1 e fr2 u2 h2) : Runs P S [.inRegion ops (i :: l)] fr u h e fr2 u2 h2 := by
  intro m w a hr hf hu b k c₀ cs₀ hk
  obtain ⟨m1, w1, a1, g1, g2, g3, g4, g5, g6, g7⟩ := hgo m w a hr hf hu b k c₀ cs₀ hk
  obtain ⟨m2, w2, a2, f1, f2, f3, f4, f5, f6, f7, f8⟩ := hrest m1 w1 a1 g3 g4 g5 b k c₀ cs₀ (kindOk_of hk g6)
  exact ⟨m2, w2, a2, g1.trans (f1.mono g2), by omega, f3, f4, f5, f6, f7.trans g6, .of_steps g7 f8⟩

/-- The loop's body stands for the loop, too. -/
def Sound' (P : Program) (S : Start) (t : Task) (h : Heap) (o : Out) (h' : Heap) : Prop :=
  Sound P S t h o h' ∧ match t, o with
    | .code (.loop c) fr u, .x e fr' u' => Runs P S [.inLoop c] fr u h e fr' u' h'
    | _, _ => True

theorem code_out {G : Nat} {Ext : FuncId → List Value → Heap → Value → Heap → Prop} {t : Task} {h : Heap} {o : Out} {h' : Heap} (hb : Big P G Ext t h o h') :
    match t with
    | .code _ _ _ | .ops _ _ _ _ | .scope _ _ _ _ => ∃ e fr u, o = .x e fr u
    | .call _ _ | .leave _ _ _ _ => ∃ e, o = .ends e
    | .callD _ _ _ => ∃ e u, o = .endsD e u := by
  induction hb <;> first | exact ⟨_, _, _, rfl⟩ | exact ⟨_, rfl⟩ | exact ⟨_, _, rfl⟩ | assumption

theorem big_sound {Ext : FuncId → List Value → Heap → Value → Heap → Prop} (hext : ExtOk P S Ext) {t : Task} {h : Heap} {o : Out} {h' : Heap} (hb : Big P S.G Ext t h o h') : Sound' P S t h o h' := by
  induction hb with
  | skip => exact ⟨Runs.now trivial fun _ _ _ _ _ _ _ _ => .one step_skip, trivial⟩
  | label => exact ⟨Runs.now trivial fun _ _ _ _ _ _ _ _ => .one step_label, trivial⟩
  | exit => exact ⟨Runs.now trivial fun _ _ _ _ _ _ _ _ => fun _ hk => .one (step_exit hk), trivial⟩
  | goto => exact ⟨Runs.now trivial fun _ _ _ _ _ _ _ _ => fun _ hk => .one (step_goto hk), trivial⟩
  | ret => exact ⟨Runs.now trivial fun _ _ _ _ _ _ _ _ => ⟨_, .one step_ret⟩, trivial⟩
  | seq h1 h2 ih1 ih2 =>
    obtain ⟨e, fr, u, rfl⟩ := code_out h2
    exact ⟨Runs.pre (fun _ _ _ _ _ _ _ _ => step_seq) (Runs.next ih1.1 ih2.1), trivial⟩
  | seqStop h1 he ih1 => exact ⟨Runs.pre (todo := [_, _]) (fun _ _ _ _ _ _ _ _ => step_seq) (Runs.stop rfl he ih1.1), trivial⟩
  | cond hc h1 ih =>
    obtain ⟨e, fr, u, rfl⟩ := code_out h1
    refine ⟨Runs.pre (todo := [_]) (fun m w a hr hf b k cs => ?_) ih.1, trivial⟩
    exact step_cond (by have := (aev_run hr hf hc).1; simpa [ren] using this)
  | block h1 ih => exact ⟨Runs.pre (todo := [_, _]) (fun _ _ _ _ _ _ _ _ => step_block) (Runs.block ih.1), trivial⟩
  | loop h1 h2 ih1 ih2 =>
    obtain ⟨e, fr, u, rfl⟩ := code_out h2
    exact ⟨Runs.pre (todo := [_, _]) (fun _ _ _ _ _ _ _ _ => step_loop) (Runs.next ih1.1 ih2.2), Runs.pre (todo := [_, _]) (fun _ _ _ _ _ _ _ _ => step_inLoop) (Runs.next ih1.1 ih2.2)⟩
  | loopStop h1 he ih =>
    exact ⟨Runs.pre (todo := [_, _]) (fun _ _ _ _ _ _ _ _ => step_loop) (Runs.stop rfl he ih.1), Runs.pre (todo := [_, _]) (fun _ _ _ _ _ _ _ _ => step_inLoop) (Runs.stop rfl he ih.1)⟩
  | region h1 ih =>
    obtain ⟨e, fr, u, rfl⟩ := code_out h1
    exact ⟨Runs.pre (todo := [_]) (fun _ _ _ _ _ _ _ _ => step_region) ih.1, trivial⟩
  | draw hm h1 hle ih =>
    refine ⟨fun m w a hr hf hu b k c₀ cs₀ hk => ?_, trivial⟩
    rename_i id ops fr u h frs fr1 e u1 h1'
    have hs := step_region_draw (P := P) (b := b) (a := a) (k := k) (cs := csOf m c₀ cs₀ u) (w := w) (ops := ops) (id := id)
    simp only [Region.schedule, hm, Bool.true_or, if_true] at hs
    obtain ⟨m2, w2, a2, f1, f2, f3, f4, f5, f6, f7, f8⟩ := (ih _).1 m { w with drawn := w.drawn + 1 } a (hr.world rfl rfl) hf hu b k c₀ cs₀ hk
    exact ⟨m2, w2, a2, f1, f2, f3, f4.weaken (hle _), f5, f6, f7, .of_steps (.one hs) f8⟩
  | turned hm h1 ht ih =>
    refine ⟨fun m w a hr hf hu b k c₀ cs₀ hk => ?_, trivial⟩
    rename_i id ops fr u h frs hs' fr1 h1'
    have hs := step_region_draw (P := P) (b := b) (a := a) (k := k) (cs := csOf m c₀ cs₀ u) (w := w) (ops := ops) (id := id)
    simp only [Region.schedule, hm, Bool.true_or, if_true] at hs
    obtain ⟨m2, w2, a2, f1, f2, f3, f4, f5, f6, f7, f8⟩ := (ih _).1 m { w with drawn := w.drawn + 1 } a (hr.world rfl rfl) hf hu b k c₀ cs₀ hk
    obtain ⟨m3, g1, g2, g3, g4⟩ := ht _ S m2 w2 a2 rfl f3 f4 hr.gle f2
    rw [csOf_congr g1 hu] at f8
    exact ⟨m3, w2, a2, f1.trans g1, g2, g3, g4, scU_mono g2 hu, trivial, rfl, .of_steps (.one hs) f8⟩
  | said hs => exact ⟨hs S rfl, trivial⟩
  | scope h1 ih =>
    obtain ⟨e, fr, u, rfl⟩ := code_out h1
    exact ⟨Runs.pre (todo := [_, _]) (fun _ _ _ _ _ _ _ _ => step_scope) ih.1, trivial⟩
  | scopeEnd h1 hno ih => exact ⟨Runs.scopeEnd hno ih.1, trivial⟩
  | scopeJump h1 hl h2 ih1 ih2 =>
    obtain ⟨e, fr, u, rfl⟩ := code_out h2
    exact ⟨Runs.scopeJump hl ih1.1 ih2.1, trivial⟩
  | @weaken c _ _ _ _ _ _ h1 hle ih =>
    obtain ⟨e, fr, u, rfl⟩ := code_out h1
    refine ⟨fun m w a hr hf => ih.1 m w a hr (hf.weaken hle), ?_⟩
    have := ih.2
    cases c <;> first | trivial | exact fun m w a hr hf => this m w a hr (hf.weaken hle)
  | opsNil => exact ⟨Runs.now trivial fun _ _ _ _ _ _ _ _ => .one step_region_end, trivial⟩
  | opsMissing hi h1 ih =>
    obtain ⟨e, fr, u, rfl⟩ := code_out h1
    exact ⟨Runs.op (fun m w a hr hf hu b k c₀ cs₀ hk => ⟨m, w, a, Ren.agree_refl _ _, Nat.le_refl _, hr, hf, hu, rfl, go_missing hi⟩) ih.1, trivial⟩
  | opsUnwanted hi hw hp h1 ih =>
    obtain ⟨e, fr, u, rfl⟩ := code_out h1
    exact ⟨Runs.op (fun m w a hr hf hu b k c₀ cs₀ hk => ⟨m, w, _, Ren.agree_refl _ _, Nat.le_refl _, hr, by have := hf.put hp (by simp [undef, sc, scA, scL]); simpa [undef, ren, renA, renL] using this, hu, rfl, go_unwanted hi (awanted_run hf hw)⟩) ih.1, trivial⟩
  | opsVal hi hw ha hp h1 ih =>
    obtain ⟨e, fr, u, rfl⟩ := code_out h1
    refine ⟨Runs.op (fun m w a hr hf hu b k c₀ cs₀ hk => ?_) ih.1, trivial⟩
    obtain ⟨m', w', g1, g2, g3, g4, g5⟩ := aop_run hr (fun x v hx => aev_run hr hf hx) (fun _ => rfl) ha
    exact ⟨m', w', _, g1, g5, g3, (hf.agree g1 g5).put hp g4, scU_mono g5 hu, rfl, by rw [← csOf_congr g1 hu]; exact go_value hi (awanted_run hf hw) g2⟩
  | opsSkip hi hw ha hp h1 ih =>
    obtain ⟨e, fr, u, rfl⟩ := code_out h1
    refine ⟨Runs.op (fun m w a hr hf hu b k c₀ cs₀ hk => ?_) ih.1, trivial⟩
    obtain ⟨m', w', g1, g2, g3, g4, g5⟩ := aop_run hr (fun x v hx => aev_run hr hf hx) (fun _ => rfl) ha
    exact ⟨m', w', _, g1, g5, g3, by have := (hf.agree g1 g5).put hp (by simp [undef, sc, scA, scL]); simpa [undef, ren, renA, renL] using this, scU_mono g5 hu, rfl, by rw [← csOf_congr g1 hu]; exact go_skip hi (awanted_run hf hw) g2⟩
  | @opsDefer _ _ _ fr0 _ _ _ _ _ _ _ _ hi hw ha hp h1 ih =>
    obtain ⟨e, fr, u, rfl⟩ := code_out h1
    refine ⟨Runs.op (fun m w a hr hf hu b k c₀ cs₀ hk => ?_) ih.1, trivial⟩
    obtain ⟨m', w', g1, g2, g3, g4, g5⟩ := aop_run hr (fun x v hx => aev_run hr hf hx) (fun _ => rfl) ha
    have hf' := hf.agree g1 g5
    have hf2 : FRel m' _ { fr0 with defers := _ :: fr0.defers } { a with defers := renD m' _ :: a.defers } := ⟨hf'.size, hf'.slot, by rw [hf'.defers]; rfl, fun d hd => by
      rcases List.mem_cons.1 hd with hd | hd
      · subst hd; exact g4
      · exact hf'.scd d hd⟩
    exact ⟨m', w', _, g1, g5, g3, by have := hf2.put hp (by simp [undef, sc, scA, scL]); simpa [undef, ren, renA, renL] using this, scU_mono g5 hu, rfl, by rw [← csOf_congr g1 hu]; exact go_defer hi (awanted_run hf hw) g2⟩
  | opsPanic hi hw ha =>
    refine ⟨fun m w a hr hf hu b k c₀ cs₀ hk => ?_, trivial⟩
    obtain ⟨m', w', g1, g2, g3, g4, g5⟩ := aop_run hr (fun x v hx => aev_run hr hf hx) (fun _ => rfl) ha
    refine ⟨m', w', a, g1, g5, g3, hf.agree g1 g5, scU_mono g5 hu, ?_, rfl, ?_⟩
    · intro p hp
      simp only [List.mem_singleton] at hp
      subst hp; exact g4
    · rw [← csOf_congr g1 hu]
      exact ⟨_, go_panic hi (awanted_run hf hw) g2⟩
  | @opsRecover ops0 i0 l0 _ _ _ _ v0 older0 _ _ _ hi hw ha hp h1 ih =>
    obtain ⟨e, fr, u, rfl⟩ := code_out h1
    refine ⟨Runs.op (fun m w a hr hf hu b k c₀ cs₀ hk => ?_) ih.1, trivial⟩
    obtain ⟨m', w', g1, g2, g3, g4, g5⟩ := aop_run hr (fun x v hx => aev_run hr hf hx) (fun _ => rfl) ha
    have hu' := scU_mono g5 hu
    have hsv := hu' _ (List.mem_cons_self ..)
    refine ⟨m', w', _, g1, g5, g3, (hf.agree g1 g5).put hp hsv, ?_, rfl, ?_⟩
    · intro q hq
      rcases List.mem_cons.1 hq with hq | hq
      · subst hq; exact hsv
      · exact hu' q (List.mem_cons_of_mem _ hq)
    · have := go_recover (P := P) (cs := csOf m c₀ cs₀ (some (.panicking ({ v := v0, recovered := false } :: older0)))) (k := k) (rest := l0) hk hi (awanted_run hf hw) g2
      rw [csOf_congr g1 hu] at this ⊢
      simpa [csOf, renM, renC, renP, recoverD] using this
  | @opsRecoverNot ops0 i0 l0 _ _ _ _ _ _ _ hi hw ha hp h1 ih =>
    obtain ⟨e, fr, u, rfl⟩ := code_out h1
    refine ⟨Runs.op (fun m w a hr hf hu b k c₀ cs₀ hk => ?_) ih.1, trivial⟩
    obtain ⟨m', w', g1, g2, g3, g4, g5⟩ := aop_run hr (fun x v hx => aev_run hr hf hx) (fun _ => rfl) ha
    refine ⟨m', w', _, g1, g5, g3, by have := (hf.agree g1 g5).put hp (by simp [sc]); simpa [ren] using this, trivial, rfl, ?_⟩
    have := go_recover (P := P) (cs := csOf m c₀ cs₀ (some .returning)) (k := k) (rest := l0) hk hi (awanted_run hf hw) g2
    rw [csOf_congr g1 hu] at this ⊢
    simpa [csOf, renM, recoverD] using this
  | opsCall hi hw ha h1 hp h2 ih1 ih2 =>
    obtain ⟨e, fr, u, rfl⟩ := code_out h2
    refine ⟨Runs.op (fun m w a hr hf hu b k c₀ cs₀ hk => ?_) ih2.1, trivial⟩
    obtain ⟨m', w', g1, g2, g3, g4, g5⟩ := aop_run hr (fun x v hx => aev_run hr hf hx) (fun _ => rfl) ha
    obtain ⟨e', w'', frm, ⟨m2, f1, f2, f3, f4, f5⟩, hc, _, hl⟩ := ih1.1 m' w' g3 g4 (b.at a (.inRegion _ (_ :: _) :: k) :: csOf m c₀ cs₀ _)
    subst f4
    have hag := g1.trans (f1.mono g5)
    exact ⟨m2, w'', _, hag, by omega, f3, (hf.agree hag (by omega)).put hp f5, scU_mono (by omega) hu, rfl, by rw [← csOf_congr hag hu]; exact go_call_returned hi (awanted_run hf hw) g2 hc hl⟩
  | opsCallPanic hi hw ha h1 ih1 =>
    refine ⟨fun m w a hr hf hu b k c₀ cs₀ hk => ?_, trivial⟩
    obtain ⟨m', w', g1, g2, g3, g4, g5⟩ := aop_run hr (fun x v hx => aev_run hr hf hx) (fun _ => rfl) ha
    obtain ⟨e', w'', frm, ⟨m2, f1, f2, f3, f4, f5⟩, hc, _, hl⟩ := ih1.1 m' w' g3 g4 (b.at a (.inRegion _ (_ :: _) :: k) :: csOf m c₀ cs₀ _)
    subst f4
    have hag := g1.trans (f1.mono g5)
    exact ⟨m2, w'', a, hag, by omega, f3, hf.agree hag (by omega), scU_mono (by omega) hu, f5, rfl, by rw [← csOf_congr hag hu]; exact ⟨_, go_call_panicked hi (awanted_run hf hw) g2 hc hl⟩⟩
  | ext he => exact ⟨fun m w hr hs => hext _ _ _ _ _ he m w hr hs, trivial⟩
  | @call _ _ _ _ _ e1 _ _ _ _ _ hf hb h1 hm h2 ih1 ih2 =>
    obtain ⟨e2, rfl⟩ := code_out h2
    refine ⟨fun m w hr hs => ?_, trivial⟩
    refine calls_of_wp_defers hf hb fun b k cs => ?_
    obtain ⟨m1, w1, a1, g1, g2, g3, g4, g5, g6, g7, g8⟩ := ih1.1 m w _ hr (FRel.enter _ hs) trivial b k default cs trivial
    refine ⟨_, a1, w1, ?_, g8⟩
    have hlv := ih2.1 m1 w1 a1 g3 g4 g4.scd
    rw [← g4.defers] at hlv
    have hmono := fun (hsc : scM _ _) => Leaves.mono (fun e w he => Ends.trans g1 g2 he) _ _ _ (hlv hsc)
    cases e1 <;> simp only [modeOf] at hm <;> try (cases hm; done)
    · cases hm; exact hmono trivial
    · cases hm; exact hmono trivial
    · cases hm; exact hmono g6
  | leaveRet hres =>
    refine ⟨fun m w a hr hf _ _ => ?_, trivial⟩
    obtain ⟨q1, q2⟩ := ares_run hr hf hres
    exact ⟨_, q1, m, Ren.agree_refl _ _, Nat.le_refl _, hr, rfl, q2⟩
  | leavePanic => exact ⟨fun m w a hr hf _ hu => ⟨m, Ren.agree_refl _ _, Nat.le_refl _, hr, rfl, hu⟩, trivial⟩
  | @leaveCons fn fr d ds u h g cap e u1 h1' u2 _ h2' hu ht hcan h1 haf h2 ih1 ih2 =>
    obtain ⟨e2, rfl⟩ := code_out h2
    refine ⟨fun m w a hr hf hds hsu => ?_, trivial⟩
    obtain ⟨hd1, hd2⟩ := hds d (List.mem_cons_self ..)
    rw [ht] at hd1
    simp only [scA_all] at hd1 hd2
    have hargs : ((d.args.toList ++ cap.toList).map (ren m)).toArray = renA m d.args ++ renA m cap := by
      apply Array.ext'; simp [renA_map]
    refine ⟨by cases u <;> simp_all [renM], .func g, renA m cap, g, renA m d.args ++ renA m cap, by simp [renD, renT, ht], ?_, ?_⟩
    · simp only [renD, renT, ht, invoke]
      exact callFunc_run hcan _ w
    · rw [← hargs]
      refine (ih1.1 m w hr (fun x hx => (List.mem_append.1 hx).elim (fun hx => hd2 x (by simpa using hx)) (fun hx => hd1 x (by simpa using hx))) hsu).mono ?_
      rintro e' u' w' ⟨m', f1, f2, f3, rfl, f5, rfl, f7⟩
      have hlv := ih2.1 m' w' a f3 (hf.agree f1 f2) (fun d hd => scD_mono f2 (hds d (List.mem_cons_of_mem _ hd)))
      have hmap : ds.map (renD m') = ds.map (renD m) := List.map_congr_left fun d hd => (renD_congr f1 (hds d (List.mem_cons_of_mem _ hd))).symm
      rw [hmap] at hlv
      cases e with
      | returned v =>
        simp only [afterD, Option.some.injEq] at haf
        subst haf
        simp only [renN]
        rw [settle_ren]
        exact Leaves.mono (fun e w he => Ends.trans f1 f2 he) _ _ _ (hlv (settle_sc f7))
      | panicked c =>
        simp only [afterD, Option.some.injEq] at haf
        subst haf
        simp only [renN]
        rw [raised_ren]
        exact Leaves.mono (fun e w he => Ends.trans f1 f2 he) _ _ _ (hlv (raised_sc f7 f5))
      | outgrown => simp [afterD] at haf
  | @callD _ _ u0 _ _ _ e1 _ _ _ _ hf hb h1 hm hd hres ih =>
    refine ⟨fun m w hr hs hu => ?_, trivial⟩
    refine callsD_of_wpS hf hb fun c₀ cs hc b k hbk _ => ?_
    obtain ⟨m1, w1, a1, g1, g2, g3, g4, g5, g6, g7, g8⟩ := ih.1 m w _ hr (FRel.enter _ hs) hu b k c₀ cs hbk
    have hcs : csOf m c₀ cs (some u0) = c₀ :: cs := by simp only [csOf]; rw [← hc]
    rw [hcs] at g8
    refine ⟨_, a1, _, w1, ?_, g8⟩
    obtain ⟨q1, q2⟩ := ares_run g3 g4 hres
    have hdd : a1.defers = [] := by rw [g4.defers, hd]; rfl
    cases e1 <;> simp only [modeOf] at hm <;> try (cases hm; done)
    · exact ⟨hdd, _, rfl, _, q1, m1, g1, g2, g3, rfl, q2, rfl, g5⟩
    · exact ⟨hdd, _, rfl, _, q1, m1, g1, g2, g3, rfl, q2, rfl, g5⟩
  | @callDPanic _ _ u0 _ _ _ _ _ _ _ hf hb h1 hd ih =>
    refine ⟨fun m w hr hs hu => ?_, trivial⟩
    refine callsD_of_wpS hf hb fun c₀ cs hc b k hbk _ => ?_
    obtain ⟨m1, w1, a1, g1, g2, g3, g4, g5, g6, g7, g8⟩ := ih.1 m w _ hr (FRel.enter _ hs) hu b k c₀ cs hbk
    have hcs : csOf m c₀ cs (some u0) = c₀ :: cs := by simp only [csOf]; rw [← hc]
    rw [hcs] at g8
    refine ⟨_, a1, _, w1, ?_, g8⟩
    have hdd : a1.defers = [] := by rw [g4.defers, hd]; rfl
    exact ⟨hdd, _, rfl, m1, g1, g2, g3, rfl, g6, rfl, g5⟩
end
end Go.Mini
end
section
/-
  MINI, part M: proving with the relation: rules for code, operations one by one, calls by contracts; the end of a law.
-/
namespace Go.Mini

/-! ### a list of operations without calls, carried out -/
noncomputable def runL (P : Program) (G : Nat) (ops : Array Oper) : List Oper → Frm → Heap → Option (Frm × Heap)
  | [], fr, h => some (fr, h)
  | o :: l, fr, h => (awanted ops fr o).bind fun t =>
    if t then (aop P (aev G fr) o h).bind fun r =>
      match r with
      | (.val v, h1) => (fr.put o.dst v).bind fun fr1 => runL P G ops l fr1 h1
      | (.skip, h1) => (fr.put o.dst undef).bind fun fr1 => runL P G ops l fr1 h1
      | _ => none
    else (fr.put o.dst undef).bind fun fr1 => runL P G ops l fr1 h

section
variable {P : Program} {G : Nat} {Ext : FuncId → List Value → Heap → Value → Heap → Prop}

theorem runL_big {ops : Array Oper} {u : Option FrameMode} : ∀ (l : List Oper) (k : Nat) (is : List Nat) (fr fr' : Frm) (h h' : Heap), (∀ j p, l[j]? = some p → ops[k + j]? = some p) → runL P G ops l fr h = some (fr', h') →
    ∀ {o h2}, Big P G Ext (.ops ops is fr' u) h' o h2 → Big P G Ext (.ops ops ((List.range' k l.length) ++ is) fr u) h o h2
  | [], k, is, fr, fr', h, h', _, e, o, h2, hb => by
    simp only [runL, Option.some.injEq, Prod.mk.injEq] at e
    obtain ⟨rfl, rfl⟩ := e
    simpa using hb
  | p :: l, k, is, fr, fr', h, h', hl, e, o, h2, hb => by
    have hk : ops[k]? = some p := by simpa using hl 0 p rfl
    have hl' : ∀ j q, l[j]? = some q → ops[(k + 1) + j]? = some q := fun j q hq => by have := hl (j + 1) q (by simpa using hq); rwa [show k + (j + 1) = k + 1 + j by omega] at this
    simp only [runL] at e
    obtain ⟨t, ht, e⟩ := Option.bind_eq_some_iff.1 e
    simp only [List.length_cons, List.range'_succ, List.cons_append]
    cases t with
    | false =>
      simp only [Bool.false_eq_true, if_false] at e
      obtain ⟨fr1, hp, e⟩ := Option.bind_eq_some_iff.1 e
      exact .opsUnwanted hk ht hp (runL_big l (k + 1) is fr1 fr' h h' hl' e hb)
    | true =>
      simp only [if_true] at e
      obtain ⟨⟨r, h1⟩, hr, e⟩ := Option.bind_eq_some_iff.1 e
      cases r with
      | val v =>
        obtain ⟨fr1, hp, e⟩ := Option.bind_eq_some_iff.1 e
        exact .opsVal hk ht hr hp (runL_big l (k + 1) is fr1 fr' h1 h' hl' e hb)
      | skip =>
        obtain ⟨fr1, hp, e⟩ := Option.bind_eq_some_iff.1 e
        exact .opsSkip hk ht hr hp (runL_big l (k + 1) is fr1 fr' h1 h' hl' e hb)
      | _ => cases e

/-! ### rules -/
/-- The code c comes to an end of which Q holds. -/
def Wp (P : Program) (G : Nat) (Ext : FuncId → List Value → Heap → Value → Heap → Prop) (c : Code) (fr : Frm) (u : Option FrameMode) (h : Heap) (Q : Exit → Frm → Option FrameMode → Heap → Prop) : Prop :=
  ∃ e fr' u' h', Big P G Ext (.code c fr u) h (.x e fr' u') h' ∧ Q e fr' u' h'
/-- Operations. -/
def WpO (P : Program) (G : Nat) (Ext : FuncId → List Value → Heap → Value → Heap → Prop) (ops : Array Oper) (l : List Nat) (fr : Frm) (u : Option FrameMode) (h : Heap) (Q : Exit → Frm → Option FrameMode → Heap → Prop) : Prop :=
  ∃ e fr' u' h', Big P G Ext (.ops ops l fr u) h (.x e fr' u') h' ∧ Q e fr' u' h'
/-- A call. -/
def Does (P : Program) (G : Nat) (Ext : FuncId → List Value → Heap → Value → Heap → Prop) (f : FuncId) (args : List Value) (h : Heap) (R : Ending → Heap → Prop) : Prop :=
  ∃ e h', Big P G Ext (.call f args) h (.ends e) h' ∧ R e h'

variable {fr : Frm} {u : Option FrameMode} {h : Heap} {Q Q' : Exit → Frm → Option FrameMode → Heap → Prop}
theorem Wp.mono {c : Code} (hw : Wp P G Ext c fr u h Q) (hq : ∀ e fr u h, Q e fr u h → Q' e fr u h) : Wp P G Ext c fr u h Q' :=
  let ⟨e, fr', u', h', b, q⟩ := hw; ⟨e, fr', u', h', b, hq _ _ _ _ q⟩
theorem Does.mono {f : FuncId} {args : List Value} {R R' : Ending → Heap → Prop} (hw : Does P G Ext f args h R) (hq : ∀ e h, R e h → R' e h) : Does P G Ext f args h R' :=
  let ⟨e, h', b, q⟩ := hw; ⟨e, h', b, hq _ _ q⟩

/-- What follows in a sequence. -/
def after (next : Frm → Option FrameMode → Heap → Prop) (Q : Exit → Frm → Option FrameMode → Heap → Prop) : Exit → Frm → Option FrameMode → Heap → Prop
  | .normal, fr, u, h => next fr u h
  | e, fr, u, h => Q e fr u h
theorem Wp.seq {a b : Code} (hw : Wp P G Ext a fr u h (after (fun fr u h => Wp P G Ext b fr u h Q) Q)) : Wp P G Ext (.seq a b) fr u h Q := by
  obtain ⟨e, fr1, u1, h1, b1, q⟩ := hw
  cases e with
  | normal =>
    obtain ⟨e2, fr2, u2, h2, b2, q2⟩ := q
    exact ⟨e2, fr2, u2, h2, .seq b1 b2, q2⟩
  | _ => exact ⟨_, fr1, u1, h1, .seqStop b1 (by simp), q⟩
/-- The same, what follows behind a name. -/
theorem Wp.seqK {a b : Code} (hw : ∀ K : Frm → Option FrameMode → Heap → Prop, (∀ fr u h, Wp P G Ext b fr u h Q → K fr u h) → Wp P G Ext a fr u h (after K Q)) : Wp P G Ext (.seq a b) fr u h Q :=
  Wp.seq (hw _ fun _ _ _ h => h)
theorem Wp.skip (hq : Q .normal fr u h) : Wp P G Ext .skip fr u h Q := ⟨_, _, _, _, .skip, hq⟩
theorem Wp.label {l : Nat} (hq : Q .normal fr u h) : Wp P G Ext (.label l) fr u h Q := ⟨_, _, _, _, .label, hq⟩
theorem Wp.exit {id : Nat} (hq : Q (.exit id) fr u h) : Wp P G Ext (.exit id) fr u h Q := ⟨_, _, _, _, .exit, hq⟩
theorem Wp.goto {l : Nat} (hq : Q (.goto l) fr u h) : Wp P G Ext (.goto l) fr u h Q := ⟨_, _, _, _, .goto, hq⟩
theorem Wp.ret (hq : Q .ret fr u h) : Wp P G Ext .ret fr u h Q := ⟨_, _, _, _, .ret, hq⟩
theorem Wp.cond {c : Operand} {a b : Code} {t : Bool} (hc : aev G fr c = some (.bool t)) (hw : Wp P G Ext (if t then a else b) fr u h Q) : Wp P G Ext (.cond c a b) fr u h Q :=
  let ⟨e, fr', u', h', b, q⟩ := hw; ⟨e, fr', u', h', .cond hc b, q⟩
theorem Wp.condT {c : Operand} {a b : Code} (hc : aev G fr c = some (.bool true)) (hw : Wp P G Ext a fr u h Q) : Wp P G Ext (.cond c a b) fr u h Q := Wp.cond hc (by simpa using hw)
theorem Wp.condF {c : Operand} {a b : Code} (hc : aev G fr c = some (.bool false)) (hw : Wp P G Ext b fr u h Q) : Wp P G Ext (.cond c a b) fr u h Q := Wp.cond hc (by simpa using hw)
theorem Wp.condSplit {c : Operand} {a b : Code} {t : Bool} (hc : aev G fr c = some (.bool t)) (h1 : t = true → Wp P G Ext a fr u h Q) (h2 : t = false → Wp P G Ext b fr u h Q) : Wp P G Ext (.cond c a b) fr u h Q := by
  cases t
  · exact Wp.condF hc (h2 rfl)
  · exact Wp.condT hc (h1 rfl)
def leaving (id : Nat) (Q : Exit → Frm → Option FrameMode → Heap → Prop) : Exit → Frm → Option FrameMode → Heap → Prop := fun e fr u h => Q (blockExit id e) fr u h
theorem Wp.block {id : Nat} {c : Code} (hw : Wp P G Ext c fr u h (leaving id Q)) : Wp P G Ext (.block id c) fr u h Q :=
  let ⟨_, fr', u', h', b, q⟩ := hw; ⟨_, fr', u', h', .block b, q⟩
/-- One round of a loop, and the loop again. -/
theorem Wp.loop {c : Code} (hw : Wp P G Ext c fr u h (after (fun fr u h => Wp P G Ext (.loop c) fr u h Q) Q)) : Wp P G Ext (.loop c) fr u h Q := by
  obtain ⟨e, fr1, u1, h1, b1, q⟩ := hw
  cases e with
  | normal =>
    obtain ⟨e2, fr2, u2, h2, b2, q2⟩ := q
    exact ⟨e2, fr2, u2, h2, .loop b1 b2, q2⟩
  | _ => exact ⟨_, fr1, u1, h1, .loopStop b1 (by simp), q⟩
theorem Wp.weaken {c : Code} {fr' : Frm} (hle : fr'.le fr) (hw : Wp P G Ext c fr' u h Q) : Wp P G Ext c fr u h Q :=
  let ⟨e, fr1, u1, h1, b, q⟩ := hw; ⟨e, fr1, u1, h1, .weaken b hle, q⟩
theorem Wp.region {id : Nat} {ops : Array Oper} (hw : WpO P G Ext ops (List.range ops.size) fr u h Q) : Wp P G Ext (.region id ops false) fr u h Q :=
  let ⟨e, fr', u', h', b, q⟩ := hw; ⟨e, fr', u', h', .region b, q⟩
/-- A region without calls. -/
theorem Wp.run {id : Nat} {ops : List Oper} {fr' : Frm} {h' : Heap} (hr : runL P G ops.toArray ops fr h = some (fr', h')) (hq : Q .normal fr' u h') : Wp P G Ext (.region id ops.toArray false) fr u h Q := by
  refine Wp.region ⟨_, fr', u, h', ?_, hq⟩
  have := runL_big (Ext := Ext) (u := u) ops 0 [] fr fr' h h' (fun j p hj => by simpa using hj) hr .opsNil
  simpa [List.range_eq_range'] using this
theorem WpO.nil {ops : Array Oper} (hq : Q .normal fr u h) : WpO P G Ext ops [] fr u h Q := ⟨_, _, _, _, .opsNil, hq⟩
/-- A call among the operations, by its contract. -/
theorem WpO.call {ops : Array Oper} {i : Nat} {l : List Nat} {p : Oper} {f : FuncId} {args : List Value} {h1 : Heap} (hi : ops[i]? = some p) (hw : awanted ops fr p = some true) (ha : aop P (aev G fr) p h = some (.call f args, h1))
    (hd : Does P G Ext f args h1 fun e h2 => match e with
      | .returned v => ∃ fr1, fr.put p.dst v = some fr1 ∧ WpO P G Ext ops l fr1 u h2 Q
      | .panicked c => Q (.panic c) fr u h2
      | .outgrown => False) : WpO P G Ext ops (i :: l) fr u h Q := by
  obtain ⟨e, h2, b, q⟩ := hd
  cases e with
  | returned v =>
    obtain ⟨fr1, hp, e2, fr2, u2, h3, b2, q2⟩ := q
    exact ⟨e2, fr2, u2, h3, .opsCall hi hw ha b hp b2, q2⟩
  | panicked c => exact ⟨_, fr, u, h2, .opsCallPanic hi hw ha b, q⟩
  | outgrown => exact q.elim
/-- Some operations without calls, and what follows. -/
theorem WpO.run {ops : Array Oper} (n : Nat) {k : Nat} {is : List Nat} {fr' : Frm} {h' : Heap} (hr : runL P G ops ((ops.toList.drop k).take n) fr h = some (fr', h')) (hn : k + n ≤ ops.size)
    (hw : WpO P G Ext ops is fr' u h' Q) : WpO P G Ext ops (List.range' k n ++ is) fr u h Q := by
  obtain ⟨e2, fr2, u2, h3, b2, q2⟩ := hw
  refine ⟨e2, fr2, u2, h3, ?_, q2⟩
  have hlen : ((ops.toList.drop k).take n).length = n := by simp; omega
  have := runL_big (Ext := Ext) (u := u) ((ops.toList.drop k).take n) k is fr fr' h h' ?_ hr b2
  · rwa [hlen] at this
  · intro j p hj
    rw [List.getElem?_take] at hj
    split at hj
    · rwa [List.getElem?_drop, Array.getElem?_toList] at hj
    · cases hj

/-- A function without deferred calls. -/
theorem Does.body {f : FuncId} {args : List Value} {fn : Func} {c : Code} {R : Ending → Heap → Prop} (hf : P.funcs[f]? = some fn) (hb : fn.body = some c)
    (hw : Wp P G Ext c (enterF fn args) none h fun e fr' u' h' => u' = none ∧ fr'.defers = [] ∧ match e with
      | .normal | .ret => ∃ v, ares P fn fr' h' = some v ∧ R (.returned v) h'
      | .panic ch => R (.panicked ch) h'
      | _ => False) : Does P G Ext f args h R := by
  obtain ⟨e, fr1, u1, h1, b, rfl, hd, q⟩ := hw
  cases e with
  | normal => obtain ⟨v, hv, hr⟩ := q; exact ⟨_, h1, .call hf hb b rfl (by rw [hd]; exact .leaveRet hv), hr⟩
  | ret => obtain ⟨v, hv, hr⟩ := q; exact ⟨_, h1, .call hf hb b rfl (by rw [hd]; exact .leaveRet hv), hr⟩
  | panic ch => exact ⟨_, h1, .call hf hb b rfl (by rw [hd]; exact .leavePanic), q⟩
  | _ => exact q.elim
end

/-! ### a law's end -/
/-- A heap of nothing but the program's variables, of which nothing is told. -/
def heap0 (G : Nat) : Heap := ⟨G, .leaf⟩
def ren0 : Ren := ⟨id, fun _ => 0, fun _ => 0⟩
theorem heap0_get (G i : Nat) : (heap0 G).get i = none := by
  unfold heap0 Heap.get
  simp only [Tr.get_leaf]
  split <;> rfl
theorem heap0_rel (P : Program) (G : Nat) (w : World) : HRel P ⟨G, w.heap.size, w⟩ ren0 (heap0 G) w where
  gle := Nat.le_refl _
  glob i _ := ⟨rfl, rfl, rfl⟩
  obj i o hg := by rw [heap0_get] at hg; cases hg
  apart i j o p _ hi _ ho := by rw [heap0_get] at hi; cases hi
  frame _ _ := rfl
  size := Nat.le_refl _
  io := rfl

theorem HRel.below {P : Program} {S : Start} {m : Ren} {h : Heap} {w : World} (hr : HRel P S m h w) (hS : S.base = S.w0.heap.size) : Go.RowKit.Below S.base S.w0 w := by
  have hio := hr.io
  unfold Mini.io at hio
  simp only [Prod.mk.injEq] at hio
  exact ⟨hio.1, hio.2.1, hio.2.2, by rw [← hS]; exact hr.size, fun k hk => hr.frame k hk⟩

/-- What the relation tells of a call, the model's call does. -/
theorem Does.calls {P : Program} {S : Start} {Ext : FuncId → List Value → Heap → Value → Heap → Prop} (hext : ExtOk P S Ext) {f : FuncId} {args : List Value} {h : Heap} {m : Ren} {w : World}
    (hd : Does P S.G Ext f args h fun e _ => e = .returned (.bool true)) (hr : HRel P S m h w) (hs : ∀ x ∈ args, sc h.next x) (hS : S.base = S.w0.heap.size) :
    Calls P f (args.map (ren m)).toArray w fun e w' => e = .returned (.bool true) ∧ Go.RowKit.Below S.base S.w0 w' := by
  obtain ⟨e, h', hb, rfl⟩ := hd
  refine ((big_sound hext hb).1 m w hr hs).mono ?_
  rintro e w' ⟨m', _, _, h3, rfl, _⟩
  exact ⟨by simp [renN, ren], h3.below hS⟩
end Go.Mini
end
section
/-
  MINI, part N: a region that draws its order: one run in the text's order serves every order.
-/
namespace Go.Mini

/-! ### which operations look at the memory, and which turn it -/
/-- It looks at no memory (a slice's tail at the end of unknown room apart). -/
def isPure (o : Oper) : Bool :=
  match o.op with
  | .move _ | .assign _ | .pick .. | .build .. | .nilCheck _ | .unOp .. | .makeInterface .. | .makeFunc .. | .slice .. | .fieldAddr .. | .field .. | .indexAddr .. | .index .. | .typeAssert .. | .extract .. => true
  | .binOp op _ x y _ => !(isEqOp op && !isConstO x && !isConstO y)
  | .call c => match c.callee with
    | .builtin .max | .builtin .min => true
    | _ => false
  | _ => false
/-- It looks at the memory, and leaves it. -/
def isReader (o : Oper) : Bool :=
  match o.op with
  | .load .. => true
  | .binOp op _ x y _ => isEqOp op && !isConstO x && !isConstO y
  | .call c => match c.callee with
    | .builtin .len => true
    | _ => false
  | _ => false
def isLoud (o : Oper) : Bool := !isPure o && !isReader o

theorem aslice_indep {P : Program} {h h2 : Heap} {t : TypeId} {x v : Value} {lo hi mx : Option Value} (e : aslice P h t x lo hi mx = some (v, h)) : aslice P h2 t x lo hi mx = some (v, h2) := by
  unfold aslice at e ⊢
  split at e
  · split at e
    · cases e
    · rename_i hmx
      obtain ⟨ti, h1, e⟩ := Option.bind_eq_some_iff.1 e
      obtain ⟨hh, h3, e⟩ := Option.bind_eq_some_iff.1 e
      obtain ⟨l, h4, e⟩ := Option.bind_eq_some_iff.1 e
      simp only [Option.some.injEq, Prod.mk.injEq, and_true] at e
      simp [hmx, h1, h3, h4, e]
  · split at e
    · cases e
    · rename_i hmx
      obtain ⟨hh, h3, e⟩ := Option.bind_eq_some_iff.1 e
      obtain ⟨l, h4, e⟩ := Option.bind_eq_some_iff.1 e
      simp only [Option.some.injEq, Prod.mk.injEq, and_true] at e
      simp [hmx, h3, h4, e]
  · obtain ⟨ti, h1, e⟩ := Option.bind_eq_some_iff.1 e
    simp only [h1, Option.bind_some]
    cases mx with
    | none =>
      simp only [] at e ⊢
      split at e
      · rename_i hlc
        rw [if_pos hlc]
        obtain ⟨hh, h3, e⟩ := Option.bind_eq_some_iff.1 e
        obtain ⟨l, h4, e⟩ := Option.bind_eq_some_iff.1 e
        simp only [h3, h4, Option.bind_some]
        split at e
        · simp only [Option.some.injEq, Prod.mk.injEq, and_true] at e; simp [e]
        · split at e
          · rename_i hne
            simp only [Option.some.injEq, Prod.mk.injEq, and_true] at e; simp [hne, e]
          · rename_i hne
            split at e
            · rename_i hsp
              simp only [Option.some.injEq, Prod.mk.injEq, and_true] at e; simp [hne, hsp, e]
            · simp only [Option.some.injEq, Prod.mk.injEq] at e
              have := congrArg Heap.next e.2
              simp at this
      · cases e
    | some mv =>
      simp only [] at e ⊢
      obtain ⟨mm, h2', e⟩ := Option.bind_eq_some_iff.1 e
      obtain ⟨hh, h3, e⟩ := Option.bind_eq_some_iff.1 e
      obtain ⟨l, h4, e⟩ := Option.bind_eq_some_iff.1 e
      simp only [h2', h3, h4, Option.bind_some]
      split at e
      · rename_i hhi
        rw [if_pos hhi]
        split at e
        · cases e
        · simp only [Option.some.injEq, Prod.mk.injEq, and_true] at e; simp [e]
      · cases e
  · cases e

theorem aop_pure {P : Program} {ρ : Operand → Option Value} {o : Oper} {h h2 : Heap} {v : Value} (hp : isPure o = true) (e : aop P ρ o h = some (.val v, h)) : aop P ρ o h2 = some (.val v, h2) := by
  obtain ⟨dst, op, type, pos, after, guard⟩ := o
  cases op <;> simp only [isPure] at hp <;> try (cases hp; done)
  case call c =>
    obtain ⟨callee, args, ats⟩ := c
    cases callee with
    | builtin b =>
      cases b <;> try (cases hp; done)
      all_goals
        simp only [aop] at e ⊢
        obtain ⟨as, has, e⟩ := Option.bind_eq_some_iff.1 e
        simp only [has, Option.bind_some]
        unfold abuiltin at e ⊢
        simp only [] at e ⊢
        obtain ⟨r, hr, e⟩ := Option.bind_eq_some_iff.1 e
        simp only [Option.some.injEq, Prod.mk.injEq, AN.val.injEq, and_true] at e
        simp [hr, e]
    | _ => cases hp
  case slice t x lo hi mx =>
    simp only [aop] at e ⊢
    obtain ⟨a, ha, e⟩ := Option.bind_eq_some_iff.1 e
    obtain ⟨l, hl, e⟩ := Option.bind_eq_some_iff.1 e
    obtain ⟨hh, hhh, e⟩ := Option.bind_eq_some_iff.1 e
    obtain ⟨mm, hmm, e⟩ := Option.bind_eq_some_iff.1 e
    obtain ⟨⟨v', h'⟩, hs, e⟩ := Option.bind_eq_some_iff.1 e
    simp only [Option.some.injEq, Prod.mk.injEq, AN.val.injEq] at e
    obtain ⟨rfl, rfl⟩ := e
    simp only [ha, hl, hhh, hmm, Option.bind_some, aslice_indep (h2 := h2) hs]
  case pick c a b =>
    simp only [aop] at e ⊢
    obtain ⟨cv, hc, e⟩ := Option.bind_eq_some_iff.1 e
    simp only [hc, Option.bind_some]
    cases cv <;> try (cases e; done)
    obtain ⟨r, hr, e⟩ := Option.bind_eq_some_iff.1 e
    simp only [Option.some.injEq, Prod.mk.injEq, AN.val.injEq, and_true] at e
    simp [hr, e]
  case nilCheck x =>
    simp only [aop] at e ⊢
    obtain ⟨cv, hc, e⟩ := Option.bind_eq_some_iff.1 e
    simp only [hc, Option.bind_some]
    split at e
    · rename_i hn
      simp only [Option.some.injEq, Prod.mk.injEq, AN.val.injEq, and_true] at e
      subst e
      simp [hn]
    · cases e
  case binOp op t x y yt =>
    have hp' : (isEqOp op && !isConstO x && !isConstO y) = false := Bool.not_eq_true' _ ▸ hp
    simp only [aop, hp', binA, Bool.false_eq_true, if_false] at e ⊢
    obtain ⟨a, ha, e⟩ := Option.bind_eq_some_iff.1 e
    obtain ⟨b, hb, e⟩ := Option.bind_eq_some_iff.1 e
    obtain ⟨u, hu, e⟩ := Option.bind_eq_some_iff.1 e
    simp only [Option.some.injEq, Prod.mk.injEq, AN.val.injEq, and_true] at e
    subst e
    simp only [ha, hb, hu, Option.bind_some]
  case makeInterface t x =>
    simp only [aop] at e ⊢
    obtain ⟨cv, hc, e⟩ := Option.bind_eq_some_iff.1 e
    simp only [hc, Option.bind_some]
    split at e
    · split at e
      · cases e
      · simp only [Option.some.injEq, Prod.mk.injEq, AN.val.injEq, and_true] at e
        simp [e]
    · cases e
  all_goals
    simp only [aop] at e ⊢
    repeat (first
      | (obtain ⟨_, hx, e⟩ := Option.bind_eq_some_iff.1 e; rw [hx, Option.bind_some])
      | (simp only [Option.some.injEq, Prod.mk.injEq, AN.val.injEq, and_true] at e; subst e; rfl))

/-! ### operands -/
theorem evs_congr {ρ ρ' : Operand → Option Value} : ∀ {l : List Operand}, (∀ x ∈ l, ρ x = ρ' x) → evs ρ l = evs ρ' l
  | [], _ => rfl
  | x :: l, h => by simp only [evs]; rw [h x (by simp), evs_congr fun y hy => h y (by simp [hy])]
theorem evp_congr {ρ ρ' : Operand → Option Value} : ∀ {l : List (Nat × Operand)}, (∀ x ∈ l, ρ x.2 = ρ' x.2) → evp ρ l = evp ρ' l
  | [], _ => rfl
  | x :: l, h => by simp only [evp]; rw [h x (by simp), evp_congr fun y hy => h y (by simp [hy])]
theorem evo_congr {ρ ρ' : Operand → Option Value} {x : Option Operand} (h : ∀ y, x = some y → ρ y = ρ' y) : evo ρ x = evo ρ' x := by
  cases x with
  | none => rfl
  | some y => simp only [evo]; rw [h y rfl]

theorem aop_congr {P : Program} {ρ ρ' : Operand → Option Value} {o : Oper} {h : Heap} (hx : ∀ x ∈ o.op.operands, ρ x = ρ' x) (hg : ∀ g, ρ (.global g) = ρ' (.global g)) : aop P ρ o h = aop P ρ' o h := by
  have hext : (fun g => ρ (.global g)) = fun g => ρ' (.global g) := funext hg
  obtain ⟨dst, op, type, pos, after, guard⟩ := o
  cases op <;> simp only [Op.operands] at hx <;> simp only [aop]
  case build t ps => rw [evp_congr fun x hm => hx x.2 (by simp only [List.mem_toArray, List.mem_map]; exact ⟨x, hm, rfl⟩)]
  case buildSlice t n ps => rw [evp_congr fun x hm => hx x.2 (by simp only [List.mem_toArray, List.mem_map]; exact ⟨x, hm, rfl⟩)]
  case pick c a b =>
    rw [hx c (by simp)]
    congr 1
    funext cv
    cases cv <;> try rfl
    rename_i t
    cases t
    · simp only [Bool.false_eq_true, if_false]; rw [hx b (by simp)]
    · simp only [if_true]; rw [hx a (by simp)]
  case makeFunc fn first captured =>
    rw [evs_congr fun x hm => hx x (by simp; exact .inl (by simpa using hm)), evs_congr (l := captured.toList) fun x hm => hx x (by simp; exact .inr (by simpa using hm))]
  case lookup t x k ok => rw [hx x (by simp), hx k (by simp)]
  case mapUpdate t x k y => rw [hx x (by simp), hx k (by simp), hx y (by simp)]
  case insert t x k y => rw [hx x (by simp), hx k (by simp), hx y (by simp)]
  case makeMap t r => rw [evo_congr fun y hy => hx y (by subst hy; simp)]
  case slice t x lo hi mx =>
    rw [hx x (by simp), evo_congr (x := lo) fun y hy => hx y (by subst hy; simp), evo_congr (x := hi) fun y hy => hx y (by subst hy; simp), evo_congr (x := mx) fun y hy => hx y (by subst hy; simp)]
  case call c =>
    obtain ⟨callee, args, ats⟩ := c
    simp only [Call.operands] at hx
    cases callee with
    | value f => simp only [hext]; rw [hx f (by simp), evs_congr (l := args.toList) fun x hm => hx x (by simp; exact .inr (by simpa using hm))]
    | builtin b => simp only []; rw [evs_congr (l := args.toList) fun x hm => hx x (by simpa using hm)]
    | invoke r s => rfl
  case defer c =>
    obtain ⟨callee, args, ats⟩ := c
    simp only [Call.operands] at hx
    cases callee with
    | value f => simp only []; rw [hx f (by simp), evs_congr (l := args.toList) fun x hm => hx x (by simp; exact .inr (by simpa using hm))]
    | _ => rfl
  case store t a x => rw [hx a (by simp), hx x (by simp)]
  case binOp op t x y yt => rw [hx x (by simp), hx y (by simp)]
  case makeSlice t l c => rw [hx l (by simp), hx c (by simp)]
  case indexAddr t x i => rw [hx x (by simp), hx i (by simp)]
  case index t x i => rw [hx x (by simp), hx i (by simp)]
  all_goals first
    | rfl
    | (rename_i x; rw [hx x (by simp)])
    | (rename_i x _; rw [hx x (by simp)])
    | (rename_i x _ _; rw [hx x (by simp)])
    | (rename_i x _ _ _; rw [hx x (by simp)])

/-! ### the order -/
def maskE (acc : List Nat) (s : Nat) (e : Edge) : Nat := if Region.binds .any e then s ||| 2 ^ e.on ||| acc.getD e.on 0 else s
def maskOf (acc : List Nat) (o : Oper) : Nat := o.after.toList.foldl (maskE acc) 0
def masks (acc : List Nat) : List Oper → List Nat
  | [] => acc
  | o :: l => masks (acc ++ [maskOf acc o]) l
theorem masks_prefix : ∀ (l : List Oper) (acc : List Nat) (i : Nat), i < acc.length → (masks acc l)[i]? = acc[i]?
  | [], acc, i, _ => rfl
  | o :: l, acc, i, hi => by
    simp only [masks]
    rw [masks_prefix l _ i (by simp; omega), List.getElem?_append_left hi]
theorem masks_at : ∀ (l : List Oper) (acc : List Nat) (j : Nat) (o : Oper), l[j]? = some o → ∃ acc', (masks acc l)[acc.length + j]? = some (maskOf acc' o) ∧ ∀ i, i < acc.length + j → acc'[i]? = (masks acc l)[i]?
  | [], acc, j, o, h => by simp at h
  | p :: l, acc, 0, o, h => by
    simp only [List.getElem?_cons_zero, Option.some.injEq] at h
    subst h
    refine ⟨acc, ?_, fun i hi => ?_⟩
    · simp only [masks, Nat.add_zero]
      rw [masks_prefix l _ _ (by simp), List.getElem?_append_right (Nat.le_refl _)]
      simp
    · simp only [masks]
      rw [masks_prefix l _ i (by simp; omega), List.getElem?_append_left (by omega)]
  | p :: l, acc, j + 1, o, h => by
    simp only [List.getElem?_cons_succ] at h
    obtain ⟨acc', h1, h2⟩ := masks_at l (acc ++ [maskOf acc p]) j o h
    simp only [List.length_append, List.length_singleton] at h1 h2
    refine ⟨acc', ?_, fun i hi => ?_⟩
    · simp only [masks]; rw [← h1]; congr 1; omega
    · simp only [masks]; exact h2 i (by omega)
theorem foldl_maskE (acc : List Nat) (j : Nat) : ∀ (es : List Edge) (s : Nat), (es.foldl (maskE acc) s).testBit j = true → s.testBit j = true ∨ ∃ e ∈ es, Region.binds .any e = true ∧ (j = e.on ∨ (acc.getD e.on 0).testBit j = true)
  | [], s, h => .inl h
  | e :: es, s, h => by
    simp only [List.foldl_cons] at h
    rcases foldl_maskE acc j es _ h with h | ⟨e', he', hb, hj⟩
    · unfold maskE at h
      split at h
      · rename_i hb
        simp only [Nat.testBit_or, Bool.or_eq_true] at h
        rcases h with (h | h) | h
        · exact .inl h
        · refine .inr ⟨e, by simp, hb, .inl ?_⟩
          rw [Nat.testBit_two_pow] at h
          simpa using (of_decide_eq_true h).symm
        · exact .inr ⟨e, by simp, hb, .inr h⟩
      · exact .inl h
    · exact .inr ⟨e', by simp [he'], hb, hj⟩

/-- Does operation i surely come ahead of operation j? -/
def ahead (ops : List Oper) (i j : Nat) : Bool := ((masks [] ops).getD j 0).testBit i

/-- What is ahead of an operation all of whose edges are met is met. -/
theorem ahead_closed (ops : List Oper) (L : Nat → Prop) (hback : ∀ i o, ops[i]? = some o → ∀ e ∈ o.after, Region.binds .any e = true → e.on < i)
    (hdown : ∀ i o, L i → ops[i]? = some o → ∀ e ∈ o.after, Region.binds .any e = true → L e.on) :
    ∀ (j : Nat) (o : Oper), ops[j]? = some o → (∀ e ∈ o.after, Region.binds .any e = true → L e.on) → ∀ i, ahead ops i j = true → L i := by
  intro j
  induction j using Nat.strongRecOn with
  | _ j ih =>
    intro o ho hall i ha
    obtain ⟨acc, h1, h2⟩ := masks_at ops [] j o ho
    simp only [List.length_nil, Nat.zero_add] at h1 h2
    unfold ahead at ha
    rw [List.getD_eq_getElem?_getD, h1, Option.getD_some] at ha
    unfold maskOf at ha
    rcases foldl_maskE acc i _ _ ha with h | ⟨e, he, hb, h⟩
    · simp at h
    · have he' : e ∈ o.after := by simpa using he
      have hlt := hback j o ho e he' hb
      have hL := hall e he' hb
      rcases h with h | h
      · rw [h]; exact hL
      · have hlen : e.on < ops.length := by
          have : j < ops.length := by
            rcases Nat.lt_or_ge j ops.length with q | q
            · exact q
            · rw [List.getElem?_eq_none q] at ho; cases ho
          omega
        have hoo : ops[e.on]? = some ops[e.on] := List.getElem?_eq_getElem hlen
        refine ih e.on hlt _ hoo (fun e2 he2 hb2 => hdown e.on _ hL hoo e2 he2 hb2) i ?_
        unfold ahead
        rw [List.getD_eq_getElem?_getD, ← h2 e.on hlt, ← List.getD_eq_getElem?_getD]
        exact h

/-! ### one operation, whatever it is, that hands back a value -/
section
variable {P : Program} {G : Nat} {Ext : FuncId → List Value → Heap → Value → Heap → Prop} {ops : List Oper}

inductive St (P : Program) (G : Nat) (Ext : FuncId → List Value → Heap → Value → Heap → Prop) (ops : List Oper) (o : Oper) (F : Frm) (H : Heap) : Value → Heap → Prop where
  | unwanted : awanted ops.toArray F o = some false → St P G Ext ops o F H undef H
  | val {v H'} : awanted ops.toArray F o = some true → aop P (aev G F) o H = some (.val v, H') → St P G Ext ops o F H v H'
  | skip {H'} : awanted ops.toArray F o = some true → aop P (aev G F) o H = some (.skip, H') → St P G Ext ops o F H undef H'
  | call {f args H1 v H'} : awanted ops.toArray F o = some true → aop P (aev G F) o H = some (.call f args, H1) → Big P G Ext (.call f args) H1 (.ends (.returned v)) H' → St P G Ext ops o F H v H'

theorem St.big {o : Oper} {i : Nat} {F F' : Frm} {H H' : Heap} {v : Value} (hs : St P G Ext ops o F H v H') (hi : ops[i]? = some o) (hp : F.put o.dst v = some F') {l : List Nat} {u : Option FrameMode} {out : Out} {H2 : Heap}
    (hb : Big P G Ext (.ops ops.toArray l F' u) H' out H2) : Big P G Ext (.ops ops.toArray (i :: l) F u) H out H2 := by
  have hi' : ops.toArray[i]? = some o := by simpa using hi
  cases hs with
  | unwanted hw => exact .opsUnwanted hi' hw hp hb
  | val hw ha => exact .opsVal hi' hw ha hp hb
  | skip hw ha => exact .opsSkip hi' hw ha hp hb
  | call hw ha hc => exact .opsCall hi' hw ha hc hp hb

theorem aev_congr {F F2 : Frm} {o : Oper} (h : ∀ s ∈ o.looksAt ops.toArray, look s F.slots = look s F2.slots) : ∀ x ∈ o.op.operands, aev G F x = aev G F2 x := by
  intro x hx
  cases x with
  | tmp t => exact h t (List.mem_append_left _ (List.mem_filterMap.2 ⟨.tmp t, by simpa using hx, rfl⟩))
  | _ => rfl
theorem awanted_congr {F F2 : Frm} {o : Oper} (h : ∀ s ∈ o.looksAt ops.toArray, look s F.slots = look s F2.slots) : awanted ops.toArray F o = awanted ops.toArray F2 o := by
  unfold awanted
  cases hg : o.guard with
  | none => rfl
  | some g =>
    obtain ⟨j, want⟩ := g
    simp only []
    cases hd : (ops.toArray[j]?).bind (·.dst) with
    | none => rfl
    | some d =>
      simp only []
      rw [h d (by unfold Oper.looksAt; rw [hg]; exact List.mem_append_right _ (by simp only [hd]; simp))]
theorem St.congr {o : Oper} {F F2 : Frm} {H H' : Heap} {v : Value} (hs : St P G Ext ops o F H v H') (h : ∀ s ∈ o.looksAt ops.toArray, look s F.slots = look s F2.slots) : St P G Ext ops o F2 H v H' := by
  have h1 := awanted_congr h
  have h2 : aop P (aev G F) o = aop P (aev G F2) o := funext fun H => aop_congr (aev_congr h) fun _ => rfl
  cases hs with
  | unwanted hw => exact .unwanted (h1 ▸ hw)
  | val hw ha => exact .val (h1 ▸ hw) (h2 ▸ ha)
  | skip hw ha => exact .skip (h1 ▸ hw) (h2 ▸ ha)
  | call hw ha hc => exact .call (h1 ▸ hw) (h2 ▸ ha) hc

/-- What a slot holds when the operations of L are done. -/
def vat (ops : List Oper) (V : Nat → Value) (fr : Frm) (t : Nat) (L : Nat → Bool) : Nat → Option Value
  | 0 => look t fr.slots
  | k + 1 => if L k = true ∧ (ops[k]?).bind (·.dst) = some t then some (V k) else vat ops V fr t L k
theorem vat_congr {V : Nat → Value} {fr : Frm} {t : Nat} {L L' : Nat → Bool} : ∀ (k : Nat), (∀ j, j < k → (ops[j]?).bind (·.dst) = some t → L j = L' j) → vat ops V fr t L k = vat ops V fr t L' k
  | 0, _ => rfl
  | k + 1, h => by
    simp only [vat]
    by_cases hd : (ops[k]?).bind (·.dst) = some t
    · rw [h k (by omega) hd, vat_congr k fun j hj => h j (by omega)]
    · simp only [hd, and_false, if_false]
      exact vat_congr k fun j hj => h j (by omega)
theorem vat_top {V : Nat → Value} {fr : Frm} {t i : Nat} {L : Nat → Bool} (hL : L i = true) (hd : (ops[i]?).bind (·.dst) = some t) : ∀ (k : Nat), i < k → (∀ j, i < j → j < k → (ops[j]?).bind (·.dst) = some t → L j = false) → vat ops V fr t L k = some (V i)
  | 0, h, _ => by omega
  | k + 1, h, hno => by
    simp only [vat]
    by_cases e : k = i
    · subst e; rw [if_pos ⟨hL, hd⟩]
    · rw [if_neg (fun q => by have := hno k (by omega) (by omega) q.2; rw [this] at q; cases q.1)]
      exact vat_top hL hd k (by omega) fun j h1 h2 => hno j h1 (by omega)
theorem vat_below {V : Nat → Value} {fr : Frm} {t i : Nat} : ∀ (k : Nat), i ≤ k → vat ops V fr t (fun j => decide (j < i)) k = vat ops V fr t (fun _ => true) i
  | 0, h => by
    have : i = 0 := by omega
    subst this; rfl
  | k + 1, h => by
    by_cases e : i = k + 1
    · subst e
      exact vat_congr (k + 1) fun j hj _ => by simp [hj]
    · simp only [vat]
      rw [if_neg (by simp; omega)]
      exact vat_below k (by omega)

/-- The two operations touch one slot, and one of them writes it. -/
def clash (ops : List Oper) (x y : Oper) : Bool :=
  (match x.dst with | some d => (y.looksAt ops.toArray).contains d || y.dst == some d | none => false) ||
  (match y.dst with | some d => (x.looksAt ops.toArray).contains d | none => false)

/-- All edges of what is in L lie in L. -/
def Closed (ops : List Oper) (L : Nat → Bool) : Prop := ∀ i o, ops[i]? = some o → L i = true → ∀ e ∈ o.after, Region.binds .any e = true → L e.on = true
def also (L : Nat → Bool) (i : Nat) : Nat → Bool := fun j => if j = i then true else L j

/-- A region that draws: what each operation yields is one, whatever was done ahead of it; the memory is told by which operations are done. -/
structure Drawn (P : Program) (G : Nat) (Ext : FuncId → List Value → Heap → Value → Heap → Prop) (ops : List Oper) (V : Nat → Value) (HS : (Nat → Bool) → Heap) (FF : Nat → Frm) : Prop where
  back : ∀ i o, ops[i]? = some o → ∀ e ∈ o.after, Region.binds .any e = true → e.on < i
  slot : ∀ i j x y, i < j → ops[i]? = some x → ops[j]? = some y → clash ops x y = true → ahead ops i j = true
  ext : ∀ L L', (∀ j, j < ops.length → L j = L' j) → HS L = HS L'
  st : ∀ L i o, Closed ops L → ops[i]? = some o → L i = false → (∀ e ∈ o.after, Region.binds .any e = true → L e.on = true) → St P G Ext ops o (FF i) (HS L) (V i) (HS (also L i))
  put : ∀ i o, ops[i]? = some o → (FF i).put o.dst (V i) = some (FF (i + 1))

theorem lt_length {i : Nat} {o : Oper} (h : ops[i]? = some o) : i < ops.length := by
  rcases Nat.lt_or_ge i ops.length with q | q
  · exact q
  · rw [List.getElem?_eq_none q] at h; cases h

variable {V : Nat → Value} {HS : (Nat → Bool) → Heap} {FF : Nat → Frm}

theorem put_size {F F' : Frm} {d : Option Nat} {v : Value} (h : F.put d v = some F') : F'.size = F.size ∧ F'.defers = F.defers := by
  unfold Frm.put at h
  split at h
  · cases h; exact ⟨rfl, rfl⟩
  · split at h
    · cases h; exact ⟨rfl, rfl⟩
    · cases h
theorem put_look {F F' : Frm} {d : Option Nat} {v : Value} (h : F.put d v = some F') (t : Nat) : look t F'.slots = if d = some t then some v else look t F.slots := by
  unfold Frm.put at h
  split at h
  · cases h; simp
  · rename_i d
    split at h
    · cases h
      simp only [look_setk, Option.some.injEq]
      by_cases e : t = d
      · subst e; simp
      · rw [if_neg e, if_neg (Ne.symm e)]
    · cases h
theorem put_ok {F F1 F2 : Frm} {d : Option Nat} {v w : Value} (h : F.put d v = some F1) (hs : F2.size = F.size) : ∃ F3, F2.put d w = some F3 := by
  unfold Frm.put at h ⊢
  cases d with
  | none => exact ⟨_, rfl⟩
  | some d =>
    simp only [] at h ⊢
    split at h
    · rename_i hd
      rw [hs, if_pos hd]; exact ⟨_, rfl⟩
    · cases h

theorem Drawn.frames (hd : Drawn P G Ext ops V HS FF) : ∀ i, i ≤ ops.length → (FF i).size = (FF 0).size ∧ (FF i).defers = (FF 0).defers ∧ ∀ t, look t (FF i).slots = vat ops V (FF 0) t (fun _ => true) i
  | 0, _ => ⟨rfl, rfl, fun _ => rfl⟩
  | i + 1, hi => by
    obtain ⟨h1, h2, h3⟩ := hd.frames i (by omega)
    have ho : ops[i]? = some ops[i] := List.getElem?_eq_getElem (by omega)
    have hp := hd.put i _ ho
    obtain ⟨q1, q2⟩ := put_size hp
    refine ⟨q1.trans h1, q2.trans h2, fun t => ?_⟩
    rw [put_look hp, h3 t]
    simp only [vat, ho, Option.bind_some, true_and]

theorem clash_of {x y : Oper} {t : Nat} (hx : x.dst = some t) (hy : t ∈ y.looksAt ops.toArray ∨ y.dst = some t) : clash ops x y = true := by
  unfold clash
  rw [hx]
  simp only [Bool.or_eq_true]
  left
  rcases hy with hy | hy
  · left; simpa using hy
  · right; simp [hy]
theorem clash_of' {x y : Oper} {t : Nat} (hy : y.dst = some t) (hx : t ∈ x.looksAt ops.toArray) : clash ops x y = true := by
  unfold clash
  rw [hy]
  simp only [Bool.or_eq_true]
  right
  simpa using hx

theorem Drawn.go (hd : Drawn P G Ext ops V HS FF) {u : Option FrameMode} : ∀ (fuel t : Nat) (listed : Array Bool) (F : Frm), listed.size = ops.length →
    (∀ i o, ops[i]? = some o → listed.getD i true = true → ∀ e ∈ o.after, Region.binds .any e = true → listed.getD e.on false = true) →
    F.size = (FF 0).size → F.defers = (FF 0).defers → (∀ s, look s F.slots = vat ops V (FF 0) s (fun j => listed.getD j true) ops.length) →
    ((List.range ops.length).filter fun j => !listed.getD j true).length ≤ fuel →
    ∃ F', Big P G Ext (.ops ops.toArray (Region.linearise.go .any ops.toArray fuel t listed []) F u) (HS fun j => listed.getD j true) (.x .normal F' u) (HS fun _ => true) ∧ (FF ops.length).le F' := by
  intro fuel
  induction fuel with
  | zero =>
    intro t listed F hsz hdown h1 h2 h3 hfuel
    have hall : ∀ j, j < ops.length → listed.getD j true = true := by
      intro j hj
      have hnil : ((List.range ops.length).filter fun j => !listed.getD j true) = [] := List.length_eq_zero_iff.1 (by omega)
      have := (List.filter_eq_nil_iff.1 hnil) j (by simpa using hj)
      simpa using this
    refine ⟨F, ?_, ?_⟩
    · simp only [Region.linearise.go, List.reverse_nil]
      rw [hd.ext (fun j => listed.getD j true) (fun _ => true) hall]
      exact .opsNil
    · obtain ⟨g1, g2, g3⟩ := hd.frames ops.length (Nat.le_refl _)
      refine ⟨by rw [g1, h1], by rw [g2, h2], fun s v hs => ?_⟩
      rw [h3, vat_congr (L' := fun _ => true) ops.length fun j hj _ => hall j hj, ← g3]
      exact hs
  | succ fuel ih =>
    intro t listed F hsz hdown h1 h2 h3 hfuel
    simp only [Region.linearise.go]
    change ∃ F', Big P G Ext (.ops ops.toArray (match (Region.ready .any ops.toArray listed)[t % (Region.ready .any ops.toArray listed).length]? with
      | some i => Region.linearise.go .any ops.toArray fuel (t / (Region.ready .any ops.toArray listed).length) (listed.setIfInBounds i true) [i]
      | none => [].reverse) F u) (HS fun j => listed.getD j true) (.x .normal F' u) (HS fun _ => true) ∧ (FF ops.length).le F'
    have hgd : ∀ j, j < ops.length → listed.getD j false = listed.getD j true := by
      intro j hj
      have : j < listed.size := by omega
      simp [this]
    cases hi : (Region.ready .any ops.toArray listed)[t % (Region.ready .any ops.toArray listed).length]? with
    | none =>
      have hnil : Region.ready .any ops.toArray listed = [] := by
        cases hr : Region.ready .any ops.toArray listed with
        | nil => rfl
        | cons x xs =>
          rw [hr] at hi
          have hlt : t % (x :: xs).length < (x :: xs).length := Nat.mod_lt _ (by simp)
          rw [List.getElem?_eq_getElem hlt] at hi
          cases hi
      -- then every operation is done
      have hall : ∀ j, j < ops.length → listed.getD j true = true := by
        intro j
        induction j using Nat.strongRecOn with
        | _ j ihj =>
          intro hj
          cases e : listed.getD j true with
          | true => rfl
          | false =>
            have ho : ops[j]? = some ops[j] := List.getElem?_eq_getElem hj
            have : j ∈ Region.ready .any ops.toArray listed := mem_ready.2 ⟨e, ops[j], by simp, fun ed hed hb => by
              have hlt := hd.back j _ ho ed hed hb
              rw [hgd ed.on (by omega)]
              exact ihj ed.on hlt (by omega)⟩
            rw [hnil] at this; cases this
      obtain ⟨F', b, hle⟩ := ih 0 listed F hsz hdown h1 h2 h3 (by
        have : ((List.range ops.length).filter fun j => !listed.getD j true) = [] := List.filter_eq_nil_iff.2 fun j hj => by simp [hall j (by simpa using hj)]
        rw [this]; simp)
      have hgo : Region.linearise.go .any ops.toArray fuel 0 listed [] = [] := by
        cases fuel with
        | zero => rfl
        | succ f =>
          simp only [Region.linearise.go]
          change (match (Region.ready .any ops.toArray listed)[0 % (Region.ready .any ops.toArray listed).length]? with
            | some i => Region.linearise.go .any ops.toArray f (0 / (Region.ready .any ops.toArray listed).length) (listed.setIfInBounds i true) [i]
            | none => [].reverse) = []
          rw [hnil]; rfl
      rw [hgo] at b
      exact ⟨F', b, hle⟩
    | some i =>
      simp only []
      rw [linearise_go_acc, List.reverse_singleton, List.singleton_append]
      have hmem : i ∈ Region.ready .any ops.toArray listed := List.mem_of_getElem? hi
      obtain ⟨hun, o, ho', hpre⟩ := mem_ready.1 hmem
      have ho : ops[i]? = some o := by simpa using ho'
      have hil := lt_length ho
      -- what is met
      have hclosed : ∀ j, ahead ops j i = true → listed.getD j false = true := ahead_closed ops (fun j => listed.getD j false = true) hd.back
        (fun j x hj hx => hdown j x hx (by rw [← hgd j (lt_length hx)]; exact hj)) i o ho hpre
      have hnot : ∀ j x, ops[j]? = some x → ahead ops i j = true → listed.getD j true = false := by
        intro j x hx ha
        cases e : listed.getD j true with
        | false => rfl
        | true =>
          have := ahead_closed ops (fun j => listed.getD j false = true) hd.back (fun j x hj hx => hdown j x hx (by rw [← hgd j (lt_length hx)]; exact hj)) j x hx (hdown j x hx e) i ha
          rw [hgd i hil, hun] at this; cases this
      -- the slots that it looks at are as in the text's order
      have hlook : ∀ s ∈ o.looksAt ops.toArray, look s (FF i).slots = look s F.slots := by
        intro s hs
        rw [(hd.frames i (by omega)).2.2 s, h3 s, ← vat_below ops.length (by omega)]
        refine vat_congr ops.length fun j hj hdj => ?_
        have hoj : ops[j]? = some ops[j] := List.getElem?_eq_getElem hj
        rw [hoj, Option.bind_some] at hdj
        by_cases hji : j < i
        · have := hclosed j (hd.slot j i _ _ hji hoj ho (clash_of hdj (.inl hs)))
          rw [hgd j hj] at this
          simp [hji, this]
        · by_cases hij : j = i
          · subst hij
            simp [hun]
          · have := hnot j _ hoj (hd.slot i j _ _ (by omega) ho hoj (clash_of' hdj hs))
            simp [hji, this]
      -- the step
      obtain ⟨F2, hp2⟩ := put_ok (F2 := F) (w := V i) (hd.put i o ho) (by rw [h1, (hd.frames i (by omega)).1])
      obtain ⟨q1, q2⟩ := put_size hp2
      have hst : St P G Ext ops o F (HS fun j => listed.getD j true) (V i) (HS fun j => (listed.setIfInBounds i true).getD j true) := by
        have hcl : Closed ops fun j => listed.getD j true := fun j x hx hj e he hb => by
          have := hdown j x hx hj e he hb
          rwa [hgd e.on (Nat.lt_trans (hd.back j x hx e he hb) (lt_length hx))] at this
        have h := St.congr (hd.st _ i o hcl ho hun fun e he hb => by
          have := hpre e he hb
          rwa [hgd e.on (Nat.lt_trans (hd.back i o ho e he hb) hil)] at this) hlook
        rw [hd.ext (also (fun j => listed.getD j true) i) (fun j => (listed.setIfInBounds i true).getD j true) fun j hj => ?_] at h
        · exact h
        · unfold also
          by_cases e : j = i
          · subst e; simp [show j < listed.size by omega]
          · rw [if_neg e, getD_set_ne true (Ne.symm e)]
      have hdown' : ∀ j x, ops[j]? = some x → (listed.setIfInBounds i true).getD j true = true → ∀ e ∈ x.after, Region.binds .any e = true → (listed.setIfInBounds i true).getD e.on false = true := by
        intro j x hx hj e he hb
        refine getD_set_true ?_
        by_cases e1 : j = i
        · subst e1
          rw [ho] at hx; cases hx
          exact hpre e he hb
        · rw [getD_set_ne true (Ne.symm e1)] at hj
          exact hdown j x hx hj e he hb
      have hlook' : ∀ s, look s F2.slots = vat ops V (FF 0) s (fun j => (listed.setIfInBounds i true).getD j true) ops.length := by
        intro s
        rw [put_look hp2]
        by_cases e : o.dst = some s
        · rw [if_pos e]
          refine (vat_top (i := i) (by simp [show i < listed.size by omega]) (by rw [ho]; exact e) ops.length hil fun j hij hj hdj => ?_).symm
          have hoj : ops[j]? = some ops[j] := List.getElem?_eq_getElem hj
          rw [hoj, Option.bind_some] at hdj
          rw [getD_set_ne true (by omega)]
          exact hnot j _ hoj (hd.slot i j _ _ hij ho hoj (clash_of e (.inr hdj)))
        · rw [if_neg e, h3 s]
          refine vat_congr ops.length fun j hj hdj => ?_
          have hne : j ≠ i := by
            intro e1; subst e1
            rw [ho] at hdj; exact e hdj
          exact (getD_set_ne true (Ne.symm hne)).symm
      have hfuel' : ((List.range ops.length).filter fun j => !(listed.setIfInBounds i true).getD j true).length ≤ fuel := by
        have hmemf : i ∈ (List.range ops.length).filter (fun j => !listed.getD j true) := List.mem_filter.2 ⟨by simpa using hil, by simp [hun]⟩
        have hsub : ((List.range ops.length).filter fun j => !(listed.setIfInBounds i true).getD j true) = ((List.range ops.length).filter fun j => !listed.getD j true).filter (fun j => decide (j ≠ i)) := by
          rw [List.filter_filter]
          apply List.filter_congr
          intro j hj
          by_cases e : j = i
          · subst e; simp [show j < listed.size by rw [hsz]; exact hil]
          · rw [getD_set_ne true (Ne.symm e)]; simp [e]
        rw [hsub]
        have hlt : (((List.range ops.length).filter fun j => !listed.getD j true).filter (fun j => decide (j ≠ i))).length < ((List.range ops.length).filter fun j => !listed.getD j true).length := by
          refine List.length_filter_lt_length_iff_exists.2 ⟨i, hmemf, by simp⟩
        omega
      obtain ⟨F', b, hle⟩ := ih (t / (Region.ready .any ops.toArray listed).length) (listed.setIfInBounds i true) F2 (by simpa using hsz) hdown' (q1.trans h1) (q2.trans h2) hlook' hfuel'
      exact ⟨F', hst.big ho hp2 b, hle⟩

theorem Drawn.big (hd : Drawn P G Ext ops V HS FF) {id : Nat} {u : Option FrameMode} (hm : P.follows .mixedOrders = true) :
    Big P G Ext (.code (.region id ops.toArray true) (FF 0) u) (HS fun _ => false) (.x .normal (FF ops.length) u) (HS fun _ => true) := by
  have hgo : ∀ t, ∃ F', Big P G Ext (.ops ops.toArray (Region.linearise .any ops.toArray t) (FF 0) u) (HS fun _ => false) (.x .normal F' u) (HS fun _ => true) ∧ (FF ops.length).le F' := by
    intro t
    have := hd.go (u := u) ops.length t (Array.replicate ops.length false) (FF 0) (by simp) ?_ rfl rfl ?_ ?_
    · obtain ⟨F', b, hle⟩ := this
      refine ⟨F', ?_, hle⟩
      rw [hd.ext (fun j => (Array.replicate ops.length false).getD j true) (fun _ => false) fun j hj => by simp [hj]] at b
      simpa [Region.linearise] using b
    · intro i o ho hi
      have := lt_length ho
      simp [this] at hi
    · intro s
      rw [vat_congr (L' := fun j => decide (j < 0)) ops.length (fun j hj _ => by simp [hj]), vat_below ops.length (Nat.zero_le _)]
      rfl
    · exact Nat.le_trans (List.length_filter_le _ _) (by simp)
  exact .draw (frs := fun t => (hgo t).choose) hm (fun t => (hgo t).choose_spec.1) (fun t => (hgo t).choose_spec.2)
end
end Go.Mini
end
