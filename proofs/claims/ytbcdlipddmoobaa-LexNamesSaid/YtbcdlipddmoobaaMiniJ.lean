/-
  MINI, part J: frames; the machine's steps at an operation.
-/
import Derived.Test.YtbcdlipddmoobaaMiniI
namespace Go.Mini

/-! ### frames -/
def look (t : Nat) : List (Nat × Value) → Option Value
  | [] => none
  | (k, v) :: l => if t = k then some v else look t l
def setk (t : Nat) (v : Value) : List (Nat × Value) → List (Nat × Value)
  | [] => [(t, v)]
  | (k, u) :: l => if t = k then (k, v) :: l else (k, u) :: setk t v l
theorem look_setk (t : Nat) (v : Value) (s : Nat) : ∀ l, look s (setk t v l) = if s = t then some v else look s l
  | [] => by simp [setk, look]
  | (k, u) :: l => by
    simp only [setk]
    split
    · rename_i e
      subst e
      simp only [look]
      split <;> simp_all
    · rename_i e
      simp only [look, look_setk t v s l]
      split
      · rename_i e2
        rw [if_neg (by omega)]
      · rfl

structure Frm where
  size : Nat
  slots : List (Nat × Value)
  defers : List Deferred

def Frm.put (fr : Frm) (dst : Option Nat) (v : Value) : Option Frm :=
  match dst with
  | none => some fr
  | some d => if d < fr.size then some { fr with slots := setk d v fr.slots } else none

/-- An operand's value. -/
def aev (G : Nat) (fr : Frm) : Operand → Option Value
  | .tmp t => look t fr.slots
  | .const v => if flat v then some v else none
  | .global g => if g < G then some (.pointer (some ⟨g, 0, none⟩)) else none
  | .func f => some (.func (.func f) #[] #[])

structure FRel (m : Ren) (n : Nat) (fr : Frm) (a : Act) : Prop where
  size : a.tmps.size = fr.size
  slot : ∀ t v, look t fr.slots = some v → sc n v ∧ a.tmps[t]? = some (ren m v)
  defers : a.defers = fr.defers.map (renD m)
  scd : ∀ d ∈ fr.defers, scD n d

theorem FRel.agree {m m' : Ren} {n n' : Nat} {fr : Frm} {a : Act} (hf : FRel m n fr a) (ha : m.agree n m') (hn : n ≤ n') : FRel m' n' fr a where
  size := hf.size
  slot t v hl := by
    obtain ⟨h1, h2⟩ := hf.slot t v hl
    exact ⟨sc_mono hn v h1, by rw [h2, ren_congr ha v h1]⟩
  defers := by
    rw [hf.defers]
    exact List.map_congr_left fun d hd => renD_congr ha (hf.scd d hd)
  scd d hd := scD_mono hn (hf.scd d hd)

theorem FRel.put {m : Ren} {n : Nat} {fr fr' : Frm} {a : Act} (hf : FRel m n fr a) {dst : Option Nat} {v : Value} (hp : fr.put dst v = some fr') (hs : sc n v) : FRel m n fr' (a.put dst (ren m v)) := by
  unfold Frm.put at hp
  split at hp
  · cases hp; exact hf
  · rename_i d
    split at hp
    · rename_i hd
      cases hp
      refine ⟨by simp [Act.put, hf.size], ?_, by simp [Act.put, hf.defers], hf.scd⟩
      intro t u hl
      rw [look_setk] at hl
      simp only [Act.put]
      split at hl
      · rename_i e
        subst e
        cases hl
        exact ⟨hs, by rw [Array.getElem?_setIfInBounds_self, if_pos (by rw [hf.size]; exact hd)]⟩
      · rename_i e
        obtain ⟨h1, h2⟩ := hf.slot t u hl
        exact ⟨h1, by rw [Array.getElem?_setIfInBounds_ne (Ne.symm e)]; exact h2⟩
    · cases hp

theorem aev_run {P : Program} {S : Start} {m : Ren} {h : Heap} {w : World} {fr : Frm} {a : Act} (hr : HRel P S m h w) (hf : FRel m h.next fr a) {x : Operand} {v : Value} (e : aev S.G fr x = some v) :
    a.eval x = ren m v ∧ sc h.next v := by
  cases x with
  | tmp t =>
    obtain ⟨h1, h2⟩ := hf.slot t v e
    exact ⟨by simp [Act.eval, h2], h1⟩
  | const u =>
    simp only [aev] at e
    split at e
    · rename_i hfl; cases e; exact ⟨by simp [Act.eval, ren_flat m _ hfl], sc_flat _ _ hfl⟩
    · cases e
  | global g =>
    simp only [aev] at e
    split at e
    · rename_i hg
      cases e
      obtain ⟨h1, h2, _⟩ := hr.glob g hg
      have := hr.gle
      exact ⟨by simp [Act.eval, ren, h1, h2], by simp only [sc]; omega⟩
    · cases e
  | func f => simp only [aev] at e; cases e; exact ⟨by simp [Act.eval, ren, renA, renL], by simp [sc, scA, scL]⟩

/-- Is an operation carried out? -/
def awanted (ops : Array Oper) (fr : Frm) (o : Oper) : Option Bool :=
  match o.guard with
  | none => some true
  | some (j, want) =>
    match (ops[j]?).bind (·.dst) with
    | none => some false
    | some d => (look d fr.slots).bind fun v => match v with
      | .bool b => some (b == want)
      | _ => some false
theorem awanted_run {m : Ren} {n : Nat} {fr : Frm} {a : Act} (hf : FRel m n fr a) {ops : Array Oper} {o : Oper} {t : Bool} (e : awanted ops fr o = some t) :
    Region.wanted o (yielded ops a.tmps) = t := by
  unfold awanted at e
  unfold Region.wanted
  split at e
  · rename_i hg; cases e; rw [hg]
  · rename_i j want hg
    rw [hg]
    simp only [yielded]
    split at e
    · rename_i hd
      cases e
      rw [hd]; rfl
    · rename_i d hd
      obtain ⟨v, hv, e⟩ := Option.bind_eq_some_iff.1 e
      obtain ⟨h1, h2⟩ := hf.slot d v hv
      rw [hd]
      simp only [Option.bind_some, h2]
      cases v with
      | bool b => simp only [Option.some.injEq] at e; subst e; simp [ren]
      | pointer x => cases x <;> (cases e; simp [ren])
      | slice x l c => cases x <;> (cases e; simp [ren])
      | map r => cases r <;> (cases e; simp [ren])
      | _ => cases e; simp [ren]

/-! ### the machine at an operation -/
section
variable {P : Program} {b : Frame} {a : Act} {k : List Item} {cs : List Frame} {w w' : World} {ops : Array Oper} {i : Nat} {rest : List Nat} {o : Oper}

theorem finish_at' (ho : ops[i]? = some o) (v : Value) : (b.at a (.inRegion ops (i :: rest) :: k)).finish v = b.at (a.put o.dst v) (.inRegion ops rest :: k) := by
  rw [Frame.finish_at, ho]; rfl

theorem go_value (ho : ops[i]? = some o) (hw : Region.wanted o (yielded ops a.tmps) = true) {v : Value} (hr : (execOp a.eval o).run P w = .ok (.value v) w') :
    Steps P (lone (b.at a (.inRegion ops (i :: rest) :: k)) cs w) (lone (b.at (a.put o.dst v) (.inRegion ops rest :: k)) cs w') :=
  .one (step_lone_go (by rw [stepG_op ho hw, ← finish_at' ho]; simp [stepG.apply, hr]))
theorem go_skip (ho : ops[i]? = some o) (hw : Region.wanted o (yielded ops a.tmps) = true) (hr : (execOp a.eval o).run P w = .ok .skip w') :
    Steps P (lone (b.at a (.inRegion ops (i :: rest) :: k)) cs w) (lone (b.at (a.put o.dst undef) (.inRegion ops rest :: k)) cs w') :=
  .one (step_lone_go (by rw [stepG_op ho hw, ← finish_at' ho]; simp [stepG.apply, hr]))
theorem go_unwanted (ho : ops[i]? = some o) (hw : Region.wanted o (yielded ops a.tmps) = false) :
    Steps P (lone (b.at a (.inRegion ops (i :: rest) :: k)) cs w) (lone (b.at (a.put o.dst undef) (.inRegion ops rest :: k)) cs w) := by
  have hs := step_op_skip (P := P) (b := b) (a := a) (k := k) (cs := cs) (w := w) (ops := ops) (i := i) (rest := rest) (by simp [ho]; simpa using hw)
  simp only [ho, Option.bind_some] at hs
  exact .one hs
theorem go_missing (ho : ops[i]? = none) :
    Steps P (lone (b.at a (.inRegion ops (i :: rest) :: k)) cs w) (lone (b.at a (.inRegion ops rest :: k)) cs w) := by
  have hs := step_op_skip (P := P) (b := b) (a := a) (k := k) (cs := cs) (w := w) (ops := ops) (i := i) (rest := rest) (by simp [ho])
  simp only [ho, Option.bind_none, Act.put] at hs
  exact .one hs
theorem go_defer (ho : ops[i]? = some o) (hw : Region.wanted o (yielded ops a.tmps) = true) {d : Deferred} (hr : (execOp a.eval o).run P w = .ok (.defer d) w') :
    Steps P (lone (b.at a (.inRegion ops (i :: rest) :: k)) cs w) (lone (b.at ({ a with defers := d :: a.defers }.put o.dst undef) (.inRegion ops rest :: k)) cs w') := by
  refine .one (step_lone_go ?_)
  have : ({ b.at a (.inRegion ops (i :: rest) :: k) with defers := d :: a.defers } : Frame).finish undef =
      b.at ({ a with defers := d :: a.defers }.put o.dst undef) (.inRegion ops rest :: k) := by
    have := Frame.finish_at b { a with defers := d :: a.defers } ops i rest k undef
    rw [ho] at this; exact this
  rw [stepG_op ho hw]; simp only [stepG.apply, Sem.runT_eq, hr, GStep.bare_after]
  exact congrArg (fun fr => GStep.go { frame := fr, callers := cs, status := .running, dying := none } w') this
theorem go_panic (ho : ops[i]? = some o) (hw : Region.wanted o (yielded ops a.tmps) = true) {v : Value} (hr : (execOp a.eval o).run P w = .halt (.panic v) w') :
    Steps P (lone (b.at a (.inRegion ops (i :: rest) :: k)) cs w) (lone { b.at a (.inRegion ops (i :: rest) :: k) with mode := .panicking [{ v, recovered := false }] } cs w') :=
  .one (step_lone_go (by rw [stepG_op ho hw, ← Frame.raise_at]; simp [stepG.apply, hr]))
theorem go_recover (hk : b.kind = .deferred) (ho : ops[i]? = some o) (hw : Region.wanted o (yielded ops a.tmps) = true) (hr : (execOp a.eval o).run P w = .ok .recover w') :
    Steps P (lone (b.at a (.inRegion ops (i :: rest) :: k)) cs w) (match recoverD cs with
      | some (v, cs') => lone (b.at (a.put o.dst v) (.inRegion ops rest :: k)) cs' w'
      | none => lone (b.at (a.put o.dst .nilIface) (.inRegion ops rest :: k)) cs w') := by
  have hkk : (b.at a (.inRegion ops (i :: rest) :: k)).kind = .deferred := hk
  have htr := tryRecover_deferred hkk cs
  cases hrec : recoverD cs with
  | some q =>
    obtain ⟨v, cs'⟩ := q
    refine .one (step_lone_go ?_)
    rw [stepG_op ho hw, ← finish_at' ho]
    simp only [Frame.at] at htr ⊢
    simp [stepG.apply, hr, htr, hrec]
  | none =>
    refine .one (step_lone_go ?_)
    rw [stepG_op ho hw, ← finish_at' ho]
    simp only [Frame.at] at htr ⊢
    simp [stepG.apply, hr, htr, hrec]
theorem go_call_returned (ho : ops[i]? = some o) (hw : Region.wanted o (yielded ops a.tmps) = true) {f : FuncId} {args : Array Value} (hr : (execOp a.eval o).run P w = .ok (.enter f args) w')
    {v : Value} {w'' : World} {fr : Frame} (hs : Comes P (lone (Frame.enter P f args .normal) (b.at a (.inRegion ops (i :: rest) :: k) :: cs) w') (lone fr (b.at a (.inRegion ops (i :: rest) :: k) :: cs) w'') (.returned v))
    (hl : fr.leaving P w'' (.returned v)) :
    Steps P (lone (b.at a (.inRegion ops (i :: rest) :: k)) cs w) (lone (b.at (a.put o.dst v) (.inRegion ops rest :: k)) cs w'') := by
  have henter : step P (lone (b.at a (.inRegion ops (i :: rest) :: k)) cs w) = .next (lone (Frame.enter P f args .normal) (b.at a (.inRegion ops (i :: rest) :: k) :: cs) w') :=
    step_lone_go (by rw [stepG_op ho hw]; simp [stepG.apply, hr, Frame.at])
  refine .head henter (Steps.trans hs (.one ?_))
  rw [← finish_at' ho]; exact step_leave_returned hl
theorem go_call_panicked (ho : ops[i]? = some o) (hw : Region.wanted o (yielded ops a.tmps) = true) {f : FuncId} {args : Array Value} (hr : (execOp a.eval o).run P w = .ok (.enter f args) w')
    {chain : List PanicEntry} {w'' : World} {fr : Frame} (hs : Comes P (lone (Frame.enter P f args .normal) (b.at a (.inRegion ops (i :: rest) :: k) :: cs) w') (lone fr (b.at a (.inRegion ops (i :: rest) :: k) :: cs) w'') (.panicked chain))
    (hl : fr.leaving P w'' (.panicked chain)) :
    Steps P (lone (b.at a (.inRegion ops (i :: rest) :: k)) cs w) (lone { b.at a (.inRegion ops (i :: rest) :: k) with mode := .panicking chain } cs w'') := by
  have henter : step P (lone (b.at a (.inRegion ops (i :: rest) :: k)) cs w) = .next (lone (Frame.enter P f args .normal) (b.at a (.inRegion ops (i :: rest) :: k) :: cs) w') :=
    step_lone_go (by rw [stepG_op ho hw]; simp [stepG.apply, hr, Frame.at])
  refine .head henter (Steps.trans hs (.one ?_))
  rw [← Frame.raise_at]; exact step_leave_panicked hl
end
end Go.Mini
