import Derived.Test.YtjgmccbjffncaaaDoorMiniItoL
import Derived.Below
import Derived.Still
import Derived.IntWalk
import Derived.KernelRfl
set_option linter.unusedSimpArgs false
namespace Go.Mini
section
noncomputable def runL (P : Program) (G : Nat) (ops : Array Oper) : List Oper → Frm → Heap → Option (Frm × Heap)
 | [], fr, h => some (fr, h)
 | o :: l, fr, h => (awanted ops fr o).bind fun t =>
  if t then (aop P (aev G fr) o h).bind fun r =>
   match r with
   | (.val v, h1) => (fr.put o.dst v).bind fun fr1 => runL P G ops l fr1 h1
   | (.skip, h1) => (fr.put o.dst undef).bind fun fr1 => runL P G ops l fr1 h1
   | _ => none
  else (fr.put o.dst undef).bind fun fr1 => runL P G ops l fr1 h
section
variable {P : Program} {G : Nat} {Ext : FuncId → List Value → Heap → Value → Heap → Prop}
theorem runL_big {ops : Array Oper} {u : Option FrameMode} : ∀ (l : List Oper) (k : Nat) (is : List Nat) (fr fr' : Frm) (h h' : Heap), (∀ j p, l[j]? = some p → ops[k + j]? = some p) → runL P G ops l fr h = some (fr', h') →
  ∀ {o h2}, Big P G Ext (.ops ops is fr' u) h' o h2 → Big P G Ext (.ops ops ((List.range' k l.length) ++ is) fr u) h o h2
 | [], k, is, fr, fr', h, h', _, e, o, h2, hb => by
  simp only [runL, Option.some.injEq, Prod.mk.injEq] at e
  obtain ⟨rfl, rfl⟩ := e
  simpa using hb
 | p :: l, k, is, fr, fr', h, h', hl, e, o, h2, hb => by
  have hk : ops[k]? = some p := by simpa using hl 0 p rfl
  have hl' : ∀ j q, l[j]? = some q → ops[(k + 1) + j]? = some q := fun j q hq => by have := hl (j + 1) q (by simpa using hq); rwa [show k + (j + 1) = k + 1 + j by omega] at this
  simp only [runL] at e
  obtain ⟨t, ht, e⟩ := ob e
  simp only [List.length_cons, List.range'_succ, List.cons_append]
  cases t with
  | false =>
   simp only [Bool.false_eq_true, if_false] at e
   obtain ⟨fr1, hp, e⟩ := ob e
   exact .opsUnwanted hk ht hp (runL_big l (k + 1) is fr1 fr' h h' hl' e hb)
  | true =>
   simp only [if_true] at e
   obtain ⟨⟨r, h1⟩, hr, e⟩ := ob e
   cases r with
   | val v =>
    obtain ⟨fr1, hp, e⟩ := ob e
    exact .opsVal hk ht hr hp (runL_big l (k + 1) is fr1 fr' h1 h' hl' e hb)
   | skip =>
    obtain ⟨fr1, hp, e⟩ := ob e
    exact .opsSkip hk ht hr hp (runL_big l (k + 1) is fr1 fr' h1 h' hl' e hb)
   | _ => cases e
def Wp (P : Program) (G : Nat) (Ext : FuncId → List Value → Heap → Value → Heap → Prop) (c : Code) (fr : Frm) (u : Option FrameMode) (h : Heap) (Q : Exit → Frm → Option FrameMode → Heap → Prop) : Prop :=
 ∃ e fr' u' h', Big P G Ext (.code c fr u) h (.x e fr' u') h' ∧ Q e fr' u' h'
def WpO (P : Program) (G : Nat) (Ext : FuncId → List Value → Heap → Value → Heap → Prop) (ops : Array Oper) (l : List Nat) (fr : Frm) (u : Option FrameMode) (h : Heap) (Q : Exit → Frm → Option FrameMode → Heap → Prop) : Prop :=
 ∃ e fr' u' h', Big P G Ext (.ops ops l fr u) h (.x e fr' u') h' ∧ Q e fr' u' h'
def Does (P : Program) (G : Nat) (Ext : FuncId → List Value → Heap → Value → Heap → Prop) (f : FuncId) (args : List Value) (h : Heap) (R : Ending → Heap → Prop) : Prop :=
 ∃ e h', Big P G Ext (.call f args) h (.ends e) h' ∧ R e h'
variable {fr : Frm} {u : Option FrameMode} {h : Heap} {Q Q' : Exit → Frm → Option FrameMode → Heap → Prop}
theorem Wp.mono {c : Code} (hw : Wp P G Ext c fr u h Q) (hq : ∀ e fr u h, Q e fr u h → Q' e fr u h) : Wp P G Ext c fr u h Q' :=
 let ⟨e, fr', u', h', b, q⟩ := hw; ⟨e, fr', u', h', b, hq _ _ _ _ q⟩
theorem Does.mono {f : FuncId} {args : List Value} {R R' : Ending → Heap → Prop} (hw : Does P G Ext f args h R) (hq : ∀ e h, R e h → R' e h) : Does P G Ext f args h R' :=
 let ⟨e, h', b, q⟩ := hw; ⟨e, h', b, hq _ _ q⟩
def after (next : Frm → Option FrameMode → Heap → Prop) (Q : Exit → Frm → Option FrameMode → Heap → Prop) : Exit → Frm → Option FrameMode → Heap → Prop
 | .normal, fr, u, h => next fr u h
 | e, fr, u, h => Q e fr u h
theorem Wp.seq {a b : Code} (hw : Wp P G Ext a fr u h (after (fun fr u h => Wp P G Ext b fr u h Q) Q)) : Wp P G Ext (.seq a b) fr u h Q := by
 obtain ⟨e, fr1, u1, h1, b1, q⟩ := hw
 cases e with
 | normal =>
  obtain ⟨e2, fr2, u2, h2, b2, q2⟩ := q
  exact ⟨e2, fr2, u2, h2, .seq b1 b2, q2⟩
 | _ => exact ⟨_, fr1, u1, h1, .seqStop b1 (by simp), q⟩
theorem Wp.skip (hq : Q .normal fr u h) : Wp P G Ext .skip fr u h Q := ⟨_, _, _, _, .skip, hq⟩
theorem Wp.exit {id : Nat} (hq : Q (.exit id) fr u h) : Wp P G Ext (.exit id) fr u h Q := ⟨_, _, _, _, .exit, hq⟩
theorem Wp.ret (hq : Q .ret fr u h) : Wp P G Ext .ret fr u h Q := ⟨_, _, _, _, .ret, hq⟩
theorem Wp.cond {c : Operand} {a b : Code} {t : Bool} (hc : aev G fr c = some (.bool t)) (hw : Wp P G Ext (if t then a else b) fr u h Q) : Wp P G Ext (.cond c a b) fr u h Q :=
 let ⟨e, fr', u', h', b, q⟩ := hw; ⟨e, fr', u', h', .cond hc b, q⟩
theorem Wp.condT {c : Operand} {a b : Code} (hc : aev G fr c = some (.bool true)) (hw : Wp P G Ext a fr u h Q) : Wp P G Ext (.cond c a b) fr u h Q := Wp.cond hc (by simpa using hw)
theorem Wp.condF {c : Operand} {a b : Code} (hc : aev G fr c = some (.bool false)) (hw : Wp P G Ext b fr u h Q) : Wp P G Ext (.cond c a b) fr u h Q := Wp.cond hc (by simpa using hw)
def leaving (id : Nat) (Q : Exit → Frm → Option FrameMode → Heap → Prop) : Exit → Frm → Option FrameMode → Heap → Prop := fun e fr u h => Q (blockExit id e) fr u h
theorem Wp.block {id : Nat} {c : Code} (hw : Wp P G Ext c fr u h (leaving id Q)) : Wp P G Ext (.block id c) fr u h Q :=
 let ⟨_, fr', u', h', b, q⟩ := hw; ⟨_, fr', u', h', .block b, q⟩
theorem Wp.loop {c : Code} (hw : Wp P G Ext c fr u h (after (fun fr u h => Wp P G Ext (.loop c) fr u h Q) Q)) : Wp P G Ext (.loop c) fr u h Q := by
 obtain ⟨e, fr1, u1, h1, b1, q⟩ := hw
 cases e with
 | normal =>
  obtain ⟨e2, fr2, u2, h2, b2, q2⟩ := q
  exact ⟨e2, fr2, u2, h2, .loop b1 b2, q2⟩
 | _ => exact ⟨_, fr1, u1, h1, .loopStop b1 (by simp), q⟩
theorem Wp.weaken {c : Code} {fr' : Frm} (hle : fr'.le fr) (hw : Wp P G Ext c fr' u h Q) : Wp P G Ext c fr u h Q :=
 let ⟨e, fr1, u1, h1, b, q⟩ := hw; ⟨e, fr1, u1, h1, .weaken b hle, q⟩
theorem Wp.region {id : Nat} {ops : Array Oper} (hw : WpO P G Ext ops (List.range ops.size) fr u h Q) : Wp P G Ext (.region id ops false) fr u h Q :=
 let ⟨e, fr', u', h', b, q⟩ := hw; ⟨e, fr', u', h', .region b, q⟩
theorem Wp.run {id : Nat} {ops : List Oper} {fr' : Frm} {h' : Heap} (hr : runL P G ops.toArray ops fr h = some (fr', h')) (hq : Q .normal fr' u h') : Wp P G Ext (.region id ops.toArray false) fr u h Q := by
 refine Wp.region ⟨_, fr', u, h', ?_, hq⟩
 have := runL_big (Ext := Ext) (u := u) ops 0 [] fr fr' h h' (fun j p hj => by simpa using hj) hr .opsNil
 simpa [List.range_eq_range'] using this
theorem WpO.nil {ops : Array Oper} (hq : Q .normal fr u h) : WpO P G Ext ops [] fr u h Q := ⟨_, _, _, _, .opsNil, hq⟩
theorem WpO.call {ops : Array Oper} {i : Nat} {l : List Nat} {p : Oper} {f : FuncId} {args : List Value} {h1 : Heap} (hi : ops[i]? = some p) (hw : awanted ops fr p = some true) (ha : aop P (aev G fr) p h = some (.call f args, h1))
  (hd : Does P G Ext f args h1 fun e h2 => match e with
   | .returned v => ∃ fr1, fr.put p.dst v = some fr1 ∧ WpO P G Ext ops l fr1 u h2 Q
   | .panicked c => Q (.panic c) fr u h2
   | .outgrown => False) : WpO P G Ext ops (i :: l) fr u h Q := by
 obtain ⟨e, h2, b, q⟩ := hd
 cases e with
 | returned v =>
  obtain ⟨fr1, hp, e2, fr2, u2, h3, b2, q2⟩ := q
  exact ⟨e2, fr2, u2, h3, .opsCall hi hw ha b hp b2, q2⟩
 | panicked c => exact ⟨_, fr, u, h2, .opsCallPanic hi hw ha b, q⟩
 | outgrown => exact q.elim
theorem WpO.run {ops : Array Oper} (n : Nat) {k : Nat} {is : List Nat} {fr' : Frm} {h' : Heap} (hr : runL P G ops ((ops.toList.drop k).take n) fr h = some (fr', h')) (hn : k + n ≤ ops.size)
  (hw : WpO P G Ext ops is fr' u h' Q) : WpO P G Ext ops (List.range' k n ++ is) fr u h Q := by
 obtain ⟨e2, fr2, u2, h3, b2, q2⟩ := hw
 refine ⟨e2, fr2, u2, h3, ?_, q2⟩
 have hlen : ((ops.toList.drop k).take n).length = n := by simp; omega
 have := runL_big (Ext := Ext) (u := u) ((ops.toList.drop k).take n) k is fr fr' h h' ?_ hr b2
 ·rwa [hlen] at this
 ·intro j p hj
  rw [List.getElem?_take] at hj
  split at hj
  ·rwa [List.getElem?_drop, Array.getElem?_toList] at hj
  ·cases hj
theorem Does.body {f : FuncId} {args : List Value} {fn : Func} {c : Code} {R : Ending → Heap → Prop} (hf : P.funcs[f]? = some fn) (hb : fn.body = some c)
  (hw : Wp P G Ext c (enterF fn args) none h fun e fr' u' h' => u' = none ∧ fr'.defers = [] ∧ match e with
   | .normal | .ret => ∃ v, ares P fn fr' h' = some v ∧ R (.returned v) h'
   | .panic ch => R (.panicked ch) h'
   | _ => False) : Does P G Ext f args h R := by
 obtain ⟨e, fr1, u1, h1, b, rfl, hd, q⟩ := hw
 cases e with
 | normal => obtain ⟨v, hv, hr⟩ := q; exact ⟨_, h1, .call hf hb b rfl (by rw [hd]; exact .leaveRet hv), hr⟩
 | ret => obtain ⟨v, hv, hr⟩ := q; exact ⟨_, h1, .call hf hb b rfl (by rw [hd]; exact .leaveRet hv), hr⟩
 | panic ch => exact ⟨_, h1, .call hf hb b rfl (by rw [hd]; exact .leavePanic), q⟩
 | _ => exact q.elim
end
def heap0 (G : Nat) : Heap := ⟨G, .leaf⟩
def ren0 : Ren := ⟨id, fun _ => 0, fun _ => 0⟩
theorem heap0_get (G i : Nat) : (heap0 G).get i = none := by
 unfold heap0 Heap.get
 simp only [Tr.get_leaf]
 split <;> rfl
theorem heap0_rel (P : Program) (G : Nat) (w : World) : HRel P ⟨G, w.heap.size, w⟩ ren0 (heap0 G) w where
 gle := Nat.le_refl _
 glob i _ := ⟨rfl, rfl, rfl⟩
 obj i o hg := by rw [heap0_get] at hg; cases hg
 apart i j o p _ hi _ ho := by rw [heap0_get] at hi; cases hi
 frame _ _ := rfl
 size := Nat.le_refl _
 io := rfl
theorem HRel.below {P : Program} {S : Start} {m : Ren} {h : Heap} {w : World} (hr : HRel P S m h w) (hS : S.base = S.w0.heap.size) : Go.RowKit.Below S.base S.w0 w := by
 have hio := hr.io
 unfold Mini.io at hio
 simp only [Prod.mk.injEq] at hio
 exact ⟨hio.1, hio.2.1, hio.2.2, by rw [← hS]; exact hr.size, fun k hk => hr.frame k hk⟩
theorem Does.calls {P : Program} {S : Start} {Ext : FuncId → List Value → Heap → Value → Heap → Prop} (hext : ExtOk P S Ext) {f : FuncId} {args : List Value} {h : Heap} {m : Ren} {w : World}
  (hd : Does P S.G Ext f args h fun e _ => e = .returned (.bool true)) (hr : HRel P S m h w) (hs : ∀ x ∈ args, sc h.next x) (hS : S.base = S.w0.heap.size) :
  Calls P f (args.map (ren m)).toArray w fun e w' => e = .returned (.bool true) ∧ Go.RowKit.Below S.base S.w0 w' := by
 obtain ⟨e, h', hb, rfl⟩ := hd
 refine ((big_sound hext hb).1 m w hr hs).mono ?_
 rintro e w' ⟨m', _, _, h3, rfl, _⟩
 exact ⟨by simp [renN, ren], h3.below hS⟩
end
section
def isPure (o : Oper) : Bool :=
 match o.op with
 | .move _ | .assign _ | .pick .. | .build .. | .nilCheck _ | .unOp .. | .makeInterface .. | .makeFunc .. | .slice .. | .fieldAddr .. | .field .. | .indexAddr .. | .index .. | .typeAssert .. | .extract .. => true
 | .binOp op _ x y _ => !(isEqOp op && !isConstO x && !isConstO y)
 | .call c => match c.callee with
  | .builtin .max | .builtin .min => true
  | _ => false
 | _ => false
def isReader (o : Oper) : Bool :=
 match o.op with
 | .load .. => true
 | .binOp op _ x y _ => isEqOp op && !isConstO x && !isConstO y
 | .call c => match c.callee with
  | .builtin .len => true
  | _ => false
 | _ => false
def isLoud (o : Oper) : Bool := !isPure o && !isReader o
theorem aslice_indep {P : Program} {h h2 : Heap} {t : TypeId} {x v : Value} {lo hi mx : Option Value} (e : aslice P h t x lo hi mx = some (v, h)) : aslice P h2 t x lo hi mx = some (v, h2) := by
 unfold aslice at e ⊢
 split at e
 ·split at e
  ·cases e
  ·rename_i hmx
   obtain ⟨ti, h1, e⟩ := ob e
   obtain ⟨hh, h3, e⟩ := ob e
   obtain ⟨l, h4, e⟩ := ob e
   simp only [Option.some.injEq, Prod.mk.injEq, and_true] at e
   simp [hmx, h1, h3, h4, e]
 ·split at e
  ·cases e
  ·rename_i hmx
   obtain ⟨hh, h3, e⟩ := ob e
   obtain ⟨l, h4, e⟩ := ob e
   simp only [Option.some.injEq, Prod.mk.injEq, and_true] at e
   simp [hmx, h3, h4, e]
 ·obtain ⟨ti, h1, e⟩ := ob e
  simp only [h1, Option.bind_some]
  cases mx with
  | none =>
   simp only [] at e ⊢
   split at e
   ·rename_i hlc
    rw [if_pos hlc]
    obtain ⟨hh, h3, e⟩ := ob e
    obtain ⟨l, h4, e⟩ := ob e
    simp only [h3, h4, Option.bind_some]
    split at e
    ·simp only [Option.some.injEq, Prod.mk.injEq, and_true] at e; simp [e]
    ·split at e
     ·rename_i hne
      simp only [Option.some.injEq, Prod.mk.injEq, and_true] at e; simp [hne, e]
     ·rename_i hne
      split at e
      ·rename_i hsp
       simp only [Option.some.injEq, Prod.mk.injEq, and_true] at e; simp [hne, hsp, e]
      ·simp only [Option.some.injEq, Prod.mk.injEq] at e
       have := congrArg Heap.next e.2
       simp at this
   ·cases e
  | some mv =>
   simp only [] at e ⊢
   obtain ⟨mm, h2', e⟩ := ob e
   obtain ⟨hh, h3, e⟩ := ob e
   obtain ⟨l, h4, e⟩ := ob e
   simp only [h2', h3, h4, Option.bind_some]
   split at e
   ·rename_i hhi
    rw [if_pos hhi]
    split at e
    ·cases e
    ·simp only [Option.some.injEq, Prod.mk.injEq, and_true] at e; simp [e]
   ·cases e
 ·cases e
theorem aop_pure {P : Program} {ρ : Operand → Option Value} {o : Oper} {h h2 : Heap} {v : Value} (hp : isPure o = true) (e : aop P ρ o h = some (.val v, h)) : aop P ρ o h2 = some (.val v, h2) := by
 obtain ⟨dst, op, type, pos, after, guard⟩ := o
 cases op <;> simp only [isPure] at hp <;> try (cases hp; done)
 case call c =>
  obtain ⟨callee, args, ats⟩ := c
  cases callee with
  | builtin b =>
   cases b <;> try (cases hp; done)
   all_goals
    simp only [aop] at e ⊢
    obtain ⟨as, has, e⟩ := ob e
    simp only [has, Option.bind_some]
    unfold abuiltin at e ⊢
    simp only [] at e ⊢
    obtain ⟨r, hr, e⟩ := ob e
    simp only [Option.some.injEq, Prod.mk.injEq, AN.val.injEq, and_true] at e
    simp [hr, e]
  | _ => cases hp
 case slice t x lo hi mx =>
  simp only [aop] at e ⊢
  obtain ⟨a, ha, e⟩ := ob e
  obtain ⟨l, hl, e⟩ := ob e
  obtain ⟨hh, hhh, e⟩ := ob e
  obtain ⟨mm, hmm, e⟩ := ob e
  obtain ⟨⟨v', h'⟩, hs, e⟩ := ob e
  simp only [Option.some.injEq, Prod.mk.injEq, AN.val.injEq] at e
  obtain ⟨rfl, rfl⟩ := e
  simp only [ha, hl, hhh, hmm, Option.bind_some, aslice_indep (h2 := h2) hs]
 case pick c a b =>
  simp only [aop] at e ⊢
  obtain ⟨cv, hc, e⟩ := ob e
  simp only [hc, Option.bind_some]
  cases cv <;> try (cases e; done)
  obtain ⟨r, hr, e⟩ := ob e
  simp only [Option.some.injEq, Prod.mk.injEq, AN.val.injEq, and_true] at e
  simp [hr, e]
 case nilCheck x =>
  simp only [aop] at e ⊢
  obtain ⟨cv, hc, e⟩ := ob e
  simp only [hc, Option.bind_some]
  split at e
  ·rename_i hn
   simp only [Option.some.injEq, Prod.mk.injEq, AN.val.injEq, and_true] at e
   subst e
   simp [hn]
  ·cases e
 case binOp op t x y yt =>
  have hp' : (isEqOp op && !isConstO x && !isConstO y) = false := Bool.not_eq_true' _ ▸ hp
  simp only [aop, hp', binA, Bool.false_eq_true, if_false] at e ⊢
  obtain ⟨a, ha, e⟩ := ob e
  obtain ⟨b, hb, e⟩ := ob e
  obtain ⟨u, hu, e⟩ := ob e
  simp only [Option.some.injEq, Prod.mk.injEq, AN.val.injEq, and_true] at e
  subst e
  simp only [ha, hb, hu, Option.bind_some]
 case makeInterface t x =>
  simp only [aop] at e ⊢
  obtain ⟨cv, hc, e⟩ := ob e
  simp only [hc, Option.bind_some]
  split at e
  ·split at e
   ·cases e
   ·simp only [Option.some.injEq, Prod.mk.injEq, AN.val.injEq, and_true] at e
    simp [e]
  ·cases e
 all_goals
  simp only [aop] at e ⊢
  repeat (first
   | (obtain ⟨_, hx, e⟩ := ob e; rw [hx, Option.bind_some])
   | (simp only [Option.some.injEq, Prod.mk.injEq, AN.val.injEq, and_true] at e; subst e; rfl))
theorem evs_congr {ρ ρ' : Operand → Option Value} : ∀ {l : List Operand}, (∀ x ∈ l, ρ x = ρ' x) → evs ρ l = evs ρ' l
 | [], _ => rfl
 | x :: l, h => by simp only [evs]; rw [h x (by simp), evs_congr fun y hy => h y (by simp [hy])]
theorem evp_congr {ρ ρ' : Operand → Option Value} : ∀ {l : List (Nat × Operand)}, (∀ x ∈ l, ρ x.2 = ρ' x.2) → evp ρ l = evp ρ' l
 | [], _ => rfl
 | x :: l, h => by simp only [evp]; rw [h x (by simp), evp_congr fun y hy => h y (by simp [hy])]
theorem evo_congr {ρ ρ' : Operand → Option Value} {x : Option Operand} (h : ∀ y, x = some y → ρ y = ρ' y) : evo ρ x = evo ρ' x := by
 cases x with
 | none => rfl
 | some y => simp only [evo]; rw [h y rfl]
theorem aop_congr {P : Program} {ρ ρ' : Operand → Option Value} {o : Oper} {h : Heap} (hx : ∀ x ∈ o.op.operands, ρ x = ρ' x) (hg : ∀ g, ρ (.global g) = ρ' (.global g)) : aop P ρ o h = aop P ρ' o h := by
 have hext : (fun g => ρ (.global g)) = fun g => ρ' (.global g) := funext hg
 obtain ⟨dst, op, type, pos, after, guard⟩ := o
 cases op <;> simp only [Op.operands] at hx <;> simp only [aop]
 case build t ps => rw [evp_congr fun x hm => hx x.2 (by simp only [List.mem_toArray, List.mem_map]; exact ⟨x, hm, rfl⟩)]
 case buildSlice t n ps => rw [evp_congr fun x hm => hx x.2 (by simp only [List.mem_toArray, List.mem_map]; exact ⟨x, hm, rfl⟩)]
 case pick c a b =>
  rw [hx c (by simp)]
  congr 1
  funext cv
  cases cv <;> try rfl
  rename_i t
  cases t
  ·simp only [Bool.false_eq_true, if_false]; rw [hx b (by simp)]
  ·simp only [if_true]; rw [hx a (by simp)]
 case makeFunc fn first captured =>
  rw [evs_congr fun x hm => hx x (by simp; exact .inl (by simpa using hm)), evs_congr (l := captured.toList) fun x hm => hx x (by simp; exact .inr (by simpa using hm))]
 case lookup t x k ok => rw [hx x (by simp), hx k (by simp)]
 case mapUpdate t x k y => rw [hx x (by simp), hx k (by simp), hx y (by simp)]
 case insert t x k y => rw [hx x (by simp), hx k (by simp), hx y (by simp)]
 case makeMap t r => rw [evo_congr fun y hy => hx y (by subst hy; simp)]
 case slice t x lo hi mx =>
  rw [hx x (by simp), evo_congr (x := lo) fun y hy => hx y (by subst hy; simp), evo_congr (x := hi) fun y hy => hx y (by subst hy; simp), evo_congr (x := mx) fun y hy => hx y (by subst hy; simp)]
 case call c =>
  obtain ⟨callee, args, ats⟩ := c
  simp only [Call.operands] at hx
  cases callee with
  | value f => simp only [hext]; rw [hx f (by simp), evs_congr (l := args.toList) fun x hm => hx x (by simp; exact .inr (by simpa using hm))]
  | builtin b => simp only []; rw [evs_congr (l := args.toList) fun x hm => hx x (by simpa using hm)]
  | invoke r s => rfl
 case defer c =>
  obtain ⟨callee, args, ats⟩ := c
  simp only [Call.operands] at hx
  cases callee with
  | value f => simp only []; rw [hx f (by simp), evs_congr (l := args.toList) fun x hm => hx x (by simp; exact .inr (by simpa using hm))]
  | _ => rfl
 case store t a x => rw [hx a (by simp), hx x (by simp)]
 case binOp op t x y yt => rw [hx x (by simp), hx y (by simp)]
 case makeSlice t l c => rw [hx l (by simp), hx c (by simp)]
 case indexAddr t x i => rw [hx x (by simp), hx i (by simp)]
 case index t x i => rw [hx x (by simp), hx i (by simp)]
 all_goals first
  | rfl
  | (rename_i x; rw [hx x (by simp)])
  | (rename_i x _; rw [hx x (by simp)])
  | (rename_i x _ _; rw [hx x (by simp)])
  | (rename_i x _ _ _; rw [hx x (by simp)])
def maskE (acc : List Nat) (s : Nat) (e : Edge) : Nat := if Region.binds .any e then s ||| 2 ^ e.on ||| acc.getD e.on 0 else s
def maskOf (acc : List Nat) (o : Oper) : Nat := o.after.toList.foldl (maskE acc) 0
def masks (acc : List Nat) : List Oper → List Nat
 | [] => acc
 | o :: l => masks (acc ++ [maskOf acc o]) l
theorem masks_prefix : ∀ (l : List Oper) (acc : List Nat) (i : Nat), i < acc.length → (masks acc l)[i]? = acc[i]?
 | [], acc, i, _ => rfl
 | o :: l, acc, i, hi => by
  simp only [masks]
  rw [masks_prefix l _ i (by simp; omega), List.getElem?_append_left hi]
theorem masks_at : ∀ (l : List Oper) (acc : List Nat) (j : Nat) (o : Oper), l[j]? = some o → ∃ acc', (masks acc l)[acc.length + j]? = some (maskOf acc' o) ∧ ∀ i, i < acc.length + j → acc'[i]? = (masks acc l)[i]?
 | [], acc, j, o, h => by simp at h
 | p :: l, acc, 0, o, h => by
  simp only [List.getElem?_cons_zero, Option.some.injEq] at h
  subst h
  refine ⟨acc, ?_, fun i hi => ?_⟩
  ·simp only [masks, Nat.add_zero]
   rw [masks_prefix l _ _ (by simp), List.getElem?_append_right (Nat.le_refl _)]
   simp
  ·simp only [masks]
   rw [masks_prefix l _ i (by simp; omega), List.getElem?_append_left (by omega)]
 | p :: l, acc, j + 1, o, h => by
  simp only [List.getElem?_cons_succ] at h
  obtain ⟨acc', h1, h2⟩ := masks_at l (acc ++ [maskOf acc p]) j o h
  simp only [List.length_append, List.length_singleton] at h1 h2
  refine ⟨acc', ?_, fun i hi => ?_⟩
  ·simp only [masks]; rw [← h1]; congr 1; omega
  ·simp only [masks]; exact h2 i (by omega)
theorem foldl_maskE (acc : List Nat) (j : Nat) : ∀ (es : List Edge) (s : Nat), (es.foldl (maskE acc) s).testBit j = true → s.testBit j = true ∨ ∃ e ∈ es, Region.binds .any e = true ∧ (j = e.on ∨ (acc.getD e.on 0).testBit j = true)
 | [], s, h => .inl h
 | e :: es, s, h => by
  simp only [List.foldl_cons] at h
  rcases foldl_maskE acc j es _ h with h | ⟨e', he', hb, hj⟩
  ·unfold maskE at h
   split at h
   ·rename_i hb
    simp only [Nat.testBit_or, Bool.or_eq_true] at h
    rcases h with (h | h) | h
    ·exact .inl h
    ·refine .inr ⟨e, by simp, hb, .inl ?_⟩
     rw [Nat.testBit_two_pow] at h
     simpa using (of_decide_eq_true h).symm
    ·exact .inr ⟨e, by simp, hb, .inr h⟩
   ·exact .inl h
  ·exact .inr ⟨e', by simp [he'], hb, hj⟩
def ahead (ops : List Oper) (i j : Nat) : Bool := ((masks [] ops).getD j 0).testBit i
theorem ahead_closed (ops : List Oper) (L : Nat → Prop) (hback : ∀ i o, ops[i]? = some o → ∀ e ∈ o.after, Region.binds .any e = true → e.on < i)
  (hdown : ∀ i o, L i → ops[i]? = some o → ∀ e ∈ o.after, Region.binds .any e = true → L e.on) :
  ∀ (j : Nat) (o : Oper), ops[j]? = some o → (∀ e ∈ o.after, Region.binds .any e = true → L e.on) → ∀ i, ahead ops i j = true → L i := by
 intro j
 induction j using Nat.strongRecOn with
 | _ j ih =>
  intro o ho hall i ha
  obtain ⟨acc, h1, h2⟩ := masks_at ops [] j o ho
  simp only [List.length_nil, Nat.zero_add] at h1 h2
  unfold ahead at ha
  rw [List.getD_eq_getElem?_getD, h1, Option.getD_some] at ha
  unfold maskOf at ha
  rcases foldl_maskE acc i _ _ ha with h | ⟨e, he, hb, h⟩
  ·simp at h
  ·have he' : e ∈ o.after := by simpa using he
   have hlt := hback j o ho e he' hb
   have hL := hall e he' hb
   rcases h with h | h
   ·rw [h]; exact hL
   ·have hlen : e.on < ops.length := by
     have : j < ops.length := by
      rcases Nat.lt_or_ge j ops.length with q | q
      ·exact q
      ·rw [List.getElem?_eq_none q] at ho; cases ho
     omega
    have hoo : ops[e.on]? = some ops[e.on] := List.getElem?_eq_getElem hlen
    refine ih e.on hlt _ hoo (fun e2 he2 hb2 => hdown e.on _ hL hoo e2 he2 hb2) i ?_
    unfold ahead
    rw [List.getD_eq_getElem?_getD, ← h2 e.on hlt, ← List.getD_eq_getElem?_getD]
    exact h
section
variable {P : Program} {G : Nat} {Ext : FuncId → List Value → Heap → Value → Heap → Prop} {ops : List Oper}
inductive St (P : Program) (G : Nat) (Ext : FuncId → List Value → Heap → Value → Heap → Prop) (ops : List Oper) (o : Oper) (F : Frm) (H : Heap) : Value → Heap → Prop where
 | unwanted : awanted ops.toArray F o = some false → St P G Ext ops o F H undef H
 | val {v H'} : awanted ops.toArray F o = some true → aop P (aev G F) o H = some (.val v, H') → St P G Ext ops o F H v H'
 | skip {H'} : awanted ops.toArray F o = some true → aop P (aev G F) o H = some (.skip, H') → St P G Ext ops o F H undef H'
 | call {f args H1 v H'} : awanted ops.toArray F o = some true → aop P (aev G F) o H = some (.call f args, H1) → Big P G Ext (.call f args) H1 (.ends (.returned v)) H' → St P G Ext ops o F H v H'
theorem St.big {o : Oper} {i : Nat} {F F' : Frm} {H H' : Heap} {v : Value} (hs : St P G Ext ops o F H v H') (hi : ops[i]? = some o) (hp : F.put o.dst v = some F') {l : List Nat} {u : Option FrameMode} {out : Out} {H2 : Heap}
  (hb : Big P G Ext (.ops ops.toArray l F' u) H' out H2) : Big P G Ext (.ops ops.toArray (i :: l) F u) H out H2 := by
 have hi' : ops.toArray[i]? = some o := by simpa using hi
 cases hs with
 | unwanted hw => exact .opsUnwanted hi' hw hp hb
 | val hw ha => exact .opsVal hi' hw ha hp hb
 | skip hw ha => exact .opsSkip hi' hw ha hp hb
 | call hw ha hc => exact .opsCall hi' hw ha hc hp hb
theorem aev_congr {F F2 : Frm} {o : Oper} (h : ∀ s ∈ o.looksAt ops.toArray, look s F.slots = look s F2.slots) : ∀ x ∈ o.op.operands, aev G F x = aev G F2 x := by
 intro x hx
 cases x with
 | tmp t => exact h t (List.mem_append_left _ (List.mem_filterMap.2 ⟨.tmp t, by simpa using hx, rfl⟩))
 | _ => rfl
theorem awanted_congr {F F2 : Frm} {o : Oper} (h : ∀ s ∈ o.looksAt ops.toArray, look s F.slots = look s F2.slots) : awanted ops.toArray F o = awanted ops.toArray F2 o := by
 unfold awanted
 cases hg : o.guard with
 | none => rfl
 | some g =>
  obtain ⟨j, want⟩ := g
  simp only []
  cases hd : (ops.toArray[j]?).bind (·.dst) with
  | none => rfl
  | some d =>
   simp only []
   rw [h d (by unfold Oper.looksAt; rw [hg]; exact List.mem_append_right _ (by simp only [hd]; simp))]
theorem St.congr {o : Oper} {F F2 : Frm} {H H' : Heap} {v : Value} (hs : St P G Ext ops o F H v H') (h : ∀ s ∈ o.looksAt ops.toArray, look s F.slots = look s F2.slots) : St P G Ext ops o F2 H v H' := by
 have h1 := awanted_congr h
 have h2 : aop P (aev G F) o = aop P (aev G F2) o := funext fun H => aop_congr (aev_congr h) fun _ => rfl
 cases hs with
 | unwanted hw => exact .unwanted (h1 ▸ hw)
 | val hw ha => exact .val (h1 ▸ hw) (h2 ▸ ha)
 | skip hw ha => exact .skip (h1 ▸ hw) (h2 ▸ ha)
 | call hw ha hc => exact .call (h1 ▸ hw) (h2 ▸ ha) hc
def vat (ops : List Oper) (V : Nat → Value) (fr : Frm) (t : Nat) (L : Nat → Bool) : Nat → Option Value
 | 0 => look t fr.slots
 | k + 1 => if L k = true ∧ (ops[k]?).bind (·.dst) = some t then some (V k) else vat ops V fr t L k
theorem vat_congr {V : Nat → Value} {fr : Frm} {t : Nat} {L L' : Nat → Bool} : ∀ (k : Nat), (∀ j, j < k → (ops[j]?).bind (·.dst) = some t → L j = L' j) → vat ops V fr t L k = vat ops V fr t L' k
 | 0, _ => rfl
 | k + 1, h => by
  simp only [vat]
  by_cases hd : (ops[k]?).bind (·.dst) = some t
  ·rw [h k (by omega) hd, vat_congr k fun j hj => h j (by omega)]
  ·simp only [hd, and_false, if_false]
   exact vat_congr k fun j hj => h j (by omega)
theorem vat_top {V : Nat → Value} {fr : Frm} {t i : Nat} {L : Nat → Bool} (hL : L i = true) (hd : (ops[i]?).bind (·.dst) = some t) : ∀ (k : Nat), i < k → (∀ j, i < j → j < k → (ops[j]?).bind (·.dst) = some t → L j = false) → vat ops V fr t L k = some (V i)
 | 0, h, _ => by omega
 | k + 1, h, hno => by
  simp only [vat]
  by_cases e : k = i
  ·subst e; rw [if_pos ⟨hL, hd⟩]
  ·rw [if_neg (fun q => by have := hno k (by omega) (by omega) q.2; rw [this] at q; cases q.1)]
   exact vat_top hL hd k (by omega) fun j h1 h2 => hno j h1 (by omega)
theorem vat_below {V : Nat → Value} {fr : Frm} {t i : Nat} : ∀ (k : Nat), i ≤ k → vat ops V fr t (fun j => decide (j < i)) k = vat ops V fr t (fun _ => true) i
 | 0, h => by
  have : i = 0 := by omega
  subst this; rfl
 | k + 1, h => by
  by_cases e : i = k + 1
  ·subst e
   exact vat_congr (k + 1) fun j hj _ => by simp [hj]
  ·simp only [vat]
   rw [if_neg (by simp; omega)]
   exact vat_below k (by omega)
def clash (ops : List Oper) (x y : Oper) : Bool :=
 (match x.dst with | some d => (y.looksAt ops.toArray).contains d || y.dst == some d | none => false) ||
 (match y.dst with | some d => (x.looksAt ops.toArray).contains d | none => false)
def Closed (ops : List Oper) (L : Nat → Bool) : Prop := ∀ i o, ops[i]? = some o → L i = true → ∀ e ∈ o.after, Region.binds .any e = true → L e.on = true
def also (L : Nat → Bool) (i : Nat) : Nat → Bool := fun j => if j = i then true else L j
structure Drawn (P : Program) (G : Nat) (Ext : FuncId → List Value → Heap → Value → Heap → Prop) (ops : List Oper) (V : Nat → Value) (HS : (Nat → Bool) → Heap) (FF : Nat → Frm) : Prop where
 back : ∀ i o, ops[i]? = some o → ∀ e ∈ o.after, Region.binds .any e = true → e.on < i
 slot : ∀ i j x y, i < j → ops[i]? = some x → ops[j]? = some y → clash ops x y = true → ahead ops i j = true
 ext : ∀ L L', (∀ j, j < ops.length → L j = L' j) → HS L = HS L'
 st : ∀ L i o, Closed ops L → ops[i]? = some o → L i = false → (∀ e ∈ o.after, Region.binds .any e = true → L e.on = true) → St P G Ext ops o (FF i) (HS L) (V i) (HS (also L i))
 put : ∀ i o, ops[i]? = some o → (FF i).put o.dst (V i) = some (FF (i + 1))
theorem lt_length {i : Nat} {o : Oper} (h : ops[i]? = some o) : i < ops.length := by
 rcases Nat.lt_or_ge i ops.length with q | q
 ·exact q
 ·rw [List.getElem?_eq_none q] at h; cases h
variable {V : Nat → Value} {HS : (Nat → Bool) → Heap} {FF : Nat → Frm}
theorem put_size {F F' : Frm} {d : Option Nat} {v : Value} (h : F.put d v = some F') : F'.size = F.size ∧ F'.defers = F.defers := by
 unfold Frm.put at h
 split at h
 ·cases h; exact ⟨rfl, rfl⟩
 ·split at h
  ·cases h; exact ⟨rfl, rfl⟩
  ·cases h
theorem put_look {F F' : Frm} {d : Option Nat} {v : Value} (h : F.put d v = some F') (t : Nat) : look t F'.slots = if d = some t then some v else look t F.slots := by
 unfold Frm.put at h
 split at h
 ·cases h; simp
 ·rename_i d
  split at h
  ·cases h
   simp only [look_setk, Option.some.injEq]
   by_cases e : t = d
   ·subst e; simp
   ·rw [if_neg e, if_neg (Ne.symm e)]
  ·cases h
theorem put_ok {F F1 F2 : Frm} {d : Option Nat} {v w : Value} (h : F.put d v = some F1) (hs : F2.size = F.size) : ∃ F3, F2.put d w = some F3 := by
 unfold Frm.put at h ⊢
 cases d with
 | none => exact ⟨_, rfl⟩
 | some d =>
  simp only [] at h ⊢
  split at h
  ·rename_i hd
   rw [hs, if_pos hd]; exact ⟨_, rfl⟩
  ·cases h
theorem Drawn.frames (hd : Drawn P G Ext ops V HS FF) : ∀ i, i ≤ ops.length → (FF i).size = (FF 0).size ∧ (FF i).defers = (FF 0).defers ∧ ∀ t, look t (FF i).slots = vat ops V (FF 0) t (fun _ => true) i
 | 0, _ => ⟨rfl, rfl, fun _ => rfl⟩
 | i + 1, hi => by
  obtain ⟨h1, h2, h3⟩ := hd.frames i (by omega)
  have ho : ops[i]? = some ops[i] := List.getElem?_eq_getElem (by omega)
  have hp := hd.put i _ ho
  obtain ⟨q1, q2⟩ := put_size hp
  refine ⟨q1.trans h1, q2.trans h2, fun t => ?_⟩
  rw [put_look hp, h3 t]
  simp only [vat, ho, Option.bind_some, true_and]
theorem clash_of {x y : Oper} {t : Nat} (hx : x.dst = some t) (hy : t ∈ y.looksAt ops.toArray ∨ y.dst = some t) : clash ops x y = true := by
 unfold clash
 rw [hx]
 simp only [Bool.or_eq_true]
 left
 rcases hy with hy | hy
 ·left; simpa using hy
 ·right; simp [hy]
theorem clash_of' {x y : Oper} {t : Nat} (hy : y.dst = some t) (hx : t ∈ x.looksAt ops.toArray) : clash ops x y = true := by
 unfold clash
 rw [hy]
 simp only [Bool.or_eq_true]
 right
 simpa using hx
theorem Drawn.go (hd : Drawn P G Ext ops V HS FF) {u : Option FrameMode} : ∀ (fuel t : Nat) (listed : Array Bool) (F : Frm), listed.size = ops.length →
  (∀ i o, ops[i]? = some o → listed.getD i true = true → ∀ e ∈ o.after, Region.binds .any e = true → listed.getD e.on false = true) →
  F.size = (FF 0).size → F.defers = (FF 0).defers → (∀ s, look s F.slots = vat ops V (FF 0) s (fun j => listed.getD j true) ops.length) →
  ((List.range ops.length).filter fun j => !listed.getD j true).length ≤ fuel →
  ∃ F', Big P G Ext (.ops ops.toArray (Region.linearise.go .any ops.toArray fuel t listed []) F u) (HS fun j => listed.getD j true) (.x .normal F' u) (HS fun _ => true) ∧ (FF ops.length).le F' := by
 intro fuel
 induction fuel with
 | zero =>
  intro t listed F hsz hdown h1 h2 h3 hfuel
  have hall : ∀ j, j < ops.length → listed.getD j true = true := by
   intro j hj
   have hnil : ((List.range ops.length).filter fun j => !listed.getD j true) = [] := List.length_eq_zero_iff.1 (by omega)
   have := (List.filter_eq_nil_iff.1 hnil) j (by simpa using hj)
   simpa using this
  refine ⟨F, ?_, ?_⟩
  ·simp only [Region.linearise.go, List.reverse_nil]
   rw [hd.ext (fun j => listed.getD j true) (fun _ => true) hall]
   exact .opsNil
  ·obtain ⟨g1, g2, g3⟩ := hd.frames ops.length (Nat.le_refl _)
   refine ⟨by rw [g1, h1], by rw [g2, h2], fun s v hs => ?_⟩
   rw [h3, vat_congr (L' := fun _ => true) ops.length fun j hj _ => hall j hj, ← g3]
   exact hs
 | succ fuel ih =>
  intro t listed F hsz hdown h1 h2 h3 hfuel
  simp only [Region.linearise.go]
  change ∃ F', Big P G Ext (.ops ops.toArray (match (Region.ready .any ops.toArray listed)[t % (Region.ready .any ops.toArray listed).length]? with
   | some i => Region.linearise.go .any ops.toArray fuel (t / (Region.ready .any ops.toArray listed).length) (listed.setIfInBounds i true) [i]
   | none => [].reverse) F u) (HS fun j => listed.getD j true) (.x .normal F' u) (HS fun _ => true) ∧ (FF ops.length).le F'
  have hgd : ∀ j, j < ops.length → listed.getD j false = listed.getD j true := by
   intro j hj
   have : j < listed.size := by omega
   simp [this]
  cases hi : (Region.ready .any ops.toArray listed)[t % (Region.ready .any ops.toArray listed).length]? with
  | none =>
   have hnil : Region.ready .any ops.toArray listed = [] := by
    cases hr : Region.ready .any ops.toArray listed with
    | nil => rfl
    | cons x xs =>
     rw [hr] at hi
     have hlt : t % (x :: xs).length < (x :: xs).length := Nat.mod_lt _ (by simp)
     rw [List.getElem?_eq_getElem hlt] at hi
     cases hi
   -- then every operation is done
   have hall : ∀ j, j < ops.length → listed.getD j true = true := by
    intro j
    induction j using Nat.strongRecOn with
    | _ j ihj =>
     intro hj
     cases e : listed.getD j true with
     | true => rfl
     | false =>
      have ho : ops[j]? = some ops[j] := List.getElem?_eq_getElem hj
      have : j ∈ Region.ready .any ops.toArray listed := mem_ready.2 ⟨e, ops[j], by simp, fun ed hed hb => by
       have hlt := hd.back j _ ho ed hed hb
       rw [hgd ed.on (by omega)]
       exact ihj ed.on hlt (by omega)⟩
      rw [hnil] at this; cases this
   obtain ⟨F', b, hle⟩ := ih 0 listed F hsz hdown h1 h2 h3 (by
    have : ((List.range ops.length).filter fun j => !listed.getD j true) = [] := List.filter_eq_nil_iff.2 fun j hj => by simp [hall j (by simpa using hj)]
    rw [this]; simp)
   have hgo : Region.linearise.go .any ops.toArray fuel 0 listed [] = [] := by
    cases fuel with
    | zero => rfl
    | succ f =>
     simp only [Region.linearise.go]
     change (match (Region.ready .any ops.toArray listed)[0 % (Region.ready .any ops.toArray listed).length]? with
      | some i => Region.linearise.go .any ops.toArray f (0 / (Region.ready .any ops.toArray listed).length) (listed.setIfInBounds i true) [i]
      | none => [].reverse) = []
     rw [hnil]; rfl
   rw [hgo] at b
   exact ⟨F', b, hle⟩
  | some i =>
   simp only []
   rw [linearise_go_acc, List.reverse_singleton, List.singleton_append]
   have hmem : i ∈ Region.ready .any ops.toArray listed := List.mem_of_getElem? hi
   obtain ⟨hun, o, ho', hpre⟩ := mem_ready.1 hmem
   have ho : ops[i]? = some o := by simpa using ho'
   have hil := lt_length ho
   -- what is met
   have hclosed : ∀ j, ahead ops j i = true → listed.getD j false = true := ahead_closed ops (fun j => listed.getD j false = true) hd.back
    (fun j x hj hx => hdown j x hx (by rw [← hgd j (lt_length hx)]; exact hj)) i o ho hpre
   have hnot : ∀ j x, ops[j]? = some x → ahead ops i j = true → listed.getD j true = false := by
    intro j x hx ha
    cases e : listed.getD j true with
    | false => rfl
    | true =>
     have := ahead_closed ops (fun j => listed.getD j false = true) hd.back (fun j x hj hx => hdown j x hx (by rw [← hgd j (lt_length hx)]; exact hj)) j x hx (hdown j x hx e) i ha
     rw [hgd i hil, hun] at this; cases this
   -- the slots that it looks at are as in the text's order
   have hlook : ∀ s ∈ o.looksAt ops.toArray, look s (FF i).slots = look s F.slots := by
    intro s hs
    rw [(hd.frames i (by omega)).2.2 s, h3 s, ← vat_below ops.length (by omega)]
    refine vat_congr ops.length fun j hj hdj => ?_
    have hoj : ops[j]? = some ops[j] := List.getElem?_eq_getElem hj
    rw [hoj, Option.bind_some] at hdj
    by_cases hji : j < i
    ·have := hclosed j (hd.slot j i _ _ hji hoj ho (clash_of hdj (.inl hs)))
     rw [hgd j hj] at this
     simp [hji, this]
    ·by_cases hij : j = i
     ·subst hij
      simp [hun]
     ·have := hnot j _ hoj (hd.slot i j _ _ (by omega) ho hoj (clash_of' hdj hs))
      simp [hji, this]
   -- the step
   obtain ⟨F2, hp2⟩ := put_ok (F2 := F) (w := V i) (hd.put i o ho) (by rw [h1, (hd.frames i (by omega)).1])
   obtain ⟨q1, q2⟩ := put_size hp2
   have hst : St P G Ext ops o F (HS fun j => listed.getD j true) (V i) (HS fun j => (listed.setIfInBounds i true).getD j true) := by
    have hcl : Closed ops fun j => listed.getD j true := fun j x hx hj e he hb => by
     have := hdown j x hx hj e he hb
     rwa [hgd e.on (Nat.lt_trans (hd.back j x hx e he hb) (lt_length hx))] at this
    have h := St.congr (hd.st _ i o hcl ho hun fun e he hb => by
     have := hpre e he hb
     rwa [hgd e.on (Nat.lt_trans (hd.back i o ho e he hb) hil)] at this) hlook
    rw [hd.ext (also (fun j => listed.getD j true) i) (fun j => (listed.setIfInBounds i true).getD j true) fun j hj => ?_] at h
    ·exact h
    ·unfold also
     by_cases e : j = i
     ·subst e; simp [show j < listed.size by omega]
     ·rw [if_neg e, getD_set_ne true (Ne.symm e)]
   have hdown' : ∀ j x, ops[j]? = some x → (listed.setIfInBounds i true).getD j true = true → ∀ e ∈ x.after, Region.binds .any e = true → (listed.setIfInBounds i true).getD e.on false = true := by
    intro j x hx hj e he hb
    refine getD_set_true ?_
    by_cases e1 : j = i
    ·subst e1
     rw [ho] at hx; cases hx
     exact hpre e he hb
    ·rw [getD_set_ne true (Ne.symm e1)] at hj
     exact hdown j x hx hj e he hb
   have hlook' : ∀ s, look s F2.slots = vat ops V (FF 0) s (fun j => (listed.setIfInBounds i true).getD j true) ops.length := by
    intro s
    rw [put_look hp2]
    by_cases e : o.dst = some s
    ·rw [if_pos e]
     refine (vat_top (i := i) (by simp [show i < listed.size by omega]) (by rw [ho]; exact e) ops.length hil fun j hij hj hdj => ?_).symm
     have hoj : ops[j]? = some ops[j] := List.getElem?_eq_getElem hj
     rw [hoj, Option.bind_some] at hdj
     rw [getD_set_ne true (by omega)]
     exact hnot j _ hoj (hd.slot i j _ _ hij ho hoj (clash_of e (.inr hdj)))
    ·rw [if_neg e, h3 s]
     refine vat_congr ops.length fun j hj hdj => ?_
     have hne : j ≠ i := by
      intro e1; subst e1
      rw [ho] at hdj; exact e hdj
     exact (getD_set_ne true (Ne.symm hne)).symm
   have hfuel' : ((List.range ops.length).filter fun j => !(listed.setIfInBounds i true).getD j true).length ≤ fuel := by
    have hmemf : i ∈ (List.range ops.length).filter (fun j => !listed.getD j true) := List.mem_filter.2 ⟨by simpa using hil, by simp [hun]⟩
    have hsub : ((List.range ops.length).filter fun j => !(listed.setIfInBounds i true).getD j true) = ((List.range ops.length).filter fun j => !listed.getD j true).filter (fun j => decide (j ≠ i)) := by
     rw [List.filter_filter]
     apply List.filter_congr
     intro j hj
     by_cases e : j = i
     ·subst e; simp [show j < listed.size by rw [hsz]; exact hil]
     ·rw [getD_set_ne true (Ne.symm e)]; simp [e]
    rw [hsub]
    have hlt : (((List.range ops.length).filter fun j => !listed.getD j true).filter (fun j => decide (j ≠ i))).length < ((List.range ops.length).filter fun j => !listed.getD j true).length := by
     refine List.length_filter_lt_length_iff_exists.2 ⟨i, hmemf, by simp⟩
    omega
   obtain ⟨F', b, hle⟩ := ih (t / (Region.ready .any ops.toArray listed).length) (listed.setIfInBounds i true) F2 (by simpa using hsz) hdown' (q1.trans h1) (q2.trans h2) hlook' hfuel'
   exact ⟨F', hst.big ho hp2 b, hle⟩
theorem Drawn.big (hd : Drawn P G Ext ops V HS FF) {id : Nat} {u : Option FrameMode} (hm : P.follows .mixedOrders = true) :
  Big P G Ext (.code (.region id ops.toArray true) (FF 0) u) (HS fun _ => false) (.x .normal (FF ops.length) u) (HS fun _ => true) := by
 have hgo : ∀ t, ∃ F', Big P G Ext (.ops ops.toArray (Region.linearise .any ops.toArray t) (FF 0) u) (HS fun _ => false) (.x .normal F' u) (HS fun _ => true) ∧ (FF ops.length).le F' := by
  intro t
  have := hd.go (u := u) ops.length t (Array.replicate ops.length false) (FF 0) (by simp) ?_ rfl rfl ?_ ?_
  ·obtain ⟨F', b, hle⟩ := this
   refine ⟨F', ?_, hle⟩
   rw [hd.ext (fun j => (Array.replicate ops.length false).getD j true) (fun _ => false) fun j hj => by simp [hj]] at b
   simpa [Region.linearise] using b
  ·intro i o ho hi
   have := lt_length ho
   simp [this] at hi
  ·intro s
   rw [vat_congr (L' := fun j => decide (j < 0)) ops.length (fun j hj _ => by simp [hj]), vat_below ops.length (Nat.zero_le _)]
   rfl
  ·exact Nat.le_trans (List.length_filter_le _ _) (by simp)
 exact .draw (frs := fun t => (hgo t).choose) hm (fun t => (hgo t).choose_spec.1) (fun t => (hgo t).choose_spec.2)
end
end
section
def exempt (ex : List Nat) (o : Oper) : Bool := match o.dst with | some d => ex.contains d | none => false
def pairs : List Oper → Nat → List (Nat × Oper)
 | [], _ => []
 | o :: l, i => (i, o) :: pairs l (i + 1)
theorem exempt_nil (o : Oper) : exempt [] o = false := by unfold exempt; cases o.dst <;> rfl
def loudX (pu : List Nat) (o : Oper) : Bool := isLoud o && !exempt pu o
def readX (ex pu : List Nat) (o : Oper) : Bool := isReader o && !exempt ex o && !exempt pu o
def pairOk (ops : List Oper) (ms : List Nat) (ex pu : List Nat) (i : Nat) (x : Oper) (j : Nat) (y : Oper) : Bool :=
  !(decide (i < j)) || (ms.getD j 0).testBit i ||
    (!(loudX pu x && loudX pu y) && !clash ops x y && !(loudX pu x && readX ex pu y) && !(readX ex pu x && loudX pu y))
def drawable (ops : List Oper) (ex pu : List Nat) (q : Nat) : Bool :=
 let ms := masks [] ops
 let l := pairs ops 0
 let n := ops.length - q
 decide (q ≤ ops.length) && l.all (fun p => p.2.after.all fun e => !Region.binds .any e || decide (e.on < p.1)) && l.all (fun p => l.all fun q => pairOk ops ms ex pu p.1 p.2 q.1 q.2) &&
  l.all fun p => !(isReader p.2 && exempt ex p.2 && !exempt pu p.2) || l.all fun r => !(loudX pu r.2 && decide (n ≤ r.1)) || (ms.getD r.1 0).testBit p.1
theorem mem_pairs : ∀ (l : List Oper) (i j : Nat) (o : Oper), l[j]? = some o → (i + j, o) ∈ pairs l i
 | [], _, _, _, h => by simp at h
 | p :: l, i, 0, o, h => by simp at h; subst h; simp [pairs]
 | p :: l, i, j + 1, o, h => by
  simp only [List.getElem?_cons_succ] at h
  simp only [pairs]
  exact List.mem_cons_of_mem _ (by have := mem_pairs l (i + 1) j o h; rwa [show i + 1 + j = i + (j + 1) by omega] at this)
section
variable {P : Program} {G : Nat} {Ext : FuncId → List Value → Heap → Value → Heap → Prop} {ops : List Oper}
inductive Trd (P : Program) (G : Nat) (Ext : FuncId → List Value → Heap → Value → Heap → Prop) (ops : List Oper) (ex pu : List Nat) (q : Nat) (K : Heap → Prop) : List Oper → Frm → Heap → Frm → Heap → Prop where
 | nil {F H} : Trd P G Ext ops ex pu q K [] F H F H
 | step {o l F H v H1 F1 F2 H2} : St P G Ext ops o F H v H1 → (loudX pu o = false → H1 = H) → (isPure o = true ∨ exempt pu o = true → ∀ H', St P G Ext ops o F H' v H') →
   (isReader o = true → exempt ex o = true → exempt pu o = false → ∀ H', K H' → St P G Ext ops o F H' v H') →
   (q ≤ l.length → K H1) → F.put o.dst v = some F1 → Trd P G Ext ops ex pu q K l F1 H1 F2 H2 → Trd P G Ext ops ex pu q K (o :: l) F H F2 H2
theorem Trd.trace {ex pu : List Nat} {q : Nat} {K : Heap → Prop} {l : List Oper} {F F' : Frm} {H H' : Heap} (h : Trd P G Ext ops ex pu q K l F H F' H') (hK : q ≤ l.length → K H) :
  ∃ (V : Nat → Value) (HH : Nat → Heap) (FF : Nat → Frm), FF 0 = F ∧ HH 0 = H ∧ FF l.length = F' ∧ HH l.length = H' ∧ (∀ i, i + q ≤ l.length → K (HH i)) ∧ ∀ i o, l[i]? = some o →
   St P G Ext ops o (FF i) (HH i) (V i) (HH (i + 1)) ∧ (FF i).put o.dst (V i) = some (FF (i + 1)) ∧ (loudX pu o = false → HH (i + 1) = HH i) ∧ (isPure o = true ∨ exempt pu o = true → ∀ H2, St P G Ext ops o (FF i) H2 (V i) H2) ∧
   (isReader o = true → exempt ex o = true → exempt pu o = false → ∀ H2, K H2 → St P G Ext ops o (FF i) H2 (V i) H2) := by
 induction h with
 | nil => exact ⟨fun _ => undef, fun _ => _, fun _ => _, rfl, rfl, rfl, rfl, fun i hi => hK (by omega), fun i o h => by simp at h⟩
 | @step o l F H v H1 F1 F2 H2 h1 h2 h3 h4 hk1 h5 _ ih =>
  obtain ⟨V, HH, FF, e1, e2, e3, e4, e5, e6⟩ := ih hk1
  refine ⟨fun i => match i with | 0 => v | i + 1 => V i, fun i => match i with | 0 => H | i + 1 => HH i, fun i => match i with | 0 => F | i + 1 => FF i, rfl, rfl, e3, e4, ?_, ?_⟩
  ·intro i hi
   cases i with
   | zero => exact hK (by simpa using hi)
   | succ i => exact e5 i (by simp only [List.length_cons] at hi; omega)
  ·intro i o hi
   cases i with
   | zero =>
    simp only [List.getElem?_cons_zero, Option.some.injEq] at hi
    subst hi
    simp only [e1, e2]
    exact ⟨h1, h5, h2, h3, h4⟩
   | succ i => exact e6 i o (by simpa using hi)
def cOf (ops : List Oper) (pu : List Nat) (L : Nat → Bool) : Nat := ((List.range ops.length).find? fun l => ((ops[l]?).map (loudX pu)).getD false && !L l).getD ops.length
theorem cOf_le (ops : List Oper) (pu : List Nat) (L : Nat → Bool) : cOf ops pu L ≤ ops.length := by
 unfold cOf
 cases h : (List.range ops.length).find? _ with
 | none => simp
 | some l => have := List.mem_of_find?_eq_some h; simp at this; simp; omega
theorem cOf_below {ops : List Oper} {pu : List Nat} {L : Nat → Bool} {l : Nat} {y : Oper} (hy : ops[l]? = some y) (hl : loudX pu y = true) (hlt : l < cOf ops pu L) : L l = true := by
 have hb := lt_length hy
 unfold cOf at hlt
 cases h : (List.range ops.length).find? (fun l => ((ops[l]?).map (loudX pu)).getD false && !L l) with
 | none =>
  have := List.find?_eq_none.1 h l (by simpa using hb)
  simpa [hy, hl] using this
 | some c =>
  rw [h, Option.getD_some] at hlt
  obtain ⟨_, as, bs, e, hno⟩ := List.find?_eq_some_iff_append.1 h
  have hmem : l ∈ as := by
   have hc : (List.range ops.length)[as.length]? = some c := by rw [e]; simp
   rw [List.getElem?_range (by have := congrArg List.length e; simp at this; omega)] at hc
   cases hc
   have hl2 : (List.range ops.length)[l]? = some l := by rw [List.getElem?_range hb]
   rw [e, List.getElem?_append_left hlt] at hl2
   exact List.mem_of_getElem? hl2
  have := hno l hmem
  simpa [hy, hl] using this
theorem cOf_not {ops : List Oper} {pu : List Nat} {L : Nat → Bool} (h : cOf ops pu L < ops.length) : ∃ y, ops[cOf ops pu L]? = some y ∧ loudX pu y = true ∧ L (cOf ops pu L) = false := by
 cases e : (List.range ops.length).find? (fun l => ((ops[l]?).map (loudX pu)).getD false && !L l) with
 | none => unfold cOf at h; rw [e] at h; simp at h
 | some c =>
  have hc : cOf ops pu L = c := by unfold cOf; rw [e]; rfl
  rw [hc]
  have := List.find?_some e
  have hb : c < ops.length := by rw [hc] at h; exact h
  have ho : ops[c]? = some ops[c] := List.getElem?_eq_getElem hb
  rw [ho] at this
  simp only [Option.map_some, Option.getD_some, Bool.and_eq_true, Bool.not_eq_true'] at this
  exact ⟨_, ho, this.1, this.2⟩
theorem cOf_ext {ops : List Oper} {pu : List Nat} {L L' : Nat → Bool} (h : ∀ j, j < ops.length → L j = L' j) : cOf ops pu L = cOf ops pu L' := by
 have key : ∀ l : List Nat, (∀ j ∈ l, j < ops.length) → l.find? (fun l => ((ops[l]?).map (loudX pu)).getD false && !L l) = l.find? (fun l => ((ops[l]?).map (loudX pu)).getD false && !L' l) := by
  intro l
  induction l with
  | nil => intro _; rfl
  | cons a l ih =>
   intro hl
   rw [List.find?_cons, List.find?_cons, h a (hl a (by simp)), ih fun j hj => hl j (by simp [hj])]
 unfold cOf
 rw [key _ (fun j hj => by simpa using hj)]
theorem Wp.drawT {id : Nat} {fr fr' : Frm} {u : Option FrameMode} {h h' : Heap} {Q : Exit → Frm → Option FrameMode → Heap → Prop} (ex pu : List Nat) (q : Nat) (K : Heap → Prop) (hm : P.follows .mixedOrders = true) (hd : drawable ops ex pu q = true) (hK : K h)
    (ht : Trd P G Ext ops ex pu q K ops fr h fr' h') (hq : Q .normal fr' u h') : Wp P G Ext (.region id ops.toArray true) fr u h Q := by
  obtain ⟨V, HH, FF, e1, e2, e3, e4, e5, e6⟩ := ht.trace (fun _ => hK)
  unfold drawable at hd
  simp only [Bool.and_eq_true, List.all_eq_true] at hd
  obtain ⟨⟨⟨hd0, hd1⟩, hd2⟩, hd3⟩ := hd
  replace hd0 := of_decide_eq_true hd0
  have hpair : ∀ i j x y, i < j → ops[i]? = some x → ops[j]? = some y → ahead ops i j = true ∨ (¬ (loudX pu x = true ∧ loudX pu y = true) ∧ clash ops x y = false ∧ ¬ (loudX pu x = true ∧ readX ex pu y = true) ∧ ¬ (readX ex pu x = true ∧ loudX pu y = true)) := by
    intro i j x y hij hx hy
    have := hd2 _ (by simpa using mem_pairs ops 0 i x hx) _ (by simpa using mem_pairs ops 0 j y hy)
    unfold pairOk at this
    simp only [decide_eq_true hij, Bool.not_true, Bool.false_or, Bool.or_eq_true, Bool.and_eq_true, Bool.not_eq_true', Bool.and_eq_false_iff] at this
    rcases this with h | ⟨⟨⟨h1, h2⟩, h3⟩, h4⟩
    · exact .inl h
    · refine .inr ⟨?_, h2, ?_, ?_⟩
      · rintro ⟨q1, q2⟩; rcases h1 with h1 | h1 <;> simp_all
      · rintro ⟨q1, q2⟩; rcases h3 with h3 | h3 <;> simp_all
      · rintro ⟨q1, q2⟩; rcases h4 with h4 | h4 <;> simp_all
  have hback : ∀ i o, ops[i]? = some o → ∀ e ∈ o.after, Region.binds .any e = true → e.on < i := by
    intro i o ho e he hb
    have := hd1 _ (by simpa using mem_pairs ops 0 i o ho)
    have h2 := (Array.all_eq_true_iff_forall_mem.1 this) e he
    simp only [hb, Bool.not_true, Bool.false_or] at h2
    exact of_decide_eq_true h2
  have hloud : ∀ i j x y, i < j → ops[i]? = some x → ops[j]? = some y → loudX pu x = true → loudX pu y = true → ahead ops i j = true :=
    fun i j x y hij hx hy lx ly => (hpair i j x y hij hx hy).resolve_right fun h => h.1 ⟨lx, ly⟩
  have hsame : ∀ c i, c ≤ ops.length → i ≤ ops.length → (∀ l y, ops[l]? = some y → loudX pu y = true → (l < i ↔ l < c)) → HH c = HH i := by
    have hconst : ∀ a b, a ≤ b → b ≤ ops.length → (∀ l y, a ≤ l → l < b → ops[l]? = some y → loudX pu y = false) → HH b = HH a := by
      intro a b
      induction b with
      | zero => intro h _ _; have : a = 0 := by omega
                subst this; rfl
      | succ b ih =>
        intro h hb hno
        by_cases e : a = b + 1
        · subst e; rfl
        · have ho : ops[b]? = some ops[b] := List.getElem?_eq_getElem (by omega)
          rw [(e6 b _ ho).2.2.1 (hno b _ (by omega) (by omega) ho)]
          exact ih (by omega) (by omega) fun l y h1 h2 => hno l y h1 (by omega)
    intro c i hc hi hl
    rcases Nat.le_total c i with q | q
    · refine (hconst c i q hi fun l y h1 h2 hy => ?_).symm
      cases hly : loudX pu y with
      | false => rfl
      | true => have := (hl l y hy hly).1 h2; omega
    · refine hconst i c q hc fun l y h1 h2 hy => ?_
      cases hly : loudX pu y with
      | false => rfl
      | true => have := (hl l y hy hly).2 h2; omega
  -- where all edges of what is done are met, the loud ones that are done are a beginning of them
  have hcount : ∀ L, Closed ops L → ∀ l y, ops[l]? = some y → loudX pu y = true → (L l = true ↔ l < cOf ops pu L) := by
    intro L hL l y hy hly
    constructor
    · intro hl
      rcases Nat.lt_or_ge l (cOf ops pu L) with q | q
      · exact q
      · obtain ⟨z, hz, hlz, hnz⟩ := cOf_not (L := L) (pu := pu) (Nat.lt_of_le_of_lt q (lt_length hy))
        rcases Nat.lt_or_ge (cOf ops pu L) l with q2 | q2
        · have := ahead_closed ops (fun j => L j = true) hback (fun j x hj hx => hL j x hx hj) l y hy (hL l y hy hl) _ (hloud _ _ z y q2 hz hy hlz hly)
          rw [hnz] at this; cases this
        · have : l = cOf ops pu L := by omega
          rw [this, hnz] at hl; cases hl
    · exact fun h => cOf_below hy hly h
  have hdr : Drawn P G Ext ops V (fun L => HH (cOf ops pu L)) FF := {
    back := hback
    slot := by
      intro i j x y hij hx hy hc
      exact (hpair i j x y hij hx hy).resolve_right fun h => by rw [h.2.1] at hc; cases hc
    ext := fun L L' h => by rw [cOf_ext h]
    put := fun i o ho => (e6 i o ho).2.1
    st := by
      intro L i o hL ho hnot hpre
      have hil := lt_length ho
      have hL' : Closed ops (also L i) := by
        intro j x hx hj e he hb
        unfold also
        split
        · rfl
        · unfold also at hj
          split at hj
          · rename_i q; subst q; rw [ho] at hx; cases hx; exact hpre e he hb
          · exact hL j x hx hj e he hb
      have hmet : ∀ j, ahead ops j i = true → L j = true := ahead_closed ops (fun j => L j = true) hback (fun j x hj hx => hL j x hx hj) i o ho hpre
      have hunmet : ∀ j x, ops[j]? = some x → ahead ops i j = true → L j = false := by
        intro j x hx ha
        cases e : L j with
        | false => rfl
        | true =>
          have := ahead_closed ops (fun j => L j = true) hback (fun j x hj hx => hL j x hx hj) j x hx (hL j x hx e) i ha
          rw [hnot] at this; cases this
      have hc := cOf_le ops pu L
      have hc' := cOf_le ops pu (also L i)
      have hcnt := hcount L hL
      have hcnt' := hcount _ hL'
      cases hlo : loudX pu o with
      | false =>
        have hsm : HH (cOf ops pu (also L i)) = HH (cOf ops pu L) := hsame _ _ hc' hc fun l y hy hly => by
          have hne : l ≠ i := by rintro rfl; rw [ho] at hy; cases hy; rw [hlo] at hly; cases hly
          rw [← hcnt l y hy hly, ← hcnt' l y hy hly]
          unfold also; rw [if_neg hne]
        rw [hsm]
        by_cases hp : isPure o = true ∨ exempt pu o = true
        · exact (e6 i o ho).2.2.2.1 hp _
        · have hp1 : isPure o = false := by cases q : isPure o with | false => rfl | true => exact absurd (.inl q) hp
          have hp2 : exempt pu o = false := by cases q : exempt pu o with | false => rfl | true => exact absurd (.inr q) hp
          have hrd : isReader o = true := by
            unfold loudX isLoud at hlo
            rw [hp1, hp2] at hlo
            simpa using hlo
          by_cases hex : exempt ex o = true
          · have hafter : ∀ l y, ops[l]? = some y → loudX pu y = true → ops.length - q ≤ l → ahead ops i l = true := by
              intro l y hy hly hql
              have h1 := hd3 _ (by simpa using mem_pairs ops 0 i o ho)
              simp only [hrd, hex, hp2, Bool.not_false, Bool.and_self, Bool.not_true, Bool.false_or, List.all_eq_true] at h1
              have h2 := h1 _ (by simpa using mem_pairs ops 0 l y hy)
              simp only [hly, decide_eq_true hql, Bool.and_self, Bool.not_true, Bool.false_or] at h2
              exact h2
            have hcc : HH (cOf ops pu L) = HH (min (cOf ops pu L) (ops.length - q)) := hsame _ _ hc (by omega) fun l y hy hly => by
              constructor
              · intro h; omega
              · intro h
                rcases Nat.lt_or_ge l (ops.length - q) with q1 | q1
                · omega
                · have := hunmet l y hy (hafter l y hy hly q1)
                  rw [(hcnt l y hy hly).2 h] at this; cases this
            rw [hcc]
            exact (e6 i o ho).2.2.2.2 hrd hex hp2 _ (e5 _ (by omega))
          · have hrx : readX ex pu o = true := by unfold readX; rw [hrd, hp2]; simpa using hex
            have hci : HH (cOf ops pu L) = HH i := hsame _ i hc (by omega) fun l y hy hly => by
              constructor
              · intro hli
                have := (hpair l i y o hli hy ho).resolve_right fun h => h.2.2.1 ⟨hly, hrx⟩
                exact (hcnt l y hy hly).1 (hmet l this)
              · intro hlc
                rcases Nat.lt_trichotomy l i with q | q | q
                · exact q
                · subst q
                  rw [ho] at hy; cases hy
                  rw [hlo] at hly; cases hly
                · have := (hpair i l o y q ho hy).resolve_right fun h => h.2.2.2 ⟨hrx, hly⟩
                  have := hunmet l y hy this
                  rw [(hcnt l y hy hly).2 hlc] at this; cases this
            have h1 := (e6 i o ho).1
            rw [(e6 i o ho).2.2.1 hlo] at h1
            rw [hci]; exact h1
      | true =>
        have hci : HH (cOf ops pu L) = HH i := hsame _ i hc (by omega) fun l y hy hly => by
          rw [← hcnt l y hy hly]
          constructor
          · intro hli; exact hmet l (hloud l i y o hli hy ho hly hlo)
          · intro hl
            rcases Nat.lt_trichotomy l i with q | q | q
            · exact q
            · subst q; rw [hnot] at hl; cases hl
            · rw [hunmet l y hy (hloud i l o y q ho hy hlo hly)] at hl; cases hl
        have hci' : HH (cOf ops pu (also L i)) = HH (i + 1) := hsame _ (i + 1) hc' (by omega) fun l y hy hly => by
          rw [← hcnt' l y hy hly]
          unfold also
          constructor
          · intro hli
            split
            · rfl
            · exact hmet l (hloud l i y o (by omega) hy ho hly hlo)
          · split
            · intro _; omega
            · rename_i hne
              intro hl
              rcases Nat.lt_or_ge l (i + 1) with q | q
              · exact q
              · rw [hunmet l y hy (hloud i l o y (by omega) ho hy hlo hly)] at hl; cases hl
        rw [hci, hci']
        exact (e6 i o ho).1 }
  have hb := hdr.big (id := id) (u := u) hm
  have h0 : HH (cOf ops pu fun _ => false) = h := by
    rw [← e2]
    refine hsame _ 0 (cOf_le _ _ _) (Nat.zero_le _) fun l y hy hly => ⟨fun q => by omega, fun q => ?_⟩
    have := cOf_below hy hly q; cases this
  have h1 : HH (cOf ops pu fun _ => true) = h' := by
    rw [← e4]
    refine hsame _ _ (cOf_le _ _ _) (Nat.le_refl _) fun l y hy hly => ⟨fun _ => ?_, fun _ => lt_length hy⟩
    rcases Nat.lt_or_ge l (cOf ops pu fun _ => true) with q | q
    · exact q
    · obtain ⟨z, hz, hlz, hnz⟩ := cOf_not (L := fun _ => true) (pu := pu) (Nat.lt_of_le_of_lt q (lt_length hy))
      cases hnz
  rw [h0, h1, e1, e3] at hb
  exact ⟨_, _, _, _, hb, hq⟩
noncomputable def runD (P : Program) (G : Nat) (ops : Array Oper) : List Oper → Frm → Heap → Option (Frm × Heap)
 | [], fr, h => some (fr, h)
 | o :: l, fr, h => (awanted ops fr o).bind fun t =>
  if t then (aop P (aev G fr) o h).bind fun r =>
   match r with
   | (.val v, h1) => if isLoud o || decide (h1.next = h.next) then (fr.put o.dst v).bind fun fr1 => runD P G ops l fr1 h1 else none
   | (.skip, h1) => if isLoud o then (fr.put o.dst undef).bind fun fr1 => runD P G ops l fr1 h1 else none
   | _ => none
  else (fr.put o.dst undef).bind fun fr1 => runD P G ops l fr1 h
theorem aslice_heap {P : Program} {h h1 : Heap} {t : TypeId} {x v : Value} {lo hi mx : Option Value} (e : aslice P h t x lo hi mx = some (v, h1)) (hn : h1.next = h.next) : h1 = h := by
 unfold aslice at e
 split at e
 ·split at e
  ·cases e
  ·obtain ⟨ti, _, e⟩ := ob e
   obtain ⟨hh, _, e⟩ := ob e
   obtain ⟨l, _, e⟩ := ob e
   simp only [Option.some.injEq, Prod.mk.injEq] at e
   exact e.2.symm
 ·split at e
  ·cases e
  ·obtain ⟨hh, _, e⟩ := ob e
   obtain ⟨l, _, e⟩ := ob e
   simp only [Option.some.injEq, Prod.mk.injEq] at e
   exact e.2.symm
 ·obtain ⟨ti, _, e⟩ := ob e
  split at e
  ·split at e
   ·obtain ⟨hh, _, e⟩ := ob e
    obtain ⟨l, _, e⟩ := ob e
    split at e
    ·simp only [Option.some.injEq, Prod.mk.injEq] at e
     exact e.2.symm
    ·split at e
     ·simp only [Option.some.injEq, Prod.mk.injEq] at e
      exact e.2.symm
     ·split at e
      ·simp only [Option.some.injEq, Prod.mk.injEq] at e
       exact e.2.symm
      ·simp only [Option.some.injEq, Prod.mk.injEq] at e
       rw [← e.2] at hn
       simp [Heap.alloc] at hn
   ·cases e
  ·obtain ⟨mm, _, e⟩ := ob e
   obtain ⟨hh, _, e⟩ := ob e
   obtain ⟨l, _, e⟩ := ob e
   split at e
   ·split at e
    ·cases e
    ·simp only [Option.some.injEq, Prod.mk.injEq] at e
     exact e.2.symm
   ·cases e
 ·cases e
theorem bind_same {α : Type} {o : Option α} {f : α → AN} {h h1 : Heap} {x : AN} (e : (o.bind fun v => some (f v, h)) = some (x, h1)) : h1 = h := by
 cases o with
 | none => cases e
 | some v => simp only [Option.bind_some, Option.some.injEq, Prod.mk.injEq] at e; exact e.2.symm
theorem aop_quiet_heap {ρ : Operand → Option Value} {o : Oper} {h h1 : Heap} {v : Value} (hq : isLoud o = false) (e : aop P ρ o h = some (.val v, h1)) (hn : h1.next = h.next) : h1 = h := by
 obtain ⟨dst, op, type, pos, after, guard⟩ := o
 cases op with
 | call c =>
  obtain ⟨callee, args, ats⟩ := c
  cases callee with
  | builtin b =>
   cases b <;> try (cases hq; done)
   all_goals
    simp only [aop] at e
    obtain ⟨as, _, e⟩ := ob e
    unfold abuiltin at e
    split at e <;> first
     | (cases e; done)
     | exact bind_same e
     | (rename_i q _ _; cases q; done)
     | (rename_i q _; cases q; done)
  | value => cases hq
  | invoke => cases hq
 | slice t x lo hi mx =>
  simp only [aop] at e
  obtain ⟨a, _, e⟩ := ob e
  obtain ⟨l, _, e⟩ := ob e
  obtain ⟨hh, _, e⟩ := ob e
  obtain ⟨mm, _, e⟩ := ob e
  obtain ⟨⟨v', h'⟩, hs, e⟩ := ob e
  simp only [Option.some.injEq, Prod.mk.injEq, AN.val.injEq] at e
  rw [← e.2] at hn ⊢
  exact aslice_heap hs hn
 | move => exact bind_same e
 | assign => exact bind_same e
 | pick c a b =>
  simp only [aop] at e
  obtain ⟨cv, _, e⟩ := ob e
  split at e
  ·exact bind_same e
  ·cases e
 | build t parts =>
  simp only [aop] at e
  obtain ⟨ps, _, e⟩ := ob e
  exact bind_same e
 | load t a =>
  simp only [aop] at e
  obtain ⟨ps, _, e⟩ := ob e
  exact bind_same e
 | nilCheck x =>
  simp only [aop] at e
  obtain ⟨ps, _, e⟩ := ob e
  split at e
  ·simp only [Option.some.injEq, Prod.mk.injEq] at e; exact e.2.symm
  ·cases e
 | binOp op t x y z =>
  simp only [aop] at e
  obtain ⟨a, _, e⟩ := ob e
  obtain ⟨b, _, e⟩ := ob e
  exact bind_same e
 | unOp op t x =>
  simp only [aop] at e
  obtain ⟨a, _, e⟩ := ob e
  exact bind_same e
 | makeInterface t x =>
  simp only [aop] at e
  obtain ⟨a, _, e⟩ := ob e
  split at e
  ·split at e
   ·cases e
   ·simp only [Option.some.injEq, Prod.mk.injEq] at e; exact e.2.symm
  ·cases e
 | makeFunc fn a b =>
  simp only [aop] at e
  obtain ⟨a, _, e⟩ := ob e
  exact bind_same e
 | fieldAddr t x f =>
  simp only [aop] at e
  obtain ⟨a, _, e⟩ := ob e
  exact bind_same e
 | field t x f =>
  simp only [aop] at e
  obtain ⟨a, _, e⟩ := ob e
  exact bind_same e
 | indexAddr t x i =>
  simp only [aop] at e
  obtain ⟨a, _, e⟩ := ob e
  obtain ⟨b, _, e⟩ := ob e
  exact bind_same e
 | index t x i =>
  simp only [aop] at e
  obtain ⟨a, _, e⟩ := ob e
  obtain ⟨b, _, e⟩ := ob e
  exact bind_same e
 | typeAssert x a t ok =>
  simp only [aop] at e
  obtain ⟨a, _, e⟩ := ob e
  exact bind_same e
 | extract x i =>
  simp only [aop] at e
  obtain ⟨a, _, e⟩ := ob e
  exact bind_same e
 | _ => cases hq
theorem runD_trd {ex pu : List Nat} {q : Nat} {K : Heap → Prop} : ∀ (l : List Oper) (F F' : Frm) (H H' : Heap), (∀ o ∈ l, exempt ex o = false) → (∀ o ∈ l, exempt pu o = false) → (∀ H, K H) → runD P G ops.toArray l F H = some (F', H') → ∀ {l2 F2 H2}, Trd P G Ext ops ex pu q K l2 F' H' F2 H2 → Trd P G Ext ops ex pu q K (l ++ l2) F H F2 H2
 | [], F, F', H, H', _, _, _, e, l2, F2, H2, ht => by
  simp only [runD, Option.some.injEq, Prod.mk.injEq] at e
  obtain ⟨rfl, rfl⟩ := e
  exact ht
 | o :: l, F, F', H, H', hex, hpx, hK, e, l2, F2, H2, ht => by
  simp only [runD] at e
  obtain ⟨t, hw, e⟩ := ob e
  have hex' := fun o ho => hex o (List.mem_cons_of_mem _ ho)
  have hpx' := fun o ho => hpx o (List.mem_cons_of_mem _ ho)
  have hno : exempt ex o = true → False := fun q => by rw [hex o (by simp)] at q; cases q
  have hnp : exempt pu o = true → False := fun q => by rw [hpx o (by simp)] at q; cases q
  have hlx : loudX pu o = isLoud o := by unfold loudX; rw [hpx o (by simp)]; simp
  cases t with
  | false =>
   simp only [Bool.false_eq_true, if_false] at e
   obtain ⟨F1, hp, e⟩ := ob e
   exact .step (.unwanted hw) (fun _ => rfl) (fun _ _ => .unwanted hw) (fun _ _ _ _ _ => .unwanted hw) (fun _ => hK _) hp (runD_trd l F1 F' H H' hex' hpx' hK e ht)
  | true =>
   simp only [if_true] at e
   obtain ⟨⟨r, h1⟩, hr, e⟩ := ob e
   cases r with
   | val v =>
    simp only [] at e
    split at e
    ·rename_i hc
     obtain ⟨F1, hp, e⟩ := ob e
     have hh : isLoud o = false → h1 = H := fun hq => aop_quiet_heap hq hr (by rw [hq] at hc; simpa using hc)
     refine .step (.val hw hr) (hlx ▸ hh) (fun hpu H2 => ?_) (fun _ q => (hno q).elim) (fun _ => hK _) hp (runD_trd l F1 F' h1 H' hex' hpx' hK e ht)
     replace hpu := hpu.resolve_right hnp
     have hlo : isLoud o = false := by unfold isLoud; rw [hpu]; rfl
     have := hh hlo
     subst this
     exact .val hw (aop_pure hpu hr)
    ·cases e
   | skip =>
    simp only [] at e
    split at e
    ·rename_i hc
     obtain ⟨F1, hp, e⟩ := ob e
     refine .step (.skip hw hr) (fun q => by rw [hlx, hc] at q; cases q) (fun hpu => ?_) (fun _ q => (hno q).elim) (fun _ => hK _) hp (runD_trd l F1 F' h1 H' hex' hpx' hK e ht)
     replace hpu := hpu.resolve_right hnp
     unfold isLoud at hc; rw [hpu] at hc; cases hc
    ·cases e
   | _ => cases e
theorem Wp.runDr {id : Nat} {ops : List Oper} {fr fr' : Frm} {u : Option FrameMode} {h h' : Heap} {Q : Exit → Frm → Option FrameMode → Heap → Prop} (hm : P.follows .mixedOrders = true) (hd : drawable ops [] [] 0 = true)
  (hr : runD P G ops.toArray ops fr h = some (fr', h')) (hq : Q .normal fr' u h') : Wp P G Ext (.region id ops.toArray true) fr u h Q := by
 refine Wp.drawT [] [] 0 (fun _ => True) hm hd trivial ?_ hq
 have := runD_trd (Ext := Ext) (ops := ops) (ex := []) (pu := []) (q := 0) (K := fun _ => True) ops fr fr' h h' (fun o _ => exempt_nil o) (fun o _ => exempt_nil o) (fun _ => trivial) hr .nil
 simpa using this
def holds (l : List (Nat × Value)) (s : List (Nat × Value)) : Prop :=
 match l with
 | [] => True
 | (k, v) :: l => look k s = some v ∧ holds l s
theorem holds_look : ∀ {l s : List (Nat × Value)}, holds l s → ∀ t v, look t l = some v → look t s = some v
 | [], _, _, t, v, h => by simp [look] at h
 | (k, u) :: l, s, ⟨h1, h2⟩, t, v, h => by
  simp only [look] at h
  split at h
  ·rename_i e; subst e; cases h; exact h1
  ·exact holds_look h2 t v h
theorem Frm.le_of {n : Nat} {l s : List (Nat × Value)} {d : List Deferred} (h : holds l s) : (⟨n, l, d⟩ : Frm).le ⟨n, s, d⟩ := ⟨rfl, rfl, holds_look h⟩
theorem Wp.loopI {X : Type} {c : Code} {n : Nat} {s : List (Nat × Value)} {d : List Deferred} {u : Option FrameMode} {h : Heap} {Q : Exit → Frm → Option FrameMode → Heap → Prop}
  (F : X → List (Nat × Value)) (H : X → Heap) (I : X → Prop) (μ : X → Nat) (x0 : X) (hI : I x0) (hF : holds (F x0) s) (hH : H x0 = h)
  (round : ∀ x, I x → Wp P G Ext c ⟨n, F x, d⟩ u (H x) (after (fun fr' u' h' => ∃ x' s', I x' ∧ μ x' < μ x ∧ fr' = ⟨n, s', d⟩ ∧ holds (F x') s' ∧ u' = u ∧ h' = H x') Q)) :
  Wp P G Ext (.loop c) ⟨n, s, d⟩ u h Q := by
 have key : ∀ k x, μ x = k → I x → Wp P G Ext (.loop c) ⟨n, F x, d⟩ u (H x) Q := by
  intro k
  induction k using Nat.strongRecOn with
  | _ k ih =>
   intro x hk hx
   refine Wp.loop ((round x hx).mono ?_)
   intro e fr' u' h' hq
   cases e with
   | normal =>
    obtain ⟨x', s', h1, h2, rfl, h4, rfl, rfl⟩ := hq
    exact Wp.weaken (Frm.le_of h4) (ih (μ x') (by omega) x' rfl h1)
   | _ => exact hq
 subst hH
 exact Wp.weaken (Frm.le_of hF) (key _ x0 rfl hI)
end
end
section
open Go.Lib (strCells strCells_length strCells_oneCell)
def Heap.more (h h' : Heap) : Prop := h.next ≤ h'.next ∧ ∀ j, j < h.next → h'.get j = h.get j
theorem Heap.mr (h : Heap) : h.more h := ⟨Nat.le_refl _, fun _ _ => rfl⟩
theorem Heap.ma (h : Heap) (o : AObj) : h.more (h.alloc o) := ⟨Nat.le_succ _, fun _ hj => Heap.go h o hj⟩
theorem Heap.more.trans {a b c : Heap} (h : a.more b) (k : b.more c) : a.more c := ⟨Nat.le_trans h.1 k.1, fun j hj => by rw [k.2 j (by have := h.1; omega), h.2 j hj]⟩
theorem Heap.more.get {a b : Heap} (h : a.more b) {i : Nat} {o : AObj} (e : a.get i = some o) : b.get i = some o := by rw [h.2 i (Heap.lg e), e]
theorem Heap.more_set_new {h h1 : Heap} (hm : h.more h1) {i : Nat} (hi : h.next ≤ i) (o : AObj) : h.more (h1.set i o) := by
 refine ⟨by simpa using hm.1, fun j hj => ?_⟩
 rw [Heap.gs (by omega)]
 exact hm.2 j hj
def Heap.but (h : Heap) (i : Nat) (h' : Heap) : Prop := h.next ≤ h'.next ∧ ∀ j, j < h.next → j ≠ i → h'.get j = h.get j
theorem Heap.more.but {a b : Heap} (h : a.more b) (i : Nat) : a.but i b := ⟨h.1, fun j hj _ => h.2 j hj⟩
theorem Heap.but_set (h : Heap) (i : Nat) (o : AObj) (hi : (h.get i).isSome) : h.but i (h.set i o) := ⟨by simp, fun j _ hne => by rw [Heap.get_set h i o j hi, if_neg hne]⟩
theorem Heap.but.trans {a b c : Heap} {i : Nat} (h : a.but i b) (k : b.but i c) : a.but i c := ⟨Nat.le_trans h.1 k.1, fun j hj hne => by rw [k.2 j (by have := h.1; omega) hne, h.2 j hj hne]⟩
theorem Heap.row_of {h : Heap} {i : Nat} {r : Row} (e : h.get i = some (.row r)) : h.row i = some r := Heap.row_some.2 e
theorem Heap.lf {h : Heap} {i k : Nat} {r : Row} {v : Value} (e : h.get i = some (.row r)) (hv : r.vs[k]? = some v) : h.ld i k = some v := by
 unfold Heap.ld; rw [Heap.row_of e]; simpa using hv
theorem Heap.lds_of {h : Heap} {i k n : Nat} {r : Row} (e : h.get i = some (.row r)) (hn : k + n ≤ r.vs.length) : h.lds i k n = some ((r.vs.drop k).take n) := by
 unfold Heap.lds; rw [Heap.row_of e]; simp [hn]
theorem Heap.sts_of {h : Heap} {i k : Nat} {r : Row} {vs : List Value} (e : h.get i = some (.row r)) (hn : k + vs.length ≤ r.vs.length) (ho : r.outer = false) (hr : r.ro = false) :
  h.sts i k vs = some (h.set i (.row { r with vs := splice r.vs k vs })) := by
 unfold Heap.sts; rw [Heap.row_of e]; simp [hn, ho, hr]
theorem Heap.gf {h : Heap} {i : Nat} {o p : AObj} (e : h.get i = some p) : (h.set i o).get i = some o := by
 rw [Heap.get_set h i o i (by simp [e]), if_pos rfl]
theorem abin_ptr_nil {P : Program} {t e : TypeId} (hu : P.underlying t = some (.pointer e)) (a : Option Addr) : abin P .eql t (.pointer a) (.pointer none) = some (.bool a.isNone) := by
 cases a <;> simp [abin, plainEq, eqOp, aeq, hu, aeq0]
theorem abin_int {P : Program} (op : BinOp) (t : TypeId) (k k' : IntKind) (a b : Int) : abin P op t (.int k a) (.int k' b) = abinI op k a k' b := rfl
theorem abin_str {P : Program} (op : BinOp) (t : TypeId) (a b : ByteArray) : abin P op t (.string a) (.string b) = abinS op a b := rfl
theorem ai_add {k : IntKind} {a b : Int} : abinI .add k a k b = some (.int k (k.wrap (a + b))) := by simp [abinI]
theorem ai_sub {k : IntKind} {a b : Int} : abinI .sub k a k b = some (.int k (k.wrap (a - b))) := by simp [abinI]
theorem ai_rem {k : IntKind} {a b : Int} (hb : b ≠ 0) : abinI .rem k a k b = some (.int k (a.tmod b)) := by simp [abinI, hb]
theorem ai_eql {k : IntKind} {a b : Int} : abinI .eql k a k b = some (.bool (a == b)) := by simp [abinI]
theorem ai_neq {k : IntKind} {a b : Int} : abinI .neq k a k b = some (.bool (a != b)) := by simp [abinI]
theorem ai_lss {k : IntKind} {a b : Int} : abinI .lss k a k b = some (.bool (decide (a < b))) := by simp [abinI]
theorem ai_leq {k : IntKind} {a b : Int} : abinI .leq k a k b = some (.bool (decide (a ≤ b))) := by simp [abinI]
theorem ai_gtr {k : IntKind} {a b : Int} : abinI .gtr k a k b = some (.bool (decide (b < a))) := by simp [abinI]
theorem ai_geq {k : IntKind} {a b : Int} : abinI .geq k a k b = some (.bool (decide (b ≤ a))) := by simp [abinI]
theorem wrap_in {n : Int} (h : -9223372036854775808 ≤ n) (h' : n ≤ 9223372036854775807) : IntKind.i64.wrap n = n := by rw [IntKind.wrap_i64]; omega
theorem info_some {P : Program} {t s : Nat} (h : (P.info? t).map (·.size) = some s) : ∃ i, P.info? t = some i ∧ i.size = s := by
 cases e : P.info? t <;> simp [e] at h
 exact ⟨_, rfl, h⟩
theorem aload_cell {P : Program} {h : Heap} {t : TypeId} {i k : Nat} (ha : Program.agg P t = some false) : aload P h t (.pointer (some ⟨i, k, none⟩)) = h.ld i k := by
 unfold aload; simp [ha]
theorem aload_agg {P : Program} {h : Heap} {t : TypeId} {i k s : Nat} (ha : Program.agg P t = some true) (hs : (P.info? t).map (·.size) = some s) : aload P h t (.pointer (some ⟨i, k, none⟩)) = (h.lds i k s).map fun l => .agg l.toArray := by
 obtain ⟨x, h1, h2⟩ := info_some hs
 unfold aload; simp [ha, h1, h2]
theorem astore_cell {P : Program} {h : Heap} {t : TypeId} {i k : Nat} {v : Value} (hs : (P.info? t).map (·.size) = some 1) (hv : one v = true) : astore P h t (.pointer (some ⟨i, k, none⟩)) v = h.sts i k [v] := by
 obtain ⟨x, h1, h2⟩ := info_some hs
 have hc : v.cells = #[v] := by cases v <;> first | rfl | cases hv
 unfold astore; simp [h1, h2, hc, hv]
theorem astore_agg {P : Program} {h : Heap} {t : TypeId} {i k s : Nat} {cs : List Value} (hs : (P.info? t).map (·.size) = some s) (hl : cs.length = s) (hv : cs.all one = true) : astore P h t (.pointer (some ⟨i, k, none⟩)) (.agg cs.toArray) = h.sts i k cs := by
 obtain ⟨x, h1, h2⟩ := info_some hs
 have hv' : cs.toArray.all one = true := by simpa using hv
 have hc : (Value.agg cs.toArray).cells.size = x.size ∧ (Value.agg cs.toArray).cells.all one = true := ⟨by simp [Value.cells, hl, h2], hv'⟩
 unfold astore; simp only [h1]; rw [if_pos hc]; rfl
theorem afieldAddr_eq {P : Program} {t : TypeId} {f o s : Nat} {fs : Array Field} (hu : P.underlying t = some (.struct fs)) (hf : (fs[f]?).map (·.offset) = some o) (hs : ((fs[f]?).bind fun fd => (P.info? fd.type).map (·.size)) = some (s + 1)) (i k : Nat) :
  afieldAddr P t (.pointer (some ⟨i, k, none⟩)) f = some (.pointer (some ⟨i, k + o, none⟩)) := by
 cases e : fs[f]? with
 | none => simp [e] at hf
 | some fd =>
  simp only [e, Option.map_some, Option.some.injEq, Option.bind_some] at hf hs
  obtain ⟨ti, h1, h2⟩ := info_some hs
  unfold afieldAddr; simp [hu, e, h1, h2, hf]
theorem aindexAddr_slice {P : Program} {t e : TypeId} {s : Nat} (hu : P.underlying t = some (.slice e)) (hs : (P.info? e).map (·.size) = some s) {i k len cap : Nat} {sp : Option Nat} {kd : IntKind} {j : Int} (h0 : 0 ≤ j) (h1 : j < len) :
  aindexAddr P t (.slice (some ⟨i, k, sp⟩) len cap) (.int kd j) = some (.pointer (some ⟨i, k + j.toNat * s, none⟩)) := by
 obtain ⟨x, h2, h3⟩ := info_some hs
 unfold aindexAddr; simp [hu, h2, h3, h0, h1]
theorem aindexAddr_array {P : Program} {t e : TypeId} {s n : Nat} (hu : P.underlying t = some (.array n e)) (hs : (P.info? e).map (·.size) = some s) {i k : Nat} {kd : IntKind} {j : Int} (h0 : 0 ≤ j) (h1 : j < n) :
  aindexAddr P t (.pointer (some ⟨i, k, none⟩)) (.int kd j) = some (.pointer (some ⟨i, k + j.toNat * s, none⟩)) := by
 obtain ⟨x, h2, h3⟩ := info_some hs
 unfold aindexAddr; simp [hu, h2, h3, h0, h1]
theorem abound_int {kd : IntKind} {j : Int} {d y : Nat} (h0 : 0 ≤ j) (h1 : j ≤ y) : abound (some (.int kd j)) d y = some j.toNat := by unfold abound; simp [h0, h1]
theorem aslice_str {P : Program} {h : Heap} {t : TypeId} (hu : P.underlying t = some .string) {s : ByteArray} {kd : IntKind} {j : Int} (h0 : 0 ≤ j) (h1 : j ≤ s.size) :
  aslice P h t (.string s) (some (.int kd j)) none none = some (.string (s.extract j.toNat s.size), h) := by
 unfold aslice; simp only [hu]; simp [abound]; simp [h0, h1]
theorem alen_str {P : Program} {h : Heap} {t : TypeId} (hu : P.underlying t = some .string) (s : ByteArray) : alen P h t (.string s) = some (.int .i64 (s.size : Nat)) := by unfold alen; simp [hu]
theorem alen_slice {P : Program} {h : Heap} {t e : TypeId} (hu : P.underlying t = some (.slice e)) (a : Option Addr) (l c : Nat) : alen P h t (.slice a l c) = some (.int .i64 (l : Nat)) := by unfold alen; simp [hu]
theorem amm_two {k k' : IntKind} (mx : Bool) (x y : Int) : amm mx [.int k x, .int k' y] = some (.int k (if mx then max x y else min x y)) := by
 cases mx
 ·simp only [amm, ammOf, Bool.false_eq_true, if_false, Option.some.injEq, Value.int.injEq, true_and]; split <;> omega
 ·simp only [amm, ammOf, if_true, Option.some.injEq, Value.int.injEq, true_and]; split <;> omega
end
section
theorem beq_ft : (false == true) = false := rfl
theorem beq_tf : (true == false) = false := rfl
def keep (fr : Option Frm) (h : Heap) : Option (Frm × Heap) := match fr with | some f => some (f, h) | none => none
def guardOf (ops : List Oper) (o : Oper) : Option (Option Nat × Bool) := match o.guard with | none => none | some (j, want) => some ((ops[j]?).bind (·.dst), want)
def wantV (want : Bool) : Option Value → Option Bool
 | none => none
 | some (.bool b) => some (b == want)
 | some _ => some false
def wantG (fr : Frm) : Option (Option Nat × Bool) → Option Bool
 | none => some true
 | some (none, _) => some false
 | some (some d, want) => wantV want (look d fr.slots)
def stepV (fr : Frm) (dst : Option Nat) : Option (AN × Heap) → Option (Frm × Heap)
 | some (.val v, h) => keep (fr.put dst v) h
 | some (.skip, h) => keep (fr.put dst undef) h
 | _ => none
noncomputable def stepW (P : Program) (G : Nat) (o : Oper) (fr : Frm) (h : Heap) : Option Bool → Option (Frm × Heap)
 | some true => stepV fr o.dst (aop P (aev G fr) o h)
 | some false => keep (fr.put o.dst undef) h
 | none => none
noncomputable def stepO (P : Program) (G : Nat) (o : Oper) (g : Option (Option Nat × Bool)) : Option (Frm × Heap) → Option (Frm × Heap)
 | some (fr, h) => stepW P G o fr h (wantG fr g)
 | none => none
noncomputable def runS (P : Program) (G : Nat) (ops : List Oper) : List Oper → Option (Frm × Heap) → Option (Frm × Heap)
 | [], st => st
 | o :: l, st => runS P G ops l (stepO P G o (guardOf ops o) st)
theorem awanted_eq (ops : List Oper) (fr : Frm) (o : Oper) : awanted ops.toArray fr o = wantG fr (guardOf ops o) := by
 unfold awanted guardOf
 cases o.guard with
 | none => rfl
 | some p =>
  obtain ⟨j, want⟩ := p
  simp only [List.getElem?_toArray]
  cases e : (ops[j]?).bind (·.dst) with
  | none => rfl
  | some d =>
   simp only [wantG, wantV]
   cases look d fr.slots with
   | none => rfl
   | some v => cases v <;> rfl
theorem runS_none (P : Program) (G : Nat) (ops : List Oper) : ∀ l, runS P G ops l none = none
 | [] => rfl
 | o :: l => by simp only [runS, stepO]; exact runS_none P G ops l
theorem runS_eq (P : Program) (G : Nat) (ops : List Oper) : ∀ (l : List Oper) (fr : Frm) (h : Heap), runS P G ops l (some (fr, h)) = runL P G ops.toArray l fr h
 | [], fr, h => rfl
 | o :: l, fr, h => by
  have hk : ∀ (x : Option Frm) (h1 : Heap), runS P G ops l (keep x h1) = x.bind fun fr1 => runL P G ops.toArray l fr1 h1 := by
   intro x h1
   cases x with
   | none => exact runS_none P G ops l
   | some f => exact runS_eq P G ops l f h1
  simp only [runS, stepO, runL, awanted_eq]
  cases wantG fr (guardOf ops o) with
  | none => exact runS_none P G ops l
  | some t =>
   cases t with
   | false => simp only [stepW, Option.bind_some, Bool.false_eq_true, if_false]; exact hk _ _
   | true =>
    simp only [stepW, Option.bind_some, if_true]
    cases aop P (aev G fr) o h with
    | none => exact runS_none P G ops l
    | some r =>
     obtain ⟨n, h1⟩ := r
     cases n with
     | val v => exact hk _ _
     | skip => exact hk _ _
     | _ => exact runS_none P G ops l
def stepVD (fr : Frm) (o : Oper) (n : Nat) : Option (AN × Heap) → Option (Frm × Heap)
 | some (.val v, h) => if isLoud o || decide (h.next = n) then keep (fr.put o.dst v) h else none
 | some (.skip, h) => if isLoud o then keep (fr.put o.dst undef) h else none
 | _ => none
noncomputable def stepWD (P : Program) (G : Nat) (o : Oper) (fr : Frm) (h : Heap) : Option Bool → Option (Frm × Heap)
 | some true => stepVD fr o h.next (aop P (aev G fr) o h)
 | some false => keep (fr.put o.dst undef) h
 | none => none
noncomputable def stepOD (P : Program) (G : Nat) (o : Oper) (g : Option (Option Nat × Bool)) : Option (Frm × Heap) → Option (Frm × Heap)
 | some (fr, h) => stepWD P G o fr h (wantG fr g)
 | none => none
noncomputable def runSD (P : Program) (G : Nat) (ops : List Oper) : List Oper → Option (Frm × Heap) → Option (Frm × Heap)
 | [], st => st
 | o :: l, st => runSD P G ops l (stepOD P G o (guardOf ops o) st)
theorem runSD_none (P : Program) (G : Nat) (ops : List Oper) : ∀ l, runSD P G ops l none = none
 | [] => rfl
 | o :: l => by simp only [runSD, stepOD]; exact runSD_none P G ops l
theorem runSD_eq (P : Program) (G : Nat) (ops : List Oper) : ∀ (l : List Oper) (fr : Frm) (h : Heap), runSD P G ops l (some (fr, h)) = runD P G ops.toArray l fr h
 | [], fr, h => rfl
 | o :: l, fr, h => by
  have hk : ∀ (x : Option Frm) (h1 : Heap), runSD P G ops l (keep x h1) = x.bind fun fr1 => runD P G ops.toArray l fr1 h1 := by
   intro x h1
   cases x with
   | none => exact runSD_none P G ops l
   | some f => exact runSD_eq P G ops l f h1
  simp only [runSD, stepOD, runD, awanted_eq]
  cases wantG fr (guardOf ops o) with
  | none => exact runSD_none P G ops l
  | some t =>
   cases t with
   | false => simp only [stepWD, Option.bind_some, Bool.false_eq_true, if_false]; exact hk _ _
   | true =>
    simp only [stepWD, Option.bind_some, if_true]
    cases aop P (aev G fr) o h with
    | none => exact runSD_none P G ops l
    | some r =>
     obtain ⟨n, h1⟩ := r
     cases n with
     | val v =>
      simp only [stepVD, Option.bind_some]
      split
      ·exact hk _ _
      ·exact runSD_none P G ops l
     | skip =>
      simp only [stepVD, Option.bind_some]
      split
      ·exact hk _ _
      ·exact runSD_none P G ops l
     | _ => exact runSD_none P G ops l
section
variable {P : Program} {G : Nat} {Ext : FuncId → List Value → Heap → Value → Heap → Prop} {fr : Frm} {u : Option FrameMode} {h : Heap} {Q : Exit → Frm → Option FrameMode → Heap → Prop}
theorem Wp.runS {id : Nat} {ops : List Oper} {fr' : Frm} {h' : Heap} (hr : Mini.runS P G ops ops (some (fr, h)) = some (fr', h')) (hq : Q .normal fr' u h') : Wp P G Ext (.region id ops.toArray false) fr u h Q :=
 Wp.run (by rw [← runS_eq]; exact hr) hq
theorem Wp.runSD {id : Nat} {ops : List Oper} {fr' : Frm} {h' : Heap} (hm : P.follows .mixedOrders = true) (hd : drawable ops [] [] 0 = true)
  (hr : Mini.runSD P G ops ops (some (fr, h)) = some (fr', h')) (hq : Q .normal fr' u h') : Wp P G Ext (.region id ops.toArray true) fr u h Q :=
 Wp.runDr hm hd (by rw [← runSD_eq]; exact hr) hq
theorem Wp.join {a b : Code} (J : Frm → Option FrameMode → Heap → Prop) (hB : ∀ fr u h, J fr u h → Wp P G Ext b fr u h Q) (hA : Wp P G Ext a fr u h (after J Q)) : Wp P G Ext (.seq a b) fr u h Q := by
 refine Wp.seq (hA.mono ?_)
 intro e fr u h q
 cases e with
 | normal => exact hB _ _ _ q
 | _ => exact q
theorem Wp.cut {c : Code} (J : Frm → Option FrameMode → Heap → Prop) (hB : ∀ fr u h, J fr u h → Q .normal fr u h) (hA : Wp P G Ext c fr u h (after J Q)) : Wp P G Ext c fr u h Q := by
 refine hA.mono ?_
 intro e fr u h q
 cases e with
 | normal => exact hB _ _ _ q
 | _ => exact q
theorem Wp.regionAs {id : Nat} {ops : List Oper} {is : List Nat} (hi : List.range ops.toArray.size = is) (hw : WpO P G Ext ops.toArray is fr u h Q) : Wp P G Ext (.region id ops.toArray false) fr u h Q := by
 subst hi; exact Wp.region hw
theorem WpO.callS {ops : List Oper} {i : Nat} {l : List Nat} {p : Oper} {f : FuncId} {args : List Value} {h1 : Heap} (hi : ops[i]? = some p) (hw : wantG fr (guardOf ops p) = some true) (ha : aop P (aev G fr) p h = some (.call f args, h1))
  (hd : Does P G Ext f args h1 fun e h2 => match e with
   | .returned v => ∃ fr1, fr.put p.dst v = some fr1 ∧ WpO P G Ext ops.toArray l fr1 u h2 Q
   | .panicked c => Q (.panic c) fr u h2
   | .outgrown => False) : WpO P G Ext ops.toArray (i :: l) fr u h Q :=
 WpO.call (by simpa using hi) (by rw [awanted_eq]; exact hw) ha hd
theorem WpO.callR {ops : List Oper} {i : Nat} {l : List Nat} {p : Oper} {f : FuncId} {args : List Value} {h1 : Heap} {R : Ending → Heap → Prop} (hd : Does P G Ext f args h1 R) (hi : ops[i]? = some p) (hw : wantG fr (guardOf ops p) = some true) (ha : aop P (aev G fr) p h = some (.call f args, h1))
  (hR : ∀ e h2, R e h2 → ∃ v fr1, e = .returned v ∧ fr.put p.dst v = some fr1 ∧ WpO P G Ext ops.toArray l fr1 u h2 Q) : WpO P G Ext ops.toArray (i :: l) fr u h Q :=
 WpO.callS hi hw ha (hd.mono fun e h2 r => by obtain ⟨v, fr1, rfl, q⟩ := hR e h2 r; exact ⟨fr1, q⟩)
theorem WpO.runS {ops : List Oper} (n : Nat) {k : Nat} {is : List Nat} {fr' : Frm} {h' : Heap} (hr : Mini.runS P G ops ((ops.drop k).take n) (some (fr, h)) = some (fr', h')) (hn : k + n ≤ ops.length)
  (hw : WpO P G Ext ops.toArray is fr' u h' Q) : WpO P G Ext ops.toArray (List.range' k n ++ is) fr u h Q :=
 WpO.run n (by rw [← runS_eq]; exact hr) (by simpa using hn) hw
end
end
end Go.Mini
