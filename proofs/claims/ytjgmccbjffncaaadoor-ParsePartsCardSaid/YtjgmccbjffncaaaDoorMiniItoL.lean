import Derived.Test.YtjgmccbjffncaaaDoorMiniEtoHB
import Derived.Laws.StandIn
import Derived.Lib.IndexEntry
import Derived.Scope
namespace Go.Mini
section
inductive AN where
 | val (v : Value)
 | skip
 | call (f : FuncId) (args : List Value)
 | defer (d : Deferred)
 | panic (v : Value)
 | recover
def renT (m : Ren) : Target → Target
 | .fn fn c => .fn fn (renA m c)
 | t => t
def renD (m : Ren) (d : Deferred) : Deferred := { target := renT m d.target, args := renA m d.args }
def scD (n : Nat) (d : Deferred) : Prop := (match d.target with | .fn _ c => scA n c | _ => False) ∧ scA n d.args
theorem renD_congr {n : Nat} {m m' : Ren} (h : m.agree n m') {d : Deferred} (hs : scD n d) : renD m d = renD m' d := by
 obtain ⟨t, a⟩ := d
 obtain ⟨h1, h2⟩ := hs
 cases t with
 | fn fn c => simp only at h1 h2; simp [renD, renT, renA_congr h _ h1, renA_congr h _ h2]
 | _ => exact h1.elim
theorem scD_mono {n k : Nat} (hk : n ≤ k) {d : Deferred} (hs : scD n d) : scD k d := by
 obtain ⟨t, a⟩ := d
 obtain ⟨h1, h2⟩ := hs
 cases t with
 | fn fn c => exact ⟨scA_mono hk _ h1, scA_mono hk _ h2⟩
 | _ => exact h1.elim
def AN.res (m : Ren) (w : World) : AN → Result Next
 | .val v => .ok (.value (ren m v)) w
 | .skip => .ok .skip w
 | .call f args => .ok (.enter f (args.map (ren m)).toArray) w
 | .defer d => .ok (.defer (renD m d)) w
 | .panic v => .halt (.panic (ren m v)) w
 | .recover => .ok .recover w
def AN.sc (n : Nat) : AN → Prop
 | .val v => Mini.sc n v
 | .call _ args => ∀ v ∈ args, Mini.sc n v
 | .defer d => scD n d
 | .panic v => Mini.sc n v
 | _ => True
def canEnter (P : Program) (f : FuncId) : Bool :=
 match P.funcs[f]? with
 | some fn => fn.name != "runtime.NumGoroutine" && fn.body.isSome
 | none => false
theorem callFunc_run {P : Program} {f : FuncId} (h : canEnter P f = true) (args : Array Value) (w : World) : (callFunc f args).run P w = .ok (.enter f args) w := by
 unfold canEnter at h
 cases hf : P.funcs[f]? with
 | none => rw [hf] at h; cases h
 | some fn =>
  rw [hf] at h
  simp only [Bool.and_eq_true, bne_iff_ne, ne_eq] at h
  have h2 : ¬ fn.body = none := by intro q; simp [q] at h
  simp [callFunc, hf, h.1, h2]
def evs (ρ : Operand → Option Value) : List Operand → Option (List Value)
 | [] => some []
 | x :: l => (ρ x).bind fun v => (evs ρ l).bind fun vs => some (v :: vs)
def evp (ρ : Operand → Option Value) : List (Nat × Operand) → Option (List (Nat × Value))
 | [] => some []
 | x :: l => (ρ x.2).bind fun v => (evp ρ l).bind fun vs => some ((x.1, v) :: vs)
def evo (ρ : Operand → Option Value) : Option Operand → Option (Option Value)
 | none => some none
 | some x => (ρ x).map some
def notNil : Value → Bool
 | .pointer (some _) => true
 | .func (.func _) _ _ => true
 | _ => false
def Row.mine (r : Row) : Bool := !r.outer && !r.ro && !r.str
def isEqOp : BinOp → Bool
 | .eql | .neq => true
 | _ => false
def isConstO : Operand → Bool
 | .const _ => true
 | _ => false
def aptr (P : Program) (h : Heap) (op : BinOp) (t : TypeId) (x y : Value) : Option Value :=
 match P.underlying t, x, y with
 | some (.pointer el), .pointer (some ⟨i, k, none⟩), .pointer (some ⟨j, l, none⟩) =>
  if P.cellsOf el = 0 then none
  else if i = j then eqOp op (some (decide (k = l)))
  else match h.row i, h.row j with
   | some r, some q => if r.mine && q.mine then eqOp op (some false) else none
   | _, _ => none
 | _, _, _ => none
def binA (P : Program) (h : Heap) (op : BinOp) (t : TypeId) (both : Bool) (a b : Value) : Option Value :=
 match abin P op t a b with
 | some v => some v
 | none => if both then aptr P h op t a b else none
theorem binA_some {P : Program} {h : Heap} {op : BinOp} {t : TypeId} {both : Bool} {a b v : Value} (e : abin P op t a b = some v) : binA P h op t both a b = some v := by
 unfold binA; rw [e]
def abuiltin (P : Program) (b : Builtin) (ats : List TypeId) (args : List Value) (h : Heap) : Option (AN × Heap) :=
 match b, ats, args with
 | .append, [st, xt], [s, x] => (aappend P h st xt s x).bind fun p => some (.val p.1, p.2)
 | .copy, [dt, _], [d, s] => (acopy P h dt d s).bind fun p => some (.val p.1, p.2)
 | .len, [t], [x] => (alen P h t x).bind fun v => some (.val v, h)
 | .max, _, l => (amm true l).bind fun v => some (.val v, h)
 | .min, _, l => (amm false l).bind fun v => some (.val v, h)
 | .recover, _, _ => some (.recover, h)
 | .unsafeSliceData, _, [x] => (asliceData x).bind fun v => some (.val v, h)
 | .unsafeString, [pt, _], [p, .int .i64 n] => (aunsafeString P h pt p n).bind fun q => some (.val q.1, q.2)
 | _, _, _ => none
def calleeOf : Value → Option (Fn × Array Value × Array Value)
 | .func fn a b => some (fn, a, b)
 | _ => none
def fnOf : Fn → Option FuncId
 | .func g => some g
 | _ => none
noncomputable def aext (P : Program) (ρg : Nat → Option Value) (h : Heap) (f : FuncId) (args : List Value) : Option Value :=
 open Classical in
 match P.funcs[f]? with
 | none => none
 | some fn =>
  if (fn.name == "runtime.NumGoroutine") = false ∧ fn.body.isNone = true ∧ Extern.findNext fn = none then
   match args with
   | [.string s, .int .u8 c] => if Extern.find fn = some Extern.BytealgIndexByte.indexByte then some (.int .i64 (firstIdx s c.toNat.toUInt8)) else none
   | [.string a, .string b] =>
    if Extern.find fn = some Extern.BytealgIndex.index then
     match P.globals.findIdx? (·.name == "internal/bytealg.MaxLen") with
     | some g =>
      if ρg g = some (.pointer (some ⟨g, 0, none⟩)) then
       match h.ld g 0 with
       | some (.int .i64 mx) => if 2 ≤ b.size ∧ (b.size : Int) ≤ mx ∧ a.size < 4294967281 then some (.int .i64 (Lib.index a.data.toList b.data.toList)) else none
       | _ => none
      else none
     | none => none
    else none
   | _ => none
  else none
def aNoEsc (P : Program) (f : FuncId) : Bool :=
 match P.funcs[f]? with
 | some fn => fn.name == "internal/abi.NoEscape" && fn.origin == "" && fn.body.isNone
 | none => false
theorem aNoEsc_run {P : Program} {f : FuncId} (h : aNoEsc P f = true) (x : Value) (w : World) : (callFunc f #[x]).run P w = .ok (.value x) w := by
 unfold aNoEsc at h
 cases hf : P.funcs[f]? with
 | none => rw [hf] at h; cases h
 | some fn =>
  rw [hf] at h
  simp only [Bool.and_eq_true, beq_iff_eq] at h
  obtain ⟨⟨h1, h2⟩, h3⟩ := h
  have e1 : Extern.findNext fn = none := by unfold Extern.findNext; rw [h1, h2]; kernel_rfl
  have e2 : Extern.find fn = some Extern.AbiNoEscape.same := by unfold Extern.find; rw [h1, h2]; kernel_rfl
  have e3 : ¬ fn.name = "runtime.NumGoroutine" := by rw [h1]; decide
  have e4 : fn.body = none := by simpa using h3
  simp [callFunc, hf, e3, e4, e1, e2, Lib.run_noEscape]
noncomputable def aop (P : Program) (ρ : Operand → Option Value) (o : Oper) (h : Heap) : Option (AN × Heap) :=
 match o.op with
 | .move x => (ρ x).bind fun v => some (.val v, h)
 | .assign x => (ρ x).bind fun v => some (.val v, h)
 | .pick c a b => (ρ c).bind fun cv => match cv with
  | .bool t => (ρ (if t then a else b)).bind fun v => some (.val v, h)
  | _ => none
 | .alloc t => (aalloc P h t).bind fun p => some (.val p.1, p.2)
 | .box t x => (ρ x).bind fun v => some (.val (abox h t v).1, (abox h t v).2)
 | .build t parts => (evp ρ parts.toList).bind fun ps => (abuild P t ps).bind fun v => some (.val v, h)
 | .buildSlice t len parts => (evp ρ parts.toList).bind fun ps => (abuildSlice P h t len ps).bind fun p => some (.val p.1, p.2)
 | .load t a => (ρ a).bind fun p => (aload P h t p).bind fun v => some (.val v, h)
 | .store t a x => (ρ a).bind fun p => (ρ x).bind fun v => (astore P h t p v).bind fun h' => some (.skip, h')
 | .nilCheck x => (ρ x).bind fun v => if notNil v then some (.val v, h) else none
 | .binOp op t x y _ => (ρ x).bind fun a => (ρ y).bind fun b => (binA P h op t (isEqOp op && !isConstO x && !isConstO y) a b).bind fun v => some (.val v, h)
 | .unOp op _ x => (ρ x).bind fun a => (aun op a).bind fun v => some (.val v, h)
 | .convert s d x => (ρ x).bind fun a => match aconv P s d a with
  | some v => some (.val v, h)
  | none => match aconvB P h s d a with
   | some p => some (.val p.1, p.2)
   | none => (aconvP P h s d a).bind fun v => some (.val v, h)
 | .makeMap t r => (evo ρ r).bind fun a => (amakeMap P h t a).bind fun p => some (.val p.1, p.2)
 | .lookup t x k ok => (ρ x).bind fun a => (ρ k).bind fun b => (alookup P h t a b ok).bind fun v => some (.val v, h)
 | .mapUpdate t x k y => (ρ x).bind fun a => (ρ k).bind fun b => (ρ y).bind fun c => (amapUpdate P h t a b c).bind fun h' => some (.skip, h')
 | .insert t x k y => (ρ x).bind fun a => (ρ k).bind fun b => (ρ y).bind fun c => (amapUpdate P h t a b c).bind fun h' => some (.skip, h')
 | .makeInterface t x => (ρ x).bind fun a => match P.underlying t with
  | some d => match d with
   | .interface _ => none
   | _ => some (.val (.iface t a), h)
  | none => none
 | .makeFunc fn first captured => (evs ρ first.toList).bind fun a => (evs ρ captured.toList).bind fun b => some (.val (.func fn a.toArray b.toArray), h)
 | .makeSlice t l c => (ρ l).bind fun a => (ρ c).bind fun b => (amake P h t a b).bind fun p => some (.val p.1, p.2)
 | .slice t x lo hi mx => (ρ x).bind fun a => (evo ρ lo).bind fun l => (evo ρ hi).bind fun hh => (evo ρ mx).bind fun mm => (aslice P h t a l hh mm).bind fun p => some (.val p.1, p.2)
 | .fieldAddr t x f => (ρ x).bind fun a => (afieldAddr P t a f).bind fun v => some (.val v, h)
 | .field t x f => (ρ x).bind fun a => (afield P t a f).bind fun v => some (.val v, h)
 | .indexAddr t x i => (ρ x).bind fun a => (ρ i).bind fun b => (aindexAddr P t a b).bind fun v => some (.val v, h)
 | .index t x i => (ρ x).bind fun a => (ρ i).bind fun b => (aindex P t a b).bind fun v => some (.val v, h)
 | .typeAssert x _ t ok => (ρ x).bind fun a => (aassert P a t ok).bind fun v => some (.val v, h)
 | .extract x i => (ρ x).bind fun a => (aextract a i).bind fun v => some (.val v, h)
 | .call c =>
  match c.callee with
  | .value f => (ρ f).bind fun fv => (calleeOf fv).bind fun q => (fnOf q.1).bind fun g => (evs ρ c.args.toList).bind fun as =>
    if canEnter P g then some (.call g (q.2.1.toList ++ as ++ q.2.2.toList), h)
    else if aNoEsc P g then (match q.2.1.toList ++ as ++ q.2.2.toList with | [x] => some (.val x, h) | _ => none)
    else (aext P (fun g => ρ (.global g)) h g (q.2.1.toList ++ as ++ q.2.2.toList)).bind fun v => some (.val v, h)
  | .builtin b => (evs ρ c.args.toList).bind fun as => abuiltin P b c.argTypes.toList as h
  | .invoke _ _ => none
 | .defer c =>
  match c.callee with
  | .value f => (ρ f).bind fun fv => (calleeOf fv).bind fun q => (evs ρ c.args.toList).bind fun as => some (.defer { target := .fn q.1 q.2.2, args := q.2.1 ++ as.toArray }, h)
  | _ => none
 | .panic x => (ρ x).bind fun v => match v with
  | .iface _ _ => some (.panic v, h)
  | _ => none
 | _ => none
section
variable {P : Program} {S : Start} {m : Ren} {h : Heap} {w : World}
variable {ρ : Operand → Option Value} {ρ' : Operand → Value}
theorem evs_run {n : Nat} (hρ : ∀ x v, ρ x = some v → ρ' x = ren m v ∧ sc n v) : ∀ {l : List Operand} {vs : List Value}, evs ρ l = some vs → l.map ρ' = vs.map (ren m) ∧ ∀ v ∈ vs, sc n v
 | [], vs, e => by simp only [evs] at e; cases e; simp
 | x :: l, vs, e => by
  simp only [evs] at e
  obtain ⟨v, hv, e1⟩ := ob e
  obtain ⟨us, hus, e2⟩ := ob e1
  cases e2
  obtain ⟨h1, h2⟩ := evs_run hρ hus
  simp [h1, hρ x v hv]
  exact h2
theorem evp_run {n : Nat} (hρ : ∀ x v, ρ x = some v → ρ' x = ren m v ∧ sc n v) : ∀ {l : List (Nat × Operand)} {vs : List (Nat × Value)}, evp ρ l = some vs → l.map (fun p => (p.1, ρ' p.2)) = vs.map (fun p => (p.1, ren m p.2)) ∧ ∀ p ∈ vs, sc n p.2
 | [], vs, e => by simp only [evp] at e; cases e; simp
 | x :: l, vs, e => by
  simp only [evp] at e
  obtain ⟨v, hv, e1⟩ := ob e
  obtain ⟨us, hus, e2⟩ := ob e1
  cases e2
  obtain ⟨h1, h2⟩ := evp_run hρ hus
  refine ⟨by simp [h1, hρ _ v hv], ?_⟩
  intro p hp
  rcases List.mem_cons.1 hp with hp | hp
  ·subst hp; exact (hρ _ v hv).2
  ·exact h2 p hp
theorem evo_run {n : Nat} (hρ : ∀ x v, ρ x = some v → ρ' x = ren m v ∧ sc n v) {x : Option Operand} {v : Option Value} (e : evo ρ x = some v) : x.map ρ' = v.map (ren m) := by
 cases x with
 | none => simp only [evo] at e; cases e; rfl
 | some x => simp only [evo] at e; obtain ⟨u, hu, rfl⟩ := om e; simp [hρ x u hu]
theorem map_eq_toArray {l : Array Operand} {vs : List Value} (e : l.toList.map ρ' = vs.map (ren m)) : l.map ρ' = (vs.map (ren m)).toArray := by
 apply Array.ext'; simpa using e
def AGoes (P : Program) (S : Start) (m : Ren) (h : Heap) (w : World) (s : Sem Next) (r : AN) (h' : Heap) : Prop :=
 ∃ m' w', m.agree h.next m' ∧ s.run P w = r.res m' w' ∧ HRel P S m' h' w' ∧ r.sc h'.next ∧ h.next ≤ h'.next
theorem AGoes.same (hr : HRel P S m h w) {s : Sem Next} {r : AN} (e : s.run P w = r.res m w) (hs : r.sc h.next) : AGoes P S m h w s r h :=
 ⟨m, w, Ren.agree_refl _ _, e, hr, hs, Nat.le_refl _⟩
theorem AGoes.val (hr : HRel P S m h w) {s : Sem Value} {v : Value} (e : s.run P w = .ok (ren m v) w) (hs : sc h.next v) :
  AGoes P S m h w (do pure (.value (← s))) (.val v) h := AGoes.same hr (by simp [e, AN.res]) hs
theorem AGoes.of {s : Sem Value} {v : Value} {h' : Heap} (e : Goes P S m h w s v h') : AGoes P S m h w (do pure (.value (← s))) (.val v) h' := by
 obtain ⟨m', w', h1, h2, h3, h4, h5⟩ := e
 exact ⟨m', w', h1, by simp [h2, AN.res], h3, h4, h5⟩
theorem abuiltin_run (hr : HRel P S m h w) {b : Builtin} {ats : Array TypeId} {ty : TypeId} {consts : Array Bool} {args : List Value} {r : AN} {h' : Heap} (hs : ∀ v ∈ args, sc h.next v)
  (e : abuiltin P b ats.toList args h = some (r, h')) : AGoes P S m h w (builtin b ats ty consts (args.map (ren m)).toArray) r h' := by
 unfold abuiltin at e
 split at e
 ·rename_i st xt s x h1
  obtain ⟨⟨v, h2⟩, hp, e⟩ := ob e
  cases e
  have ha : ats = #[st, xt] := by apply Array.ext'; simpa using h1
  subst ha
  exact AGoes.of (aappend_run hr (hs s (by simp)) hp)
 ·rename_i dt st d s h1
  obtain ⟨⟨v, h2⟩, hp, e⟩ := ob e
  cases e
  have ha : ats = #[dt, st] := by apply Array.ext'; simpa using h1
  subst ha
  exact AGoes.of (acopy_run hr hp)
 ·rename_i t x h1
  obtain ⟨v, hp, e⟩ := ob e
  cases e
  have ha : ats = #[t] := by apply Array.ext'; simpa using h1
  subst ha
  obtain ⟨q1, q2⟩ := alen_run (ty := ty) hr hp
  exact AGoes.val hr q1 q2
 ·obtain ⟨v, hp, e⟩ := ob e
  cases e
  obtain ⟨q1, q2⟩ := amm_run (P := P) (w := w) (m := m) (a := ats) (ty := ty) true hp
  exact AGoes.val hr q1 (sc_flat _ _ q2)
 ·obtain ⟨v, hp, e⟩ := ob e
  cases e
  obtain ⟨q1, q2⟩ := amm_run (P := P) (w := w) (m := m) (a := ats) (ty := ty) false hp
  exact AGoes.val hr q1 (sc_flat _ _ q2)
 ·cases e
  exact AGoes.same hr rfl trivial
 ·obtain ⟨v, hp, e⟩ := ob e
  cases e
  obtain ⟨q1, q2⟩ := asliceData_run (P := P) (m := m) (w := w) (ats := ats) (ty := ty) hp
  exact AGoes.val hr q1 (q2 _ (hs _ (by simp)))
 ·rename_i pt it p n h1
  obtain ⟨⟨v, h2⟩, hp, e⟩ := ob e
  cases e
  have ha : ats = #[pt, it] := by apply Array.ext'; simpa using h1
  subst ha
  exact AGoes.of (aunsafeString_run hr hp)
 ·cases e
theorem aext_run (hr : HRel P S m h w) (hρ : ∀ x v, ρ x = some v → ρ' x = ren m v ∧ sc h.next v) (hG : ∀ g, ρ' (.global g) = .pointer (some ⟨g, 0, none⟩)) {f : FuncId} {args : List Value} {v : Value} (e : aext P (fun g => ρ (.global g)) h f args = some v) :
  (callFunc f (args.map (ren m)).toArray).run P w = .ok (.value v) w ∧ flat v = true := by
 unfold aext at e
 split at e
 ·cases e
 ·rename_i fn hfn
  split at e
  ·rename_i hc
   obtain ⟨h1, h2, h3⟩ := hc
   split at e
   ·rename_i s c
    split at e
    ·rename_i he
     cases e
     refine ⟨?_, rfl⟩
     rw [run_callFunc_indexByte hfn h1 h2 h3 he]
     have := run_indexByte_string (P := P) s c w
     simp only [List.map_cons, List.map_nil, ren, this, Result.andThen_ok]
    ·cases e
   ·rename_i a b
    split at e
    ·rename_i he
     split at e
     ·rename_i g hg
      split at e
      ·rename_i hgl
       split at e
       ·rename_i mx hld
        split at e
        ·rename_i hcond
         cases e
         refine ⟨?_, rfl⟩
         obtain ⟨q1, q2⟩ := hρ _ _ hgl
         rw [hG g] at q1
         simp only [ren, Value.pointer.injEq, Option.some.injEq, Addr.mk.injEq, Nat.zero_add, and_true] at q1
         obtain ⟨c1, c2⟩ := hr.ld_run hld
         rw [← q1.1, ← q1.2] at c1
         rw [run_callFunc_extern hfn h1 h2 h3 he]
         have := Lib.run_indexString (P := P) a b w g mx hg c1 hcond.1 hcond.2.1 hcond.2.2
         simp only [List.map_cons, List.map_nil, ren, this, Result.andThen_ok]
        ·cases e
       ·cases e
      ·cases e
     ·cases e
    ·cases e
   ·cases e
  ·cases e
theorem row_mine (hr : HRel P S m h w) {i : Nat} {r : Row} (e : h.row i = some r) (hm : r.mine = true) : ∃ c t, w.heap[m.blk i]? = some (.cells c t (0, 0)) := by
 obtain ⟨_, c, fz, h1, _, _, _, _, _, h8, _⟩ := hr.obj i _ (Heap.row_some.1 e)
 unfold Row.mine at hm
 simp only [Bool.and_eq_true, Bool.not_eq_true'] at hm
 rw [h8 hm.1.1 hm.1.2 hm.2] at h1
 exact ⟨c, _, h1⟩
theorem aptr_run (hr : HRel P S m h w) {op : BinOp} {t : TypeId} {x y v : Value} (xo yo : Operand) (e : aptr P h op t x y = some v) :
  (do eqGuard op t xo yo (ren m x) (ren m y); binOp op t (ren m x) (ren m y) : Sem Value).run P w = .ok v w ∧ flat v = true := by
 unfold aptr at e
 split at e
 ·rename_i el i k j l hu
  split at e
  ·cases e
  rename_i hz
  obtain ⟨ti, hti, hsz⟩ : ∃ ti, P.info? el = some ti ∧ ti.size ≠ 0 := by
   unfold Program.cellsOf at hz
   cases q : P.info? el with
   | none => simp [q] at hz
   | some ti => exact ⟨ti, rfl, by simpa [q] using hz⟩
  have key : ∀ b : Bool, (sameAddr ⟨m.blk i, k + m.sh i, none⟩ ⟨m.blk j, l + m.sh j, none⟩).run P w = .ok b w → eqOp op (some b) = some v →
    (do eqGuard op t xo yo (ren m (.pointer (some ⟨i, k, none⟩))) (ren m (.pointer (some ⟨j, l, none⟩))); binOp op t (ren m (.pointer (some ⟨i, k, none⟩))) (ren m (.pointer (some ⟨j, l, none⟩))) : Sem Value).run P w = .ok v w ∧ flat v = true := by
   intro b hb h2
   obtain ⟨e1, e2⟩ := binOp_eql_plain (t := t) (x := ren m (.pointer (some ⟨i, k, none⟩))) (y := ren m (.pointer (some ⟨j, l, none⟩))) rfl rfl
   have hq := eqGuard_plain (P := P) (op := op) (t := t) (x := ren m (.pointer (some ⟨i, k, none⟩))) (y := ren m (.pointer (some ⟨j, l, none⟩))) w xo yo (by intro cs q; simp [ren] at q) (by rintro ⟨q, _⟩; simp [ren] at q)
   have hE0 : ∀ d : Nat, (Op.equalIn (d + 1) t (ren m (.pointer (some ⟨i, k, none⟩))) (ren m (.pointer (some ⟨j, l, none⟩)))).run P w = .ok b w := by
    intro d
    simp [ren, Op.equalIn, run_underlying hu, samePointer, run_sizeOf' hti, hsz, hb]
   have hE := hE0 9999
   cases op <;> simp only [eqOp] at h2 <;> try (cases h2; done)
   all_goals
    simp only [Option.map_some, Option.some.injEq] at h2
    subst h2
    simp only [Sem.run_bind, hq, Result.andThen]
    first
     | (rw [e1]; simp only [Sem.run_bind, Op.equal, Op.maxDepth, hE, Result.andThen]; exact ⟨rfl, rfl⟩)
     | (rw [e2]; simp only [Sem.run_bind, Op.equal, Op.maxDepth, hE, Result.andThen]; exact ⟨rfl, rfl⟩)
  split at e
  ·rename_i hij
   subst hij
   refine key _ ?_ e
   by_cases hkl : k = l
   ·subst hkl; simp [sameAddr]
   ·simp [sameAddr, hkl]
  ·rename_i hij
   split at e
   ·rename_i r q h1 h2
    split at e
    ·rename_i hm
     rw [Bool.and_eq_true] at hm
     obtain ⟨c1, t1, g1⟩ := row_mine hr h1 hm.1
     obtain ⟨c2, t2, g2⟩ := row_mine hr h2 hm.2
     have hne : m.blk i ≠ m.blk j := by
      refine hr.apart i j _ _ hij (Heap.row_some.1 h1) (Heap.row_some.1 h2) ?_ ?_
      ·have := hm.1; unfold Row.mine at this; simp only [Bool.and_eq_true, Bool.not_eq_true'] at this; simp [AObj.own, this]
      ·have := hm.2; unfold Row.mine at this; simp only [Bool.and_eq_true, Bool.not_eq_true'] at this; simp [AObj.own, this]
     refine key _ ?_ e
     simp [sameAddr, hne, World.frozen?, g1, g2, noView, viewAt, World.shape?, mayBeOne, stringish]
    ·cases e
   ·cases e
 ·cases e
theorem binA_run (hr : HRel P S m h w) {op : BinOp} {t : TypeId} {both : Bool} {x y v : Value} (xo yo : Operand) (e : binA P h op t both x y = some v) :
  (do eqGuard op t xo yo (ren m x) (ren m y); binOp op t (ren m x) (ren m y) : Sem Value).run P w = .ok v w ∧ flat v = true := by
 unfold binA at e
 split at e
 ·rename_i u hu
  cases e
  exact abin_run m w xo yo hu
 ·split at e
  ·exact aptr_run hr xo yo e
  ·cases e
theorem aop_run (hr : HRel P S m h w) (hρ : ∀ x v, ρ x = some v → ρ' x = ren m v ∧ sc h.next v) (hG : ∀ g, ρ' (.global g) = .pointer (some ⟨g, 0, none⟩)) {o : Oper} {r : AN} {h' : Heap} (e : aop P ρ o h = some (r, h')) :
  AGoes P S m h w (execOp ρ' o) r h' := by
 obtain ⟨dst, op, type, pos, after, guard⟩ := o
 cases op <;> simp only [aop] at e <;> try (cases e; done)
 case move x => obtain ⟨v, hv, e⟩ := ob e; cases e; obtain ⟨q1, q2⟩ := hρ x v hv; exact AGoes.same hr (by simp [execOp, q1, AN.res]) q2
 case assign x => obtain ⟨v, hv, e⟩ := ob e; cases e; obtain ⟨q1, q2⟩ := hρ x v hv; exact AGoes.same hr (by simp [execOp, q1, AN.res]) q2
 case pick c a b =>
  obtain ⟨cv, hc, e⟩ := ob e
  obtain ⟨q1, _⟩ := hρ c cv hc
  cases cv with
  | bool t =>
   obtain ⟨v, hv, e⟩ := ob e
   cases e
   obtain ⟨q3, q4⟩ := hρ _ v hv
   refine AGoes.same hr ?_ q4
   simp only [ren] at q1
   cases t
   ·simp only [Bool.false_eq_true, if_false] at q3
    simp [execOp, q1, q3, asBool, AN.res]
   ·simp only [if_true] at q3
    simp [execOp, q1, q3, asBool, AN.res]
  | _ => cases e
 case alloc t =>
  obtain ⟨⟨v, h2⟩, hp, e⟩ := ob e
  cases e
  obtain ⟨m', w', g1, g2, g3, g4, g5⟩ := aalloc_run hr hp
  exact AGoes.of ⟨m', w', g1, g2, g3, g4, by have g6 : h2.next = h.next + 1 := g5; show h.next ≤ h2.next; omega⟩
 case box t x =>
  obtain ⟨v, hv, e⟩ := ob e
  cases e
  obtain ⟨q1, q2⟩ := hρ x v hv
  obtain ⟨m', w', g1, g2, g3⟩ := abox_run hr t q2
  simp only [execOp, q1]
  exact AGoes.of ⟨m', w', g1, g2, g3, by simp [abox, Heap.new, sc], by simp [abox]⟩
 case build t parts =>
  obtain ⟨ps, hps, e⟩ := ob e
  obtain ⟨v, hv, e⟩ := ob e
  cases e
  obtain ⟨q1, q2⟩ := evp_run hρ hps
  obtain ⟨q3, q4⟩ := abuild_run m w q2 hv
  have ha : (parts.map fun (i, x) => (i, ρ' x)) = (ps.map fun p => (p.1, ren m p.2)).toArray := by apply Array.ext'; simpa using q1
  simp only [execOp, ha]
  exact AGoes.val hr q3 q4
 case buildSlice t len parts =>
  obtain ⟨ps, hps, e⟩ := ob e
  obtain ⟨⟨v, h2⟩, hv, e⟩ := ob e
  cases e
  obtain ⟨q1, q2⟩ := evp_run hρ hps
  have ha : (parts.map fun (i, x) => (i, ρ' x)) = (ps.map fun p => (p.1, ren m p.2)).toArray := by apply Array.ext'; simpa using q1
  simp only [execOp, ha]
  exact AGoes.of (abuildSlice_run hr q2 hv)
 case load t a =>
  obtain ⟨p, hp, e⟩ := ob e
  obtain ⟨v, hv, e⟩ := ob e
  cases e
  obtain ⟨q1, q2⟩ := aload_run hr hv
  simp only [execOp, (hρ a p hp).1]
  exact AGoes.val hr q1 q2
 case store t a x =>
  obtain ⟨p, hp, e⟩ := ob e
  obtain ⟨v, hv, e⟩ := ob e
  obtain ⟨h2, hh, e⟩ := ob e
  cases e
  obtain ⟨w', q1, q2, q3⟩ := astore_run hr hh (hρ x v hv).2
  exact ⟨m, w', Ren.agree_refl _ _, by simp [execOp, (hρ a p hp).1, (hρ x v hv).1, q1, AN.res], q2, trivial, by omega⟩
 case nilCheck x =>
  obtain ⟨v, hv, e⟩ := ob e
  obtain ⟨q1, q2⟩ := hρ x v hv
  split at e
  ·rename_i hn
   cases e
   refine AGoes.same hr ?_ q2
   unfold notNil at hn
   split at hn
   ·simp [execOp, q1, ren, AN.res]
   ·simp [execOp, q1, ren, AN.res]
   ·cases hn
  ·cases e
 case binOp op t x y yt =>
  obtain ⟨a, ha, e⟩ := ob e
  obtain ⟨b, hb, e⟩ := ob e
  obtain ⟨v, hv, e⟩ := ob e
  cases e
  obtain ⟨q1, q2⟩ := binA_run hr x y hv
  simp only [execOp, (hρ x a ha).1, (hρ y b hb).1]
  exact AGoes.val hr (by rw [ren_flat m v q2]; exact q1) (sc_flat _ _ q2)
 case unOp op t x =>
  obtain ⟨a, ha, e⟩ := ob e
  obtain ⟨v, hv, e⟩ := ob e
  cases e
  obtain ⟨q1, q2⟩ := aun_run (P := P) m w hv
  simp only [execOp, (hρ x a ha).1]
  exact AGoes.val hr (by rw [ren_flat m v q2]; exact q1) (sc_flat _ _ q2)
 case convert s d x =>
  obtain ⟨a, ha, e⟩ := ob e
  simp only [execOp, (hρ x a ha).1]
  split at e
  ·rename_i v hv
   cases e
   obtain ⟨q1, q2⟩ := aconv_run (P := P) m w hv
   exact AGoes.val hr (by rw [ren_flat m v q2]; exact q1) (sc_flat _ _ q2)
  ·split at e
   ·rename_i p hv
    cases e
    exact AGoes.of (aconvB_run hr hv)
   ·obtain ⟨v, hv, e⟩ := ob e
    cases e
    obtain ⟨q1, q2⟩ := aconvP_run hr hv
    exact AGoes.val hr q1 (q2 (hρ x a ha).2)
 case makeMap t r =>
  obtain ⟨a, ha, e⟩ := ob e
  obtain ⟨⟨v, h2⟩, hv, e⟩ := ob e
  cases e
  simp only [execOp, evo_run hρ ha]
  exact AGoes.of (amakeMap_run hr hv)
 case lookup t x k ok =>
  obtain ⟨a, ha, e⟩ := ob e
  obtain ⟨b, hb, e⟩ := ob e
  obtain ⟨v, hv, e⟩ := ob e
  cases e
  simp only [execOp, (hρ x a ha).1, (hρ k b hb).1]
  obtain ⟨q1, q2⟩ := alookup_run hr hv
  exact AGoes.val hr q1 q2
 case mapUpdate t x k y =>
  obtain ⟨a, ha, e⟩ := ob e
  obtain ⟨b, hb, e⟩ := ob e
  obtain ⟨c, hc, e⟩ := ob e
  obtain ⟨h2, hv, e⟩ := ob e
  cases e
  obtain ⟨w', q1, q2, q3⟩ := amapUpdate_run hr (hρ k b hb).2 (hρ y c hc).2 hv
  refine ⟨m, w', Ren.agree_refl _ _, ?_, q2, trivial, by omega⟩
  simp only [execOp, (hρ x a ha).1, (hρ k b hb).1, (hρ y c hc).1, Sem.run_bind, q1, Result.andThen_ok, AN.res, Sem.run_pure]
 case insert t x k y =>
  obtain ⟨a, ha, e⟩ := ob e
  obtain ⟨b, hb, e⟩ := ob e
  obtain ⟨c, hc, e⟩ := ob e
  obtain ⟨h2, hv, e⟩ := ob e
  cases e
  obtain ⟨w', q1, q2, q3⟩ := amapUpdate_run hr (hρ k b hb).2 (hρ y c hc).2 hv
  refine ⟨m, w', Ren.agree_refl _ _, ?_, q2, trivial, by omega⟩
  simp only [execOp, (hρ x a ha).1, (hρ k b hb).1, (hρ y c hc).1, Sem.run_bind, q1, Result.andThen_ok, AN.res, Sem.run_pure]
 case makeInterface t x =>
  obtain ⟨a, ha, e⟩ := ob e
  simp only [execOp, (hρ x a ha).1]
  split at e
  ·rename_i d hd
   split at e
   ·cases e
   ·rename_i hne
    cases e
    refine AGoes.val hr ?_ (by simp only [sc]; exact (hρ x a ha).2)
    simp only [Instr.makeInterface, Sem.run_bind, run_underlying hd, Result.andThen_ok, ren]
    cases d <;> first | (exact absurd rfl (hne _)) | rfl
  ·cases e
 case makeFunc fn first captured =>
  obtain ⟨a, ha, e⟩ := ob e
  obtain ⟨b, hb, e⟩ := ob e
  cases e
  obtain ⟨q1, q2⟩ := evs_run hρ ha
  obtain ⟨q3, q4⟩ := evs_run hρ hb
  simp only [execOp, map_eq_toArray q1, map_eq_toArray q3]
  exact AGoes.val hr (by simp [Instr.makeFunc, ren, renA, renL_map]) (by simp only [sc, scA, scL_all]; exact ⟨q2, q4⟩)
 case makeSlice t l c =>
  obtain ⟨a, ha, e⟩ := ob e
  obtain ⟨b, hb, e⟩ := ob e
  obtain ⟨⟨v, h2⟩, hv, e⟩ := ob e
  cases e
  simp only [execOp, (hρ l a ha).1, (hρ c b hb).1]
  exact AGoes.of (amake_run hr hv)
 case slice t x lo hi mx =>
  obtain ⟨a, ha, e⟩ := ob e
  obtain ⟨l, hl, e⟩ := ob e
  obtain ⟨hh, hhh, e⟩ := ob e
  obtain ⟨mm, hmm, e⟩ := ob e
  obtain ⟨⟨v, h2⟩, hv, e⟩ := ob e
  cases e
  simp only [execOp, (hρ x a ha).1, evo_run hρ hl, evo_run hρ hhh, evo_run hρ hmm]
  exact AGoes.of (aslice_run hr (hρ x a ha).2 hv)
 case fieldAddr t x f =>
  obtain ⟨a, ha, e⟩ := ob e
  obtain ⟨v, hv, e⟩ := ob e
  cases e
  obtain ⟨q1, q2⟩ := afieldAddr_run (w := w) (m := m) (hρ x a ha).2 hv
  simp only [execOp, (hρ x a ha).1]
  exact AGoes.val hr q1 q2
 case field t x f =>
  obtain ⟨a, ha, e⟩ := ob e
  obtain ⟨v, hv, e⟩ := ob e
  cases e
  obtain ⟨q1, q2⟩ := afield_run (w := w) (m := m) (hρ x a ha).2 hv
  simp only [execOp, (hρ x a ha).1]
  exact AGoes.val hr q1 q2
 case indexAddr t x i =>
  obtain ⟨a, ha, e⟩ := ob e
  obtain ⟨b, hb, e⟩ := ob e
  obtain ⟨v, hv, e⟩ := ob e
  cases e
  obtain ⟨q1, q2⟩ := aindexAddr_run (w := w) (m := m) (hρ x a ha).2 hv
  simp only [execOp, (hρ x a ha).1, (hρ i b hb).1]
  exact AGoes.val hr q1 q2
 case index t x i =>
  obtain ⟨a, ha, e⟩ := ob e
  obtain ⟨b, hb, e⟩ := ob e
  obtain ⟨v, hv, e⟩ := ob e
  cases e
  obtain ⟨q1, q2⟩ := aindex_run (w := w) (m := m) (hρ x a ha).2 hv
  simp only [execOp, (hρ x a ha).1, (hρ i b hb).1]
  exact AGoes.val hr q1 q2
 case typeAssert x xt t ok =>
  obtain ⟨a, ha, e⟩ := ob e
  obtain ⟨v, hv, e⟩ := ob e
  cases e
  obtain ⟨q1, q2⟩ := aassert_run (P := P) (xt := xt) m w (hρ x a ha).2 hv
  simp only [execOp, (hρ x a ha).1]
  exact AGoes.val hr q1 q2
 case extract x i =>
  obtain ⟨a, ha, e⟩ := ob e
  obtain ⟨v, hv, e⟩ := ob e
  cases e
  obtain ⟨q1, q2⟩ := aextract_run (P := P) (w := w) (m := m) (hρ x a ha).2 hv
  simp only [execOp, (hρ x a ha).1]
  exact AGoes.val hr q1 q2
 case call c =>
  obtain ⟨callee, args, argTypes⟩ := c
  simp only at e
  split at e
  ·rename_i f
   obtain ⟨fv, hf, e⟩ := ob e
   obtain ⟨⟨fn, a, b⟩, hq, e⟩ := ob e
   obtain ⟨g, hg, e⟩ := ob e
   obtain ⟨as, has, e⟩ := ob e
   split at e
   ·rename_i hcan
    cases e
    obtain ⟨q1, q2⟩ := hρ f fv hf
    obtain ⟨q3, q4⟩ := evs_run hρ has
    cases fv <;> simp only [calleeOf] at hq <;> try (cases hq; done)
    cases hq
    cases fn <;> simp only [fnOf] at hg <;> try (cases hg; done)
    cases hg
    simp only [sc, scA_all] at q2
    refine AGoes.same hr ?_ ?_
    ·simp only [execOp, resolve, q1, ren, map_eq_toArray q3, Deferred.ofValue, Sem.run_bind, Sem.run_pure, Result.andThen_ok, invoke, callFunc_run hcan, AN.res]
     congr 2
     apply Array.ext'
     simp [renA_map]
    ·intro v hv
     simp only [List.mem_append] at hv
     rcases hv with (hv | hv) | hv
     ·exact q2.1 v (by simpa using hv)
     ·exact q4 v hv
     ·exact q2.2 v (by simpa using hv)
   ·split at e
    ·rename_i hne
     split at e
     ·rename_i x hx
      cases e
      obtain ⟨q1, q2⟩ := hρ f fv hf
      obtain ⟨q3, q4⟩ := evs_run hρ has
      cases fv <;> simp only [calleeOf] at hq <;> try (cases hq; done)
      cases hq
      cases fn <;> simp only [fnOf] at hg <;> try (cases hg; done)
      cases hg
      simp only [sc, scA_all] at q2
      have hx' : a.toList ++ as ++ b.toList = [x] := hx
      refine AGoes.same hr ?_ ?_
      ·have hargs : (renA m a ++ (List.map (ren m) as).toArray ++ renA m b) = #[ren m x] := by
        apply Array.ext'
        have := congrArg (List.map (ren m)) hx'
        simpa [renA_map] using this
       simp only [execOp, resolve, q1, ren, map_eq_toArray q3, Deferred.ofValue, Sem.run_bind, Sem.run_pure, Result.andThen_ok, invoke, AN.res]
       rw [hargs, aNoEsc_run hne]
      ·have hmem : x ∈ a.toList ++ as ++ b.toList := by rw [hx']; simp
       simp only [List.mem_append] at hmem
       rcases hmem with (hv | hv) | hv
       ·exact q2.1 _ (by simpa using hv)
       ·exact q4 _ hv
       ·exact q2.2 _ (by simpa using hv)
     ·cases e
    obtain ⟨v, hv, e⟩ := ob e
    cases e
    obtain ⟨q1, q2⟩ := hρ f fv hf
    obtain ⟨q3, q4⟩ := evs_run hρ has
    cases fv <;> simp only [calleeOf] at hq <;> try (cases hq; done)
    cases hq
    cases fn <;> simp only [fnOf] at hg <;> try (cases hg; done)
    cases hg
    obtain ⟨r1, r2⟩ := aext_run hr hρ hG hv
    refine AGoes.same hr ?_ (sc_flat _ _ r2)
    have hargs : (renA m a ++ (List.map (ren m) as).toArray ++ renA m b) = ((a.toList ++ as ++ b.toList).map (ren m)).toArray := by
     apply Array.ext'
     simp [renA_map]
    simp only [execOp, resolve, q1, ren, map_eq_toArray q3, Deferred.ofValue, Sem.run_bind, Sem.run_pure, Result.andThen_ok, invoke, AN.res]
    rw [hargs, r1]
    simp only [ren_flat m v r2]
  ·rename_i b
   obtain ⟨as, has, e⟩ := ob e
   obtain ⟨q3, q4⟩ := evs_run hρ has
   have := abuiltin_run (ty := type) (consts := args.map fun | .const _ => true | _ => false) hr q4 e
   obtain ⟨m', w', g1, g2, g3, g4, g5⟩ := this
   refine ⟨m', w', g1, ?_, g3, g4, g5⟩
   simp only [execOp, resolve, map_eq_toArray q3, Sem.run_bind, Sem.run_pure, Result.andThen_ok, invoke]
   exact g2
  ·cases e
 case defer c =>
  obtain ⟨callee, args, argTypes⟩ := c
  simp only at e
  split at e
  ·rename_i f
   obtain ⟨fv, hf, e⟩ := ob e
   obtain ⟨⟨fn, a, b⟩, hq, e⟩ := ob e
   obtain ⟨as, has, e⟩ := ob e
   cases e
   obtain ⟨q1, q2⟩ := hρ f fv hf
   obtain ⟨q3, q4⟩ := evs_run hρ has
   cases fv <;> simp only [calleeOf] at hq <;> try (cases hq; done)
   cases hq
   simp only [sc, scA_all] at q2
   refine AGoes.same hr ?_ ?_
   ·simp only [execOp, resolve, q1, ren, map_eq_toArray q3, Deferred.ofValue, Sem.run_bind, Sem.run_pure, Result.andThen_ok, AN.res, renD, renT]
    congr 3
    apply Array.ext'
    simp [renA_map]
   ·refine ⟨by simp only [scA_all]; exact q2.2, ?_⟩
    simp only [scA_all]
    intro v hv
    rcases Array.mem_append.1 hv with hv | hv
    ·exact q2.1 v hv
    ·exact q4 v (by simpa using hv)
  ·cases e
 case panic x =>
  obtain ⟨v, hv, e⟩ := ob e
  obtain ⟨q1, q2⟩ := hρ x v hv
  cases v <;> try (cases e; done)
  cases e
  refine AGoes.same hr ?_ q2
  simp [execOp, q1, ren, Instr.panic, AN.res]
end
end
section
def look (t : Nat) : List (Nat × Value) → Option Value
 | [] => none
 | (k, v) :: l => if t = k then some v else look t l
def setk (t : Nat) (v : Value) : List (Nat × Value) → List (Nat × Value)
 | [] => [(t, v)]
 | (k, u) :: l => if t = k then (k, v) :: l else (k, u) :: setk t v l
theorem look_setk (t : Nat) (v : Value) (s : Nat) : ∀ l, look s (setk t v l) = if s = t then some v else look s l
 | [] => by simp [setk, look]
 | (k, u) :: l => by
  simp only [setk]
  split
  ·rename_i e
   subst e
   simp only [look]
   split <;> simp_all
  ·rename_i e
   simp only [look, look_setk t v s l]
   split
   ·rename_i e2
    rw [if_neg (by omega)]
   ·rfl
structure Frm where
 size : Nat
 slots : List (Nat × Value)
 defers : List Deferred
def Frm.put (fr : Frm) (dst : Option Nat) (v : Value) : Option Frm :=
 match dst with
 | none => some fr
 | some d => if d < fr.size then some { fr with slots := setk d v fr.slots } else none
def aev (G : Nat) (fr : Frm) : Operand → Option Value
 | .tmp t => look t fr.slots
 | .const v => if flat v then some v else none
 | .global g => if g < G then some (.pointer (some ⟨g, 0, none⟩)) else none
 | .func f => some (.func (.func f) #[] #[])
structure FRel (m : Ren) (n : Nat) (fr : Frm) (a : Act) : Prop where
 size : a.tmps.size = fr.size
 slot : ∀ t v, look t fr.slots = some v → sc n v ∧ a.tmps[t]? = some (ren m v)
 defers : a.defers = fr.defers.map (renD m)
 scd : ∀ d ∈ fr.defers, scD n d
theorem FRel.agree {m m' : Ren} {n n' : Nat} {fr : Frm} {a : Act} (hf : FRel m n fr a) (ha : m.agree n m') (hn : n ≤ n') : FRel m' n' fr a where
 size := hf.size
 slot t v hl := by
  obtain ⟨h1, h2⟩ := hf.slot t v hl
  exact ⟨sc_mono hn v h1, by rw [h2, ren_congr ha v h1]⟩
 defers := by
  rw [hf.defers]
  exact List.map_congr_left fun d hd => renD_congr ha (hf.scd d hd)
 scd d hd := scD_mono hn (hf.scd d hd)
theorem FRel.put {m : Ren} {n : Nat} {fr fr' : Frm} {a : Act} (hf : FRel m n fr a) {dst : Option Nat} {v : Value} (hp : fr.put dst v = some fr') (hs : sc n v) : FRel m n fr' (a.put dst (ren m v)) := by
 unfold Frm.put at hp
 split at hp
 ·cases hp; exact hf
 ·rename_i d
  split at hp
  ·rename_i hd
   cases hp
   refine ⟨by simp [Act.put, hf.size], ?_, by simp [Act.put, hf.defers], hf.scd⟩
   intro t u hl
   rw [look_setk] at hl
   simp only [Act.put]
   split at hl
   ·rename_i e
    subst e
    cases hl
    exact ⟨hs, by rw [Array.getElem?_setIfInBounds_self, if_pos (by rw [hf.size]; exact hd)]⟩
   ·rename_i e
    obtain ⟨h1, h2⟩ := hf.slot t u hl
    exact ⟨h1, by rw [Array.getElem?_setIfInBounds_ne (Ne.symm e)]; exact h2⟩
  ·cases hp
theorem aev_run {P : Program} {S : Start} {m : Ren} {h : Heap} {w : World} {fr : Frm} {a : Act} (hr : HRel P S m h w) (hf : FRel m h.next fr a) {x : Operand} {v : Value} (e : aev S.G fr x = some v) :
  a.eval x = ren m v ∧ sc h.next v := by
 cases x with
 | tmp t =>
  obtain ⟨h1, h2⟩ := hf.slot t v e
  exact ⟨by simp [Act.eval, h2], h1⟩
 | const u =>
  simp only [aev] at e
  split at e
  ·rename_i hfl; cases e; exact ⟨by simp [Act.eval, ren_flat m _ hfl], sc_flat _ _ hfl⟩
  ·cases e
 | global g =>
  simp only [aev] at e
  split at e
  ·rename_i hg
   cases e
   obtain ⟨h1, h2, _⟩ := hr.glob g hg
   have := hr.gle
   exact ⟨by simp [Act.eval, ren, h1, h2], by simp only [sc]; omega⟩
  ·cases e
 | func f => simp only [aev] at e; cases e; exact ⟨by simp [Act.eval, ren, renA, renL], by simp [sc, scA, scL]⟩
def awanted (ops : Array Oper) (fr : Frm) (o : Oper) : Option Bool :=
 match o.guard with
 | none => some true
 | some (j, want) =>
  match (ops[j]?).bind (·.dst) with
  | none => some false
  | some d => (look d fr.slots).bind fun v => match v with
   | .bool b => some (b == want)
   | _ => some false
theorem awanted_run {m : Ren} {n : Nat} {fr : Frm} {a : Act} (hf : FRel m n fr a) {ops : Array Oper} {o : Oper} {t : Bool} (e : awanted ops fr o = some t) :
  Region.wanted o (yielded ops a.tmps) = t := by
 unfold awanted at e
 unfold Region.wanted
 split at e
 ·rename_i hg; cases e; rw [hg]
 ·rename_i j want hg
  rw [hg]
  simp only [yielded]
  split at e
  ·rename_i hd
   cases e
   rw [hd]; rfl
  ·rename_i d hd
   obtain ⟨v, hv, e⟩ := ob e
   obtain ⟨h1, h2⟩ := hf.slot d v hv
   rw [hd]
   simp only [Option.bind_some, h2]
   cases v with
   | bool b => simp only [Option.some.injEq] at e; subst e; simp [ren]
   | pointer x => cases x <;> (cases e; simp [ren])
   | slice x l c => cases x <;> (cases e; simp [ren])
   | map r => cases r <;> (cases e; simp [ren])
   | chan r => cases r <;> (cases e; simp [ren])
   | _ => cases e; simp [ren]
section
variable {P : Program} {b : Frame} {a : Act} {k : List Item} {cs : List Frame} {w w' : World} {ops : Array Oper} {i : Nat} {rest : List Nat} {o : Oper}
theorem finish_at' (ho : ops[i]? = some o) (v : Value) : (b.at a (.inRegion ops (i :: rest) :: k)).finish v = b.at (a.put o.dst v) (.inRegion ops rest :: k) := by
 rw [Frame.finish_at, ho]; rfl
theorem go_value (ho : ops[i]? = some o) (hw : Region.wanted o (yielded ops a.tmps) = true) {v : Value} (hr : (execOp a.eval o).run P w = .ok (.value v) w') :
  Steps P (lone (b.at a (.inRegion ops (i :: rest) :: k)) cs w) (lone (b.at (a.put o.dst v) (.inRegion ops rest :: k)) cs w') :=
 .one (step_lone_go (by rw [stepG_op ho hw, ← finish_at' ho]; simp [stepG.apply, hr]))
theorem go_skip (ho : ops[i]? = some o) (hw : Region.wanted o (yielded ops a.tmps) = true) (hr : (execOp a.eval o).run P w = .ok .skip w') :
  Steps P (lone (b.at a (.inRegion ops (i :: rest) :: k)) cs w) (lone (b.at (a.put o.dst undef) (.inRegion ops rest :: k)) cs w') :=
 .one (step_lone_go (by rw [stepG_op ho hw, ← finish_at' ho]; simp [stepG.apply, hr]))
theorem go_unwanted (ho : ops[i]? = some o) (hw : Region.wanted o (yielded ops a.tmps) = false) :
  Steps P (lone (b.at a (.inRegion ops (i :: rest) :: k)) cs w) (lone (b.at (a.put o.dst undef) (.inRegion ops rest :: k)) cs w) := by
 have hs := step_op_skip (P := P) (b := b) (a := a) (k := k) (cs := cs) (w := w) (ops := ops) (i := i) (rest := rest) (by simp [ho]; simpa using hw)
 simp only [ho, Option.bind_some] at hs
 exact .one hs
theorem go_missing (ho : ops[i]? = none) :
  Steps P (lone (b.at a (.inRegion ops (i :: rest) :: k)) cs w) (lone (b.at a (.inRegion ops rest :: k)) cs w) := by
 have hs := step_op_skip (P := P) (b := b) (a := a) (k := k) (cs := cs) (w := w) (ops := ops) (i := i) (rest := rest) (by simp [ho])
 simp only [ho, Option.bind_none, Act.put] at hs
 exact .one hs
theorem go_defer (ho : ops[i]? = some o) (hw : Region.wanted o (yielded ops a.tmps) = true) {d : Deferred} (hr : (execOp a.eval o).run P w = .ok (.defer d) w') :
  Steps P (lone (b.at a (.inRegion ops (i :: rest) :: k)) cs w) (lone (b.at ({ a with defers := d :: a.defers }.put o.dst undef) (.inRegion ops rest :: k)) cs w') := by
 refine .one (step_lone_go ?_)
 have : ({ b.at a (.inRegion ops (i :: rest) :: k) with defers := d :: a.defers } : Frame).finish undef =
   b.at ({ a with defers := d :: a.defers }.put o.dst undef) (.inRegion ops rest :: k) := by
  have := Frame.finish_at b { a with defers := d :: a.defers } ops i rest k undef
  rw [ho] at this; exact this
 rw [stepG_op ho hw]; simp only [stepG.apply, Sem.runT_eq, hr, GStep.bare_after]
 exact congrArg (fun fr => GStep.go { frame := fr, callers := cs, status := .running, dying := none } w') this
theorem go_panic (ho : ops[i]? = some o) (hw : Region.wanted o (yielded ops a.tmps) = true) {v : Value} (hr : (execOp a.eval o).run P w = .halt (.panic v) w') :
  Steps P (lone (b.at a (.inRegion ops (i :: rest) :: k)) cs w) (lone { b.at a (.inRegion ops (i :: rest) :: k) with mode := .panicking [{ v, recovered := false }] } cs w') :=
 .one (step_lone_go (by rw [stepG_op ho hw, ← Frame.raise_at]; simp [stepG.apply, hr]))
theorem go_recover (hk : b.kind = .deferred) (ho : ops[i]? = some o) (hw : Region.wanted o (yielded ops a.tmps) = true) (hr : (execOp a.eval o).run P w = .ok .recover w') :
  Steps P (lone (b.at a (.inRegion ops (i :: rest) :: k)) cs w) (match recoverD cs with
   | some (v, cs') => lone (b.at (a.put o.dst v) (.inRegion ops rest :: k)) cs' w'
   | none => lone (b.at (a.put o.dst .nilIface) (.inRegion ops rest :: k)) cs w') := by
 have hkk : (b.at a (.inRegion ops (i :: rest) :: k)).kind = .deferred := hk
 have htr := tryRecover_deferred hkk cs
 cases hrec : recoverD cs with
 | some q =>
  obtain ⟨v, cs'⟩ := q
  refine .one (step_lone_go ?_)
  rw [stepG_op ho hw, ← finish_at' ho]
  simp only [Frame.at] at htr ⊢
  simp [stepG.apply, hr, htr, hrec]
 | none =>
  refine .one (step_lone_go ?_)
  rw [stepG_op ho hw, ← finish_at' ho]
  simp only [Frame.at] at htr ⊢
  simp [stepG.apply, hr, htr, hrec]
theorem go_call_returned (ho : ops[i]? = some o) (hw : Region.wanted o (yielded ops a.tmps) = true) {f : FuncId} {args : Array Value} (hr : (execOp a.eval o).run P w = .ok (.enter f args) w')
  {v : Value} {w'' : World} {fr : Frame} (hs : Comes P (lone (Frame.enter P f args .normal) (b.at a (.inRegion ops (i :: rest) :: k) :: cs) w') (lone fr (b.at a (.inRegion ops (i :: rest) :: k) :: cs) w'') (.returned v))
  (hl : fr.leaving P w'' (.returned v)) :
  Steps P (lone (b.at a (.inRegion ops (i :: rest) :: k)) cs w) (lone (b.at (a.put o.dst v) (.inRegion ops rest :: k)) cs w'') := by
 have henter : step P (lone (b.at a (.inRegion ops (i :: rest) :: k)) cs w) = .next (lone (Frame.enter P f args .normal) (b.at a (.inRegion ops (i :: rest) :: k) :: cs) w') :=
  step_lone_go (by rw [stepG_op ho hw]; simp [stepG.apply, hr, Frame.at])
 refine .head henter (Steps.trans hs (.one ?_))
 rw [← finish_at' ho]; exact step_leave_returned hl
theorem go_call_panicked (ho : ops[i]? = some o) (hw : Region.wanted o (yielded ops a.tmps) = true) {f : FuncId} {args : Array Value} (hr : (execOp a.eval o).run P w = .ok (.enter f args) w')
  {chain : List PanicEntry} {w'' : World} {fr : Frame} (hs : Comes P (lone (Frame.enter P f args .normal) (b.at a (.inRegion ops (i :: rest) :: k) :: cs) w') (lone fr (b.at a (.inRegion ops (i :: rest) :: k) :: cs) w'') (.panicked chain))
  (hl : fr.leaving P w'' (.panicked chain)) :
  Steps P (lone (b.at a (.inRegion ops (i :: rest) :: k)) cs w) (lone { b.at a (.inRegion ops (i :: rest) :: k) with mode := .panicking chain } cs w'') := by
 have henter : step P (lone (b.at a (.inRegion ops (i :: rest) :: k)) cs w) = .next (lone (Frame.enter P f args .normal) (b.at a (.inRegion ops (i :: rest) :: k) :: cs) w') :=
  step_lone_go (by rw [stepG_op ho hw]; simp [stepG.apply, hr, Frame.at])
 refine .head henter (Steps.trans hs (.one ?_))
 rw [← Frame.raise_at]; exact step_leave_panicked hl
end
end
section
def renP (m : Ren) (p : PanicEntry) : PanicEntry := { p with v := ren m p.v }
def renC (m : Ren) (c : List PanicEntry) : List PanicEntry := c.map (renP m)
def scC (n : Nat) (c : List PanicEntry) : Prop := ∀ p ∈ c, sc n p.v
theorem renC_congr {n : Nat} {m m' : Ren} (h : m.agree n m') {c : List PanicEntry} (hs : scC n c) : renC m c = renC m' c :=
 List.map_congr_left fun p hp => by simp [renP, ren_congr h p.v (hs p hp)]
theorem scC_mono {n k : Nat} (hk : n ≤ k) {c : List PanicEntry} (hs : scC n c) : scC k c := fun p hp => sc_mono hk _ (hs p hp)
def renM (m : Ren) : FrameMode → FrameMode
 | .panicking c => .panicking (renC m c)
 | u => u
def scM (n : Nat) : FrameMode → Prop
 | .panicking c => scC n c
 | _ => True
theorem renM_congr {n : Nat} {m m' : Ren} (h : m.agree n m') {u : FrameMode} (hs : scM n u) : renM m u = renM m' u := by
 cases u <;> simp only [renM]
 rw [renC_congr h hs]
theorem scM_mono {n k : Nat} (hk : n ≤ k) {u : FrameMode} (hs : scM n u) : scM k u := by
 cases u <;> first | trivial | exact scC_mono hk hs
def renX (m : Ren) : Exit → Exit
 | .panic c => .panic (renC m c)
 | e => e
def scX (n : Nat) : Exit → Prop
 | .panic c => scC n c
 | .outgrown => False
 | _ => True
def renN (m : Ren) : Ending → Ending
 | .returned v => .returned (ren m v)
 | .panicked c => .panicked (renC m c)
 | .outgrown => .outgrown
def scN (n : Nat) : Ending → Prop
 | .returned v => sc n v
 | .panicked c => scC n c
 | .outgrown => False
def scU (n : Nat) : Option FrameMode → Prop
 | none => True
 | some u => scM n u
theorem scU_mono {n k : Nat} (hk : n ≤ k) {u : Option FrameMode} (hs : scU n u) : scU k u := by
 cases u <;> first | trivial | exact scM_mono hk hs
def csOf (m : Ren) (c₀ : Frame) (cs₀ : List Frame) : Option FrameMode → List Frame
 | none => cs₀
 | some u => { c₀ with mode := renM m u } :: cs₀
theorem csOf_congr {n : Nat} {m m' : Ren} (h : m.agree n m') {u : Option FrameMode} (hs : scU n u) (c₀ : Frame) (cs₀ : List Frame) : csOf m c₀ cs₀ u = csOf m' c₀ cs₀ u := by
 cases u with
 | none => rfl
 | some u => simp only [csOf]; rw [renM_congr h hs]
def kindOk (b : Frame) : Option FrameMode → Prop
 | none => True
 | some _ => b.kind = .deferred
def aresult (P : Program) (fr : Frm) (h : Heap) : ResultVar → Option Value
 | .tmp t => look t fr.slots
 | .cell a t => (look a fr.slots).bind fun p => aload P h t p
def aresults (P : Program) (fr : Frm) (h : Heap) : List ResultVar → Option (List Value)
 | [] => some []
 | r :: l => (aresult P fr h r).bind fun v => (aresults P fr h l).bind fun vs => some (v :: vs)
def ares (P : Program) (fn : Func) (fr : Frm) (h : Heap) : Option Value :=
 (aresults P fr h fn.results.toList).bind fun vs => match vs with
  | [v] => some v
  | vs => some (.tuple vs.toArray)
theorem loadVar_of_loadAt {P : Program} {t : TypeId} {p : Value} {w : World} {v : Value} (m : Ren) (h : (Instr.loadAt t (ren m p)).run P w = .ok v w) :
  (do loadVar t (← asAddr (ren m p)) : Sem Value).run P w = .ok v w := by
 simp only [Instr.loadAt] at h
 cases p with
 | pointer a =>
  cases a with
  | some a => simpa [ren, Instr.sureAddr, asAddr] using h
  | none => simp [ren, Instr.sureAddr] at h
 | slice a l c => cases a <;> simp [ren, Instr.sureAddr] at h
 | map r => cases r <;> simp [ren, Instr.sureAddr] at h
 | chan r => cases r <;> simp [ren, Instr.sureAddr] at h
 | _ => simp [ren, Instr.sureAddr] at h
theorem ares_run {P : Program} {S : Start} {m : Ren} {h : Heap} {w : World} {fr : Frm} {a : Act} {fn : Func} {v : Value} (hr : HRel P S m h w) (hf : FRel m h.next fr a) (e : ares P fn fr h = some v) :
  (results fn a.tmps).run P w = .ok (ren m v) w ∧ sc h.next v := by
 unfold ares at e
 obtain ⟨vs, hvs, e⟩ := ob e
 have key : ∀ (l : List ResultVar) (vs : List Value), aresults P fr h l = some vs →
   (l.mapM (fun | .tmp t => pure (a.tmps.getD t undef) | .cell x t => do loadVar t (← asAddr (a.tmps.getD x undef)) : ResultVar → Sem Value)).run P w = .ok (vs.map (ren m)) w ∧ ∀ v ∈ vs, sc h.next v := by
  intro l
  induction l with
  | nil => intro vs hv; simp only [aresults] at hv; cases hv; simp
  | cons r l ih =>
   intro vs hv
   simp only [aresults] at hv
   obtain ⟨u, hu, hv⟩ := ob hv
   obtain ⟨us, hus, hv⟩ := ob hv
   cases hv
   obtain ⟨h1, h2⟩ := ih us hus
   have hone : ((fun | .tmp t => pure (a.tmps.getD t undef) | .cell x t => do loadVar t (← asAddr (a.tmps.getD x undef)) : ResultVar → Sem Value) r).run P w = .ok (ren m u) w ∧ sc h.next u := by
    cases r with
    | tmp t =>
     obtain ⟨q1, q2⟩ := hf.slot t u hu
     exact ⟨by simp [q2], q1⟩
    | cell x t =>
     simp only [aresult] at hu
     obtain ⟨p, hp, hl⟩ := ob hu
     obtain ⟨q1, q2⟩ := hf.slot x p hp
     obtain ⟨q3, q4⟩ := aload_run hr hl
     have := loadVar_of_loadAt m q3
     refine ⟨?_, q4⟩
     have hx : a.tmps.getD x undef = ren m p := by simp [q2]
     simpa only [hx] using this
   refine ⟨?_, ?_⟩
   ·simp only [List.mapM_cons, Sem.run_bind, hone.1, Result.andThen_ok, h1]
    simp
   ·intro v hv
    rcases List.mem_cons.1 hv with hv | hv
    ·subst hv; exact hone.2
    ·exact h2 v hv
 obtain ⟨h1, h2⟩ := key _ _ hvs
 have hrun : ∀ (g : Array Value → Value), ((fn.results.mapM (fun | .tmp t => pure (a.tmps.getD t undef) | .cell x t => do loadVar t (← asAddr (a.tmps.getD x undef)) : ResultVar → Sem Value)).run P w).andThen (fun vs w => .ok (g vs) w) = .ok (g (vs.map (ren m)).toArray) w := by
  intro g
  rw [Array.mapM_eq_mapM_toList, Sem.run_map, h1]
  rfl
 have hres := hrun (fun vs => if h : vs.size = 1 then vs[0] else .tuple vs)
 have hdef : (results fn a.tmps).run P w = ((fn.results.mapM (fun | .tmp t => pure (a.tmps.getD t undef) | .cell x t => do loadVar t (← asAddr (a.tmps.getD x undef)) : ResultVar → Sem Value)).run P w).andThen (fun vs w => .ok (if h : vs.size = 1 then vs[0] else .tuple vs) w) := by
  unfold results
  simp only [Sem.run_bind, Sem.run_pure]
  rfl
 rw [hdef, hres]
 split at e
 ·rename_i u
  cases e
  exact ⟨by simp, h2 v (by simp)⟩
 ·rename_i us hne
  cases e
  refine ⟨?_, by simp only [sc, scA, scL_all]; exact h2⟩
  have hl : ¬ (vs.map (ren m)).toArray.size = 1 := by
   simp only [List.size_toArray, List.length_map]
   intro hl
   match hh : vs, hl with
   | [x], _ => exact hne x hh
  rw [dif_neg hl]
  simp [ren, renA, renL_map]
inductive Task where
 | code (c : Code) (fr : Frm) (u : Option FrameMode)
 | scope (body cur : Code) (fr : Frm) (u : Option FrameMode)
 | ops (ops : Array Oper) (l : List Nat) (fr : Frm) (u : Option FrameMode)
 | call (f : FuncId) (args : List Value)
 | callD (f : FuncId) (args : List Value) (u : FrameMode)
 | leave (fn : Func) (fr : Frm) (ds : List Deferred) (u : FrameMode)
inductive Out where
 | x (e : Exit) (fr : Frm) (u : Option FrameMode)
 | ends (e : Ending)
 | endsD (e : Ending) (u : FrameMode)
def blockExit (id : Nat) : Exit → Exit
 | .exit i => if i = id then .normal else .exit i
 | e => e
def numbered : Nat → List Value → List (Nat × Value)
 | _, [] => []
 | i, v :: l => (i, v) :: numbered (i + 1) l
def enterF (fn : Func) (args : List Value) : Frm := { size := max fn.ntmps args.length, slots := numbered 0 args, defers := [] }
def modeOf : Exit → Option FrameMode
 | .normal | .ret => some .returning
 | .panic c => some (.panicking c)
 | _ => none
def Frm.le (fr' fr : Frm) : Prop := fr'.size = fr.size ∧ fr'.defers = fr.defers ∧ ∀ t v, look t fr'.slots = some v → look t fr.slots = some v
def afterD (e : Ending) (u : FrameMode) : Option FrameMode :=
 match e with
 | .returned _ => some (settle u)
 | .panicked c => some (raised u c)
 | .outgrown => none
def Runs (P : Program) (S : Start) (todo : List Item) (fr : Frm) (u : Option FrameMode) (h : Heap) (e : Exit) (fr' : Frm) (u' : Option FrameMode) (h' : Heap) : Prop :=
 ∀ m w a, HRel P S m h w → FRel m h.next fr a → scU h.next u → ∀ (b : Frame) (k : List Item) (c₀ : Frame) (cs₀ : List Frame), kindOk b u →
  ∃ m' w' a', m.agree h.next m' ∧ h.next ≤ h'.next ∧ HRel P S m' h' w' ∧ FRel m' h'.next fr' a' ∧ scU h'.next u' ∧ scX h'.next e ∧ u'.isSome = u.isSome ∧
   Arrives P (lone (b.at a (todo ++ k)) (csOf m c₀ cs₀ u) w) b k (csOf m' c₀ cs₀ u') (renX m' e) a' w'
inductive Big (P : Program) (G : Nat) (Ext : FuncId → List Value → Heap → Value → Heap → Prop) : Task → Heap → Out → Heap → Prop where
 | skip {fr u h} : Big P G Ext (.code .skip fr u) h (.x .normal fr u) h
 | label {l fr u h} : Big P G Ext (.code (.label l) fr u) h (.x .normal fr u) h
 | exit {id fr u h} : Big P G Ext (.code (.exit id) fr u) h (.x (.exit id) fr u) h
 | goto {l fr u h} : Big P G Ext (.code (.goto l) fr u) h (.x (.goto l) fr u) h
 | ret {fr u h} : Big P G Ext (.code .ret fr u) h (.x .ret fr u) h
 | seq {a b fr u h fr1 u1 h1 o h2} : Big P G Ext (.code a fr u) h (.x .normal fr1 u1) h1 → Big P G Ext (.code b fr1 u1) h1 o h2 → Big P G Ext (.code (.seq a b) fr u) h o h2
 | seqStop {a b fr u h e fr1 u1 h1} : Big P G Ext (.code a fr u) h (.x e fr1 u1) h1 → e ≠ .normal → Big P G Ext (.code (.seq a b) fr u) h (.x e fr1 u1) h1
 | cond {c a b fr u h t o h1} : aev G fr c = some (.bool t) → Big P G Ext (.code (if t then a else b) fr u) h o h1 → Big P G Ext (.code (.cond c a b) fr u) h o h1
 | block {id c fr u h e fr1 u1 h1} : Big P G Ext (.code c fr u) h (.x e fr1 u1) h1 → Big P G Ext (.code (.block id c) fr u) h (.x (blockExit id e) fr1 u1) h1
 | loop {c fr u h fr1 u1 h1 o h2} : Big P G Ext (.code c fr u) h (.x .normal fr1 u1) h1 → Big P G Ext (.code (.loop c) fr1 u1) h1 o h2 → Big P G Ext (.code (.loop c) fr u) h o h2
 | loopStop {c fr u h e fr1 u1 h1} : Big P G Ext (.code c fr u) h (.x e fr1 u1) h1 → e ≠ .normal → Big P G Ext (.code (.loop c) fr u) h (.x e fr1 u1) h1
 | region {id ops fr u h o h1} : Big P G Ext (.ops ops (List.range ops.size) fr u) h o h1 → Big P G Ext (.code (.region id ops false) fr u) h o h1
 | draw {id ops fr u h} {frs : Nat → Frm} {fr1 e u1 h1} : P.follows .mixedOrders = true → (∀ t, Big P G Ext (.ops ops (Region.linearise .any ops t) fr u) h (.x e (frs t) u1) h1) → (∀ t, fr1.le (frs t)) →
   Big P G Ext (.code (.region id ops true) fr u) h (.x e fr1 u1) h1
 | said {id ops fr u h fr1 h1} : (∀ S : Start, S.G = G → Runs P S [.code (.region id ops true)] fr u h .normal fr1 u h1) → Big P G Ext (.code (.region id ops true) fr u) h (.x .normal fr1 u) h1
 | scope {c fr u h o h1} : Big P G Ext (.scope c c fr u) h o h1 → Big P G Ext (.code (.scope c) fr u) h o h1
 | scopeEnd {c cur fr u h e fr1 u1 h1} : Big P G Ext (.code cur fr u) h (.x e fr1 u1) h1 → (∀ l, e = .goto l → findLabel c l = none) → Big P G Ext (.scope c cur fr u) h (.x e fr1 u1) h1
 | scopeJump {c cur fr u h l rest fr1 u1 h1 o h2} : Big P G Ext (.code cur fr u) h (.x (.goto l) fr1 u1) h1 → findLabel c l = some rest → Big P G Ext (.scope c rest fr1 u1) h1 o h2 → Big P G Ext (.scope c cur fr u) h o h2
 | weaken {c fr fr' u h o h1} : Big P G Ext (.code c fr' u) h o h1 → fr'.le fr → Big P G Ext (.code c fr u) h o h1
 | opsNil {ops fr u h} : Big P G Ext (.ops ops [] fr u) h (.x .normal fr u) h
 | opsMissing {ops i l fr u h o h1} : ops[i]? = none → Big P G Ext (.ops ops l fr u) h o h1 → Big P G Ext (.ops ops (i :: l) fr u) h o h1
 | opsUnwanted {ops i l fr u h p fr1 o h1} : ops[i]? = some p → awanted ops fr p = some false → fr.put p.dst undef = some fr1 → Big P G Ext (.ops ops l fr1 u) h o h1 → Big P G Ext (.ops ops (i :: l) fr u) h o h1
 | opsVal {ops i l fr u h p v h1 fr1 o h2} : ops[i]? = some p → awanted ops fr p = some true → aop P (aev G fr) p h = some (.val v, h1) → fr.put p.dst v = some fr1 →
   Big P G Ext (.ops ops l fr1 u) h1 o h2 → Big P G Ext (.ops ops (i :: l) fr u) h o h2
 | opsSkip {ops i l fr u h p h1 fr1 o h2} : ops[i]? = some p → awanted ops fr p = some true → aop P (aev G fr) p h = some (.skip, h1) → fr.put p.dst undef = some fr1 →
   Big P G Ext (.ops ops l fr1 u) h1 o h2 → Big P G Ext (.ops ops (i :: l) fr u) h o h2
 | opsDefer {ops i l fr u h p d h1 fr1 o h2} : ops[i]? = some p → awanted ops fr p = some true → aop P (aev G fr) p h = some (.defer d, h1) →
   ({ fr with defers := d :: fr.defers } : Frm).put p.dst undef = some fr1 → Big P G Ext (.ops ops l fr1 u) h1 o h2 → Big P G Ext (.ops ops (i :: l) fr u) h o h2
 | opsPanic {ops i l fr u h p v h1} : ops[i]? = some p → awanted ops fr p = some true → aop P (aev G fr) p h = some (.panic v, h1) →
   Big P G Ext (.ops ops (i :: l) fr u) h (.x (.panic [{ v, recovered := false }]) fr u) h1
 | opsRecover {ops i l fr h p h1 v older fr1 o h2} : ops[i]? = some p → awanted ops fr p = some true → aop P (aev G fr) p h = some (.recover, h1) → fr.put p.dst v = some fr1 →
   Big P G Ext (.ops ops l fr1 (some (.panicking ({ v, recovered := true } :: older)))) h1 o h2 → Big P G Ext (.ops ops (i :: l) fr (some (.panicking ({ v, recovered := false } :: older)))) h o h2
 | opsRecoverNot {ops i l fr h p h1 fr1 o h2} : ops[i]? = some p → awanted ops fr p = some true → aop P (aev G fr) p h = some (.recover, h1) → fr.put p.dst .nilIface = some fr1 →
   Big P G Ext (.ops ops l fr1 (some .returning)) h1 o h2 → Big P G Ext (.ops ops (i :: l) fr (some .returning)) h o h2
 | opsCall {ops i l fr u h p f args h1 v h2 fr1 o h3} : ops[i]? = some p → awanted ops fr p = some true → aop P (aev G fr) p h = some (.call f args, h1) →
   Big P G Ext (.call f args) h1 (.ends (.returned v)) h2 → fr.put p.dst v = some fr1 → Big P G Ext (.ops ops l fr1 u) h2 o h3 → Big P G Ext (.ops ops (i :: l) fr u) h o h3
 | opsCallPanic {ops i l fr u h p f args h1 c h2} : ops[i]? = some p → awanted ops fr p = some true → aop P (aev G fr) p h = some (.call f args, h1) →
   Big P G Ext (.call f args) h1 (.ends (.panicked c)) h2 → Big P G Ext (.ops ops (i :: l) fr u) h (.x (.panic c) fr u) h2
 | ext {f args h v h1} : Ext f args h v h1 → Big P G Ext (.call f args) h (.ends (.returned v)) h1
 | call {f args h fn c e fr1 h1 u o h2} : P.funcs[f]? = some fn → fn.body = some c → Big P G Ext (.code c (enterF fn args) none) h (.x e fr1 none) h1 → modeOf e = some u →
   Big P G Ext (.leave fn fr1 fr1.defers u) h1 o h2 → Big P G Ext (.call f args) h o h2
 | leaveRet {fn fr h v} : ares P fn fr h = some v → Big P G Ext (.leave fn fr [] .returning) h (.ends (.returned v)) h
 | leavePanic {fn fr h c} : Big P G Ext (.leave fn fr [] (.panicking c)) h (.ends (.panicked c)) h
 | leaveCons {fn fr d ds u h g cap e u1 h1 u2 o h2} : u ≠ .run → d.target = .fn (.func g) cap → canEnter P g = true → Big P G Ext (.callD g (d.args.toList ++ cap.toList) u) h (.endsD e u1) h1 →
   afterD e u1 = some u2 → Big P G Ext (.leave fn fr ds u2) h1 o h2 → Big P G Ext (.leave fn fr (d :: ds) u) h o h2
 | callD {f args u h fn c e fr1 u1 h1 v} : P.funcs[f]? = some fn → fn.body = some c → Big P G Ext (.code c (enterF fn args) (some u)) h (.x e fr1 (some u1)) h1 → modeOf e = some .returning → fr1.defers = [] →
   ares P fn fr1 h1 = some v → Big P G Ext (.callD f args u) h (.endsD (.returned v) u1) h1
 | callDPanic {f args u h fn c ch fr1 u1 h1} : P.funcs[f]? = some fn → fn.body = some c → Big P G Ext (.code c (enterF fn args) (some u)) h (.x (.panic ch) fr1 (some u1)) h1 → fr1.defers = [] →
   Big P G Ext (.callD f args u) h (.endsD (.panicked ch) u1) h1
end
section
def Ends (P : Program) (S : Start) (m : Ren) (h h' : Heap) (e : Ending) (e' : Ending) (w' : World) : Prop :=
 ∃ m', m.agree h.next m' ∧ h.next ≤ h'.next ∧ HRel P S m' h' w' ∧ e' = renN m' e ∧ scN h'.next e
def EndsD (P : Program) (S : Start) (m : Ren) (h h' : Heap) (e : Ending) (u : FrameMode) (e' : Ending) (u' : FrameMode) (w' : World) : Prop :=
 ∃ m', m.agree h.next m' ∧ h.next ≤ h'.next ∧ HRel P S m' h' w' ∧ e' = renN m' e ∧ scN h'.next e ∧ u' = renM m' u ∧ scM h'.next u
def ExtOk (P : Program) (S : Start) (Ext : FuncId → List Value → Heap → Value → Heap → Prop) : Prop :=
 ∀ f args h v h', Ext f args h v h' → ∀ m w, HRel P S m h w → (∀ x ∈ args, sc h.next x) → Calls P f (args.map (ren m)).toArray w (Ends P S m h h' (.returned v))
def Sound (P : Program) (S : Start) : Task → Heap → Out → Heap → Prop
 | .code c fr u, h, .x e fr' u', h' => Runs P S [.code c] fr u h e fr' u' h'
 | .scope body cur fr u, h, .x e fr' u', h' => Runs P S [.code cur, .inScope body] fr u h e fr' u' h'
 | .ops ops l fr u, h, .x e fr' u', h' => Runs P S [.inRegion ops l] fr u h e fr' u' h'
 | .call f args, h, .ends e, h' => ∀ m w, HRel P S m h w → (∀ x ∈ args, sc h.next x) → Calls P f (args.map (ren m)).toArray w (Ends P S m h h' e)
 | .callD f args u, h, .endsD e u', h' => ∀ m w, HRel P S m h w → (∀ x ∈ args, sc h.next x) → scM h.next u → CallsD P f (args.map (ren m)).toArray (renM m u) w (EndsD P S m h h' e u')
 | .leave fn fr ds u, h, .ends e, h' => ∀ m w a, HRel P S m h w → FRel m h.next fr a → (∀ d ∈ ds, scD h.next d) → scM h.next u →
   Leaves P fn a.tmps (Ends P S m h h' e) (ds.map (renD m)) (renM m u) w
 | _, _, _, _ => False
theorem kindOk_of {b : Frame} {u u' : Option FrameMode} (h : kindOk b u) (e : u'.isSome = u.isSome) : kindOk b u' := by
 cases u <;> cases u' <;> simp_all [kindOk]
theorem look_numbered : ∀ (l : List Value) (i t : Nat), look t (numbered i l) = if i ≤ t then l[t - i]? else none
 | [], i, t => by simp [numbered, look]
 | v :: l, i, t => by
  simp only [numbered, look, look_numbered l (i + 1) t]
  by_cases e : t = i
  ·subst e; simp
  ·rw [if_neg e]
   by_cases q : i ≤ t
   ·rw [if_pos q, if_pos (by omega), show t - i = (t - (i + 1)) + 1 by omega, List.getElem?_cons_succ]
   ·rw [if_neg q, if_neg (by omega)]
theorem FRel.enter {m : Ren} {n : Nat} (fn : Func) {args : List Value} (hs : ∀ x ∈ args, sc n x) :
  FRel m n (enterF fn args) { tmps := (args.map (ren m)).toArray ++ Array.replicate (fn.ntmps - (args.map (ren m)).toArray.size) undef, defers := [] } where
 size := by simp [enterF]; omega
 slot t v hl := by
  simp only [enterF, look_numbered, Nat.zero_le, if_true, Nat.sub_zero] at hl
  refine ⟨hs v (List.mem_of_getElem? hl), ?_⟩
  have hlt : t < args.length := by
   rcases Nat.lt_or_ge t args.length with q | q
   ·exact q
   ·rw [List.getElem?_eq_none q] at hl; cases hl
  rw [Array.getElem?_append_left (by simpa using hlt)]
  simp [hl]
 defers := rfl
 scd d hd := by simp [enterF] at hd
theorem FRel.weaken {m : Ren} {n : Nat} {fr fr' : Frm} {a : Act} (hf : FRel m n fr a) (hle : fr'.le fr) : FRel m n fr' a where
 size := by rw [hle.1]; exact hf.size
 slot t v hl := hf.slot t v (hle.2.2 t v hl)
 defers := by rw [hle.2.1]; exact hf.defers
 scd d hd := hf.scd d (by rw [← hle.2.1]; exact hd)
theorem Leaves.mono {P : Program} {fn : Func} {tmps : Array Value} {R R' : Ending → World → Prop} (hR : ∀ e w, R e w → R' e w) : ∀ (ds : List Deferred) (u : FrameMode) (w : World), Leaves P fn tmps R ds u w → Leaves P fn tmps R' ds u w
 | [], .returning, _, ⟨v, h1, h2⟩ => ⟨v, h1, hR _ _ h2⟩
 | [], .panicking _, _, h => hR _ _ h
 | [], .run, _, h => h
 | d :: ds, u, w, ⟨h1, fv, cap, f, args, h2, h3, h4⟩ => ⟨h1, fv, cap, f, args, h2, h3, h4.mono fun e u' w' he => by
   cases e with
   | returned v => exact Leaves.mono hR ds _ _ he
   | panicked c => exact Leaves.mono hR ds _ _ he
   | outgrown => exact hR _ _ he⟩
theorem dropWhile_renC (m : Ren) : ∀ c : List PanicEntry, (renC m c).dropWhile (fun x => !x.goexit) = renC m (c.dropWhile fun x => !x.goexit)
 | [] => rfl
 | p :: c => by
  simp only [renC, List.map_cons, List.dropWhile_cons, renP]
  split
  ·exact dropWhile_renC m c
  ·rfl
theorem settle_ren (m : Ren) (u : FrameMode) : settle (renM m u) = renM m (settle u) := by
 cases u with
 | panicking c =>
  cases c with
  | nil => rfl
  | cons p c =>
   obtain ⟨v, r, g⟩ := p
   cases r with
   | false => rfl
   | true =>
    simp only [renM, renC, List.map_cons, renP, settle]
    have := dropWhile_renC m c
    unfold renC at this
    rw [this]
    cases (c.dropWhile fun x => !x.goexit) <;> rfl
 | _ => rfl
theorem settle_sc {n : Nat} {u : FrameMode} (h : scM n u) : scM n (settle u) := by
 cases u with
 | panicking c =>
  cases c with
  | nil => exact h
  | cons p c =>
   obtain ⟨v, r, g⟩ := p
   cases r with
   | false => exact h
   | true =>
    simp only [settle]
    split
    ·trivial
    ·rename_i rest hrest
     intro q hq
     exact h q (List.mem_cons_of_mem _ ((List.dropWhile_suffix _).subset hq))
 | _ => trivial
theorem raised_ren (m : Ren) (u : FrameMode) (c : List PanicEntry) : raised (renM m u) (renC m c) = renM m (raised u c) := by
 cases u <;> simp [raised, renM, renC]
theorem raised_sc {n : Nat} {u : FrameMode} {c : List PanicEntry} (h : scM n u) (hc : scC n c) : scM n (raised u c) := by
 cases u with
 | panicking d =>
  intro p hp0
  have hp : p ∈ c ++ d := hp0
  rcases List.mem_append.1 hp with hp | hp
  ·exact hc p hp
  ·exact h p hp
 | _ => exact hc
section
variable {P : Program} {S : Start}
theorem Ends.trans {m m1 : Ren} {h h1 h2 : Heap} {e e' : Ending} {w : World} (ha : m.agree h.next m1) (hn : h.next ≤ h1.next) (he : Ends P S m1 h1 h2 e e' w) : Ends P S m h h2 e e' w := by
 obtain ⟨m', g1, g2, g3, g4, g5⟩ := he
 exact ⟨m', ha.trans (g1.mono hn), by omega, g3, g4, g5⟩
theorem Runs.pre {it : Item} {todo : List Item} {fr fr2 : Frm} {u u2 : Option FrameMode} {h h2 : Heap} {e : Exit}
  (hstep : ∀ m w a, HRel P S m h w → FRel m h.next fr a → ∀ (b : Frame) (k : List Item) (cs : List Frame), step P (lone (b.at a (it :: k)) cs w) = .next (lone (b.at a (todo ++ k)) cs w))
  (hr : Runs P S todo fr u h e fr2 u2 h2) : Runs P S [it] fr u h e fr2 u2 h2 := by
 intro m w a h1 h3 h4 b k c₀ cs₀ hk
 obtain ⟨m2, w2, a2, f1, f2, f3, f4, f5, f6, f7, f8⟩ := hr m w a h1 h3 h4 b k c₀ cs₀ hk
 exact ⟨m2, w2, a2, f1, f2, f3, f4, f5, f6, f7, .of_steps (.one (hstep m w a h1 h3 b k _)) f8⟩
theorem Runs.next {x : Item} {rest : List Item} {fr fr1 fr2 : Frm} {u u1 u2 : Option FrameMode} {h h1 h2 : Heap} {e : Exit}
  (hx : Runs P S [x] fr u h .normal fr1 u1 h1) (hrest : Runs P S rest fr1 u1 h1 e fr2 u2 h2) : Runs P S (x :: rest) fr u h e fr2 u2 h2 := by
 intro m w a hr hf hu b k c₀ cs₀ hk
 obtain ⟨m1, w1, a1, g1, g2, g3, g4, g5, _, g6, g7⟩ := hx m w a hr hf hu b (rest ++ k) c₀ cs₀ hk
 obtain ⟨m2, w2, a2, f1, f2, f3, f4, f5, f6, f7, f8⟩ := hrest m1 w1 a1 g3 g4 g5 b k c₀ cs₀ (kindOk_of hk g6)
 exact ⟨m2, w2, a2, g1.trans (f1.mono g2), by omega, f3, f4, f5, f6, f7.trans g6, .of_steps g7 f8⟩
theorem renX_ne {m : Ren} {e : Exit} (h : e ≠ .normal) : renX m e ≠ .normal := by
 cases e <;> simp_all [renX]
theorem Runs.stop {x y : Item} {fr fr1 : Frm} {u u1 : Option FrameMode} {h h1 : Heap} {e : Exit} (hy : y.plain = true) (he : e ≠ .normal)
  (hx : Runs P S [x] fr u h e fr1 u1 h1) : Runs P S [x, y] fr u h e fr1 u1 h1 := by
 intro m w a hr hf hu b k c₀ cs₀ hk
 obtain ⟨m1, w1, a1, g1, g2, g3, g4, g5, g6, g7, g8⟩ := hx m w a hr hf hu b (y :: k) c₀ cs₀ hk
 exact ⟨m1, w1, a1, g1, g2, g3, g4, g5, g6, g7, Arrives.pass hy (fun _ _ => .inl (renX_ne he)) g8⟩
theorem Runs.block {x : Item} {id : Nat} {fr fr1 : Frm} {u u1 : Option FrameMode} {h h1 : Heap} {e : Exit}
  (hx : Runs P S [x] fr u h e fr1 u1 h1) : Runs P S [x, .inBlock id] fr u h (blockExit id e) fr1 u1 h1 := by
 intro m w a hr hf hu b k c₀ cs₀ hk
 obtain ⟨m1, w1, a1, g1, g2, g3, g4, g5, g6, g7, g8⟩ := hx m w a hr hf hu b (.inBlock id :: k) c₀ cs₀ hk
 refine ⟨m1, w1, a1, g1, g2, g3, g4, g5, ?_, g7, ?_⟩
 ·cases e <;> simp only [blockExit] <;> first | exact g6 | (split <;> trivial)
 ·cases e with
  | normal => exact Steps.trans g8 (.one step_inBlock)
  | exit id' =>
   simp only [blockExit]
   by_cases hid : id' = id
   ·rw [if_pos hid]
    exact g8 k (by simp [exitTo, hid])
   ·rw [if_neg hid]
    intro k' hk'
    refine g8 k' ?_
    have : (id == id') = false := by simp; exact fun h => hid h.symm
    simp [exitTo, this, hk']
  | goto l => intro k' hk'; exact g8 k' (by simp [gotoIn, hk'])
  | ret => exact g8
  | panic c => exact g8
  | outgrown => exact g8
theorem Runs.scopeEnd {x : Item} {c : Code} {fr fr1 : Frm} {u u1 : Option FrameMode} {h h1 : Heap} {e : Exit} (hno : ∀ l, e = .goto l → findLabel c l = none)
  (hx : Runs P S [x] fr u h e fr1 u1 h1) : Runs P S [x, .inScope c] fr u h e fr1 u1 h1 := by
 intro m w a hr hf hu b k c₀ cs₀ hk
 obtain ⟨m1, w1, a1, g1, g2, g3, g4, g5, g6, g7, g8⟩ := hx m w a hr hf hu b (.inScope c :: k) c₀ cs₀ hk
 refine ⟨m1, w1, a1, g1, g2, g3, g4, g5, g6, g7, ?_⟩
 cases e with
 | normal => exact Steps.trans g8 (.one step_inScope)
 | exit id' => intro k' hk'; exact g8 k' (by simp [exitTo, hk'])
 | goto l => intro k' hk'; exact g8 k' (by simp [gotoIn, hno l rfl, hk'])
 | ret => exact g8
 | panic c => exact g8
 | outgrown => exact g8
theorem Runs.scopeJump {x : Item} {c rest : Code} {l : Nat} {fr fr1 fr2 : Frm} {u u1 u2 : Option FrameMode} {h h1 h2 : Heap} {e : Exit} (hl : findLabel c l = some rest)
  (hx : Runs P S [x] fr u h (.goto l) fr1 u1 h1) (hrest : Runs P S [.code rest, .inScope c] fr1 u1 h1 e fr2 u2 h2) : Runs P S [x, .inScope c] fr u h e fr2 u2 h2 := by
 intro m w a hr hf hu b k c₀ cs₀ hk
 obtain ⟨m1, w1, a1, g1, g2, g3, g4, g5, _, g6, g7⟩ := hx m w a hr hf hu b (.inScope c :: k) c₀ cs₀ hk
 obtain ⟨m2, w2, a2, f1, f2, f3, f4, f5, f6, f7, f8⟩ := hrest m1 w1 a1 g3 g4 g5 b k c₀ cs₀ (kindOk_of hk g6)
 exact ⟨m2, w2, a2, g1.trans (f1.mono g2), by omega, f3, f4, f5, f6, f7.trans g6, .of_steps (g7 _ (by simp [gotoIn, hl])) f8⟩
theorem Runs.now {it : Item} {fr : Frm} {u : Option FrameMode} {h : Heap} {e : Exit} (hs : scX h.next e)
  (ha : ∀ m w a, HRel P S m h w → FRel m h.next fr a → ∀ (b : Frame) (k : List Item) (cs : List Frame), Arrives P (lone (b.at a (it :: k)) cs w) b k cs (renX m e) a w) : Runs P S [it] fr u h e fr u h := by
 intro m w a hr hf hu b k c₀ cs₀ _
 exact ⟨m, w, a, Ren.agree_refl _ _, Nat.le_refl _, hr, hf, hu, hs, rfl, ha m w a hr hf b k _⟩
theorem Runs.op {ops : Array Oper} {i : Nat} {l : List Nat} {fr fr1 fr2 : Frm} {u u1 u2 : Option FrameMode} {h h1 h2 : Heap} {e : Exit}
  (hgo : ∀ m w a, HRel P S m h w → FRel m h.next fr a → scU h.next u → ∀ (b : Frame) (k : List Item) (c₀ : Frame) (cs₀ : List Frame), kindOk b u →
   ∃ m1 w1 a1, m.agree h.next m1 ∧ h.next ≤ h1.next ∧ HRel P S m1 h1 w1 ∧ FRel m1 h1.next fr1 a1 ∧ scU h1.next u1 ∧ u1.isSome = u.isSome ∧
    Steps P (lone (b.at a (.inRegion ops (i :: l) :: k)) (csOf m c₀ cs₀ u) w) (lone (b.at a1 (.inRegion ops l :: k)) (csOf m1 c₀ cs₀ u1) w1))
  (hrest : Runs P S [.inRegion ops l] fr1 u1 h1 e fr2 u2 h2) : Runs P S [.inRegion ops (i :: l)] fr u h e fr2 u2 h2 := by
 intro m w a hr hf hu b k c₀ cs₀ hk
 obtain ⟨m1, w1, a1, g1, g2, g3, g4, g5, g6, g7⟩ := hgo m w a hr hf hu b k c₀ cs₀ hk
 obtain ⟨m2, w2, a2, f1, f2, f3, f4, f5, f6, f7, f8⟩ := hrest m1 w1 a1 g3 g4 g5 b k c₀ cs₀ (kindOk_of hk g6)
 exact ⟨m2, w2, a2, g1.trans (f1.mono g2), by omega, f3, f4, f5, f6, f7.trans g6, .of_steps g7 f8⟩
def Sound' (P : Program) (S : Start) (t : Task) (h : Heap) (o : Out) (h' : Heap) : Prop :=
 Sound P S t h o h' ∧ match t, o with
  | .code (.loop c) fr u, .x e fr' u' => Runs P S [.inLoop c] fr u h e fr' u' h'
  | _, _ => True
theorem code_out {G : Nat} {Ext : FuncId → List Value → Heap → Value → Heap → Prop} {t : Task} {h : Heap} {o : Out} {h' : Heap} (hb : Big P G Ext t h o h') :
  match t with
  | .code _ _ _ | .ops _ _ _ _ | .scope _ _ _ _ => ∃ e fr u, o = .x e fr u
  | .call _ _ | .leave _ _ _ _ => ∃ e, o = .ends e
  | .callD _ _ _ => ∃ e u, o = .endsD e u := by
 induction hb <;> first | exact ⟨_, _, _, rfl⟩ | exact ⟨_, rfl⟩ | exact ⟨_, _, rfl⟩ | assumption
theorem big_sound {Ext : FuncId → List Value → Heap → Value → Heap → Prop} (hext : ExtOk P S Ext) {t : Task} {h : Heap} {o : Out} {h' : Heap} (hb : Big P S.G Ext t h o h') : Sound' P S t h o h' := by
 induction hb with
 | skip => exact ⟨Runs.now trivial fun _ _ _ _ _ _ _ _ => .one step_skip, trivial⟩
 | label => exact ⟨Runs.now trivial fun _ _ _ _ _ _ _ _ => .one step_label, trivial⟩
 | exit => exact ⟨Runs.now trivial fun _ _ _ _ _ _ _ _ => fun _ hk => .one (step_exit hk), trivial⟩
 | goto => exact ⟨Runs.now trivial fun _ _ _ _ _ _ _ _ => fun _ hk => .one (step_goto hk), trivial⟩
 | ret => exact ⟨Runs.now trivial fun _ _ _ _ _ _ _ _ => ⟨_, .one step_ret⟩, trivial⟩
 | seq h1 h2 ih1 ih2 =>
  obtain ⟨e, fr, u, rfl⟩ := code_out h2
  exact ⟨Runs.pre (fun _ _ _ _ _ _ _ _ => step_seq) (Runs.next ih1.1 ih2.1), trivial⟩
 | seqStop h1 he ih1 => exact ⟨Runs.pre (todo := [_, _]) (fun _ _ _ _ _ _ _ _ => step_seq) (Runs.stop rfl he ih1.1), trivial⟩
 | cond hc h1 ih =>
  obtain ⟨e, fr, u, rfl⟩ := code_out h1
  refine ⟨Runs.pre (todo := [_]) (fun m w a hr hf b k cs => ?_) ih.1, trivial⟩
  exact step_cond (by have := (aev_run hr hf hc).1; simpa [ren] using this)
 | block h1 ih => exact ⟨Runs.pre (todo := [_, _]) (fun _ _ _ _ _ _ _ _ => step_block) (Runs.block ih.1), trivial⟩
 | loop h1 h2 ih1 ih2 =>
  obtain ⟨e, fr, u, rfl⟩ := code_out h2
  exact ⟨Runs.pre (todo := [_, _]) (fun _ _ _ _ _ _ _ _ => step_loop) (Runs.next ih1.1 ih2.2), Runs.pre (todo := [_, _]) (fun _ _ _ _ _ _ _ _ => step_inLoop) (Runs.next ih1.1 ih2.2)⟩
 | loopStop h1 he ih =>
  exact ⟨Runs.pre (todo := [_, _]) (fun _ _ _ _ _ _ _ _ => step_loop) (Runs.stop rfl he ih.1), Runs.pre (todo := [_, _]) (fun _ _ _ _ _ _ _ _ => step_inLoop) (Runs.stop rfl he ih.1)⟩
 | region h1 ih =>
  obtain ⟨e, fr, u, rfl⟩ := code_out h1
  exact ⟨Runs.pre (todo := [_]) (fun _ _ _ _ _ _ _ _ => step_region) ih.1, trivial⟩
 | draw hm h1 hle ih =>
  refine ⟨fun m w a hr hf hu b k c₀ cs₀ hk => ?_, trivial⟩
  rename_i id ops fr u h frs fr1 e u1 h1'
  have hs := step_region_draw (P := P) (b := b) (a := a) (k := k) (cs := csOf m c₀ cs₀ u) (w := w) (ops := ops) (id := id)
  simp only [Region.schedule, hm, Bool.true_or, if_true] at hs
  obtain ⟨m2, w2, a2, f1, f2, f3, f4, f5, f6, f7, f8⟩ := (ih _).1 m { w with drawn := w.drawn + 1 } a (hr.world rfl rfl) hf hu b k c₀ cs₀ hk
  exact ⟨m2, w2, a2, f1, f2, f3, f4.weaken (hle _), f5, f6, f7, .of_steps (.one hs) f8⟩
 | said hs => exact ⟨hs S rfl, trivial⟩
 | scope h1 ih =>
  obtain ⟨e, fr, u, rfl⟩ := code_out h1
  exact ⟨Runs.pre (todo := [_, _]) (fun _ _ _ _ _ _ _ _ => step_scope) ih.1, trivial⟩
 | scopeEnd h1 hno ih => exact ⟨Runs.scopeEnd hno ih.1, trivial⟩
 | scopeJump h1 hl h2 ih1 ih2 =>
  obtain ⟨e, fr, u, rfl⟩ := code_out h2
  exact ⟨Runs.scopeJump hl ih1.1 ih2.1, trivial⟩
 | @weaken c _ _ _ _ _ _ h1 hle ih =>
  obtain ⟨e, fr, u, rfl⟩ := code_out h1
  refine ⟨fun m w a hr hf => ih.1 m w a hr (hf.weaken hle), ?_⟩
  have := ih.2
  cases c <;> first | trivial | exact fun m w a hr hf => this m w a hr (hf.weaken hle)
 | opsNil => exact ⟨Runs.now trivial fun _ _ _ _ _ _ _ _ => .one step_region_end, trivial⟩
 | opsMissing hi h1 ih =>
  obtain ⟨e, fr, u, rfl⟩ := code_out h1
  exact ⟨Runs.op (fun m w a hr hf hu b k c₀ cs₀ hk => ⟨m, w, a, Ren.agree_refl _ _, Nat.le_refl _, hr, hf, hu, rfl, go_missing hi⟩) ih.1, trivial⟩
 | opsUnwanted hi hw hp h1 ih =>
  obtain ⟨e, fr, u, rfl⟩ := code_out h1
  exact ⟨Runs.op (fun m w a hr hf hu b k c₀ cs₀ hk => ⟨m, w, _, Ren.agree_refl _ _, Nat.le_refl _, hr, by have := hf.put hp (by simp [undef, sc, scA, scL]); simpa [undef, ren, renA, renL] using this, hu, rfl, go_unwanted hi (awanted_run hf hw)⟩) ih.1, trivial⟩
 | opsVal hi hw ha hp h1 ih =>
  obtain ⟨e, fr, u, rfl⟩ := code_out h1
  refine ⟨Runs.op (fun m w a hr hf hu b k c₀ cs₀ hk => ?_) ih.1, trivial⟩
  obtain ⟨m', w', g1, g2, g3, g4, g5⟩ := aop_run hr (fun x v hx => aev_run hr hf hx) (fun _ => rfl) ha
  exact ⟨m', w', _, g1, g5, g3, (hf.agree g1 g5).put hp g4, scU_mono g5 hu, rfl, by rw [← csOf_congr g1 hu]; exact go_value hi (awanted_run hf hw) g2⟩
 | opsSkip hi hw ha hp h1 ih =>
  obtain ⟨e, fr, u, rfl⟩ := code_out h1
  refine ⟨Runs.op (fun m w a hr hf hu b k c₀ cs₀ hk => ?_) ih.1, trivial⟩
  obtain ⟨m', w', g1, g2, g3, g4, g5⟩ := aop_run hr (fun x v hx => aev_run hr hf hx) (fun _ => rfl) ha
  exact ⟨m', w', _, g1, g5, g3, by have := (hf.agree g1 g5).put hp (by simp [undef, sc, scA, scL]); simpa [undef, ren, renA, renL] using this, scU_mono g5 hu, rfl, by rw [← csOf_congr g1 hu]; exact go_skip hi (awanted_run hf hw) g2⟩
 | @opsDefer _ _ _ fr0 _ _ _ _ _ _ _ _ hi hw ha hp h1 ih =>
  obtain ⟨e, fr, u, rfl⟩ := code_out h1
  refine ⟨Runs.op (fun m w a hr hf hu b k c₀ cs₀ hk => ?_) ih.1, trivial⟩
  obtain ⟨m', w', g1, g2, g3, g4, g5⟩ := aop_run hr (fun x v hx => aev_run hr hf hx) (fun _ => rfl) ha
  have hf' := hf.agree g1 g5
  have hf2 : FRel m' _ { fr0 with defers := _ :: fr0.defers } { a with defers := renD m' _ :: a.defers } := ⟨hf'.size, hf'.slot, by rw [hf'.defers]; rfl, fun d hd => by
   rcases List.mem_cons.1 hd with hd | hd
   ·subst hd; exact g4
   ·exact hf'.scd d hd⟩
  exact ⟨m', w', _, g1, g5, g3, by have := hf2.put hp (by simp [undef, sc, scA, scL]); simpa [undef, ren, renA, renL] using this, scU_mono g5 hu, rfl, by rw [← csOf_congr g1 hu]; exact go_defer hi (awanted_run hf hw) g2⟩
 | opsPanic hi hw ha =>
  refine ⟨fun m w a hr hf hu b k c₀ cs₀ hk => ?_, trivial⟩
  obtain ⟨m', w', g1, g2, g3, g4, g5⟩ := aop_run hr (fun x v hx => aev_run hr hf hx) (fun _ => rfl) ha
  refine ⟨m', w', a, g1, g5, g3, hf.agree g1 g5, scU_mono g5 hu, ?_, rfl, ?_⟩
  ·intro p hp
   simp only [List.mem_singleton] at hp
   subst hp; exact g4
  ·rw [← csOf_congr g1 hu]
   exact ⟨_, go_panic hi (awanted_run hf hw) g2⟩
 | @opsRecover ops0 i0 l0 _ _ _ _ v0 older0 _ _ _ hi hw ha hp h1 ih =>
  obtain ⟨e, fr, u, rfl⟩ := code_out h1
  refine ⟨Runs.op (fun m w a hr hf hu b k c₀ cs₀ hk => ?_) ih.1, trivial⟩
  obtain ⟨m', w', g1, g2, g3, g4, g5⟩ := aop_run hr (fun x v hx => aev_run hr hf hx) (fun _ => rfl) ha
  have hu' := scU_mono g5 hu
  have hsv := hu' _ (List.mem_cons_self ..)
  refine ⟨m', w', _, g1, g5, g3, (hf.agree g1 g5).put hp hsv, ?_, rfl, ?_⟩
  ·intro q hq
   rcases List.mem_cons.1 hq with hq | hq
   ·subst hq; exact hsv
   ·exact hu' q (List.mem_cons_of_mem _ hq)
  ·have := go_recover (P := P) (cs := csOf m c₀ cs₀ (some (.panicking ({ v := v0, recovered := false } :: older0)))) (k := k) (rest := l0) hk hi (awanted_run hf hw) g2
   rw [csOf_congr g1 hu] at this ⊢
   simpa [csOf, renM, renC, renP, recoverD] using this
 | @opsRecoverNot ops0 i0 l0 _ _ _ _ _ _ _ hi hw ha hp h1 ih =>
  obtain ⟨e, fr, u, rfl⟩ := code_out h1
  refine ⟨Runs.op (fun m w a hr hf hu b k c₀ cs₀ hk => ?_) ih.1, trivial⟩
  obtain ⟨m', w', g1, g2, g3, g4, g5⟩ := aop_run hr (fun x v hx => aev_run hr hf hx) (fun _ => rfl) ha
  refine ⟨m', w', _, g1, g5, g3, by have := (hf.agree g1 g5).put hp (by simp [sc]); simpa [ren] using this, trivial, rfl, ?_⟩
  have := go_recover (P := P) (cs := csOf m c₀ cs₀ (some .returning)) (k := k) (rest := l0) hk hi (awanted_run hf hw) g2
  rw [csOf_congr g1 hu] at this ⊢
  simpa [csOf, renM, recoverD] using this
 | opsCall hi hw ha h1 hp h2 ih1 ih2 =>
  obtain ⟨e, fr, u, rfl⟩ := code_out h2
  refine ⟨Runs.op (fun m w a hr hf hu b k c₀ cs₀ hk => ?_) ih2.1, trivial⟩
  obtain ⟨m', w', g1, g2, g3, g4, g5⟩ := aop_run hr (fun x v hx => aev_run hr hf hx) (fun _ => rfl) ha
  obtain ⟨e', w'', frm, ⟨m2, f1, f2, f3, f4, f5⟩, hc, _, hl⟩ := ih1.1 m' w' g3 g4 (b.at a (.inRegion _ (_ :: _) :: k) :: csOf m c₀ cs₀ _)
  subst f4
  have hag := g1.trans (f1.mono g5)
  exact ⟨m2, w'', _, hag, by omega, f3, (hf.agree hag (by omega)).put hp f5, scU_mono (by omega) hu, rfl, by rw [← csOf_congr hag hu]; exact go_call_returned hi (awanted_run hf hw) g2 hc hl⟩
 | opsCallPanic hi hw ha h1 ih1 =>
  refine ⟨fun m w a hr hf hu b k c₀ cs₀ hk => ?_, trivial⟩
  obtain ⟨m', w', g1, g2, g3, g4, g5⟩ := aop_run hr (fun x v hx => aev_run hr hf hx) (fun _ => rfl) ha
  obtain ⟨e', w'', frm, ⟨m2, f1, f2, f3, f4, f5⟩, hc, _, hl⟩ := ih1.1 m' w' g3 g4 (b.at a (.inRegion _ (_ :: _) :: k) :: csOf m c₀ cs₀ _)
  subst f4
  have hag := g1.trans (f1.mono g5)
  exact ⟨m2, w'', a, hag, by omega, f3, hf.agree hag (by omega), scU_mono (by omega) hu, f5, rfl, by rw [← csOf_congr hag hu]; exact ⟨_, go_call_panicked hi (awanted_run hf hw) g2 hc hl⟩⟩
 | ext he => exact ⟨fun m w hr hs => hext _ _ _ _ _ he m w hr hs, trivial⟩
 | @call _ _ _ _ _ e1 _ _ _ _ _ hf hb h1 hm h2 ih1 ih2 =>
  obtain ⟨e2, rfl⟩ := code_out h2
  refine ⟨fun m w hr hs => ?_, trivial⟩
  refine calls_of_wp_defers hf hb fun b k cs => ?_
  obtain ⟨m1, w1, a1, g1, g2, g3, g4, g5, g6, g7, g8⟩ := ih1.1 m w _ hr (FRel.enter _ hs) trivial b k default cs trivial
  refine ⟨_, a1, w1, ?_, g8⟩
  have hlv := ih2.1 m1 w1 a1 g3 g4 g4.scd
  rw [← g4.defers] at hlv
  have hmono := fun (hsc : scM _ _) => Leaves.mono (fun e w he => Ends.trans g1 g2 he) _ _ _ (hlv hsc)
  cases e1 <;> simp only [modeOf] at hm <;> try (cases hm; done)
  ·cases hm; exact hmono trivial
  ·cases hm; exact hmono trivial
  ·cases hm; exact hmono g6
 | leaveRet hres =>
  refine ⟨fun m w a hr hf _ _ => ?_, trivial⟩
  obtain ⟨q1, q2⟩ := ares_run hr hf hres
  exact ⟨_, q1, m, Ren.agree_refl _ _, Nat.le_refl _, hr, rfl, q2⟩
 | leavePanic => exact ⟨fun m w a hr hf _ hu => ⟨m, Ren.agree_refl _ _, Nat.le_refl _, hr, rfl, hu⟩, trivial⟩
 | @leaveCons fn fr d ds u h g cap e u1 h1' u2 _ h2' hu ht hcan h1 haf h2 ih1 ih2 =>
  obtain ⟨e2, rfl⟩ := code_out h2
  refine ⟨fun m w a hr hf hds hsu => ?_, trivial⟩
  obtain ⟨hd1, hd2⟩ := hds d (List.mem_cons_self ..)
  rw [ht] at hd1
  simp only [scA_all] at hd1 hd2
  have hargs : ((d.args.toList ++ cap.toList).map (ren m)).toArray = renA m d.args ++ renA m cap := by
   apply Array.ext'; simp [renA_map]
  refine ⟨by cases u <;> simp_all [renM], .func g, renA m cap, g, renA m d.args ++ renA m cap, by simp [renD, renT, ht], ?_, ?_⟩
  ·simp only [renD, renT, ht, invoke]
   exact callFunc_run hcan _ w
  ·rw [← hargs]
   refine (ih1.1 m w hr (fun x hx => (List.mem_append.1 hx).elim (fun hx => hd2 x (by simpa using hx)) (fun hx => hd1 x (by simpa using hx))) hsu).mono ?_
   rintro e' u' w' ⟨m', f1, f2, f3, rfl, f5, rfl, f7⟩
   have hlv := ih2.1 m' w' a f3 (hf.agree f1 f2) (fun d hd => scD_mono f2 (hds d (List.mem_cons_of_mem _ hd)))
   have hmap : ds.map (renD m') = ds.map (renD m) := List.map_congr_left fun d hd => (renD_congr f1 (hds d (List.mem_cons_of_mem _ hd))).symm
   rw [hmap] at hlv
   cases e with
   | returned v =>
    simp only [afterD, Option.some.injEq] at haf
    subst haf
    simp only [renN]
    rw [settle_ren]
    exact Leaves.mono (fun e w he => Ends.trans f1 f2 he) _ _ _ (hlv (settle_sc f7))
   | panicked c =>
    simp only [afterD, Option.some.injEq] at haf
    subst haf
    simp only [renN]
    rw [raised_ren]
    exact Leaves.mono (fun e w he => Ends.trans f1 f2 he) _ _ _ (hlv (raised_sc f7 f5))
   | outgrown => simp [afterD] at haf
 | @callD _ _ u0 _ _ _ e1 _ _ _ _ hf hb h1 hm hd hres ih =>
  refine ⟨fun m w hr hs hu => ?_, trivial⟩
  refine callsD_of_wpS hf hb fun c₀ cs hc b k hbk _ => ?_
  obtain ⟨m1, w1, a1, g1, g2, g3, g4, g5, g6, g7, g8⟩ := ih.1 m w _ hr (FRel.enter _ hs) hu b k c₀ cs hbk
  have hcs : csOf m c₀ cs (some u0) = c₀ :: cs := by simp only [csOf]; rw [← hc]
  rw [hcs] at g8
  refine ⟨_, a1, _, w1, ?_, g8⟩
  obtain ⟨q1, q2⟩ := ares_run g3 g4 hres
  have hdd : a1.defers = [] := by rw [g4.defers, hd]; rfl
  cases e1 <;> simp only [modeOf] at hm <;> try (cases hm; done)
  ·exact ⟨hdd, _, rfl, _, q1, m1, g1, g2, g3, rfl, q2, rfl, g5⟩
  ·exact ⟨hdd, _, rfl, _, q1, m1, g1, g2, g3, rfl, q2, rfl, g5⟩
 | @callDPanic _ _ u0 _ _ _ _ _ _ _ hf hb h1 hd ih =>
  refine ⟨fun m w hr hs hu => ?_, trivial⟩
  refine callsD_of_wpS hf hb fun c₀ cs hc b k hbk _ => ?_
  obtain ⟨m1, w1, a1, g1, g2, g3, g4, g5, g6, g7, g8⟩ := ih.1 m w _ hr (FRel.enter _ hs) hu b k c₀ cs hbk
  have hcs : csOf m c₀ cs (some u0) = c₀ :: cs := by simp only [csOf]; rw [← hc]
  rw [hcs] at g8
  refine ⟨_, a1, _, w1, ?_, g8⟩
  have hdd : a1.defers = [] := by rw [g4.defers, hd]; rfl
  exact ⟨hdd, _, rfl, m1, g1, g2, g3, rfl, g6, rfl, g5⟩
end
end
end Go.Mini
