/-
  MINI, part ZA: the relation, reckoned: an evaluator, and that what it tells is so.
-/
import Derived.Test.YtomndnhkgfeiiaaGreatDoorMiniYLtoYV
import Derived.Test.YtomndnhkgfeiiaaGreatDoorMiniYLtoYV
namespace Go.Mini

def aopE (P : Program) (ρ : Operand → Option Value) (o : Oper) (h : Heap) : Option (AN × Heap) :=
  match o.op with
  | .move x => (ρ x).bind fun v => some (.val v, h)
  | .assign x => (ρ x).bind fun v => some (.val v, h)
  | .pick c a b => (ρ c).bind fun cv => match cv with
    | .bool t => (ρ (if t then a else b)).bind fun v => some (.val v, h)
    | _ => none
  | .alloc t => (aalloc P h t).bind fun p => some (.val p.1, p.2)
  | .box t x => (ρ x).bind fun v => some (.val (abox h t v).1, (abox h t v).2)
  | .build t parts => (evp ρ parts.toList).bind fun ps => (abuild P t ps).bind fun v => some (.val v, h)
  | .buildSlice t len parts => (evp ρ parts.toList).bind fun ps => (abuildSlice P h t len ps).bind fun p => some (.val p.1, p.2)
  | .load t a => (ρ a).bind fun p => (aload P h t p).bind fun v => some (.val v, h)
  | .store t a x => (ρ a).bind fun p => (ρ x).bind fun v => (astore P h t p v).bind fun h' => some (.skip, h')
  | .nilCheck x => (ρ x).bind fun v => if notNil v then some (.val v, h) else none
  | .binOp op t x y _ => (ρ x).bind fun a => (ρ y).bind fun b => (binA P h op t (isEqOp op && !isConstO x && !isConstO y) a b).bind fun v => some (.val v, h)
  | .unOp op _ x => (ρ x).bind fun a => (aun op a).bind fun v => some (.val v, h)
  | .convert s d x => (ρ x).bind fun a => match aconv P s d a with
    | some v => some (.val v, h)
    | none => match aconvB P h s d a with
      | some p => some (.val p.1, p.2)
      | none => (aconvP P h s d a).bind fun v => some (.val v, h)
  | .makeMap t r => (evo ρ r).bind fun a => (amakeMap P h t a).bind fun p => some (.val p.1, p.2)
  | .lookup t x k ok => (ρ x).bind fun a => (ρ k).bind fun b => (alookup P h t a b ok).bind fun v => some (.val v, h)
  | .mapUpdate t x k y => (ρ x).bind fun a => (ρ k).bind fun b => (ρ y).bind fun c => (amapUpdate P h t a b c).bind fun h' => some (.skip, h')
  | .insert t x k y => (ρ x).bind fun a => (ρ k).bind fun b => (ρ y).bind fun c => (amapUpdate P h t a b c).bind fun h' => some (.skip, h')
  | .makeInterface t x => (ρ x).bind fun a => match P.underlying t with
    | some d => match d with
      | .interface _ => none
      | _ => some (.val (.iface t a), h)
    | none => none
  | .makeFunc fn first captured => (evs ρ first.toList).bind fun a => (evs ρ captured.toList).bind fun b => some (.val (.func fn a.toArray b.toArray), h)
  | .makeSlice t l c => (ρ l).bind fun a => (ρ c).bind fun b => (amake P h t a b).bind fun p => some (.val p.1, p.2)
  | .slice t x lo hi mx => (ρ x).bind fun a => (evo ρ lo).bind fun l => (evo ρ hi).bind fun hh => (evo ρ mx).bind fun mm => (aslice P h t a l hh mm).bind fun p => some (.val p.1, p.2)
  | .fieldAddr t x f => (ρ x).bind fun a => (afieldAddr P t a f).bind fun v => some (.val v, h)
  | .field t x f => (ρ x).bind fun a => (afield P t a f).bind fun v => some (.val v, h)
  | .indexAddr t x i => (ρ x).bind fun a => (ρ i).bind fun b => (aindexAddr P t a b).bind fun v => some (.val v, h)
  | .index t x i => (ρ x).bind fun a => (ρ i).bind fun b => (aindex P t a b).bind fun v => some (.val v, h)
  | .typeAssert x _ t ok => (ρ x).bind fun a => (aassert P a t ok).bind fun v => some (.val v, h)
  | .extract x i => (ρ x).bind fun a => (aextract a i).bind fun v => some (.val v, h)
  | .call c =>
    match c.callee with
    | .value f => (ρ f).bind fun fv => (calleeOf fv).bind fun q => (fnOf q.1).bind fun g => (evs ρ c.args.toList).bind fun zs =>
        if canEnter P g then some (.call g (q.2.1.toList ++ zs ++ q.2.2.toList), h)
        else if aNoEsc P g then (match q.2.1.toList ++ zs ++ q.2.2.toList with | [x] => some (.val x, h) | _ => none)
        else none
    | .builtin b => (evs ρ c.args.toList).bind fun zs => abuiltin P b c.argTypes.toList zs h
    | .invoke _ _ => none
  | .defer c =>
    match c.callee with
    | .value f => (ρ f).bind fun fv => (calleeOf fv).bind fun q => (evs ρ c.args.toList).bind fun zs => some (.defer { target := .fn q.1 q.2.2, args := q.2.1 ++ zs.toArray }, h)
    | _ => none
  | .panic x => (ρ x).bind fun v => match v with
    | .iface _ _ => some (.panic v, h)
    | _ => none
  | _ => none

theorem aopE_aop {P : Program} {ρ : Operand → Option Value} {o : Oper} {h : Heap} {r : AN × Heap} (e : aopE P ρ o h = some r) : aop P ρ o h = some r := by
  obtain ⟨dst, op, type, pos, after, guard⟩ := o
  cases op <;> try exact e
  rename_i c
  obtain ⟨callee, args, argTypes⟩ := c
  cases callee <;> try exact e
  rename_i f
  simp only [aopE] at e
  simp only [aop]
  obtain ⟨fv, hf, e⟩ := Option.bind_eq_some_iff.1 e
  obtain ⟨q, hq, e⟩ := Option.bind_eq_some_iff.1 e
  obtain ⟨g, hg, e⟩ := Option.bind_eq_some_iff.1 e
  obtain ⟨zs, hz, e⟩ := Option.bind_eq_some_iff.1 e
  rw [hf, Option.bind_some, hq, Option.bind_some, hg, Option.bind_some, hz, Option.bind_some]
  split at e
  · rename_i hc; rw [if_pos hc]; exact e
  · rename_i hc
    rw [if_neg hc]
    split at e
    · rename_i hn; rw [if_pos hn]; exact e
    · cases e

/-! ### carried out eagerly: what is handed on is written out -/
section
universe v
variable {α : Type} {β : Type v}
def forceN (n : Nat) (k : Nat → β) : β := match n with | 0 => k 0 | m + 1 => k (m + 1)
theorem forceN_eq (n : Nat) (k : Nat → β) : forceN n k = k n := by cases n <;> rfl
def forceI (n : Int) (k : Int → β) : β := match n with | .ofNat m => forceN m fun m => k (.ofNat m) | .negSucc m => forceN m fun m => k (.negSucc m)
theorem forceI_eq (n : Int) (k : Int → β) : forceI n k = k n := by cases n <;> simp [forceI, forceN_eq]
def forceL (l : List α) : (List α → β) → β := match l with | [] => fun k => k [] | x :: t => fun k => forceL t fun t' => k (x :: t')
theorem forceL_eq : ∀ (l : List α) (k : List α → β), forceL l k = k l
  | [], k => rfl
  | x :: t, k => by unfold forceL; exact forceL_eq t _
def forceA (a : Option Addr) (k : Option Addr → β) : β :=
  match a with
  | none => k none
  | some ⟨i, o, none⟩ => forceN i fun i => forceN o fun o => k (some ⟨i, o, none⟩)
  | some ⟨i, o, some s⟩ => forceN i fun i => forceN o fun o => k (some ⟨i, o, some s⟩)
theorem forceA_eq (a : Option Addr) (k : Option Addr → β) : forceA a k = k a := by
  unfold forceA; split <;> simp [forceN_eq]
def forceV (v : Value) (k : Value → β) : β :=
  match v with
  | .int kd n => forceI n fun n => k (.int kd n)
  | .bool b => match b with | true => k (.bool true) | false => k (.bool false)
  | .pointer a => forceA a fun a => k (.pointer a)
  | .slice a l c => forceA a fun a => forceN l fun l => forceN c fun c => k (.slice a l c)
  | .agg ⟨l⟩ => forceL l fun l => k (.agg ⟨l⟩)
  | .tuple ⟨l⟩ => forceL l fun l => k (.tuple ⟨l⟩)
  | .string s => k (.string s)
  | v => k v
theorem forceV_eq (v : Value) (k : Value → β) : forceV v k = k v := by
  unfold forceV; split <;> first | rfl | simp only [forceI_eq, forceA_eq, forceN_eq, forceL_eq] | (split <;> rfl)
/-- A string that was made: its bytes too. -/
def forceS (v : Value) (k : Value → β) : β :=
  match v with
  | .string ⟨⟨l⟩⟩ => forceL l fun l => k (.string ⟨⟨l⟩⟩)
  | v => forceV v k
theorem forceS_eq (v : Value) (k : Value → β) : forceS v k = k v := by
  unfold forceS; split
  · rw [forceL_eq]
  · exact forceV_eq _ _
noncomputable def setkK (t : Nat) (v : Value) (l : List (Nat × Value)) : (List (Nat × Value) → β) → β :=
  List.rec (motive := fun _ => (List (Nat × Value) → β) → β) (fun k => k [(t, v)]) (fun p l ih k => Bool.rec (motive := fun _ => β) (ih fun l' => k (p :: l')) (k ((t, v) :: l)) (Nat.beq t p.1)) l
theorem setkK_eq (t : Nat) (v : Value) : ∀ (l : List (Nat × Value)) (k : List (Nat × Value) → β), setkK t v l k = k (setk t v l)
  | [], k => rfl
  | (s, u) :: l, k => by
    have h : setkK t v ((s, u) :: l) k = Bool.rec (motive := fun _ => β) (setkK t v l fun l' => k ((s, u) :: l')) (k ((t, v) :: l)) (Nat.beq t s) := rfl
    rw [h, setkK_eq t v l]
    simp only [setk]
    by_cases e : t = s
    · subst e; rw [nbeq_t rfl, if_pos rfl]
    · rw [nbeq_f e, if_neg e]
noncomputable def lookE (t : Nat) (l : List (Nat × Value)) : Option Value :=
  List.rec (motive := fun _ => Option Value) none (fun p _ ih => Bool.rec (motive := fun _ => Option Value) ih (some p.2) (Nat.beq t p.1)) l
theorem lookE_eq (t : Nat) : ∀ l, lookE t l = look t l
  | [] => rfl
  | (s, v) :: l => by
    have h : lookE t ((s, v) :: l) = Bool.rec (motive := fun _ => Option Value) (lookE t l) (some v) (Nat.beq t s) := rfl
    rw [h, lookE_eq t l]
    simp only [look]
    by_cases e : t = s
    · subst e; rw [nbeq_t rfl, if_pos rfl]
    · rw [nbeq_f e, if_neg e]
noncomputable def putK (fr : Frm) (dst : Option Nat) (v : Value) (k : Frm → Option β) : Option β :=
  match dst with
  | none => k fr
  | some d => match Nat.blt d fr.size with | true => setkK d v fr.slots fun s => k ⟨fr.size, s, fr.defers⟩ | false => none
theorem putK_eq (fr : Frm) (dst : Option Nat) (v : Value) (k : Frm → Option β) : putK fr dst v k = (fr.put dst v).bind k := by
  unfold putK Frm.put
  cases dst with
  | none => rfl
  | some d =>
    simp only []
    by_cases h : d < fr.size
    · have hb : Nat.blt d fr.size = true := by unfold Nat.blt; exact Nat.ble_eq_true_of_le h
      rw [if_pos h]; simp only [hb, setkK_eq, Option.bind_some]
    · have hb : Nat.blt d fr.size = false := by
        cases q : Nat.blt d fr.size with
        | false => rfl
        | true => unfold Nat.blt at q; exact absurd (Nat.le_of_ble_eq_true q) h
      rw [if_neg h]; simp only [hb, Option.bind_none]
def listSetK (l : List α) (n : Nat) (a : α) (k : List α → β) : β :=
  match l, n with
  | [], _ => k []
  | _ :: t, 0 => k (a :: t)
  | x :: t, n + 1 => listSetK t n a fun t' => k (x :: t')
theorem listSetK_eq : ∀ (l : List α) (n : Nat) (a : α) (k : List α → β), listSetK l n a k = k (l.set n a)
  | [], n, a, k => by cases n <;> rfl
  | x :: t, 0, a, k => rfl
  | x :: t, n + 1, a, k => by unfold listSetK; rw [listSetK_eq t n a]; rfl
/-- The same, the way to the object written out. -/
def Tr.setK (a : AObj) : Nat → Tr → Nat → (Tr → β) → β
  | 0, t, _, c => c t
  | n + 1, .leaf, k, c => match Nat.beq k 0 with
    | true => c (.node .leaf (some a) .leaf)
    | false => match Nat.beq (k % 2) 1 with
      | true => forceN (k / 2) fun k => Tr.setK a n .leaf k fun t => c (.node t none .leaf)
      | false => forceN (k / 2 - 1) fun k => Tr.setK a n .leaf k fun t => c (.node .leaf none t)
  | n + 1, .node l v r, k, c => match Nat.beq k 0 with
    | true => c (.node l (some a) r)
    | false => match Nat.beq (k % 2) 1 with
      | true => forceN (k / 2) fun k => Tr.setK a n l k fun t => c (.node t v r)
      | false => forceN (k / 2 - 1) fun k => Tr.setK a n r k fun t => c (.node l v t)
theorem Tr.setK_eq (a : AObj) : ∀ (n : Nat) (t : Tr) (k : Nat) (c : Tr → β), Tr.setK a n t k c = c (Tr.set a n t k)
  | 0, _, _, _ => rfl
  | n + 1, .leaf, k, c => by
    rw [Tr.setK, Tr.set]
    cases Nat.beq k 0 with
    | true => rfl
    | false =>
      cases Nat.beq (k % 2) 1 with
      | true => simp only [forceN_eq, Tr.setK_eq a n]
      | false => simp only [forceN_eq, Tr.setK_eq a n]
  | n + 1, .node l v r, k, c => by
    rw [Tr.setK, Tr.set]
    cases Nat.beq k 0 with
    | true => rfl
    | false =>
      cases Nat.beq (k % 2) 1 with
      | true => simp only [forceN_eq, Tr.setK_eq a n]
      | false => simp only [forceN_eq, Tr.setK_eq a n]
def Heap.setK (h : Heap) (i : Nat) (o : AObj) (k : Heap → β) : β := match Nat.blt i h.next with | true => Tr.setK o (i + 1) h.objs i fun l => k ⟨h.next, l⟩ | false => k h
theorem Heap.setK_eq (h : Heap) (i : Nat) (o : AObj) (k : Heap → β) : h.setK i o k = k (h.set i o) := by
  unfold Heap.setK Heap.set
  by_cases e : i < h.next
  · have hb : Nat.blt i h.next = true := by unfold Nat.blt; exact Nat.ble_eq_true_of_le e
    rw [if_pos e]; simp only [hb, Tr.setK_eq]
  · have hb : Nat.blt i h.next = false := by
      cases q : Nat.blt i h.next with
      | false => rfl
      | true => unfold Nat.blt at q; exact absurd (Nat.le_of_ble_eq_true q) e
    rw [if_neg e]; simp only [hb]
def forceVs : List Value → (List Value → β) → β
  | [], k => k []
  | v :: l, k => forceV v fun v => forceVs l fun l => k (v :: l)
theorem forceVs_eq : ∀ (l : List Value) (k : List Value → β), forceVs l k = k l
  | [], k => rfl
  | v :: l, k => by simp only [forceVs, forceV_eq, forceVs_eq l]
def forceO (o : AObj) (k : AObj → β) : β :=
  match o with
  | .row ⟨vs, e, g, ou, ro, st⟩ => forceVs vs fun vs => forceN e fun e => match g with
    | true => match ro with
      | true => k (.row ⟨vs, e, true, ou, true, st⟩)
      | false => k (.row ⟨vs, e, true, ou, false, st⟩)
    | false => match ro with
      | true => k (.row ⟨vs, e, false, ou, true, st⟩)
      | false => k (.row ⟨vs, e, false, ou, false, st⟩)
  | o => k o
theorem forceO_eq (o : AObj) (k : AObj → β) : forceO o k = k o := by
  cases o with
  | row r =>
    obtain ⟨vs, e, g, ou, ro, st⟩ := r
    simp only [forceO, forceVs_eq, forceN_eq]
    cases g <;> cases ro <;> rfl
  | _ => rfl
def forceOO (o : Option AObj) (k : Option AObj → β) : β := match o with | none => k none | some o => forceO o fun o => k (some o)
theorem forceOO_eq (o : Option AObj) (k : Option AObj → β) : forceOO o k = k o := by cases o <;> simp only [forceOO, forceO_eq]
/-- A heap, the way to the object i written out, and it itself. -/
def Tr.forceAt : Nat → Tr → Nat → (Tr → β) → β
  | 0, t, _, c => c t
  | _ + 1, .leaf, _, c => c .leaf
  | n + 1, .node l v r, k, c => match Nat.beq k 0 with
    | true => forceOO v fun v => c (.node l v r)
    | false => match Nat.beq (k % 2) 1 with
      | true => forceN (k / 2) fun k => Tr.forceAt n l k fun t => c (.node t v r)
      | false => forceN (k / 2 - 1) fun k => Tr.forceAt n r k fun t => c (.node l v t)
theorem Tr.forceAt_eq : ∀ (n : Nat) (t : Tr) (k : Nat) (c : Tr → β), Tr.forceAt n t k c = c t
  | 0, _, _, _ => rfl
  | _ + 1, .leaf, _, _ => rfl
  | n + 1, .node l v r, k, c => by
    rw [Tr.forceAt]
    cases Nat.beq k 0 with
    | true => simp only [forceOO_eq]
    | false =>
      cases Nat.beq (k % 2) 1 with
      | true => simp only [forceN_eq, Tr.forceAt_eq n]
      | false => simp only [forceN_eq, Tr.forceAt_eq n]
/-- A heap of which the youngest object is new: that written out. -/
def forceH (h : Heap) (k : Heap → β) : β :=
  match h with
  | ⟨n, t⟩ => forceN n fun n => match n with
    | 0 => k ⟨0, t⟩
    | j + 1 => forceN j fun j => Tr.forceAt n t j fun t => k ⟨n, t⟩
theorem forceH_eq (h : Heap) (k : Heap → β) : forceH h k = k h := by
  obtain ⟨n, t⟩ := h
  cases n with
  | zero => rfl
  | succ j => simp only [forceH, forceN_eq, Tr.forceAt_eq]
def storeK (P : Program) (h : Heap) (t : TypeId) (a v : Value) (k : Heap → Option β) : Option β :=
  match a with
  | .pointer (some ⟨i, o, none⟩) =>
    match P.info? t with
    | some info =>
      if v.cells.size = info.size ∧ v.cells.all one = true then
        match h.row i with
        | some r => if o + v.cells.toList.length ≤ r.vs.length ∧ r.outer = false ∧ r.ro = false then forceL (splice r.vs o v.cells.toList) fun vs => h.setK i (.row { r with vs := vs }) k else none
        | none => none
      else none
    | none => none
  | _ => none
theorem storeK_eq (P : Program) (h : Heap) (t : TypeId) (a v : Value) (k : Heap → Option β) : storeK P h t a v k = (astore P h t a v).bind k := by
  unfold storeK astore
  split
  · rename_i i o
    cases P.info? t with
    | none => rfl
    | some info =>
      simp only []
      split
      · unfold Heap.sts
        cases h.row i with
        | none => rfl
        | some r =>
          simp only [Option.bind_some]
          split
          · simp only [forceL_eq, Heap.setK_eq, Option.bind_some]
          · rfl
      · rfl
  · rename_i hno
    split
    · rename_i i o
      exact absurd rfl (hno i o)
    · rfl
def isMade (o : Op) : Bool := match o with | .binOp .add _ _ _ _ => true | .slice .. => true | .convert .. => true | _ => false
/-- What an operation yields, written out. -/
def aopK0 (P : Program) (ρ : Operand → Option Value) (o : Oper) (h : Heap) (k : AN → Heap → Option β) : Option β :=
  match aopE P ρ o h with
  | none => none
  | some (.val v, h1) =>
    match isLoud o with
    | true => match isMade o.op with | true => forceS v fun v => forceH h1 fun h1 => k (.val v) h1 | false => forceV v fun v => forceH h1 fun h1 => k (.val v) h1
    | false => match isMade o.op with | true => forceS v fun v => k (.val v) h1 | false => forceV v fun v => k (.val v) h1
  | some (n, h1) => k n h1
theorem aopK0_eq (P : Program) (ρ : Operand → Option Value) (o : Oper) (h : Heap) (k : AN → Heap → Option β) : aopK0 P ρ o h k = (aopE P ρ o h).bind fun r => k r.1 r.2 := by
  unfold aopK0
  cases aopE P ρ o h with
  | none => rfl
  | some r =>
    obtain ⟨n, h1⟩ := r
    cases n <;> simp only [Option.bind_some]
    repeat' split
    all_goals simp only [forceS_eq, forceV_eq, forceH_eq]
def kMove (h : Heap) (k : AN → Heap → Option β) : Option Value → Option β
  | none => none
  | some v => k (.val v) h
def kVal (h : Heap) (k : AN → Heap → Option β) : Option Value → Option β
  | none => none
  | some v => forceV v fun v => k (.val v) h
def kLoad (P : Program) (t : TypeId) (h : Heap) (k : AN → Heap → Option β) : Option Value → Option β
  | none => none
  | some p => kVal h k (aload P h t p)
def kFieldAddr (P : Program) (t : TypeId) (f : Nat) (h : Heap) (k : AN → Heap → Option β) : Option Value → Option β
  | none => none
  | some p => kVal h k (afieldAddr P t p f)
def kField (P : Program) (t : TypeId) (f : Nat) (h : Heap) (k : AN → Heap → Option β) : Option Value → Option β
  | none => none
  | some p => kVal h k (afield P t p f)
def kExtract (f : Nat) (h : Heap) (k : AN → Heap → Option β) : Option Value → Option β
  | none => none
  | some p => kVal h k (aextract p f)
def kStore (P : Program) (t : TypeId) (h : Heap) (k : AN → Heap → Option β) : Option Value → Option Value → Option β
  | some p, some v => storeK P h t p v fun h1 => k .skip h1
  | _, _ => none
def kIndexAddr (P : Program) (t : TypeId) (h : Heap) (k : AN → Heap → Option β) : Option Value → Option Value → Option β
  | some p, some v => kVal h k (aindexAddr P t p v)
  | _, _ => none
def kIndex (P : Program) (t : TypeId) (h : Heap) (k : AN → Heap → Option β) : Option Value → Option Value → Option β
  | some p, some v => kVal h k (aindex P t p v)
  | _, _ => none
def kMadeIf (h : Heap) (k : AN → Heap → Option β) (made : Bool) : Option Value → Option β
  | none => none
  | some v => match made with
    | true => forceS v fun v => k (.val v) h
    | false => forceV v fun v => k (.val v) h
def kBin (P : Program) (op : BinOp) (t : TypeId) (both : Bool) (h : Heap) (k : AN → Heap → Option β) : Option Value → Option Value → Option β
  | some a, some b => kMadeIf h k (match op with | .add => true | _ => false) (binA P h op t both a b)
  | _, _ => none
theorem kMove_eq (h : Heap) (k : AN → Heap → Option β) (v : Option Value) : kMove h k v = v.bind fun v => k (.val v) h := by cases v <;> rfl
theorem kVal_eq (h : Heap) (k : AN → Heap → Option β) (v : Option Value) : kVal h k v = v.bind fun v => k (.val v) h := by cases v <;> simp [kVal, forceV_eq]
theorem kMadeIf_eq (h : Heap) (k : AN → Heap → Option β) (b : Bool) (v : Option Value) : kMadeIf h k b v = v.bind fun v => k (.val v) h := by cases v <;> cases b <;> simp [kMadeIf, forceV_eq, forceS_eq]
def aopK (P : Program) (ρ : Operand → Option Value) (o : Oper) (h : Heap) (k : AN → Heap → Option β) : Option β :=
  match o.op with
  | .move x => kMove h k (ρ x)
  | .assign x => kMove h k (ρ x)
  | .load t a => kLoad P t h k (ρ a)
  | .store t a x => kStore P t h k (ρ a) (ρ x)
  | .fieldAddr t x f => kFieldAddr P t f h k (ρ x)
  | .field t x f => kField P t f h k (ρ x)
  | .indexAddr t x i => kIndexAddr P t h k (ρ x) (ρ i)
  | .index t x i => kIndex P t h k (ρ x) (ρ i)
  | .extract x i => kExtract i h k (ρ x)
  | .binOp op t x y _ => kBin P op t (isEqOp op && !isConstO x && !isConstO y) h k (ρ x) (ρ y)
  | _ => aopK0 P ρ o h k
theorem aopK_eq (P : Program) (ρ : Operand → Option Value) (o : Oper) (h : Heap) (k : AN → Heap → Option β) : aopK P ρ o h k = (aopE P ρ o h).bind fun r => k r.1 r.2 := by
  obtain ⟨dst, op, type, pos, after, guard⟩ := o
  unfold aopK
  cases op <;> simp only [] <;> try exact aopK0_eq _ _ _ _ _
  case move x => simp only [aopE, kMove_eq]; cases ρ x <;> rfl
  case assign x => simp only [aopE, kMove_eq]; cases ρ x <;> rfl
  case load t a =>
    simp only [aopE]
    cases ρ a with
    | none => rfl
    | some p => simp only [kLoad, kVal_eq, Option.bind_some]; cases aload P h t p <;> rfl
  case store t a x =>
    simp only [aopE]
    cases ρ a with
    | none => cases ρ x <;> rfl
    | some p =>
      cases ρ x with
      | none => rfl
      | some v =>
        simp only [kStore, storeK_eq, Option.bind_some]
        cases astore P h t p v <;> rfl
  case fieldAddr t x f =>
    simp only [aopE]
    cases ρ x with
    | none => rfl
    | some p => simp only [kFieldAddr, kVal_eq, Option.bind_some]; cases afieldAddr P t p f <;> rfl
  case field t x f =>
    simp only [aopE]
    cases ρ x with
    | none => rfl
    | some p => simp only [kField, kVal_eq, Option.bind_some]; cases afield P t p f <;> rfl
  case extract x i =>
    simp only [aopE]
    cases ρ x with
    | none => rfl
    | some p => simp only [kExtract, kVal_eq, Option.bind_some]; cases aextract p i <;> rfl
  case indexAddr t x i =>
    simp only [aopE]
    cases ρ x with
    | none => cases ρ i <;> rfl
    | some p =>
      cases ρ i with
      | none => rfl
      | some v => simp only [kIndexAddr, kVal_eq, Option.bind_some]; cases aindexAddr P t p v <;> rfl
  case index t x i =>
    simp only [aopE]
    cases ρ x with
    | none => cases ρ i <;> rfl
    | some p =>
      cases ρ i with
      | none => rfl
      | some v => simp only [kIndex, kVal_eq, Option.bind_some]; cases aindex P t p v <;> rfl
  case binOp op t x y z =>
    simp only [aopE]
    cases ρ x with
    | none => cases ρ y <;> rfl
    | some p =>
      cases ρ y with
      | none => rfl
      | some v => simp only [kBin, kMadeIf_eq, Option.bind_some]; cases binA P h op t _ p v <;> rfl
end
/-- An operand's value, looked up quickly. -/
noncomputable def aevE (G : Nat) (fr : Frm) (x : Operand) : Option Value := match x with | .tmp t => lookE t fr.slots | x => aev G fr x
theorem aevE_eq (G : Nat) (fr : Frm) : aevE G fr = aev G fr := by
  funext x
  cases x <;> first | rfl | exact lookE_eq _ _

/-! ### are two values one? -/
def veqL (f : Value → Value → Bool) : List Value → List Value → Bool
  | [], [] => true
  | x :: l, y :: l' => f x y && veqL f l l'
  | _, _ => false
theorem veqL_eq {f : Value → Value → Bool} (hf : ∀ x y, f x y = true → x = y) : ∀ l l', veqL f l l' = true → l = l'
  | [], [], _ => rfl
  | x :: l, y :: l', h => by
    simp only [veqL, Bool.and_eq_true] at h
    rw [hf x y h.1, veqL_eq hf l l' h.2]
  | [], _ :: _, h => by cases h
  | _ :: _, [], h => by cases h
def veq : Nat → Value → Value → Bool
  | 0, _, _ => false
  | n + 1, a, b =>
    match a, b with
    | .bool x, .bool y => x == y
    | .int k x, .int k' y => decide (k = k') && decide (x = y)
    | .string s, .string t => strEq s t
    | .pointer a, .pointer b => decide (a = b)
    | .slice a l c, .slice b l' c' => decide (a = b) && decide (l = l') && decide (c = c')
    | .map a, .map b => decide (a = b)
    | .nilIface, .nilIface => true
    | .nilFunc, .nilFunc => true
    | .iface t v, .iface t' v' => decide (t = t') && veq n v v'
    | .func (.func f) a b, .func (.func f') a' b' => decide (f = f') && veqL (veq n) a.toList a'.toList && veqL (veq n) b.toList b'.toList
    | .agg xs, .agg ys => veqL (veq n) xs.toList ys.toList
    | .tuple xs, .tuple ys => veqL (veq n) xs.toList ys.toList
    | _, _ => false
theorem veq_eq : ∀ n a b, veq n a b = true → a = b
  | 0, _, _, h => by cases h
  | n + 1, a, b, h => by
    unfold veq at h
    split at h
    · simp at h; rw [h]
    · simp at h; rw [h.1, h.2]
    · rw [(strEq_iff _ _).1 h]
    · simp at h; rw [h]
    · simp at h; rw [h.1.1, h.1.2, h.2]
    · simp at h; rw [h]
    · rfl
    · rfl
    · simp only [Bool.and_eq_true, decide_eq_true_eq] at h; rw [h.1, veq_eq n _ _ h.2]
    · simp only [Bool.and_eq_true, decide_eq_true_eq] at h
      rw [h.1.1, Array.toList_inj.1 (veqL_eq (veq_eq n) _ _ h.1.2), Array.toList_inj.1 (veqL_eq (veq_eq n) _ _ h.2)]
    · rw [Array.toList_inj.1 (veqL_eq (veq_eq n) _ _ h)]
    · rw [Array.toList_inj.1 (veqL_eq (veq_eq n) _ _ h)]
    · cases h

/-! ### the evaluator -/
abbrev Rec := Task → Heap → Option (Out × Heap)

/-- What follows an operation. -/
abbrev Then := Frm → Option FrameMode → Heap → Option (Out × Heap)
noncomputable def opCall (p : Oper) (ih : Then) (fr : Frm) (u : Option FrameMode) : Option (Out × Heap) → Option (Out × Heap)
  | some (.ends (.returned v), h2) => putK fr p.dst v fun fr1 => ih fr1 u h2
  | some (.ends (.panicked c), h2) => some (.x (.panic c) fr u, h2)
  | _ => none
noncomputable def opRec (p : Oper) (ih : Then) (fr : Frm) (u : Option FrameMode) (h1 : Heap) : Option (Out × Heap) :=
  match u with
  | some (.panicking ({ v, recovered := false, goexit := false } :: older)) => putK fr p.dst v fun fr1 => ih fr1 (some (.panicking ({ v, recovered := true } :: older))) h1
  | some .returning => putK fr p.dst .nilIface fun fr1 => ih fr1 (some .returning) h1
  | _ => none
noncomputable def opPut (dst : Option Nat) (ih : Then) (fr : Frm) (u : Option FrameMode) (h1 : Heap) (v : Value) : Option (Out × Heap) := putK fr dst v fun fr1 => ih fr1 u h1
noncomputable def opNext (rec : Rec) (p : Oper) (ih : Then) (fr : Frm) (u : Option FrameMode) (r : AN) (h1 : Heap) : Option (Out × Heap) :=
  match r with
  | .val v => opPut p.dst ih fr u h1 v
  | .skip => opPut p.dst ih fr u h1 undef
  | .call f args => opCall p ih fr u (rec (.call f args) h1)
  | .defer d => opPut p.dst ih { fr with defers := d :: fr.defers } u h1 undef
  | .panic v => some (.x (.panic [{ v, recovered := false }]) fr u, h1)
  | .recover => opRec p ih fr u h1
noncomputable def opGo (P : Program) (G : Nat) (rec : Rec) (p : Oper) (ih : Then) (fr : Frm) (u : Option FrameMode) (h : Heap) (w : Option Bool) : Option (Out × Heap) :=
  match w with
  | none => none
  | some false => opPut p.dst ih fr u h undef
  | some true => aopK P (aevE G fr) p h (opNext rec p ih fr u)
/-- Operations in the text's order. 'l': those that are left. -/
noncomputable def evOps (P : Program) (G : Nat) (rec : Rec) (ops : Array Oper) (l : List Oper) : Then :=
  List.rec (motive := fun _ => Then) (fun fr u h => some (.x .normal fr u, h)) (fun p _ ih fr u h => opGo P G rec p ih fr u h (awanted ops fr p)) l
theorem evOps_cons (P : Program) (G : Nat) (rec : Rec) (ops : Array Oper) (p : Oper) (l : List Oper) (fr : Frm) (u : Option FrameMode) (h : Heap) : evOps P G rec ops (p :: l) fr u h = opGo P G rec p (evOps P G rec ops l) fr u h (awanted ops fr p) := rfl
theorem evOps_nil (P : Program) (G : Nat) (rec : Rec) (ops : Array Oper) (fr : Frm) (u : Option FrameMode) (h : Heap) : evOps P G rec ops [] fr u h = some (.x .normal fr u, h) := rfl

/-- Reads: the type, the address, the value. -/
abbrev Reads := List (TypeId × Value × Value)
def readsOk (P : Program) (R : Reads) (h : Heap) : Bool := R.all fun r => match aload P h r.1 r.2.1 with | some v => veq 100 v r.2.2 | none => false

def readsAll (P : Program) (R : Reads) (h : Heap) (hs : List Heap) : Bool := match R with | [] => true | _ :: _ => readsOk P R h && hs.all (readsOk P R)
/-- A length that no memory is asked for. -/
def alenQ (P : Program) (t : TypeId) (x : Value) : Option Value :=
  match P.underlying t, x with
  | some .string, .string s => some (.int .i64 (s.size : Nat))
  | some (.slice _), .slice _ n _ => some (.int .i64 (n : Nat))
  | _, _ => none
theorem alenQ_alen {P : Program} {t : TypeId} {x v : Value} (e : alenQ P t x = some v) (h : Heap) : alen P h t x = some v := by
  unfold alenQ at e
  unfold alen
  split at e
  · rename_i hu; rw [hu]; exact e
  · rename_i hu; rw [hu]; exact e
  · cases e
/-- What yields the same whatever the memory. -/
def quietV (P : Program) (ρ : Operand → Option Value) (cal : FuncId → List Value → Option Value) (o : Oper) : Option Value :=
  match o.op with
  | .binOp op t x y _ => (ρ x).bind fun a => (ρ y).bind fun b => abin P op t a b
  | .convert s d x => (ρ x).bind fun a => aconv P s d a
  | .call c =>
    match c.callee with
    | .value f => (ρ f).bind fun fv => (calleeOf fv).bind fun q => (fnOf q.1).bind fun g => (evs ρ c.args.toList).bind fun zs =>
        if canEnter P g then cal g (q.2.1.toList ++ zs ++ q.2.2.toList) else none
    | .builtin .len => match c.argTypes.toList with
      | [t] => (evs ρ c.args.toList).bind fun zs => match zs with
        | [x] => alenQ P t x
        | _ => none
      | _ => none
    | _ => none
  | _ => none

def addH (q : Nat) (l : List Oper) (h : Heap) (hs : List Heap) : List Heap := if q ≤ l.length then h :: hs else hs
/-- Operations of a region that draws its order, in the text's order; what is read unordered; the heaps between. -/
noncomputable def evDraw (P : Program) (G : Nat) (rec : Rec) (cal : FuncId → List Value → Option Value) (ops : List Oper) (ex pu : List Nat) (q : Nat) : List Oper → Frm → Heap → Option (Frm × Heap × Reads × List Heap)
  | [], fr, h => some (fr, h, [], [])
  | p :: l, fr, h =>
    match awanted ops.toArray fr p with
    | none => none
    | some false => putK fr p.dst undef fun fr1 => evDraw P G rec cal ops ex pu q l fr1 h
    | some true =>
      if exempt pu p then
        match quietV P (aevE G fr) cal p with
        | none => none
        | some v => forceS v fun v => putK fr p.dst v fun fr1 => evDraw P G rec cal ops ex pu q l fr1 h
      else if exempt ex p then
        match p.op with
        | .load t a =>
          match aevE G fr a with
          | none => none
          | some r =>
            match aload P h t r with
            | none => none
            | some v => forceV v fun v => putK fr p.dst v fun fr1 =>
                match evDraw P G rec cal ops ex pu q l fr1 h with
                | some (fr2, h2, R, hs) => some (fr2, h2, (t, r, v) :: R, hs)
                | none => none
        | _ => none
      else
      aopK P (aevE G fr) p h fun n h1 =>
      match n with
      | .val v =>
        match isLoud p with
        | true => putK fr p.dst v fun fr1 =>
            match evDraw P G rec cal ops ex pu q l fr1 h1 with
            | some (fr2, h2, R, hs) => some (fr2, h2, R, addH q l h1 hs)
            | none => none
        | false => if h1.next = h.next then putK fr p.dst v fun fr1 => evDraw P G rec cal ops ex pu q l fr1 h else none
      | .skip =>
        match isLoud p with
        | true => putK fr p.dst undef fun fr1 =>
            match evDraw P G rec cal ops ex pu q l fr1 h1 with
            | some (fr2, h2, R, hs) => some (fr2, h2, R, addH q l h1 hs)
            | none => none
        | false => none
      | .call f args =>
        match isLoud p with
        | true =>
          match rec (.call f args) h1 with
          | some (.ends (.returned v), h2) => putK fr p.dst v fun fr1 =>
              match evDraw P G rec cal ops ex pu q l fr1 h2 with
              | some (fr3, h3, R, hs) => some (fr3, h3, R, addH q l h2 hs)
              | none => none
          | _ => none
        | false => none
      | _ => none

/-! the same in small pieces -/
abbrev ThenD := Frm → Heap → Option (Frm × Heap × Reads × List Heap)
noncomputable def dPut (dst : Option Nat) (ih : ThenD) (fr : Frm) (h : Heap) (v : Value) : Option (Frm × Heap × Reads × List Heap) := putK fr dst v fun fr1 => ih fr1 h
def dAdd (q : Nat) (l : List Oper) (h1 : Heap) : Option (Frm × Heap × Reads × List Heap) → Option (Frm × Heap × Reads × List Heap)
  | some (fr2, h2, R, hs) => some (fr2, h2, R, addH q l h1 hs)
  | none => none
noncomputable def dPutAdd (q : Nat) (l : List Oper) (dst : Option Nat) (ih : ThenD) (fr : Frm) (h1 : Heap) (v : Value) : Option (Frm × Heap × Reads × List Heap) := putK fr dst v fun fr1 => dAdd q l h1 (ih fr1 h1)
def dRd (t : TypeId) (r v : Value) : Option (Frm × Heap × Reads × List Heap) → Option (Frm × Heap × Reads × List Heap)
  | some (fr2, h2, R, hs) => some (fr2, h2, (t, r, v) :: R, hs)
  | none => none
noncomputable def dQuiet (p : Oper) (ih : ThenD) (fr : Frm) (h : Heap) : Option Value → Option (Frm × Heap × Reads × List Heap)
  | none => none
  | some v => forceS v fun v => dPut p.dst ih fr h v
noncomputable def dLoadV (t : TypeId) (r : Value) (p : Oper) (ih : ThenD) (fr : Frm) (h : Heap) : Option Value → Option (Frm × Heap × Reads × List Heap)
  | none => none
  | some v => forceV v fun v => putK fr p.dst v fun fr1 => dRd t r v (ih fr1 h)
noncomputable def dLoad (P : Program) (t : TypeId) (p : Oper) (ih : ThenD) (fr : Frm) (h : Heap) : Option Value → Option (Frm × Heap × Reads × List Heap)
  | none => none
  | some r => dLoadV t r p ih fr h (aload P h t r)
noncomputable def dEx (P : Program) (G : Nat) (p : Oper) (ih : ThenD) (fr : Frm) (h : Heap) : Option (Frm × Heap × Reads × List Heap) :=
  match p.op with
  | .load t a => dLoad P t p ih fr h (aevE G fr a)
  | _ => none
noncomputable def dCall (q : Nat) (l : List Oper) (p : Oper) (ih : ThenD) (fr : Frm) : Option (Out × Heap) → Option (Frm × Heap × Reads × List Heap)
  | some (.ends (.returned v), h2) => dPutAdd q l p.dst ih fr h2 v
  | _ => none
noncomputable def dVal (q : Nat) (l : List Oper) (p : Oper) (ih : ThenD) (fr : Frm) (h h1 : Heap) (v : Value) (loud : Bool) : Option (Frm × Heap × Reads × List Heap) :=
  match loud with
  | true => dPutAdd q l p.dst ih fr h1 v
  | false => if h1.next = h.next then dPut p.dst ih fr h v else none
noncomputable def dSkip (q : Nat) (l : List Oper) (p : Oper) (ih : ThenD) (fr : Frm) (h1 : Heap) (loud : Bool) : Option (Frm × Heap × Reads × List Heap) :=
  match loud with
  | true => dPutAdd q l p.dst ih fr h1 undef
  | false => none
noncomputable def dCallL (rec : Rec) (q : Nat) (l : List Oper) (p : Oper) (ih : ThenD) (fr : Frm) (h1 : Heap) (f : FuncId) (args : List Value) (loud : Bool) : Option (Frm × Heap × Reads × List Heap) :=
  match loud with
  | true => dCall q l p ih fr (rec (.call f args) h1)
  | false => none
noncomputable def dNext (rec : Rec) (q : Nat) (l : List Oper) (p : Oper) (ih : ThenD) (fr : Frm) (h : Heap) (n : AN) (h1 : Heap) : Option (Frm × Heap × Reads × List Heap) :=
  match n with
  | .val v => dVal q l p ih fr h h1 v (isLoud p)
  | .skip => dSkip q l p ih fr h1 (isLoud p)
  | .call f args => dCallL rec q l p ih fr h1 f args (isLoud p)
  | _ => none
noncomputable def dGo (P : Program) (G : Nat) (rec : Rec) (cal : FuncId → List Value → Option Value) (ex pu : List Nat) (q : Nat) (p : Oper) (l : List Oper) (ih : ThenD) (fr : Frm) (h : Heap) (w : Option Bool) : Option (Frm × Heap × Reads × List Heap) :=
  match w with
  | none => none
  | some false => dPut p.dst ih fr h undef
  | some true =>
    if exempt pu p then dQuiet p ih fr h (quietV P (aevE G fr) cal p)
    else if exempt ex p then dEx P G p ih fr h
    else aopK P (aevE G fr) p h (dNext rec q l p ih fr h)
noncomputable def evDrawF (P : Program) (G : Nat) (rec : Rec) (cal : FuncId → List Value → Option Value) (ops : List Oper) (ex pu : List Nat) (q : Nat) (l : List Oper) : ThenD :=
  List.rec (motive := fun _ => ThenD) (fun fr h => some (fr, h, [], [])) (fun p l ih fr h => dGo P G rec cal ex pu q p l ih fr h (awanted ops.toArray fr p)) l
theorem evDrawF_eq (P : Program) (G : Nat) (rec : Rec) (cal : FuncId → List Value → Option Value) (ops : List Oper) (ex pu : List Nat) (q : Nat) : ∀ l, evDrawF P G rec cal ops ex pu q l = evDraw P G rec cal ops ex pu q l
  | [] => rfl
  | p :: l => by
    funext fr h
    have e : evDrawF P G rec cal ops ex pu q (p :: l) fr h = dGo P G rec cal ex pu q p l (evDrawF P G rec cal ops ex pu q l) fr h (awanted ops.toArray fr p) := rfl
    rw [e, evDrawF_eq P G rec cal ops ex pu q l, evDraw]
    cases awanted ops.toArray fr p with
    | none => rfl
    | some b =>
      cases b with
      | false => rfl
      | true =>
        simp only [dGo]
        split
        · cases quietV P (aevE G fr) cal p <;> rfl
        · split
          · unfold dEx
            split
            · rename_i t a _
              cases aevE G fr a with
              | none => rfl
              | some r => simp only [dLoad]; cases aload P h t r <;> rfl
            · rfl
          · congr 1

/-- A type whose '==' looks at no memory; a conversion that makes none. -/
def quietStat (P : Program) (fl : FuncId → Bool) (o : Oper) : Bool :=
  match o.op with
  | .binOp _ t _ _ _ => match P.underlying t with | some (.pointer _) | some (.interface _) | none => false | some _ => isReader o
  | .convert s d _ =>
    match P.underlying s, P.underlying d with
    | some .string, some (.slice _) => false
    | some (.slice _), some .string => false
    | _, _ => true
  | .call c => match c.callee with
    | .value (.func g) => fl g
    | .builtin .len => match c.argTypes.toList with
      | [t] => match P.underlying t with | some .string | some (.slice _) => true | _ => false
      | _ => false
    | _ => false
  | _ => false
def slotsOf (p : Oper → Bool) (l : List Oper) : List Nat := l.filterMap fun o => if p o then o.dst else none
def isLoadO (o : Oper) : Bool := match o.op with | .load .. => true | _ => false
/-- Is there one that writes, and is not ordered with it? -/
def loose (ms : List Nat) (pu : List Nat) (l : List (Nat × Oper)) (j : Nat) : Bool := l.any fun p => loudX pu p.2 && decide (p.1 ≠ j) && !(ms.getD j 0).testBit p.1 && !(ms.getD p.1 0).testBit j
def looseL (ms : List Nat) (pu : List Nat) (all : List (Nat × Oper)) : List (Nat × Oper) → List Nat
  | [] => []
  | p :: l => if isLoadO p.2 && loose ms pu all p.1 then (match p.2.dst with | some d => d :: looseL ms pu all l | none => looseL ms pu all l) else looseL ms pu all l
/-- The slots of both kinds, for a region's operations. -/
def tailQ (ms : List Nat) (pu : List Nat) (rs : List Nat) : List (Nat × Oper) → Nat
  | [] => 0
  | p :: l => if loudX pu p.2 && rs.any (fun i => !(ms.getD p.1 0).testBit i) then 0 else tailQ ms pu rs l + 1
def qOf (ms : List Nat) (ex pu : List Nat) (ps : List (Nat × Oper)) : Nat := match ex with | [] => 0 | _ :: _ => tailQ ms pu ((ps.filter fun p => exempt ex p.2).map (·.1)) ps.reverse
def planOf (P : Program) (fl : FuncId → Bool) (ops : List Oper) : Option (List Nat × List Nat × Nat) :=
  let pu := slotsOf (quietStat P fl) ops
  let ms := masks [] ops
  let ps := pairs ops 0
  let ex := looseL ms pu ps ps
  let q := qOf ms ex pu ps
  if drawable ops ex pu q then some (ex, pu, q) else none

/-- Slots of the loads that are not told to come after all places. -/
def exF (ops : List Oper) : List Nat :=
  let ms := masks [] ops
  let ps := pairs ops 0
  let fs := (ps.filter fun p => isFill p.2).map (·.1)
  (ps.filter fun p => (match p.2.op with | .load .. => true | .call _ => isReader p.2 | _ => false) && fs.any fun i => !(ms.getD p.1 0).testBit i).filterMap fun p => p.2.dst
noncomputable def evF (P : Program) (G : Nat) (ops : List Oper) (fr : Frm) (u : Option FrameMode) (h : Heap) : Option (Out × Heap) :=
  match (if drawableF ops (exF ops) = true then runDF P G ops.toArray h.next (exF ops) ops fr h else none) with
  | some (fr1, h1) => some (.x .normal fr1 u, h1)
  | none => none

def eqE (a b : MapEntry) : Bool := veq 50 a.key b.key && veq 50 a.val b.val && Nat.beq a.born b.born
def eqEs : List MapEntry → List MapEntry → Bool
  | [], [] => true
  | a :: l, b :: m => eqE a b && eqEs l m
  | _, _ => false
theorem eqEs_eq : ∀ {l m : List MapEntry}, eqEs l m = true → l = m
  | [], [], _ => rfl
  | a :: l, b :: m, h => by
    obtain ⟨k, v, n⟩ := a
    obtain ⟨k', v', n'⟩ := b
    simp only [eqEs, eqE, Bool.and_eq_true] at h
    obtain ⟨⟨⟨h1, h2⟩, h3⟩, h4⟩ := h
    rw [veq_eq _ _ _ h1, veq_eq _ _ _ h2, Nat.eq_of_beq_eq_true h3, eqEs_eq h4]
  | [], _ :: _, h => by cases h
  | _ :: _, [], h => by cases h
def eqO : AObj → AObj → Bool
  | .row a, .row b => veqL (veq 50) a.vs b.vs && Nat.beq a.elem b.elem && (a.grown == b.grown) && (a.outer == b.outer) && (a.ro == b.ro) && (a.str == b.str)
  | .map l n, .map m k => eqEs l m && Nat.beq n k
  | _, _ => false
theorem eqO_eq {a b : AObj} (h : eqO a b = true) : a = b := by
  cases a <;> cases b <;> simp only [eqO] at h <;> try (cases h; done)
  · rename_i r s
    obtain ⟨vs, e, g, o, ro, st⟩ := r
    obtain ⟨vs', e', g', o', ro', st'⟩ := s
    simp only [Bool.and_eq_true, beq_iff_eq] at h
    obtain ⟨⟨⟨⟨⟨h1, h2⟩, h3⟩, h4⟩, h5⟩, h6⟩ := h
    rw [veqL_eq (veq_eq 50) _ _ h1, Nat.eq_of_beq_eq_true h2, h3, h4, h5, h6]
  · simp only [Bool.and_eq_true] at h
    rw [eqEs_eq h.1, Nat.eq_of_beq_eq_true h.2]
theorem nblt_iff {i n : Nat} : Nat.blt i n = true ↔ i < n := ⟨fun h => by unfold Nat.blt at h; exact Nat.le_of_ble_eq_true h, fun h => by unfold Nat.blt; exact Nat.ble_eq_true_of_le h⟩
def memB (i : Nat) : List Nat → Bool
  | [] => false
  | k :: τ => Nat.beq i k || memB i τ
theorem memB_iff {i : Nat} : ∀ {l : List Nat}, memB i l = true ↔ i ∈ l
  | [] => by simp [memB]
  | k :: l => by simp only [memB, Bool.or_eq_true, memB_iff, List.mem_cons, Nat.beq_eq]
/-! ### a place in no told order with calls -/
/-- One operation that turns the memory. -/
noncomputable def stepL {β : Type} (P : Program) (G : Nat) (rec : Rec) (ops : List Oper) (o : Oper) (F : Frm) (H : Heap) (k : Value → Heap → Option β) : Option β :=
  match awanted ops.toArray F o with
  | none => none
  | some false => k undef H
  | some true => aopK P (aevE G F) o H fun n H1 =>
    match n with
    | .val v => k v H1
    | .skip => k undef H1
    | .call f args =>
      match rec (.call f args) H1 with
      | some (.ends (.returned v), H2) => forceV v fun v => k v H2
      | _ => none
    | _ => none
/-- What leaves the memory. -/
noncomputable def stepQ (P : Program) (G : Nat) (ops : List Oper) (o : Oper) (F : Frm) (H : Heap) : Option Value :=
  match awanted ops.toArray F o with
  | none => none
  | some false => some undef
  | some true =>
    match isLoud o with
    | true => none
    | false =>
      match aopE P (aevE G F) o H with
      | some (.val v, H1) => if Nat.beq H1.next H.next then some v else none
      | _ => none
def bind2 {α β γ : Type} (a : Option α) (b : Option β) (k : α → β → Option γ) : Option γ :=
  match a, b with
  | some x, some y => k x y
  | _, _ => none
theorem bind2_some {α β γ : Type} {a : Option α} {b : Option β} {k : α → β → Option γ} {r : γ} (e : bind2 a b k = some r) : ∃ x y, a = some x ∧ b = some y ∧ k x y = some r := by
  unfold bind2 at e
  split at e
  · exact ⟨_, _, rfl, rfl, e⟩
  · cases e
abbrev PassT := Option (List (Frm × Value) × List Heap × Frm)
def consP (x : Frm × Value) (hs : List Heap) : PassT → PassT
  | some (R, hs2, F2) => some (x :: R, hs ++ hs2, F2)
  | none => none
/-- All operations, in the text's order, but for f, that is done behind p of those of cs; Fr: what it looks at, where it is done ahead of its place. -/
noncomputable def evPass (P : Program) (G : Nat) (rec : Rec) (ops : List Oper) (cs : List Nat) (f p : Nat) (Fr : Option Frm) : List Oper → Nat → Nat → Option Value → Frm → Heap → PassT
  | [], _, _, _, F, H => some ([], [H], F)
  | o :: l, i, c, made, F, H =>
    match Nat.beq i f with
    | true =>
      match made with
      | some v => putK F o.dst v fun F1 => consP (F, v) [] (evPass P G rec ops cs f p Fr l (i + 1) c (some v) F1 H)
      | none =>
        match Nat.beq c p with
        | true => stepL P G rec ops o F H fun v H1 => putK F o.dst v fun F1 => consP (F, v) [H] (evPass P G rec ops cs f p Fr l (i + 1) c (some v) F1 H1)
        | false => none
    | false =>
      match memB i cs with
      | true =>
        match made with
        | some y => stepL P G rec ops o F H fun v H1 => putK F o.dst v fun F1 => consP (F, v) [H] (evPass P G rec ops cs f p Fr l (i + 1) (c + 1) (some y) F1 H1)
        | none =>
          match Nat.beq c p with
          | true =>
            bind2 ops[f]? Fr fun x F0 => stepL P G rec ops x F0 H fun y H0 => stepL P G rec ops o F H0 fun v H1 => putK F o.dst v fun F1 => consP (F, v) [H, H0] (evPass P G rec ops cs f p Fr l (i + 1) (c + 1) (some y) F1 H1)
          | false => stepL P G rec ops o F H fun v H1 => putK F o.dst v fun F1 => consP (F, v) [H] (evPass P G rec ops cs f p Fr l (i + 1) (c + 1) none F1 H1)
      | false =>
        match stepQ P G ops o F H with
        | some v => forceS v fun v => putK F o.dst v fun F1 => consP (F, v) [] (evPass P G rec ops cs f p Fr l (i + 1) c made F1 H)
        | none => none
/-- May it be done where d of those that turn the memory are done, and not yield the same? -/
noncomputable def calmAt (P : Program) (G : Nat) (ops : List Oper) (ms ls : List Nat) (i : Nat) (o : Oper) (x : Frm × Value) (d : Nat) (H : Heap) : Bool :=
  (ls.drop d).any (fun j => (ms.getD i 0).testBit j) || (ls.take d).any (fun j => (ms.getD j 0).testBit i) || (match stepQ P G ops o x.1 H with | some v => veq 50 v x.2 | none => false)
noncomputable def calmH (P : Program) (G : Nat) (ops : List Oper) (ms ls : List Nat) (i : Nat) (o : Oper) (x : Frm × Value) : Nat → List Heap → Bool
  | _, [] => true
  | d, H :: hs => calmAt P G ops ms ls i o x d H && calmH P G ops ms ls i o x (d + 1) hs
noncomputable def calmB (P : Program) (G : Nat) (ops : List Oper) (ms cs ls : List Nat) (f : Nat) (hs : List Heap) : Nat → List Oper → List (Frm × Value) → Bool
  | i, o :: l, x :: R => (Nat.beq i f || memB i cs || calmH P G ops ms ls i o x 0 hs) && calmB P G ops ms cs ls f hs (i + 1) l R
  | _, [], [] => true
  | _, _, _ => false
def eqO' : AObj → AObj → Bool
  | .dead, .dead => true
  | a, b => eqO a b
theorem eqO'_eq {a b : AObj} (h : eqO' a b = true) : a = b := by
  unfold eqO' at h
  split at h
  · rfl
  · exact eqO_eq h
/-- The same, the object a behind the others up to b. -/
def objsB (a b : Nat) (H H1 : Heap) : Nat → Bool
  | 0 => true
  | i + 1 => (match H1.get i with
    | none => true
    | some o => match H.get (tor a b i) with
      | some q => eqO' (mvO (rot a b) q) o
      | none => false) && objsB a b H H1 i
def slotsB (a b : Nat) (s : List (Nat × Value)) : List (Nat × Value) → Bool
  | [] => true
  | (t, v) :: l => (match look t s with | some u => veq 50 (mv (rot a b) u) v | none => false) && slotsB a b s l
def turnsB (n a b : Nat) (F : Frm) (H : Heap) (F1 : Frm) (H1 : Heap) : Bool :=
  Nat.ble n a && Nat.ble a b && Nat.blt b H.next && Nat.beq H1.next H.next && Nat.beq F.size F1.size && F.defers.isEmpty && F1.defers.isEmpty && slotsB a b F.slots F1.slots && objsB a b H H1 H.next
/-- What it looks at is what it looks at there. -/
def looksB (ops : List Oper) (o : Oper) (F F2 : Frm) : Bool :=
  (o.looksAt ops.toArray).all fun s => match look s F.slots, look s F2.slots with
    | some u, some v => veq 50 u v
    | none, none => true
    | _, _ => false
def blockOf : Value → Option Nat
  | .pointer (some a) => some a.block
  | .slice (some a) _ _ => some a.block
  | _ => none
def looksO (ops : List Oper) (f : Nat) (F : Frm) : Option Frm → Bool
  | none => true
  | some F0 => match ops[f]? with
    | some o => looksB ops o F0 F
    | none => false
/-- Where f's object lies, what it looked at, the frame and the memory in the end. -/
noncomputable def evVar (P : Program) (G : Nat) (rec : Rec) (ops : List Oper) (ms cs : List Nat) (f p : Nat) (Fr : Option Frm) (fr : Frm) (h : Heap) : Option (Nat × Frm × Frm × Heap) :=
  match evPass P G rec ops cs f p Fr ops 0 0 none fr h with
  | some (R, hs, F2) =>
    match calmB P G ops ms cs (louds cs f p) f hs 0 ops R with
    | true =>
      match R[f]?, hs[cs.length + 1]? with
      | some (F0, v), some H2 => match looksO ops f F0 Fr with
        | true => match blockOf v with
          | some a => some (a, F0, F2, H2)
          | none => none
        | false => none
      | _, _ => none
    | false => none
  | none => none
noncomputable def evVars (P : Program) (G : Nat) (rec : Rec) (ops : List Oper) (ms cs : List Nat) (f : Nat) (F0 : Frm) (fr : Frm) (h : Heap) (b : Nat) (F1 : Frm) (H1 : Heap) : Nat → Bool
  | 0 => true
  | p + 1 => (match evVar P G rec ops ms cs f p (some F0) fr h with
    | some (a, _, F, H) => turnsB h.next a b F H F1 H1
    | none => false) && evVars P G rec ops ms cs f F0 fr h b F1 H1 p
def loudIx : List Oper → Nat → List Nat
  | [], _ => []
  | o :: l, i => match isLoud o with | true => i :: loudIx l (i + 1) | false => loudIx l (i + 1)
def chainB (ms : List Nat) : List Nat → Bool
  | [] => true
  | c :: l => l.all (fun j => Nat.blt c j && (ms.getD j 0).testBit c) && chainB ms l
def floatB (ops : List Oper) (ms cs : List Nat) (f hi : Nat) : Bool :=
  let ps := pairs ops 0
  ps.all (fun p => p.2.after.all fun e => !Region.binds .any e || decide (e.on < p.1)) &&
  ps.all (fun p => ps.all fun q => !(decide (p.1 < q.1)) || !clash ops p.2 q.2 || (ms.getD q.1 0).testBit p.1) &&
  chainB ms cs && !memB f cs && (f :: cs).all (fun i => Nat.blt i ops.length) && Nat.ble hi cs.length && (cs.drop hi).all (fun c => (ms.getD c 0).testBit f)
def hiOf (cs : List Nat) (f : Nat) : Nat := (cs.filter fun i => Nat.blt i f).length
/-- That which stands in no told order with others. -/
def floatIx (ops : List Oper) (ms ls : List Nat) : List Nat → Option Nat
  | [] => none
  | f :: l => match floatB ops ms (ls.filter fun i => !Nat.beq i f) f (hiOf (ls.filter fun i => !Nat.beq i f) f) with
    | true => some f
    | false => floatIx ops ms ls l
noncomputable def evFl (P : Program) (G : Nat) (rec : Rec) (ops : List Oper) (fr : Frm) (u : Option FrameMode) (h : Heap) : Option (Out × Heap) :=
  let ms := masks [] ops
  let ls := loudIx ops 0
  match floatIx ops ms ls ls with
  | none => none
  | some f =>
    let cs := ls.filter fun i => !Nat.beq i f
    let hi := hiOf cs f
    match floatB ops ms cs f hi with
    | false => none
    | true =>
      match evVar P G rec ops ms cs f hi none fr h with
      | none => none
      | some (b, F0, F1, H1) =>
        match evVars P G rec ops ms cs f F0 fr h b F1 H1 hi with
        | true => some (.x .normal F1 u, H1)
        | false => none

noncomputable def evCode (P : Program) (G : Nat) (fl : FuncId → Bool) (rec : Rec) (cal : FuncId → List Value → Option Value) (c : Code) (fr : Frm) (u : Option FrameMode) (h : Heap) : Option (Out × Heap) :=
  match c with
  | .skip => some (.x .normal fr u, h)
  | .label _ => some (.x .normal fr u, h)
  | .exit id => some (.x (.exit id) fr u, h)
  | .goto l => some (.x (.goto l) fr u, h)
  | .ret => some (.x .ret fr u, h)
  | .seq a b =>
    match rec (.code a fr u) h with
    | some (.x e fr1 u1, h1) =>
      match e with
      | .normal => rec (.code b fr1 u1) h1
      | e => some (.x e fr1 u1, h1)
    | _ => none
  | .cond c a b =>
    match aevE G fr c with
    | some (.bool t) => match t with | true => rec (.code a fr u) h | false => rec (.code b fr u) h
    | _ => none
  | .block id c =>
    match rec (.code c fr u) h with
    | some (.x e fr1 u1, h1) => some (.x (blockExit id e) fr1 u1, h1)
    | _ => none
  | .loop c =>
    match rec (.code c fr u) h with
    | some (.x e fr1 u1, h1) =>
      match e with
      | .normal => rec (.code (.loop c) fr1 u1) h1
      | e => some (.x e fr1 u1, h1)
    | _ => none
  | .region _ ops d =>
    match d with
    | false => evOps P G rec ops ops.toList fr u h
    | true =>
      if P.follows .mixedOrders then
        match planOf P fl ops.toList with
        | some (ex, pu, q) =>
          match evDrawF P G rec cal ops.toList ex pu q ops.toList fr h with
          | some (fr1, h1, R, hs) => if readsAll P R h hs then some (.x .normal fr1 u, h1) else none
          | none => none
        | none =>
          match evF P G ops.toList fr u h with
          | some r => some r
          | none => evFl P G rec ops.toList fr u h
      else none
  | .scope c => rec (.scope c c fr u) h
  | _ => none

noncomputable def evLeave (P : Program) (rec : Rec) (fn : Func) (fr : Frm) : List Deferred → FrameMode → Heap → Option (Out × Heap)
  | [], u, h =>
    match u with
    | .returning => (ares P fn fr h).bind fun v => some (.ends (.returned v), h)
    | .panicking c => some (.ends (.panicked c), h)
    | _ => none
  | d :: ds, u, h =>
    match u with
    | .run => none
    | u =>
      match d.target with
      | .fn (.func g) cap =>
        if canEnter P g then
          match rec (.callD g (d.args.toList ++ cap.toList) u) h with
          | some (.endsD e u1, h1) =>
            match afterD e u1 with
            | some u2 => evLeave P rec fn fr ds u2 h1
            | none => none
          | _ => none
        else none
      | _ => none

/-- A call, its body gone through. -/
noncomputable def evBody (P : Program) (rec : Rec) (f : FuncId) (args : List Value) (h : Heap) : Option (Out × Heap) :=
  match P.funcs[f]? with
  | none => none
  | some fn =>
    match fn.body with
    | none => none
    | some c =>
      match rec (.code c (enterF fn args) none) h with
      | some (.x e fr1 none, h1) =>
        match modeOf e with
        | some u => evLeave P rec fn fr1 fr1.defers u h1
        | none => none
      | _ => none

abbrev Known := FuncId → List Value → Heap → Option (Value × Heap)
/-- A call from a bare heap. -/
noncomputable def evFlat (P : Program) (hB : Heap) (X : Known) (rec : Rec) (f : FuncId) (args : List Value) : Option Value :=
  if args.all flat then
    match X f args hB with
    | some (v, _) => if flat v then some v else none
    | none =>
      match evBody P rec f args hB with
      | some (.ends (.returned v), _) => if flat v then some v else none
      | _ => none
  else none

noncomputable def evTask (P : Program) (G : Nat) (hB : Heap) (fl : FuncId → Bool) (X : Known) (rec : Rec) (t : Task) (h : Heap) : Option (Out × Heap) :=
  match t with
  | .code c fr u => evCode P G fl rec (evFlat P hB X rec) c fr u h
  | .scope body cur fr u =>
    match rec (.code cur fr u) h with
    | some (.x e fr1 u1, h1) =>
      match e with
      | .goto l =>
        match findLabel body l with
        | some rest => rec (.scope body rest fr1 u1) h1
        | none => some (.x (.goto l) fr1 u1, h1)
      | e => some (.x e fr1 u1, h1)
    | _ => none
  | .call f args =>
    if fl f then
      match evFlat P hB X rec f args with
      | some v => some (.ends (.returned v), h)
      | none => none
    else
      match X f args h with
      | some (v, h1) => some (.ends (.returned v), h1)
      | none => evBody P rec f args h
  | .callD f args u =>
    match P.funcs[f]? with
    | none => none
    | some fn =>
      match fn.body with
      | none => none
      | some c =>
        match rec (.code c (enterF fn args) (some u)) h with
        | some (.x e fr1 (some u1), h1) =>
          match fr1.defers with
          | [] =>
            match e with
            | .normal => (ares P fn fr1 h1).bind fun v => some (.endsD (.returned v) u1, h1)
            | .ret => (ares P fn fr1 h1).bind fun v => some (.endsD (.returned v) u1, h1)
            | .panic ch => some (.endsD (.panicked ch) u1, h1)
            | _ => none
          | _ => none
        | _ => none
  | _ => none

noncomputable def ev (P : Program) (G : Nat) (hB : Heap) (fl : FuncId → Bool) (X : Known) : Nat → Rec
  | 0 => fun _ _ => none
  | n + 1 => fun t h => evTask P G hB fl X (ev P G hB fl X n) t h

section
variable {P : Program} {G : Nat} {hB : Heap} {Ext : FuncId → List Value → Heap → Value → Heap → Prop}
def Good (P : Program) (G : Nat) (Ext : FuncId → List Value → Heap → Value → Heap → Prop) (rec : Rec) : Prop := ∀ t h o h', rec t h = some (o, h') → Big P G Ext t h o h'
/-- What is told of a call from a bare heap may be leant on. -/
def FlatOk (P : Program) (G : Nat) (hB : Heap) (Ext : FuncId → List Value → Heap → Value → Heap → Prop) : Prop :=
  ∀ f args v h0, Big P G Ext (.call f args) hB (.ends (.returned v)) h0 → args.all flat = true → flat v = true → ∀ h, Ext f args h v h
theorem flatOk (B : Base P G) : FlatOk P G B.hB (GoodE P B) := fun _ _ _ _ b ha hv h => GoodE.ofFlat (flatC_of (by simpa using ha) hv b) h
/-- What is told of functions ahead is so. -/
def KnownOk (P : Program) (G : Nat) (Ext : FuncId → List Value → Heap → Value → Heap → Prop) (X : Known) : Prop := ∀ f args h v h', X f args h = some (v, h') → Big P G Ext (.call f args) h (.ends (.returned v)) h'
def CalOk (P : Program) (G : Nat) (Ext : FuncId → List Value → Heap → Value → Heap → Prop) (cal : FuncId → List Value → Option Value) : Prop := ∀ f args v, cal f args = some v → ∀ h, Big P G Ext (.call f args) h (.ends (.returned v)) h

theorem evOps_sound {rec : Rec} (hrec : Good P G Ext rec) {ops : Array Oper} : ∀ (l : List Oper) (k : Nat) (fr : Frm) (u : Option FrameMode) (h : Heap) (o : Out) (h' : Heap), (∀ j p, l[j]? = some p → ops[k + j]? = some p) →
    evOps P G rec ops l fr u h = some (o, h') → Big P G Ext (.ops ops (List.range' k l.length) fr u) h o h'
  | [], k, fr, u, h, o, h', _, e => by
    simp only [evOps_nil, Option.some.injEq, Prod.mk.injEq] at e
    obtain ⟨rfl, rfl⟩ := e
    exact .opsNil
  | p :: l, k, fr, u, h, o, h', hl, e => by
    have hk : ops[k]? = some p := by simpa using hl 0 p rfl
    have hl' : ∀ j q, l[j]? = some q → ops[(k + 1) + j]? = some q := fun j q hq => by have := hl (j + 1) q (by simpa using hq); rwa [show k + (j + 1) = k + 1 + j by omega] at this
    simp only [List.length_cons, List.range'_succ]
    rw [evOps_cons] at e
    unfold opGo opPut at e
    split at e
    · cases e
    · rename_i ht
      rw [putK_eq] at e
      obtain ⟨fr1, hp, e⟩ := Option.bind_eq_some_iff.1 e
      exact .opsUnwanted hk ht hp (evOps_sound hrec l (k + 1) _ _ _ _ _ hl' e)
    · rename_i ht
      rw [aopK_eq, aevE_eq] at e
      obtain ⟨⟨r, h1⟩, ha, e⟩ := Option.bind_eq_some_iff.1 e
      replace ha := aopE_aop ha
      simp only [] at e
      unfold opNext opPut at e
      split at e
      · rw [putK_eq] at e
        obtain ⟨fr1, hp, e⟩ := Option.bind_eq_some_iff.1 e
        exact .opsVal hk ht ha hp (evOps_sound hrec l (k + 1) _ _ _ _ _ hl' e)
      · rw [putK_eq] at e
        obtain ⟨fr1, hp, e⟩ := Option.bind_eq_some_iff.1 e
        exact .opsSkip hk ht ha hp (evOps_sound hrec l (k + 1) _ _ _ _ _ hl' e)
      · unfold opCall at e
        split at e
        · rename_i v h2 hc
          rw [putK_eq] at e
          obtain ⟨fr1, hp, e⟩ := Option.bind_eq_some_iff.1 e
          exact .opsCall hk ht ha (hrec _ _ _ _ hc) hp (evOps_sound hrec l (k + 1) _ _ _ _ _ hl' e)
        · rename_i c h2 hc
          cases e
          exact .opsCallPanic hk ht ha (hrec _ _ _ _ hc)
        · cases e
      · rw [putK_eq] at e
        obtain ⟨fr1, hp, e⟩ := Option.bind_eq_some_iff.1 e
        exact .opsDefer hk ht ha hp (evOps_sound hrec l (k + 1) _ _ _ _ _ hl' e)
      · cases e
        exact .opsPanic hk ht ha
      · unfold opRec at e
        split at e
        · rw [putK_eq] at e
          obtain ⟨fr1, hp, e⟩ := Option.bind_eq_some_iff.1 e
          exact .opsRecover hk ht ha hp (evOps_sound hrec l (k + 1) _ _ _ _ _ hl' e)
        · rw [putK_eq] at e
          obtain ⟨fr1, hp, e⟩ := Option.bind_eq_some_iff.1 e
          exact .opsRecoverNot hk ht ha hp (evOps_sound hrec l (k + 1) _ _ _ _ _ hl' e)
        · cases e

theorem quietV_sound {cal : FuncId → List Value → Option Value} (hcal : CalOk P G Ext cal) {ops : List Oper} {fr : Frm} {p : Oper} {v : Value} (hw : awanted ops.toArray fr p = some true) (e : quietV P (aev G fr) cal p = some v) (h : Heap) : St P G Ext ops p fr h v h := by
  obtain ⟨dst, op, type, pos, after, guard⟩ := p
  cases op <;> simp only [quietV] at e <;> try (cases e; done)
  case binOp op t x y z =>
    obtain ⟨a, ha, e⟩ := Option.bind_eq_some_iff.1 e
    obtain ⟨b, hb, e⟩ := Option.bind_eq_some_iff.1 e
    refine .val hw ?_
    simp only [aop, ha, hb, Option.bind_some, binA_some e]
  case convert s d x =>
    obtain ⟨a, ha, e⟩ := Option.bind_eq_some_iff.1 e
    refine .val hw ?_
    simp only [aop, ha, Option.bind_some, e]
  case call c =>
    obtain ⟨callee, args, ats⟩ := c
    cases callee with
    | invoke r s => cases e
    | value f =>
      obtain ⟨fv, hf, e⟩ := Option.bind_eq_some_iff.1 e
      obtain ⟨q, hq, e⟩ := Option.bind_eq_some_iff.1 e
      obtain ⟨g, hg, e⟩ := Option.bind_eq_some_iff.1 e
      obtain ⟨zs, hz, e⟩ := Option.bind_eq_some_iff.1 e
      split at e
      · rename_i hc
        refine .call hw ?_ (hcal _ _ _ e h)
        simp only [aop]
        rw [hf, Option.bind_some, hq, Option.bind_some, hg, Option.bind_some, hz, Option.bind_some, if_pos hc]
      · cases e
    | builtin b =>
      cases b <;> simp only [] at e <;> try (cases e; done)
      split at e
      · rename_i t ht
        obtain ⟨zs, hz, e⟩ := Option.bind_eq_some_iff.1 e
        split at e
        · rename_i x
          refine .val hw ?_
          simp only [aop, hz, Option.bind_some, ht, abuiltin, alenQ_alen e h]
        · cases e
      · cases e

theorem evDraw_sound {rec : Rec} (hrec : Good P G Ext rec) {cal : FuncId → List Value → Option Value} (hcal : CalOk P G Ext cal) {ops : List Oper} {ex pu : List Nat} {q : Nat} : ∀ (l : List Oper) (fr : Frm) (h : Heap) (fr' : Frm) (h' : Heap) (R : Reads) (hs : List Heap),
    evDraw P G rec cal ops ex pu q l fr h = some (fr', h', R, hs) → ∀ K : Heap → Prop, (∀ r ∈ R, ∀ H, K H → aload P H r.1 r.2.1 = some r.2.2) → (∀ H ∈ hs, K H) → (q ≤ l.length → K h) → Trd P G Ext ops ex pu q K l fr h fr' h'
  | [], fr, h, fr', h', R, hs, e, K, _, _, _ => by
    simp only [evDraw, Option.some.injEq, Prod.mk.injEq] at e
    obtain ⟨rfl, rfl, _⟩ := e
    exact .nil
  | p :: l, fr, h, fr', h', R, hs, e, K, hR, hhs, hK0 => by
    have hK : q ≤ l.length → K h := fun hl => hK0 (Nat.le_trans hl (by simp))
    rw [evDraw] at e
    split at e
    · cases e
    · rename_i ht
      rw [putK_eq] at e
      obtain ⟨fr1, hp, e⟩ := Option.bind_eq_some_iff.1 e
      exact .step (.unwanted ht) (fun _ => rfl) (fun _ _ => .unwanted ht) (fun _ _ _ _ _ => .unwanted ht) hK hp (evDraw_sound hrec hcal l _ _ _ _ _ _ e K hR hhs hK)
    · rename_i ht
      split at e
      · rename_i hpu
        rw [aevE_eq] at e
        split at e
        · cases e
        · rename_i v hv
          rw [forceS_eq, putK_eq] at e
          obtain ⟨fr1, hp, e⟩ := Option.bind_eq_some_iff.1 e
          have hs := quietV_sound hcal ht hv
          exact .step (hs h) (fun _ => rfl) (fun _ H => hs H) (fun _ _ _ H _ => hs H) hK hp (evDraw_sound hrec hcal l _ _ _ _ _ _ e K hR hhs hK)
      · rename_i hnpu
        have hnpu' : exempt pu p = false := by simpa using hnpu
        have hno : exempt pu p = true → False := fun q => by rw [hnpu'] at q; cases q
        split at e
        · rename_i hex
          split at e
          · rename_i t a hop
            rw [aevE_eq] at e
            split at e
            · cases e
            · rename_i r0 hq
              split at e
              · cases e
              · rename_i v hv
                rw [forceV_eq, putK_eq] at e
                obtain ⟨fr1, hp, e⟩ := Option.bind_eq_some_iff.1 e
                split at e
                · rename_i fr2 h2 R2 hs2 hr
                  simp only [Option.some.injEq, Prod.mk.injEq] at e
                  obtain ⟨rfl, rfl, rfl, rfl⟩ := e
                  have hst : ∀ H, aload P H t r0 = some v → St P G Ext ops p fr H v H := fun H hH => by
                    refine .val ht ?_
                    unfold aop
                    rw [hop]
                    simp only [hq, hH, Option.bind_some]
                  refine .step (hst h hv) (fun _ => rfl) (fun hpu => ?_) (fun _ _ _ H hH => hst H (hR (t, r0, v) (by simp) H hH)) hK hp (evDraw_sound hrec hcal l _ _ _ _ _ _ hr K (fun r hr => hR r (by simp [hr])) hhs hK)
                  rcases hpu with hpu | hpu
                  · unfold isPure at hpu; rw [hop] at hpu; cases hpu
                  · exact (hno hpu).elim
                · cases e
          · cases e
        · rename_i hnex
          have hnex' : exempt ex p = true → False := fun q => hnex q
          have hlx : ∀ b, isLoud p = b → loudX pu p = b := fun b hb => by unfold loudX; rw [hnpu', hb]; simp
          rw [aopK_eq, aevE_eq] at e
          obtain ⟨⟨r, h1⟩, ha, e⟩ := Option.bind_eq_some_iff.1 e
          have ha' := aopE_aop ha
          simp only [] at e
          split at e
          · split at e
            · rename_i hlo
              rw [putK_eq] at e
              obtain ⟨fr1, hp, e⟩ := Option.bind_eq_some_iff.1 e
              split at e
              · rename_i fr2 h2 R2 hs2 hr
                simp only [Option.some.injEq, Prod.mk.injEq] at e
                obtain ⟨rfl, rfl, rfl, rfl⟩ := e
                refine .step (.val ht ha') (fun q => by rw [hlx _ hlo] at q; cases q) (fun hpu => ?_) (fun _ q => (hnex' q).elim) (fun hl => hhs _ (by unfold addH; rw [if_pos hl]; simp)) hp (evDraw_sound hrec hcal l _ _ _ _ _ _ hr K hR (fun H hH => hhs H (by unfold addH; split <;> simp [hH])) (fun hl => hhs _ (by unfold addH; rw [if_pos hl]; simp)))
                rcases hpu with hpu | hpu
                · unfold isLoud at hlo; rw [hpu] at hlo; cases hlo
                · exact (hno hpu).elim
              · cases e
            · rename_i hlo
              split at e
              · rename_i hn
                rw [putK_eq] at e
                obtain ⟨fr1, hp, e⟩ := Option.bind_eq_some_iff.1 e
                have hh : h1 = h := aop_quiet_heap hlo ha' hn
                subst hh
                exact .step (.val ht ha') (fun _ => rfl) (fun hpu H => .val ht (aop_pure (hpu.resolve_right hno) ha')) (fun _ q => (hnex' q).elim) hK hp (evDraw_sound hrec hcal l _ _ _ _ _ _ e K hR hhs hK)
              · cases e
          · split at e
            · rename_i hlo
              rw [putK_eq] at e
              obtain ⟨fr1, hp, e⟩ := Option.bind_eq_some_iff.1 e
              split at e
              · rename_i fr2 h2 R2 hs2 hr
                simp only [Option.some.injEq, Prod.mk.injEq] at e
                obtain ⟨rfl, rfl, rfl, rfl⟩ := e
                refine .step (.skip ht ha') (fun q => by rw [hlx _ hlo] at q; cases q) (fun hpu => ?_) (fun _ q => (hnex' q).elim) (fun hl => hhs _ (by unfold addH; rw [if_pos hl]; simp)) hp (evDraw_sound hrec hcal l _ _ _ _ _ _ hr K hR (fun H hH => hhs H (by unfold addH; split <;> simp [hH])) (fun hl => hhs _ (by unfold addH; rw [if_pos hl]; simp)))
                rcases hpu with hpu | hpu
                · unfold isLoud at hlo; rw [hpu] at hlo; cases hlo
                · exact (hno hpu).elim
              · cases e
            · cases e
          · split at e
            · rename_i hlo
              split at e
              · rename_i v h2 hc
                rw [putK_eq] at e
                obtain ⟨fr1, hp, e⟩ := Option.bind_eq_some_iff.1 e
                split at e
                · rename_i fr2 h3 R2 hs2 hr
                  simp only [Option.some.injEq, Prod.mk.injEq] at e
                  obtain ⟨rfl, rfl, rfl, rfl⟩ := e
                  refine .step (.call ht ha' (hrec _ _ _ _ hc)) (fun q => by rw [hlx _ hlo] at q; cases q) (fun hpu => ?_) (fun _ q => (hnex' q).elim) (fun hl => hhs _ (by unfold addH; rw [if_pos hl]; simp)) hp (evDraw_sound hrec hcal l _ _ _ _ _ _ hr K hR (fun H hH => hhs H (by unfold addH; split <;> simp [hH])) (fun hl => hhs _ (by unfold addH; rw [if_pos hl]; simp)))
                  rcases hpu with hpu | hpu
                  · unfold isLoud at hlo; rw [hpu] at hlo; cases hlo
                  · exact (hno hpu).elim
                · cases e
              · cases e
            · cases e
          · cases e

theorem planOf_ok {fl : FuncId → Bool} {ops : List Oper} {ex pu : List Nat} {q : Nat} (e : planOf P fl ops = some (ex, pu, q)) : drawable ops ex pu q = true := by
  unfold planOf at e
  simp only at e
  split at e
  · rename_i h
    simp only [Option.some.injEq, Prod.mk.injEq] at e
    obtain ⟨rfl, rfl, rfl⟩ := e
    exact h
  · cases e

theorem readsOk_load {R : Reads} {H : Heap} (h : readsOk P R H = true) : ∀ r ∈ R, aload P H r.1 r.2.1 = some r.2.2 := by
  intro r hr
  have := List.all_eq_true.1 h r hr
  split at this
  · rename_i v hv
    rw [hv, veq_eq _ _ _ this]
  · cases this

/-! ### that what is reckoned so is so -/
section
variable {P : Program} {G : Nat} {Ext : FuncId → List Value → Heap → Value → Heap → Prop} {rec : Rec} {ops : List Oper}

theorem stepL_sound {β : Type} (hrec : Good P G Ext rec) {o : Oper} {F : Frm} {H : Heap} {k : Value → Heap → Option β} {r : β} (e : stepL P G rec ops o F H k = some r) : ∃ v H1, St P G Ext ops o F H v H1 ∧ k v H1 = some r := by
  unfold stepL at e
  split at e
  · cases e
  · rename_i hw; exact ⟨_, _, .unwanted hw, e⟩
  · rename_i hw
    rw [aopK_eq] at e
    obtain ⟨⟨n, H1⟩, ha, e⟩ := Option.bind_eq_some_iff.1 e
    have ha := aopE_aop ha
    rw [aevE_eq] at ha
    simp only [] at e
    cases n with
    | val v => exact ⟨_, _, .val hw ha, e⟩
    | skip => exact ⟨_, _, .skip hw ha, e⟩
    | call f args =>
      simp only [] at e
      split at e
      · rename_i v H2 hr
        rw [forceV_eq] at e
        exact ⟨_, _, .call hw ha (hrec _ _ _ _ hr), e⟩
      · cases e
    | _ => cases e
theorem stepQ_sound {o : Oper} {F : Frm} {H : Heap} {v : Value} (e : stepQ P G ops o F H = some v) : St P G Ext ops o F H v H := by
  unfold stepQ at e
  split at e
  · cases e
  · rename_i hw; cases e; exact .unwanted hw
  · rename_i hw
    split at e
    · cases e
    · rename_i hl
      split at e
      · rename_i u H1 ha
        split at e
        · rename_i hn
          cases e
          have ha := aopE_aop ha
          rw [aevE_eq] at ha
          have := aop_quiet_heap hl ha (Nat.eq_of_beq_eq_true hn)
          subst this
          exact .val hw ha
        · cases e
      · cases e

def fOf (R : List (Frm × Value)) (F2 : Frm) (i j : Nat) : Frm := ((R[j - i]?).map (·.1)).getD F2
def vOf (R : List (Frm × Value)) (i j : Nat) : Value := ((R[j - i]?).map (·.2)).getD undef
theorem fOf_cons {x : Frm × Value} {R : List (Frm × Value)} {F2 : Frm} {i j : Nat} (h : i < j) : fOf (x :: R) F2 i j = fOf R F2 (i + 1) j := by
  unfold fOf; rw [show j - i = (j - (i + 1)) + 1 by omega, List.getElem?_cons_succ]
theorem vOf_cons {x : Frm × Value} {R : List (Frm × Value)} {i j : Nat} (h : i < j) : vOf (x :: R) i j = vOf R (i + 1) j := by
  unfold vOf; rw [show j - i = (j - (i + 1)) + 1 by omega, List.getElem?_cons_succ]
theorem fOf_self (x : Frm × Value) (R : List (Frm × Value)) (F2 : Frm) (i : Nat) : fOf (x :: R) F2 i i = x.1 := by unfold fOf; simp
theorem vOf_self (x : Frm × Value) (R : List (Frm × Value)) (i : Nat) : vOf (x :: R) i i = x.2 := by unfold vOf; simp
theorem consP_some {x : Frm × Value} {hs : List Heap} {r : PassT} {R : List (Frm × Value)} {hs2 : List Heap} {F2 : Frm} (e : consP x hs r = some (R, hs2, F2)) : ∃ R1 hs1, r = some (R1, hs1, F2) ∧ R = x :: R1 ∧ hs2 = hs ++ hs1 := by
  cases r with
  | none => cases e
  | some r =>
    obtain ⟨R1, hs1, F1⟩ := r
    simp only [consP, Option.some.injEq, Prod.mk.injEq] at e
    obtain ⟨rfl, rfl, rfl⟩ := e
    exact ⟨_, _, rfl, rfl, rfl⟩

/-- What a pass from i on tells; c of cs are done; y: the place, if it is made. -/
structure PassOk (P : Program) (G : Nat) (Ext : FuncId → List Value → Heap → Value → Heap → Prop) (ops : List Oper) (cs : List Nat) (f p : Nat) (Fr : Option Frm) (i c : Nat) (y : Option Value) (F : Frm) (H : Heap) (R : List (Frm × Value)) (hs : List Heap) (F2 : Frm) : Prop where
  len : i + R.length = ops.length
  fr0 : fOf R F2 i i = F
  put : ∀ j o, i ≤ j → ops[j]? = some o → (fOf R F2 i j).put o.dst (vOf R i j) = some (fOf R F2 i (j + 1))
  hs0 : hs[0]? = some H
  hsl : hs.length + c + (if y.isSome then 1 else 0) = cs.length + 2
  loud : ∀ e j o, ((louds cs f p).drop (c + if y.isSome then 1 else 0))[e]? = some j → ops[j]? = some o → ∃ Ha Hb Fx, hs[e]? = some Ha ∧ hs[e + 1]? = some Hb ∧ (Fx = fOf R F2 i j ∨ j = f ∧ Fr = some Fx) ∧ St P G Ext ops o Fx Ha (vOf R i j) Hb
  made : ∀ v, y = some v → i ≤ f → f < ops.length → vOf R i f = v
section
variable {cs : List Nat} {f p : Nat} {Fr : Option Frm}
theorem louds_drop (hp : p ≤ cs.length) {d e j : Nat} (h : ((louds cs f p).drop d)[e]? = some j) : (d ≤ p ∧ e = p - d ∧ j = f) ∨ ∃ a, cs[a]? = some j ∧ d + e = if a < p then a else a + 1 := by
  rw [List.getElem?_drop] at h
  rcases louds_inv hp h with ⟨h1, h2⟩ | ⟨a, h1, h2⟩
  · exact .inl ⟨by omega, by omega, h2⟩
  · exact .inr ⟨a, h1, h2⟩
theorem evPass_ok (hrec : Good P G Ext rec) (hp : p ≤ cs.length) (ne : f ∉ cs) (hasc : ∀ (a b i j : Nat), cs[a]? = some i → cs[b]? = some j → a < b → i < j) (hlt : ∀ i ∈ f :: cs, i < ops.length) :
    ∀ (l : List Oper) (i c : Nat) (y : Option Value) (F : Frm) (H : Heap) (R : List (Frm × Value)) (hs : List Heap) (F2 : Frm), evPass P G rec ops cs f p Fr l i c y F H = some (R, hs, F2) → i + l.length = ops.length → (∀ j o, l[j]? = some o → ops[i + j]? = some o) →
      (∀ (a j : Nat), cs[a]? = some j → (j < i ↔ a < c)) → c ≤ cs.length → (f < i → y.isSome = true) → (y.isSome = true → p ≤ c) → (y = none → c ≤ p) → PassOk P G Ext ops cs f p Fr i c y F H R hs F2
  | [], i, c, y, F, H, R, hs, F2, e, hl, _, hc, hcl, hf, hy, hn => by
    simp only [evPass, Option.some.injEq, Prod.mk.injEq] at e
    obtain ⟨rfl, rfl, rfl⟩ := e
    simp only [List.length_nil, Nat.add_zero] at hl
    have hcc : c = cs.length := by
      rcases Nat.lt_or_ge c cs.length with q | q
      · have h1 := List.getElem?_eq_getElem q
        have h2 := hlt cs[c] (List.mem_cons_of_mem _ (List.getElem_mem q))
        have := (hc c _ h1).1 (by omega)
        omega
      · omega
    have hym := hf (by rw [hl]; exact hlt f (List.mem_cons_self ..))
    refine ⟨by simpa using hl, rfl, fun j o hj ho => ?_, rfl, ?_, fun e j o he ho => ?_, fun v _ _ h => ?_⟩
    · have := lt_length ho; omega
    · rw [if_pos hym]; simp; omega
    · rw [if_pos hym, hcc, List.drop_eq_nil_of_le (by rw [louds_len hp]; exact Nat.le_refl _)] at he
      simp at he
    · omega
  | o :: l, i, c, y, F, H, R, hs, F2, e, hl, hat, hc, hcl, hf, hy, hn => by
    have hinj : ∀ (a b i : Nat), cs[a]? = some i → cs[b]? = some i → a = b := by
      intro a b i ha hb
      rcases Nat.lt_trichotomy a b with q | q | q
      · have := hasc a b i i ha hb q; omega
      · exact q
      · have := hasc b a i i hb ha q; omega
    have hoi : ops[i]? = some o := by simpa using hat 0 o rfl
    have hil := lt_length hoi
    have hat' : ∀ j x, l[j]? = some x → ops[i + 1 + j]? = some x := fun j x hj => by
      have := hat (j + 1) x (by simpa using hj)
      rwa [show i + 1 + j = i + (j + 1) by omega]
    have hl' : i + 1 + l.length = ops.length := by simp only [List.length_cons] at hl; omega
    -- what is told of the tail is told of all
    have build : ∀ (c' : Nat) (y' : Option Value) (v : Value) (F1 : Frm) (H1 : Heap) (R1 : List (Frm × Value)) (pre hs1 : List Heap), F.put o.dst v = some F1 → PassOk P G Ext ops cs f p Fr (i + 1) c' y' F1 H1 R1 hs1 F2 →
        (pre ++ hs1)[0]? = some H → (pre ++ hs1).length + c + (if y.isSome then 1 else 0) = cs.length + 2 →
        (∀ e j x, ((louds cs f p).drop (c + if y.isSome then 1 else 0))[e]? = some j → ops[j]? = some x → ∃ Ha Hb Fx, (pre ++ hs1)[e]? = some Ha ∧ (pre ++ hs1)[e + 1]? = some Hb ∧ (Fx = fOf ((F, v) :: R1) F2 i j ∨ j = f ∧ Fr = some Fx) ∧ St P G Ext ops x Fx Ha (vOf ((F, v) :: R1) i j) Hb) →
        (∀ w, y = some w → i ≤ f → f < ops.length → vOf ((F, v) :: R1) i f = w) → PassOk P G Ext ops cs f p Fr i c y F H ((F, v) :: R1) (pre ++ hs1) F2 := by
      intro c' y' v F1 H1 R1 pre hs1 hput pk h0 h1 h2 h3
      refine ⟨by have := pk.len; simp only [List.length_cons]; omega, fOf_self _ _ _ _, fun j x hj hx => ?_, h0, h1, h2, h3⟩
      rcases Nat.lt_or_ge i j with q | q
      · rw [fOf_cons q, vOf_cons q, fOf_cons (by omega)]
        exact pk.put j x (by omega) hx
      · obtain rfl : j = i := by omega
        rw [hoi] at hx; cases hx
        rw [fOf_self, vOf_self, fOf_cons (by omega), pk.fr0]
        exact hput
    unfold evPass at e
    split at e
    · -- the place
      rename_i hif
      have hif := Nat.eq_of_beq_eq_true hif
      have hc' : ∀ (a j : Nat), cs[a]? = some j → (j < i + 1 ↔ a < c) := fun a j ha => by
        rw [← hc a j ha]
        have : j ≠ i := by rintro rfl; exact ne (hif ▸ List.mem_of_getElem? ha)
        omega
      cases y with
      | some w =>
        simp only [putK_eq] at e
        obtain ⟨F1, hput, e⟩ := Option.bind_eq_some_iff.1 e
        obtain ⟨R1, hs1, e1, rfl, rfl⟩ := consP_some e
        have pk := evPass_ok hrec hp ne hasc hlt l (i + 1) c (some w) F1 H R1 hs F2 e1 hl' hat' hc' hcl (fun _ => rfl) hy hn
        refine build c (some w) w F1 H R1 [] hs hput pk pk.hs0 pk.hsl (fun e j x he hx => ?_) (fun w' hw _ _ => by cases hw; rw [← hif]; exact vOf_self _ _ _)
        obtain ⟨Ha, Hb, Fx, q1, q2, q4, q3⟩ := pk.loud e j x he hx
        have hij : i < j := by
          rcases louds_drop hp he with ⟨a1, _, _⟩ | ⟨a, a1, a2⟩
          · have := hy rfl; simp only [Option.isSome_some, if_true] at a1; omega
          · have h1 : ¬ a < c := by
              have := hy rfl
              simp only [Option.isSome_some, if_true] at a2
              split at a2 <;> omega
            have := mt (hc' a j a1).1 h1
            omega
        exact ⟨Ha, Hb, Fx, q1, q2, by rw [fOf_cons hij]; exact q4, by rw [vOf_cons hij]; exact q3⟩
      | none =>
        simp only [] at e
        split at e
        · rename_i hcp
          have hcp := Nat.eq_of_beq_eq_true hcp
          obtain ⟨w, H1, hst, e⟩ := stepL_sound hrec e
          rw [putK_eq] at e
          obtain ⟨F1, hput, e⟩ := Option.bind_eq_some_iff.1 e
          obtain ⟨R1, hs1, e1, rfl, rfl⟩ := consP_some e
          have pk := evPass_ok hrec hp ne hasc hlt l (i + 1) c (some w) F1 H1 R1 hs1 F2 e1 hl' hat' hc' hcl (fun _ => rfl) (fun _ => by omega) (fun q => by cases q)
          refine build c (some w) w F1 H1 R1 [H] hs1 hput pk rfl (by have := pk.hsl; simp only [Option.isSome_some, if_true] at this; simp; omega) (fun e j x he hx => ?_) (fun w' hw => by cases hw)
          simp only [Option.isSome_none, Bool.false_eq_true, if_false, Nat.add_zero] at he
          cases e with
          | zero =>
            rw [List.getElem?_drop, Nat.add_zero, hcp, louds_at hp] at he
            have hjf := Option.some.inj he
            rw [← hjf, ← hif] at hx ⊢
            rw [hoi] at hx; cases hx
            exact ⟨H, H1, F, rfl, by simpa using pk.hs0, .inl (by rw [fOf_self]), by rw [vOf_self]; exact hst⟩
          | succ e =>
            obtain ⟨Ha, Hb, Fx, q1, q2, q4, q3⟩ := pk.loud e j x (by simp only [Option.isSome_some, if_true]; rw [List.getElem?_drop] at he ⊢; rw [← he]; congr 1; omega) hx
            have hij : i < j := by
              rcases louds_drop hp he with ⟨_, a1, _⟩ | ⟨a, a1, a2⟩
              · omega
              · have := mt (hc' a j a1).1 (show ¬ a < c by split at a2 <;> omega)
                omega
            exact ⟨Ha, Hb, Fx, by simpa using q1, by simpa using q2, by rw [fOf_cons hij]; exact q4, by rw [vOf_cons hij]; exact q3⟩
        · cases e
    · rename_i hif
      have hif : i ≠ f := fun q => by rw [q] at hif; simp at hif
      have hf' : ∀ z : Option Value, (y.isSome = true → z.isSome = true) → f < i + 1 → z.isSome = true := fun z hz q => hz (hf (by omega))
      split at e
      · -- one that turns the memory
        rename_i him
        have him := memB_iff.1 him
        obtain ⟨a0, ha0⟩ := List.getElem?_of_mem him
        have hac : a0 = c := by
          have h1 : ¬ a0 < c := fun q => by have := (hc a0 i ha0).2 q; omega
          rcases Nat.lt_or_ge c a0 with q | q
          · have hcl2 := (List.getElem?_eq_some_iff.1 ha0).1
            have hcc : cs[c]? = some cs[c] := List.getElem?_eq_getElem (by omega)
            have h2 := hasc c a0 _ _ hcc ha0 q
            have := (hc c _ hcc).1 h2
            omega
          · omega
        subst hac
        have hcl' : a0 + 1 ≤ cs.length := (List.getElem?_eq_some_iff.1 ha0).1
        have hc' : ∀ (a j : Nat), cs[a]? = some j → (j < i + 1 ↔ a < a0 + 1) := fun a j ha => by
          by_cases hja : j = i
          · subst hja
            have := hinj a a0 j ha ha0
            omega
          · have := hc a j ha
            have h2 : a ≠ a0 := by rintro rfl; rw [ha0] at ha; cases ha; exact hja rfl
            omega
        -- the rest of those that turn it stand behind
        have later : ∀ (d e j : Nat), ((louds cs f p).drop d)[e]? = some j → a0 + 1 ≤ d + e → (y.isSome = true ∨ p < d + e → a0 + 2 ≤ d + e) → (y = none → d + e = p → i < f) → i < j := by
          intro d e j he h1 h2 h3
          rcases louds_drop hp he with ⟨b1, b2, rfl⟩ | ⟨a, b1, b2⟩
          · cases hyy : y with
            | none => exact h3 hyy (by omega)
            | some w => have := hy (by rw [hyy]; rfl); have := h2 (.inl (by rw [hyy]; rfl)); omega
          · have : ¬ a < a0 + 1 := by
              intro q
              split at b2
              · omega
              · rename_i q2
                have := h2 (.inr (by omega))
                omega
            have := mt (hc' a j b1).1 this
            omega
        cases y with
        | some w =>
          simp only [] at e
          obtain ⟨v, H1, hst, e⟩ := stepL_sound hrec e
          rw [putK_eq] at e
          obtain ⟨F1, hput, e⟩ := Option.bind_eq_some_iff.1 e
          obtain ⟨R1, hs1, e1, rfl, rfl⟩ := consP_some e
          have pk := evPass_ok hrec hp ne hasc hlt l (i + 1) (a0 + 1) (some w) F1 H1 R1 hs1 F2 e1 hl' hat' hc' hcl' (fun _ => rfl) (fun _ => by have := hy rfl; omega) (fun q => by cases q)
          have hpc := hy rfl
          refine build (a0 + 1) (some w) v F1 H1 R1 [H] hs1 hput pk rfl (by have := pk.hsl; simp only [Option.isSome_some, if_true] at this ⊢; simp; omega) (fun e j x he hx => ?_) (fun w' hw h1 h2 => ?_)
          · simp only [Option.isSome_some, if_true] at he
            cases e with
            | zero =>
              have := louds_of (f := f) hp ha0
              rw [if_neg (by omega)] at this
              rw [List.getElem?_drop, Nat.add_zero, this] at he
              cases he
              rw [hoi] at hx; cases hx
              exact ⟨H, H1, F, rfl, by simpa using pk.hs0, .inl (by rw [fOf_self]), by rw [vOf_self]; exact hst⟩
            | succ e =>
              obtain ⟨Ha, Hb, Fx, q1, q2, q4, q3⟩ := pk.loud e j x (by simp only [Option.isSome_some, if_true]; rw [List.getElem?_drop] at he ⊢; rw [← he]; congr 1; omega) hx
              have hij := later _ _ j he (by omega) (fun _ => by omega) (fun q => by cases q)
              exact ⟨Ha, Hb, Fx, by simpa using q1, by simpa using q2, by rw [fOf_cons hij]; exact q4, by rw [vOf_cons hij]; exact q3⟩
          · cases hw
            have hlt1 : i < f := by omega
            rw [vOf_cons hlt1]
            exact pk.made w rfl (by omega) h2
        | none =>
          have hnp := hn rfl
          have hfi : i < f := by
            rcases Nat.lt_or_ge f i with q | q
            · have := hf q; cases this
            · omega
          simp only [] at e
          split at e
          · -- the place first
            rename_i hcp
            have hcp := Nat.eq_of_beq_eq_true hcp
            obtain ⟨x0, F0, hx0, hF0, e⟩ := bind2_some e
            obtain ⟨w, H0, hst0, e⟩ := stepL_sound hrec e
            obtain ⟨v, H1, hst, e⟩ := stepL_sound hrec e
            rw [putK_eq] at e
            obtain ⟨F1, hput, e⟩ := Option.bind_eq_some_iff.1 e
            obtain ⟨R1, hs1, e1, rfl, rfl⟩ := consP_some e
            have pk := evPass_ok hrec hp ne hasc hlt l (i + 1) (a0 + 1) (some w) F1 H1 R1 hs1 F2 e1 hl' hat' hc' hcl' (fun _ => rfl) (fun _ => by omega) (fun q => by cases q)
            refine build (a0 + 1) (some w) v F1 H1 R1 [H, H0] hs1 hput pk rfl (by have := pk.hsl; simp only [Option.isSome_some, if_true, Option.isSome_none, Bool.false_eq_true, if_false] at this ⊢; simp; omega) (fun e j x he hx => ?_) (fun w' hw => by cases hw)
            simp only [Option.isSome_none, Bool.false_eq_true, if_false, Nat.add_zero] at he
            match e with
            | 0 =>
              rw [List.getElem?_drop, Nat.add_zero, hcp, louds_at hp] at he
              have hjf := Option.some.inj he
              rw [← hjf] at hx ⊢
              rw [hx0] at hx; cases hx
              exact ⟨H, H0, F0, rfl, rfl, .inr ⟨rfl, hF0⟩, by rw [vOf_cons hfi, pk.made w rfl (by omega) (hlt f (List.mem_cons_self ..))]; exact hst0⟩
            | 1 =>
              have := louds_of (f := f) hp ha0
              rw [if_neg (by omega)] at this
              rw [List.getElem?_drop, this] at he
              cases he
              rw [hoi] at hx; cases hx
              exact ⟨H0, H1, F, rfl, by simpa using pk.hs0, .inl (by rw [fOf_self]), by rw [vOf_self]; exact hst⟩
            | e + 2 =>
              obtain ⟨Ha, Hb, Fx, q1, q2, q4, q3⟩ := pk.loud e j x (by simp only [Option.isSome_some, if_true]; rw [List.getElem?_drop] at he ⊢; rw [← he]; congr 1; omega) hx
              have hij := later _ _ j he (by omega) (fun _ => by omega) (fun _ q => by omega)
              exact ⟨Ha, Hb, Fx, by simpa using q1, by simpa using q2, by rw [fOf_cons hij]; exact q4, by rw [vOf_cons hij]; exact q3⟩
          · rename_i hcp
            have hcp : a0 ≠ p := fun q => by rw [q] at hcp; simp at hcp
            obtain ⟨v, H1, hst, e⟩ := stepL_sound hrec e
            rw [putK_eq] at e
            obtain ⟨F1, hput, e⟩ := Option.bind_eq_some_iff.1 e
            obtain ⟨R1, hs1, e1, rfl, rfl⟩ := consP_some e
            have pk := evPass_ok hrec hp ne hasc hlt l (i + 1) (a0 + 1) none F1 H1 R1 hs1 F2 e1 hl' hat' hc' hcl' (fun q => by omega) (fun q => by cases q) (fun _ => by omega)
            refine build (a0 + 1) none v F1 H1 R1 [H] hs1 hput pk rfl (by have := pk.hsl; simp only [Option.isSome_none, Bool.false_eq_true, if_false] at this ⊢; simp; omega) (fun e j x he hx => ?_) (fun w' hw => by cases hw)
            simp only [Option.isSome_none, Bool.false_eq_true, if_false, Nat.add_zero] at he
            cases e with
            | zero =>
              have := louds_of (f := f) hp ha0
              rw [if_pos (by omega)] at this
              rw [List.getElem?_drop, Nat.add_zero, this] at he
              cases he
              rw [hoi] at hx; cases hx
              exact ⟨H, H1, F, rfl, by simpa using pk.hs0, .inl (by rw [fOf_self]), by rw [vOf_self]; exact hst⟩
            | succ e =>
              obtain ⟨Ha, Hb, Fx, q1, q2, q4, q3⟩ := pk.loud e j x (by simp only [Option.isSome_none, Bool.false_eq_true, if_false]; rw [List.getElem?_drop] at he ⊢; rw [← he]; congr 1; omega) hx
              have hij := later _ _ j he (by omega) (fun q => by
                rcases q with q | q
                · cases q
                · omega) (fun _ _ => hfi)
              exact ⟨Ha, Hb, Fx, by simpa using q1, by simpa using q2, by rw [fOf_cons hij]; exact q4, by rw [vOf_cons hij]; exact q3⟩
      · -- what leaves it
        rename_i him
        have him : i ∉ cs := fun q => by rw [memB_iff.2 q] at him; cases him
        split at e
        · rename_i v hq
          rw [forceS_eq, putK_eq] at e
          obtain ⟨F1, hput, e⟩ := Option.bind_eq_some_iff.1 e
          obtain ⟨R1, hs1, e1, rfl, rfl⟩ := consP_some e
          have hc' : ∀ (a j : Nat), cs[a]? = some j → (j < i + 1 ↔ a < c) := fun a j ha => by
            rw [← hc a j ha]
            have : j ≠ i := by rintro rfl; exact him (List.mem_of_getElem? ha)
            omega
          have pk := evPass_ok hrec hp ne hasc hlt l (i + 1) c y F1 H R1 hs F2 e1 hl' hat' hc' hcl (fun q => hf (by omega)) hy hn
          refine build c y v F1 H R1 [] hs hput pk pk.hs0 pk.hsl (fun e j x he hx => ?_) (fun w hw h1 h2 => ?_)
          · obtain ⟨Ha, Hb, Fx, q1, q2, q4, q3⟩ := pk.loud e j x he hx
            have hij : i < j := by
              rcases louds_drop hp he with ⟨b1, _, rfl⟩ | ⟨a, b1, b2⟩
              · cases hyy : y with
                | none =>
                  rcases Nat.lt_or_ge j i with q | q
                  · have := hf q; rw [hyy] at this; cases this
                  · omega
                | some w => have := hy (by rw [hyy]; rfl); rw [hyy] at b1; simp only [Option.isSome_some, if_true] at b1; omega
              · have : ¬ a < c := by
                  intro q
                  cases hyy : y with
                  | none => have := hn hyy; rw [hyy] at b2; simp only [Option.isSome_none, Bool.false_eq_true, if_false] at b2; split at b2 <;> omega
                  | some w => have := hy (by rw [hyy]; rfl); rw [hyy] at b2; simp only [Option.isSome_some, if_true] at b2; split at b2 <;> omega
                have := mt (hc' a j b1).1 this
                omega
            exact ⟨Ha, Hb, Fx, q1, q2, by rw [fOf_cons hij]; exact q4, by rw [vOf_cons hij]; exact q3⟩
          · have hlt1 : i < f := by omega
            rw [vOf_cons hlt1]
            exact pk.made w hw (by omega) h2
        · cases e
end
end
section
variable {P : Program} {G : Nat} {Ext : FuncId → List Value → Heap → Value → Heap → Prop} {rec : Rec} {ops : List Oper} {cs : List Nat} {f p : Nat}

theorem calmH_at {ms ls : List Nat} {i : Nat} {o : Oper} {x : Frm × Value} : ∀ {d : Nat} {hs : List Heap}, calmH P G ops ms ls i o x d hs = true → ∀ (e : Nat) (H : Heap), hs[e]? = some H → calmAt P G ops ms ls i o x (d + e) H = true
  | _, [], _, e, H, h => by simp at h
  | d, H0 :: hs, h, e, H, he => by
    simp only [calmH, Bool.and_eq_true] at h
    cases e with
    | zero => cases he; exact h.1
    | succ e => rw [show d + (e + 1) = d + 1 + e by omega]; exact calmH_at h.2 e H (by simpa using he)
theorem calmB_at {ms ls : List Nat} {hs : List Heap} : ∀ {i : Nat} {l : List Oper} {R : List (Frm × Value)}, calmB P G ops ms cs ls f hs i l R = true → ∀ (j : Nat) (o : Oper) (x : Frm × Value), l[j]? = some o → R[j]? = some x → i + j ≠ f → i + j ∉ cs → calmH P G ops ms ls (i + j) o x 0 hs = true
  | i, o0 :: l, x0 :: R, h, j, o, x, ho, hx, h1, h2 => by
    simp only [calmB, Bool.and_eq_true, Bool.or_eq_true] at h
    cases j with
    | zero =>
      cases ho; cases hx
      rcases h.1 with (q | q) | q
      · exact absurd (Nat.eq_of_beq_eq_true q) h1
      · exact absurd (memB_iff.1 q) h2
      · exact q
    | succ j =>
      rw [show i + (j + 1) = i + 1 + j by omega] at h1 h2 ⊢
      exact calmB_at h.2 j o x (by simpa using ho) (by simpa using hx) h1 h2
  | _, [], [], _, j, o, x, ho, _, _, _ => by simp at ho
theorem chainB_ord {ms : List Nat} : ∀ {cs : List Nat}, chainB ms cs = true → ∀ (a b i j : Nat), cs[a]? = some i → cs[b]? = some j → a < b → i < j ∧ (ms.getD j 0).testBit i = true
  | [], _, a, _, _, _, h, _, _ => by simp at h
  | c :: l, h, a, b, i, j, ha, hb, hab => by
    simp only [chainB, Bool.and_eq_true, List.all_eq_true] at h
    obtain ⟨b, rfl⟩ : ∃ b', b = b' + 1 := ⟨b - 1, by omega⟩
    simp only [List.getElem?_cons_succ] at hb
    cases a with
    | zero =>
      cases ha
      have := h.1 j (List.mem_of_getElem? hb)
      exact ⟨nblt_iff.1 this.1, this.2⟩
    | succ a => exact chainB_ord h.2 a b i j (by simpa using ha) hb (by omega)
theorem mem_of_idx {l : List Nat} {d e j : Nat} (h : l[e]? = some j) (hd : d ≤ e) : j ∈ l.drop d := by
  refine List.mem_of_getElem? (i := e - d) ?_
  rw [List.getElem?_drop, show d + (e - d) = e by omega]
  exact h
/-- What may stand for a region's order, told. -/
theorem floatB_ok {hi : Nat} (h : floatB ops (masks [] ops) cs f hi = true) :
    (∀ i o, ops[i]? = some o → ∀ e ∈ o.after, Region.binds .any e = true → e.on < i) ∧ (∀ i j x y, i < j → ops[i]? = some x → ops[j]? = some y → clash ops x y = true → ahead ops i j = true) ∧
    (∀ (a b i j : Nat), cs[a]? = some i → cs[b]? = some j → a < b → i < j ∧ ahead ops i j = true) ∧ f ∉ cs ∧ (∀ i ∈ f :: cs, i < ops.length) ∧ hi ≤ cs.length ∧ ∀ (a c : Nat), cs[a]? = some c → hi ≤ a → ahead ops f c = true := by
  unfold floatB at h
  simp only [Bool.and_eq_true] at h
  obtain ⟨⟨⟨⟨⟨⟨h1, h2⟩, h3⟩, h4⟩, h5⟩, h6⟩, h7⟩ := h
  simp only [List.all_eq_true] at h1 h2 h5 h7
  refine ⟨fun i o ho e he hb => ?_, fun i j x y hij hx hy hc => ?_, fun a b i j ha hb hab => chainB_ord h3 a b i j ha hb hab, fun q => ?_, fun i hi => nblt_iff.1 (h5 i hi), Nat.le_of_ble_eq_true h6, fun a c hc ha => h7 c (mem_of_idx hc ha)⟩
  · have := h1 _ (by simpa using mem_pairs ops 0 i o ho)
    have h2 := (Array.all_eq_true_iff_forall_mem.1 this) e he
    simp only [hb, Bool.not_true, Bool.false_or] at h2
    exact of_decide_eq_true h2
  · have := h2 _ (by simpa using mem_pairs ops 0 i x hx) _ (by simpa using mem_pairs ops 0 j y hy)
    simp only [decide_eq_true hij, Bool.not_true, Bool.false_or, hc] at this
    exact this
  · rw [memB_iff.2 q] at h4; cases h4
theorem looksB_at {o : Oper} {F F2 : Frm} (h : looksB ops o F F2 = true) : ∀ s ∈ o.looksAt ops.toArray, look s F.slots = look s F2.slots := by
  intro s hs
  have := List.all_eq_true.1 h s hs
  split at this
  · rename_i u v hu hv; rw [hu, hv, veq_eq _ _ _ this]
  · rename_i hu hv; rw [hu, hv]
  · cases this
theorem evVar_ok (hrec : Good P G Ext rec) {hi : Nat} (hfl : floatB ops (masks [] ops) cs f hi = true) (hp : p ≤ hi) {Fr : Option Frm} {fr F0 F2 : Frm} {h H2 : Heap} {a : Nat} (e : evVar P G rec ops (masks [] ops) cs f p Fr fr h = some (a, F0, F2, H2)) :
    ∃ V FF HH, Var P G Ext ops cs f p V FF HH ∧ FF 0 = fr ∧ HH 0 = h ∧ FF ops.length = F2 ∧ HH (cs.length + 1) = H2 := by
  obtain ⟨k1, k2, k3, k4, k5, k6, _⟩ := floatB_ok hfl
  unfold evVar at e
  split at e
  · rename_i R hs F2' hpass
    split at e
    · rename_i hcalm
      split at e
      · rename_i F0' v' H2' hRf hhs
        split at e
        case h_2 => cases e
        rename_i hlooks
        split at e
        case h_2 => cases e
        simp only [Option.some.injEq, Prod.mk.injEq] at e
        obtain ⟨_, rfl, rfl, rfl⟩ := e
        have pk := evPass_ok hrec (show p ≤ cs.length by omega) k4 (fun a b i j ha hb hab => (k3 a b i j ha hb hab).1) k5 ops 0 0 none fr h R hs F2' hpass (by simp) (fun j o hj => by simpa using hj) (fun a j _ => by omega) (Nat.zero_le _) (fun q => by omega) (fun q => by cases q) (fun _ => Nat.zero_le _)
        have hRl : R.length = ops.length := by have := pk.len; omega
        have hhl : hs.length = cs.length + 2 := by have := pk.hsl; simpa using this
        have hlast : fOf R F2' 0 ops.length = F2' := by
          unfold fOf
          rw [List.getElem?_eq_none (by omega)]
          rfl
        refine ⟨vOf R 0, fOf R F2' 0, fun d => (hs[d]?).getD h, ⟨⟨k1, k2, fun i o ho => pk.put i o (Nat.zero_le _) ho⟩, by omega, k5, k4, fun a b i j ha hb hab => (k3 a b i j ha hb hab).2, ?_, ?_, ?_⟩, pk.fr0, ?_, hlast, ?_⟩
        · intro a b i ha hb
          rcases Nat.lt_trichotomy a b with q | q | q
          · have := (k3 a b i i ha hb q).1; omega
          · exact q
          · have := (k3 b a i i hb ha q).1; omega
        · intro d i o hd ho
          obtain ⟨Ha, Hb, Fx, q1, q2, q4, q3⟩ := pk.loud d i o (by simpa using hd) ho
          simp only [q1, q2, Option.getD_some]
          rcases q4 with rfl | ⟨rfl, q5⟩
          · exact q3
          · refine q3.congr fun s hs => ?_
            rw [q5] at hlooks
            simp only [looksO, ho] at hlooks
            have e1 : fOf R F2' 0 i = F0' := by unfold fOf; rw [Nat.sub_zero, hRf]; rfl
            rw [e1]
            exact looksB_at hlooks s hs
        · intro i o d ho hif hic hd h1 h2
          have hil := lt_length ho
          obtain ⟨x, hx⟩ : ∃ x, R[i]? = some x := ⟨_, List.getElem?_eq_getElem (by omega)⟩
          obtain ⟨H, hH⟩ : ∃ H, hs[d]? = some H := ⟨_, List.getElem?_eq_getElem (by omega)⟩
          have hc := calmH_at (calmB_at hcalm i o x ho hx (by simpa using hif) (by simpa using hic)) d H hH
          simp only [Nat.zero_add, calmAt, Bool.or_eq_true, List.any_eq_true] at hc
          rcases hc with (⟨j, hj, hb⟩ | ⟨j, hj, hb⟩) | hc
          · obtain ⟨e, he⟩ := List.getElem?_of_mem hj
            rw [List.getElem?_drop] at he
            have := h1 j _ he hb
            omega
          · obtain ⟨e, he⟩ := List.getElem?_of_mem hj
            rw [List.getElem?_take] at he
            split at he
            · rename_i hed
              have := h2 j e he hb
              omega
            · cases he
          · split at hc
            · rename_i v hv
              have hvx := veq_eq _ _ _ hc
              have e1 : fOf R F2' 0 i = x.1 := by unfold fOf; rw [Nat.sub_zero, hx]; rfl
              have e2 : vOf R 0 i = x.2 := by unfold vOf; rw [Nat.sub_zero, hx]; rfl
              simp only [hH, Option.getD_some]
              rw [e1, e2, ← hvx]
              exact stepQ_sound hv
            · cases hc
        · simp [pk.hs0]
        · simp [hhs]
      · cases e
    · cases e
  · cases e
theorem objsB_at {a b : Nat} {H H1 : Heap} : ∀ {n : Nat}, objsB a b H H1 n = true → ∀ i o, i < n → H1.get i = some o → ∃ q, H.get (tor a b i) = some q ∧ o = mvO (rot a b) q
  | n + 1, h, i, o, hi, hg => by
    simp only [objsB, Bool.and_eq_true] at h
    rcases Nat.lt_or_ge i n with q | q
    · exact objsB_at h.2 i o q hg
    · obtain rfl : i = n := by omega
      have h1 := h.1
      rw [hg] at h1
      simp only [] at h1
      split at h1
      · rename_i q hq
        exact ⟨q, hq, (eqO'_eq h1).symm⟩
      · cases h1
theorem slotsB_at {a b : Nat} {s : List (Nat × Value)} : ∀ {l : List (Nat × Value)}, slotsB a b s l = true → ∀ t v, look t l = some v → ∃ u, look t s = some u ∧ mv (rot a b) u = v
  | [], _, t, v, h => by cases h
  | (t0, v0) :: l, h, t, v, hl => by
    simp only [slotsB, Bool.and_eq_true] at h
    simp only [look] at hl
    split at hl
    · rename_i e
      cases hl
      subst e
      have h1 := h.1
      split at h1
      · rename_i u hu; exact ⟨u, hu, veq_eq _ _ _ h1⟩
      · cases h1
    · exact slotsB_at h.2 t v hl
theorem turnsB_ok {n a b : Nat} {F F1 : Frm} {H H1 : Heap} (h : turnsB n a b F H F1 H1 = true) : Turns P G n F H F1 H1 := by
  unfold turnsB at h
  simp only [Bool.and_eq_true] at h
  obtain ⟨⟨⟨⟨⟨⟨⟨⟨h1, h2⟩, h3⟩, h4⟩, h5⟩, h6⟩, h7⟩, h8⟩, h9⟩ := h
  have h1 := Nat.le_of_ble_eq_true h1
  have h2 := Nat.le_of_ble_eq_true h2
  have h3 := nblt_iff.1 h3
  have h4 := Nat.eq_of_beq_eq_true h4
  have h5 := Nat.eq_of_beq_eq_true h5
  intro S m w act hS hr hf hGn hnH
  have hlt : ∀ i, i < H.next → rot a b i < H.next := by
    intro i hi
    unfold rot
    repeat' split
    all_goals omega
  obtain ⟨r1, r2⟩ := hr.turn (H1 := H1) (n := n) (by omega) (fun i hi => by unfold tor; rw [if_pos (by omega)]) (tor_rot h2) (rot_tor h2) hlt h4 (fun i o ho => objsB_at h9 i o (by have := Heap.lt_of_get ho; omega) ho)
  refine ⟨_, r2, by omega, r1, ?_⟩
  have hd : F.defers = [] := by simpa using h6
  have hd1 : F1.defers = [] := by simpa using h7
  refine ⟨by rw [hf.size, h5], fun t v hl => ?_, by rw [hf.defers, hd, hd1]; rfl, by rw [hd1]; simp⟩
  obtain ⟨u, hu, rfl⟩ := slotsB_at h8 t v hl
  obtain ⟨q1, q2⟩ := hf.slot t u hu
  rw [h4]
  exact ⟨sc_mv hlt u q1, by rw [q2, ren_turn (tor_rot h2) q1]⟩
theorem Turns.weaken {n : Nat} {F F' F1 : Frm} {H H1 : Heap} (h : Turns P G n F H F1 H1) (hle : F.le F') : Turns P G n F' H F1 H1 := fun S m w a hS hr hf => h S m w a hS hr (hf.weaken hle)
theorem Turns.refl {n : Nat} {F : Frm} {H : Heap} : Turns P G n F H F H := fun _ m _ _ _ hr hf _ hn => ⟨m, Ren.agree_refl _ _, hn, hr, hf⟩
theorem evVars_at {ms : List Nat} {F0 fr F1 : Frm} {h H1 : Heap} {b : Nat} : ∀ {n : Nat}, evVars P G rec ops ms cs f F0 fr h b F1 H1 n = true → ∀ p, p < n → ∃ a F0' F H, evVar P G rec ops ms cs f p (some F0) fr h = some (a, F0', F, H) ∧ turnsB h.next a b F H F1 H1 = true
  | n + 1, e, p, hp => by
    simp only [evVars, Bool.and_eq_true] at e
    rcases Nat.lt_or_ge p n with q | q
    · exact evVars_at e.2 p q
    · obtain rfl : p = n := by omega
      have h1 := e.1
      split at h1
      · rename_i a F0' F H hv; exact ⟨a, F0', F, H, hv, h1⟩
      · cases h1
theorem evFl_sound (hrec : Good P G Ext rec) (hm : P.follows .mixedOrders = true) {id : Nat} {fr : Frm} {u : Option FrameMode} {h h' : Heap} {o : Out} (e : evFl P G rec ops fr u h = some (o, h')) : Big P G Ext (.code (.region id ops.toArray true) fr u) h o h' := by
  unfold evFl at e
  simp only [] at e
  split at e
  · cases e
  · rename_i f hf
    generalize hcs : (loudIx ops 0).filter (fun i => !Nat.beq i f) = cs at e
    generalize hiOf cs f = hi at e
    split at e
    · cases e
    · rename_i hfl
      split at e
      · cases e
      · rename_i b F0 F1 H1 hv
        split at e
        · rename_i hvs
          cases e
          obtain ⟨_, _, _, _, _, k6, k7⟩ := floatB_ok hfl
          have vars : ∀ p, p ≤ hi → ∃ V FF HH, Var P G Ext ops cs f p V FF HH ∧ FF 0 = fr ∧ HH 0 = h ∧ Turns P G h.next (FF ops.length) (HH (cs.length + 1)) F1 h' := by
            intro p hp
            rcases Nat.lt_or_ge p hi with q | q
            · obtain ⟨a, F0', F, H, q1, q2⟩ := evVars_at hvs p q
              obtain ⟨V, FF, HH, v, r1, r2, r3, r4⟩ := evVar_ok hrec hfl hp q1
              exact ⟨V, FF, HH, v, r1, r2, by rw [r3, r4]; exact turnsB_ok q2⟩
            · obtain rfl : p = hi := by omega
              obtain ⟨V, FF, HH, v, r1, r2, r3, r4⟩ := evVar_ok hrec hfl hp hv
              exact ⟨V, FF, HH, v, r1, r2, by rw [r3, r4]; exact Turns.refl⟩
          have each : ∀ t, ∃ Ft Ht, Big P G Ext (.ops ops.toArray (Region.linearise .any ops.toArray t) fr u) h (.x .normal Ft u) Ht ∧ Turns P G h.next Ft Ht F1 h' := by
            intro t
            obtain ⟨_, _, _, v0, _⟩ := vars hi (Nat.le_refl _)
            have hmost := v0.most k6 k7 t
            obtain ⟨V, FF, HH, v, r1, r2, r3⟩ := vars _ hmost
            obtain ⟨F', b1, hle⟩ := v.run u t rfl
            rw [r1, r2] at b1
            exact ⟨F', _, b1, r3.weaken hle⟩
          exact .turned (frs := fun t => (each t).choose) (hs := fun t => (each t).choose_spec.choose) hm (fun t => (each t).choose_spec.choose_spec.1) (fun t => (each t).choose_spec.choose_spec.2)
        · cases e
end

theorem evCode_sound {fl : FuncId → Bool} {rec : Rec} (hrec : Good P G Ext rec) {cal : FuncId → List Value → Option Value} (hcal : CalOk P G Ext cal) {c : Code} {fr : Frm} {u : Option FrameMode} {h : Heap} {o : Out} {h' : Heap} (e : evCode P G fl rec cal c fr u h = some (o, h')) : Big P G Ext (.code c fr u) h o h' := by
  unfold evCode at e
  split at e
  · cases e; exact .skip
  · cases e; exact .label
  · cases e; exact .exit
  · cases e; exact .goto
  · cases e; exact .ret
  · rename_i a b
    split at e
    · rename_i x fr1 u1 h1 ha
      split at e
      · exact .seq (hrec _ _ _ _ ha) (hrec _ _ _ _ e)
      · rename_i hne
        cases e
        exact .seqStop (hrec _ _ _ _ ha) hne
    · cases e
  · rename_i c a b
    split at e
    · rename_i t hc
      rw [aevE_eq] at hc
      refine .cond hc ?_
      cases t
      · exact hrec _ _ _ _ e
      · exact hrec _ _ _ _ e
    · cases e
  · rename_i id c
    split at e
    · rename_i x fr1 u1 h1 ha
      cases e
      exact .block (hrec _ _ _ _ ha)
    · cases e
  · rename_i c
    split at e
    · rename_i x fr1 u1 h1 ha
      split at e
      · exact .loop (hrec _ _ _ _ ha) (hrec _ _ _ _ e)
      · rename_i hne
        cases e
        exact .loopStop (hrec _ _ _ _ ha) hne
    · cases e
  · rename_i id ops d
    split at e
    · refine .region ?_
      have := evOps_sound hrec ops.toList 0 fr u h o h' (fun j p hj => by simpa using hj) e
      simpa [List.range_eq_range'] using this
    · split at e
      · rename_i hm
        split at e
        · rename_i ex pu q hpl
          split at e
          · rename_i fr1 h1 R hs hr
            split at e
            · rename_i hok
              cases e
              have hK : ∃ K : Heap → Prop, (∀ r ∈ R, ∀ H, K H → aload P H r.1 r.2.1 = some r.2.2) ∧ (∀ H ∈ hs, K H) ∧ K h := by
                cases R with
                | nil => exact ⟨fun _ => True, by simp, by simp, trivial⟩
                | cons r R =>
                  simp only [readsAll, Bool.and_eq_true] at hok
                  exact ⟨fun H => readsOk P (r :: R) H = true, fun q hq H hH => readsOk_load hH q hq, by simpa using hok.2, hok.1⟩
              obtain ⟨K, k1, k2, k3⟩ := hK
              rw [evDrawF_eq] at hr
              have ht := evDraw_sound hrec hcal _ _ _ _ _ _ _ hr K k1 k2 (fun _ => k3)
              obtain ⟨e2, fr2, u2, h2, b, q9⟩ := Wp.drawT (P := P) (G := G) (Ext := Ext) (id := id) (u := u) (Q := fun x fr9 u9 h9 => x = Exit.normal ∧ fr9 = fr1 ∧ u9 = u ∧ h9 = h') ex pu q K hm (planOf_ok hpl) k3 ht ⟨rfl, rfl, rfl, rfl⟩
              obtain ⟨rfl, rfl, rfl, rfl⟩ := q9
              exact b
            · cases e
          · cases e
        · split at e
          · rename_i r hr0
            obtain rfl := Option.some.inj e
            unfold evF at hr0
            split at hr0
            · rename_i fr1 h1 hr
              split at hr
              · rename_i hd
                cases hr0
                obtain ⟨e2, fr2, u2, h2, b, q9⟩ := Wp.runF (P := P) (G := G) (Ext := Ext) (id := id) (u := u) (Q := fun x fr9 u9 h9 => x = Exit.normal ∧ fr9 = fr1 ∧ u9 = u ∧ h9 = h') (exF ops.toList) hm hd hr ⟨rfl, rfl, rfl, rfl⟩
                obtain ⟨rfl, rfl, rfl, rfl⟩ := q9
                exact b
              · cases hr
            · cases hr0
          · exact evFl_sound hrec hm e
      · cases e
  · exact .scope (hrec _ _ _ _ e)
  · cases e

theorem evLeave_sound {rec : Rec} (hrec : Good P G Ext rec) {fn : Func} {fr : Frm} : ∀ (ds : List Deferred) (u : FrameMode) (h : Heap) (o : Out) (h' : Heap), evLeave P rec fn fr ds u h = some (o, h') → Big P G Ext (.leave fn fr ds u) h o h'
  | [], u, h, o, h', e => by
    unfold evLeave at e
    split at e
    · obtain ⟨v, hv, e⟩ := Option.bind_eq_some_iff.1 e
      cases e
      exact .leaveRet hv
    · cases e; exact .leavePanic
    · cases e
  | d :: ds, u, h, o, h', e => by
    unfold evLeave at e
    split at e
    · cases e
    · rename_i hne
      split at e
      · rename_i g cap ht
        split at e
        · rename_i hc
          split at e
          · rename_i x u1 h1 hd
            split at e
            · rename_i u2 ha
              exact .leaveCons hne ht hc (hrec _ _ _ _ hd) ha (evLeave_sound hrec ds _ _ _ _ e)
            · cases e
          · cases e
        · cases e
      · cases e

theorem evBody_sound {rec : Rec} (hrec : Good P G Ext rec) {f : FuncId} {args : List Value} {h : Heap} {o : Out} {h' : Heap} (e : evBody P rec f args h = some (o, h')) : Big P G Ext (.call f args) h o h' := by
  unfold evBody at e
  split at e
  · cases e
  · rename_i fn hf
    split at e
    · cases e
    · rename_i c hb
      split at e
      · rename_i x fr1 h1 hc
        split at e
        · rename_i u hm
          exact .call hf hb (hrec _ _ _ _ hc) hm (evLeave_sound hrec _ _ _ _ _ e)
        · cases e
      · cases e

theorem evFlat_sound {X : Known} (hX : KnownOk P G Ext X) (hF : FlatOk P G hB Ext) {rec : Rec} (hrec : Good P G Ext rec) : CalOk P G Ext (evFlat P hB X rec) := by
  intro f args v e h
  unfold evFlat at e
  split at e
  · rename_i ha
    split at e
    · rename_i v1 h0 hx
      split at e
      · rename_i hv; cases e; exact .ext (hF _ _ _ _ (hX _ _ _ _ _ hx) ha hv h)
      · cases e
    · split at e
      · rename_i v1 h0 hx
        split at e
        · rename_i hv; cases e; exact .ext (hF _ _ _ _ (evBody_sound hrec hx) ha hv h)
        · cases e
      · cases e
  · cases e

theorem evTask_sound {fl : FuncId → Bool} {X : Known} (hX : KnownOk P G Ext X) (hF : FlatOk P G hB Ext) {rec : Rec} (hrec : Good P G Ext rec) : Good P G Ext (evTask P G hB fl X rec) := by
  intro t h o h' e
  unfold evTask at e
  split at e
  · exact evCode_sound hrec (evFlat_sound hX hF hrec) e
  · rename_i body cur fr u
    split at e
    · rename_i x fr1 u1 h1 hc
      split at e
      · rename_i l
        split at e
        · rename_i rest hl
          exact .scopeJump (hrec _ _ _ _ hc) hl (hrec _ _ _ _ e)
        · rename_i hl
          cases e
          exact .scopeEnd (hrec _ _ _ _ hc) (fun l' hl' => by cases hl'; exact hl)
      · rename_i hne
        cases e
        exact .scopeEnd (hrec _ _ _ _ hc) (fun l' hl' => (hne _ hl').elim)
    · cases e
  · rename_i f args
    split at e
    · split at e
      · rename_i v hv
        cases e
        exact evFlat_sound hX hF hrec _ _ _ hv h
      · cases e
    · split at e
      · rename_i v h1 hv
        cases e
        exact hX _ _ _ _ _ hv
      · exact evBody_sound hrec e
  · rename_i f args u
    split at e
    · cases e
    · rename_i fn hf
      split at e
      · cases e
      · rename_i c hb
        split at e
        · rename_i x fr1 u1 h1 hc
          split at e
          · rename_i hd
            split at e
            · obtain ⟨v, hv, e⟩ := Option.bind_eq_some_iff.1 e
              cases e
              exact .callD hf hb (hrec _ _ _ _ hc) rfl hd hv
            · obtain ⟨v, hv, e⟩ := Option.bind_eq_some_iff.1 e
              cases e
              exact .callD hf hb (hrec _ _ _ _ hc) rfl hd hv
            · cases e
              exact .callDPanic hf hb (hrec _ _ _ _ hc) hd
            · cases e
          · cases e
        · cases e
  · cases e

theorem ev_sound {fl : FuncId → Bool} {X : Known} (hX : KnownOk P G Ext X) (hF : FlatOk P G hB Ext) : ∀ n, Good P G Ext (ev P G hB fl X n)
  | 0 => fun _ _ _ _ e => by cases e
  | n + 1 => evTask_sound hX hF (ev_sound hX hF n)
end
end Go.Mini
