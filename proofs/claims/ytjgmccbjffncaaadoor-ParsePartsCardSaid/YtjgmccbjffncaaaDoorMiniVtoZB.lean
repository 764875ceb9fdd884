import Derived.Test.YtjgmccbjffncaaaDoorMiniStoYN
import Derived.Test.YtjgmccbjffncaaaDoorMiniYOtoYS
namespace Go.Mini
section
open Go.ChangeShapes Go.WideShapes Go.RowKit
section
variable {H : Type} {enc : TypeId × Value → H} {P : Program} {W : World} {G : Nat} {m : Ren} {h : Heap}
end
end
section
structure Base (P : Program) (G : Nat) where
 hB : Heap
 mB : Ren
 W : World → Prop
 rel : ∀ w, W w → HRel P ⟨G, w.heap.size, w⟩ mB hB w
 stay : ∀ w w', W w → w.heap.size ≤ w'.heap.size → (∀ b, b < w.heap.size → w'.heap[b]? = w.heap[b]?) → W w'
def base0 (P : Program) (G : Nat) : Base P G where
 hB := heap0 G
 mB := ren0
 W _ := True
 rel w _ := heap0_rel P G w
 stay _ _ _ _ _ := trivial
def StartOk {P : Program} {G : Nat} (B : Base P G) (S : Start) : Prop := S.G = G ∧ B.W S.w0 ∧ S.base = S.w0.heap.size
def Quiet (w w' : World) : Prop := w.heap.size ≤ w'.heap.size ∧ (∀ b, b < w.heap.size → w'.heap[b]? = w.heap[b]?) ∧ Mini.io w' = Mini.io w
theorem Quiet.refl (w : World) : Quiet w w := ⟨Nat.le_refl _, fun _ _ => rfl, rfl⟩
def FlatC (P : Program) {G : Nat} (B : Base P G) (f : FuncId) (args : List Value) (v : Value) : Prop :=
 (∀ x ∈ args, flat x = true) ∧ flat v = true ∧ ∀ w, B.W w → Calls P f args.toArray w fun e w' => e = .returned v ∧ Quiet w w'
def GoodE (P : Program) {G : Nat} (B : Base P G) : FuncId → List Value → Heap → Value → Heap → Prop := fun f args h v h' =>
 ∀ S, StartOk B S → ∀ m w, HRel P S m h w → (∀ x ∈ args, sc h.next x) → Calls P f (args.map (ren m)).toArray w (Ends P S m h h' (.returned v))
theorem goodE_ok {P : Program} {G : Nat} (B : Base P G) : ∀ S, StartOk B S → ExtOk P S (GoodE P B) := fun S hS _ _ _ _ _ he m w hr hs => he S hS m w hr hs
theorem HRel.later {P : Program} {S : Start} {m : Ren} {h : Heap} {w w' : World} (hr : HRel P S m h w) (hq : Quiet w w') : HRel P S m h w' where
 gle := hr.gle
 glob := hr.glob
 obj i o hg := (hr.obj i o hg).keep (Ren.agree_refl _ _) (Heap.lg hg) (Nat.le_refl _) fun x hx => by rw [hq.2.1 _ (lt_of_some hx)]; exact hx
 apart := hr.apart
 frame b hlt := by rw [hq.2.1 b (by have := hr.size; omega)]; exact hr.frame b hlt
 size := by have := hr.size; have := hq.1; omega
 io := hq.2.2.trans hr.io
theorem HRel.W {P : Program} {G : Nat} {B : Base P G} {S : Start} (hS : StartOk B S) {m : Ren} {h : Heap} {w : World} (hr : HRel P S m h w) : B.W w :=
 B.stay S.w0 w hS.2.1 (by have := hr.size; have := hS.2.2; omega) fun b hlt => hr.frame b (by have := hS.2.2; omega)
theorem map_flat {m : Ren} {args : List Value} (ha : ∀ x ∈ args, flat x = true) : args.map (ren m) = args := by
 have : args.map (ren m) = args.map id := List.map_congr_left fun x hx => ren_flat _ x (ha x hx)
 simpa using this
theorem GoodE.ofFlat {P : Program} {G : Nat} {B : Base P G} {f : FuncId} {args : List Value} {v : Value} (hc : FlatC P B f args v) (h : Heap) : GoodE P B f args h v h := by
 intro S hS m w hr _
 rw [map_flat hc.1]
 refine (hc.2.2 w (hr.W hS)).mono ?_
 rintro e w' ⟨rfl, hq⟩
 exact ⟨m, Ren.agree_refl _ _, Nat.le_refl _, hr.later hq, by simp [renN, ren_flat _ v hc.2.1], sc_flat _ v hc.2.1⟩
theorem flatC_of {P : Program} {G : Nat} {B : Base P G} {f : FuncId} {args : List Value} {v : Value} {h0 : Heap} (ha : ∀ x ∈ args, flat x = true) (hv : flat v = true) (hb : Big P G (GoodE P B) (.call f args) B.hB (.ends (.returned v)) h0) :
  FlatC P B f args v := by
 refine ⟨ha, hv, fun w hw => ?_⟩
 have hs := (big_sound (S := ⟨G, w.heap.size, w⟩) (goodE_ok B _ ⟨rfl, hw, rfl⟩) hb).1 B.mB w (B.rel w hw) (fun x hx => sc_flat _ x (ha x hx))
 rw [map_flat ha] at hs
 refine hs.mono ?_
 rintro e w' ⟨m', _, _, h3, rfl, _⟩
 exact ⟨by simp [renN, ren_flat _ v hv], by have := h3.size; simpa using this, fun b hlt => h3.frame b hlt, h3.io⟩
theorem FlatC.does {P : Program} {G : Nat} {B : Base P G} {f : FuncId} {args : List Value} {v : Value} (hc : FlatC P B f args v) (h : Heap) : Does P G (GoodE P B) f args h fun e h' => e = .returned v ∧ h' = h :=
 ⟨_, h, .ext (GoodE.ofFlat hc h), rfl, rfl⟩
theorem Does.fromBare {P : Program} {G : Nat} {B : Base P G} {f : FuncId} {args : List Value} {v : Value} (ha : ∀ x ∈ args, flat x = true) (hv : flat v = true) (hd : Does P G (GoodE P B) f args B.hB fun e _ => e = .returned v) (h : Heap) :
  Does P G (GoodE P B) f args h fun e h' => e = .returned v ∧ h' = h := by
 obtain ⟨e, h0, b, rfl⟩ := hd
 exact (flatC_of ha hv b).does h
theorem Does.ofCalls {P : Program} {G : Nat} {B : Base P G} {f : FuncId} {args : List Value} {v : Value} (ha : ∀ x ∈ args, flat x = true) (hv : flat v = true) (hc : ∀ w, B.W w → Calls P f args.toArray w fun e w' => e = .returned v ∧ w' = w) (h : Heap) :
  Does P G (GoodE P B) f args h fun e h' => e = .returned v ∧ h' = h :=
 FlatC.does ⟨ha, hv, fun w hw => (hc w hw).mono fun e w' q => ⟨q.1, by rw [q.2]; exact Quiet.refl w⟩⟩ h
theorem FlatC.any {P : Program} {G : Nat} {B : Base P G} {f : FuncId} {args : List Value} {v : Value} (hc : FlatC P (base0 P 0) f args v) : FlatC P B f args v := ⟨hc.1, hc.2.1, fun w _ => hc.2.2 w trivial⟩
theorem GoodE.of {P : Program} {G : Nat} {B : Base P G} {f : FuncId} {args : List Value} {h h' : Heap} {v : Value} (hb : Big P G (GoodE P B) (.call f args) h (.ends (.returned v)) h') : GoodE P B f args h v h' := by
 rintro S ⟨rfl, hS⟩ m w hr hs
 exact (big_sound (goodE_ok B S ⟨rfl, hS⟩) hb).1 m w hr hs
theorem HRel.gather {P : Program} {S : Start} {m m' : Ren} {h h' : Heap} {w w' : World} (hr : HRel P S m h w) (hr' : HRel P S m' h' w') (ha : m.agree h.next m') (hm : ∀ j, j < h.next → h'.get j = h.get j) {b : Nat} {r : Row} (hb : h.next ≤ b)
  (hg : h'.get b = some (.row r)) (hf : ∀ v ∈ r.vs, flat v = true) : HRel P S (m.put h.next (m'.blk b) (m'.sh b) (m'.ext b)) (h.alloc (.row r)) w' where
 gle := by have := hr.gle; simp; omega
 glob i hi := by
  have := hr.gle
  have e1 := hr.glob i hi
  simp [Ren.put, show ¬ i = h.next by omega, e1]
 obj i p hp := by
  rw [Heap.get_alloc] at hp
  split at hp
  ·rename_i e
   subst e
   cases hp
   obtain ⟨_, c, fz, h1, h2, h3, h4, h5, h6, h7, h8⟩ := hr'.obj b _ hg
   refine ⟨fun v hv => sc_flat _ v (hf v hv), c, fz, by rw [Ren.put_blk]; exact h1, by rw [Ren.put_sh, Ren.put_ext]; exact h2, ?_, by rw [Ren.put_blk, Ren.put_sh]; exact h4, by rw [Ren.put_blk]; exact h5, h6, h7, by rw [Ren.put_ext]; exact h8⟩
   intro k v hk
   rw [Ren.put_sh, h3 k v hk, ren_flat _ v (hf v (List.mem_of_getElem? hk)), ren_flat _ v (hf v (List.mem_of_getElem? hk))]
  ·have hlt := Heap.lg hp
   have h0 := hr.obj i p hp
   have h1 := hr'.obj i p (by rw [hm i hlt]; exact hp)
   obtain ⟨e1, e2, e3⟩ := ha i hlt
   have hag : m.agree h.next (m.put h.next (m'.blk b) (m'.sh b) (m'.ext b)) := Ren.agree_put m _ _ _ _ _ (Nat.le_refl _)
   obtain ⟨q1, q2, q3⟩ := hag i hlt
   cases p with
   | dead => trivial
   | row r2 =>
    obtain ⟨s1, _⟩ := h0
    obtain ⟨_, c, fz, b1, b2, b3, b4, b5, b6, b7, b8⟩ := h1
    refine ⟨fun v hv => sc_mono (by simp) v (s1 v hv), c, fz, by rw [← q1, e1]; exact b1, by rw [← q2, ← q3, e2, e3]; exact b2, ?_, by rw [← q1, e1, ← q2, e2]; exact b4, by rw [← q1, e1]; exact b5, b6, b7, by rw [← q3, e3]; exact b8⟩
    intro k v hk
    have hs := s1 v (List.mem_of_getElem? hk)
    rw [← q2, ← ren_congr hag v hs, e2, b3 k v hk, ren_congr ha v hs]
   | map es clock =>
    obtain ⟨s1, _⟩ := h0
    obtain ⟨_, b1, b2⟩ := h1
    refine ⟨fun e he => ⟨sc_mono (by simp) _ (s1 e he).1, sc_mono (by simp) _ (s1 e he).2⟩, ?_, by rw [← q1, e1]; exact b2⟩
    have : es.map (renE (m.put h.next (m'.blk b) (m'.sh b) (m'.ext b))) = es.map (renE m') := List.map_congr_left fun e he => by rw [← renE_congr hag (s1 e he), renE_congr ha (s1 e he)]
    rw [← q1, e1, this]; exact b1
   | iter s pos =>
    obtain ⟨b1, b2⟩ := h1
    exact ⟨by rw [← q1, e1]; exact b1, by rw [← q1, e1]; exact b2⟩
 apart i j p q hij hp hq hpo hqo := by
  have key : ∀ i p, (h.alloc (.row r)).get i = some p → p.own = true → ∃ i', h'.get i' = some p ∧ (m.put h.next (m'.blk b) (m'.sh b) (m'.ext b)).blk i = m'.blk i' ∧ (i = h.next ∧ i' = b ∨ i < h.next ∧ i' = i) := by
   intro i p hp _
   rw [Heap.get_alloc] at hp
   split at hp
   ·rename_i e; subst e; cases hp; exact ⟨b, hg, Ren.put_blk _ _ _ _ _, .inl ⟨rfl, rfl⟩⟩
   ·have hlt := Heap.lg hp
    exact ⟨i, by rw [hm i hlt]; exact hp, by rw [← (Ren.agree_put m _ _ _ _ _ (Nat.le_refl _) i hlt).1]; exact (ha i hlt).1, .inr ⟨hlt, rfl⟩⟩
  obtain ⟨i', a1, a2, a3⟩ := key i p hp hpo
  obtain ⟨j', b1, b2, b3⟩ := key j q hq hqo
  rw [a2, b2]
  exact hr'.apart i' j' p q (by omega) a1 b1 hpo hqo
 frame := hr'.frame
 size := hr'.size
 io := hr'.io
theorem HRel.forget {P : Program} {S : Start} {m m' : Ren} {h h' : Heap} {w w' : World} (hr : HRel P S m h w) (hr' : HRel P S m' h' w') (ha : m.agree h.next m') (hm : ∀ j, j < h.next → h'.get j = h.get j) : HRel P S m h w' where
 gle := hr.gle
 glob := hr.glob
 obj i p hp := by
  have hlt := Heap.lg hp
  have h0 := hr.obj i p hp
  have h1 := hr'.obj i p (by rw [hm i hlt]; exact hp)
  obtain ⟨e1, e2, e3⟩ := ha i hlt
  cases p with
  | dead => trivial
  | row r2 =>
   obtain ⟨s1, _⟩ := h0
   obtain ⟨_, c, fz, b1, b2, b3, b4, b5, b6, b7, b8⟩ := h1
   refine ⟨s1, c, fz, by rw [e1]; exact b1, by rw [e2, e3]; exact b2, ?_, by rw [e1, e2]; exact b4, by rw [e1]; exact b5, b6, b7, by rw [e3]; exact b8⟩
   intro k v hk
   rw [e2, b3 k v hk, ren_congr ha v (s1 v (List.mem_of_getElem? hk))]
  | map es clock =>
   obtain ⟨s1, _⟩ := h0
   obtain ⟨_, b1, b2⟩ := h1
   refine ⟨s1, ?_, by rw [e1]; exact b2⟩
   have : es.map (renE m) = es.map (renE m') := List.map_congr_left fun e he => renE_congr ha (s1 e he)
   rw [e1, this]; exact b1
  | iter s pos =>
   obtain ⟨b1, b2⟩ := h1
   exact ⟨by rw [e1]; exact b1, by rw [e1]; exact b2⟩
 apart i j p q hij hp hq hpo hqo := by
  have l1 := Heap.lg hp
  have l2 := Heap.lg hq
  rw [(ha i l1).1, (ha j l2).1]
  exact hr'.apart i j p q hij (by rw [hm i l1]; exact hp) (by rw [hm j l2]; exact hq) hpo hqo
 frame := hr'.frame
 size := hr'.size
 io := hr'.io
theorem GoodE.forget {P : Program} {G : Nat} {B : Base P G} {f : FuncId} {args : List Value} {h h' : Heap} {v : Value} (hg : GoodE P B f args h v h') (hm : h.more h') (hv : flat v = true) : GoodE P B f args h v h := by
 intro S hS m w hr hs
 refine (hg S hS m w hr hs).mono ?_
 rintro e w' ⟨m', q1, _, q3, rfl, _⟩
 exact ⟨m, Ren.agree_refl _ _, Nat.le_refl _, hr.forget q3 q1 hm.2, by simp [renN, ren_flat _ v hv], sc_flat _ v hv⟩
theorem GoodE.gather {P : Program} {G : Nat} {B : Base P G} {f : FuncId} {args : List Value} {h h' : Heap} {b n : Nat} {r : Row} {g : Value → Value} (hg : GoodE P B f args h (g (.slice (some ⟨b, 0, none⟩) n n)) h') (hm : h.more h') (hb : h.next ≤ b)
  (hrow : h'.get b = some (.row r)) (hf : ∀ v ∈ r.vs, flat v = true) (hren : ∀ m x, ren m (g x) = g (ren m x)) (hsc : ∀ k x, sc k x → sc k (g x)) : GoodE P B f args h (g (.slice (some ⟨h.next, 0, none⟩) n n)) (h.alloc (.row r)) := by
 intro S hS m w hr hs
 refine (hg S hS m w hr hs).mono ?_
 rintro e w' ⟨m', q1, _, q3, rfl, _⟩
 refine ⟨_, Ren.agree_put m _ _ _ _ _ (Nat.le_refl _), by simp, hr.gather q3 q1 hm.2 hb hrow hf, ?_, hsc _ _ (by simp [sc])⟩
 simp only [renN, hren, ren, Ren.put_blk, Ren.put_sh, Ren.put_ext, Nat.zero_add]
end
section
def aopE (P : Program) (ρ : Operand → Option Value) (o : Oper) (h : Heap) : Option (AN × Heap) :=
 match o.op with
 | .move x => (ρ x).bind fun v => some (.val v, h)
 | .assign x => (ρ x).bind fun v => some (.val v, h)
 | .pick c a b => (ρ c).bind fun cv => match cv with
  | .bool t => (ρ (if t then a else b)).bind fun v => some (.val v, h)
  | _ => none
 | .alloc t => (aalloc P h t).bind fun p => some (.val p.1, p.2)
 | .box t x => (ρ x).bind fun v => some (.val (abox h t v).1, (abox h t v).2)
 | .build t parts => (evp ρ parts.toList).bind fun ps => (abuild P t ps).bind fun v => some (.val v, h)
 | .buildSlice t len parts => (evp ρ parts.toList).bind fun ps => (abuildSlice P h t len ps).bind fun p => some (.val p.1, p.2)
 | .load t a => (ρ a).bind fun p => (aload P h t p).bind fun v => some (.val v, h)
 | .store t a x => (ρ a).bind fun p => (ρ x).bind fun v => (astore P h t p v).bind fun h' => some (.skip, h')
 | .nilCheck x => (ρ x).bind fun v => if notNil v then some (.val v, h) else none
 | .binOp op t x y _ => (ρ x).bind fun a => (ρ y).bind fun b => (binA P h op t (isEqOp op && !isConstO x && !isConstO y) a b).bind fun v => some (.val v, h)
 | .unOp op _ x => (ρ x).bind fun a => (aun op a).bind fun v => some (.val v, h)
 | .convert s d x => (ρ x).bind fun a => match aconv P s d a with
  | some v => some (.val v, h)
  | none => match aconvB P h s d a with
   | some p => some (.val p.1, p.2)
   | none => (aconvP P h s d a).bind fun v => some (.val v, h)
 | .makeMap t r => (evo ρ r).bind fun a => (amakeMap P h t a).bind fun p => some (.val p.1, p.2)
 | .lookup t x k ok => (ρ x).bind fun a => (ρ k).bind fun b => (alookup P h t a b ok).bind fun v => some (.val v, h)
 | .mapUpdate t x k y => (ρ x).bind fun a => (ρ k).bind fun b => (ρ y).bind fun c => (amapUpdate P h t a b c).bind fun h' => some (.skip, h')
 | .insert t x k y => (ρ x).bind fun a => (ρ k).bind fun b => (ρ y).bind fun c => (amapUpdate P h t a b c).bind fun h' => some (.skip, h')
 | .makeInterface t x => (ρ x).bind fun a => match P.underlying t with
  | some d => match d with
   | .interface _ => none
   | _ => some (.val (.iface t a), h)
  | none => none
 | .makeFunc fn first captured => (evs ρ first.toList).bind fun a => (evs ρ captured.toList).bind fun b => some (.val (.func fn a.toArray b.toArray), h)
 | .makeSlice t l c => (ρ l).bind fun a => (ρ c).bind fun b => (amake P h t a b).bind fun p => some (.val p.1, p.2)
 | .slice t x lo hi mx => (ρ x).bind fun a => (evo ρ lo).bind fun l => (evo ρ hi).bind fun hh => (evo ρ mx).bind fun mm => (aslice P h t a l hh mm).bind fun p => some (.val p.1, p.2)
 | .fieldAddr t x f => (ρ x).bind fun a => (afieldAddr P t a f).bind fun v => some (.val v, h)
 | .field t x f => (ρ x).bind fun a => (afield P t a f).bind fun v => some (.val v, h)
 | .indexAddr t x i => (ρ x).bind fun a => (ρ i).bind fun b => (aindexAddr P t a b).bind fun v => some (.val v, h)
 | .index t x i => (ρ x).bind fun a => (ρ i).bind fun b => (aindex P t a b).bind fun v => some (.val v, h)
 | .typeAssert x _ t ok => (ρ x).bind fun a => (aassert P a t ok).bind fun v => some (.val v, h)
 | .extract x i => (ρ x).bind fun a => (aextract a i).bind fun v => some (.val v, h)
 | .call c =>
  match c.callee with
  | .value f => (ρ f).bind fun fv => (calleeOf fv).bind fun q => (fnOf q.1).bind fun g => (evs ρ c.args.toList).bind fun zs =>
    if canEnter P g then some (.call g (q.2.1.toList ++ zs ++ q.2.2.toList), h)
    else if aNoEsc P g then (match q.2.1.toList ++ zs ++ q.2.2.toList with | [x] => some (.val x, h) | _ => none)
    else none
  | .builtin b => (evs ρ c.args.toList).bind fun zs => abuiltin P b c.argTypes.toList zs h
  | .invoke _ _ => none
 | .defer c =>
  match c.callee with
  | .value f => (ρ f).bind fun fv => (calleeOf fv).bind fun q => (evs ρ c.args.toList).bind fun zs => some (.defer { target := .fn q.1 q.2.2, args := q.2.1 ++ zs.toArray }, h)
  | _ => none
 | .panic x => (ρ x).bind fun v => match v with
  | .iface _ _ => some (.panic v, h)
  | _ => none
 | _ => none
theorem aopE_aop {P : Program} {ρ : Operand → Option Value} {o : Oper} {h : Heap} {r : AN × Heap} (e : aopE P ρ o h = some r) : aop P ρ o h = some r := by
 obtain ⟨dst, op, type, pos, after, guard⟩ := o
 cases op <;> try exact e
 rename_i c
 obtain ⟨callee, args, argTypes⟩ := c
 cases callee <;> try exact e
 rename_i f
 simp only [aopE] at e
 simp only [aop]
 obtain ⟨fv, hf, e⟩ := ob e
 obtain ⟨q, hq, e⟩ := ob e
 obtain ⟨g, hg, e⟩ := ob e
 obtain ⟨zs, hz, e⟩ := ob e
 rw [hf, Option.bind_some, hq, Option.bind_some, hg, Option.bind_some, hz, Option.bind_some]
 split at e
 ·rename_i hc; rw [if_pos hc]; exact e
 ·rename_i hc
  rw [if_neg hc]
  split at e
  ·rename_i hn; rw [if_pos hn]; exact e
  ·cases e
section
universe v
variable {α : Type} {β : Type v}
def forceN (n : Nat) (k : Nat → β) : β := match n with | 0 => k 0 | m + 1 => k (m + 1)
theorem forceN_eq (n : Nat) (k : Nat → β) : forceN n k = k n := by cases n <;> rfl
def forceI (n : Int) (k : Int → β) : β := match n with | .ofNat m => forceN m fun m => k (.ofNat m) | .negSucc m => forceN m fun m => k (.negSucc m)
theorem forceI_eq (n : Int) (k : Int → β) : forceI n k = k n := by cases n <;> simp [forceI, forceN_eq]
def forceL (l : List α) : (List α → β) → β := match l with | [] => fun k => k [] | x :: t => fun k => forceL t fun t' => k (x :: t')
theorem forceL_eq : ∀ (l : List α) (k : List α → β), forceL l k = k l
 | [], k => rfl
 | x :: t, k => by unfold forceL; exact forceL_eq t _
def forceA (a : Option Addr) (k : Option Addr → β) : β :=
 match a with
 | none => k none
 | some ⟨i, o, none⟩ => forceN i fun i => forceN o fun o => k (some ⟨i, o, none⟩)
 | some ⟨i, o, some s⟩ => forceN i fun i => forceN o fun o => k (some ⟨i, o, some s⟩)
theorem forceA_eq (a : Option Addr) (k : Option Addr → β) : forceA a k = k a := by
 unfold forceA; split <;> simp [forceN_eq]
def forceV (v : Value) (k : Value → β) : β :=
 match v with
 | .int kd n => forceI n fun n => k (.int kd n)
 | .bool b => match b with | true => k (.bool true) | false => k (.bool false)
 | .pointer a => forceA a fun a => k (.pointer a)
 | .slice a l c => forceA a fun a => forceN l fun l => forceN c fun c => k (.slice a l c)
 | .agg ⟨l⟩ => forceL l fun l => k (.agg ⟨l⟩)
 | .tuple ⟨l⟩ => forceL l fun l => k (.tuple ⟨l⟩)
 | .string s => k (.string s)
 | v => k v
theorem forceV_eq (v : Value) (k : Value → β) : forceV v k = k v := by
 unfold forceV; split <;> first | rfl | simp only [forceI_eq, forceA_eq, forceN_eq, forceL_eq] | (split <;> rfl)
def forceS (v : Value) (k : Value → β) : β :=
 match v with
 | .string ⟨⟨l⟩⟩ => forceL l fun l => k (.string ⟨⟨l⟩⟩)
 | v => forceV v k
theorem forceS_eq (v : Value) (k : Value → β) : forceS v k = k v := by
 unfold forceS; split
 ·rw [forceL_eq]
 ·exact forceV_eq _ _
noncomputable def setkK (t : Nat) (v : Value) (l : List (Nat × Value)) : (List (Nat × Value) → β) → β :=
 List.rec (motive := fun _ => (List (Nat × Value) → β) → β) (fun k => k [(t, v)]) (fun p l ih k => Bool.rec (motive := fun _ => β) (ih fun l' => k (p :: l')) (k ((t, v) :: l)) (Nat.beq t p.1)) l
theorem setkK_eq (t : Nat) (v : Value) : ∀ (l : List (Nat × Value)) (k : List (Nat × Value) → β), setkK t v l k = k (setk t v l)
 | [], k => rfl
 | (s, u) :: l, k => by
  have h : setkK t v ((s, u) :: l) k = Bool.rec (motive := fun _ => β) (setkK t v l fun l' => k ((s, u) :: l')) (k ((t, v) :: l)) (Nat.beq t s) := rfl
  rw [h, setkK_eq t v l]
  simp only [setk]
  by_cases e : t = s
  ·subst e; rw [nbeq_t rfl, if_pos rfl]
  ·rw [nbeq_f e, if_neg e]
noncomputable def lookE (t : Nat) (l : List (Nat × Value)) : Option Value :=
 List.rec (motive := fun _ => Option Value) none (fun p _ ih => Bool.rec (motive := fun _ => Option Value) ih (some p.2) (Nat.beq t p.1)) l
theorem lookE_eq (t : Nat) : ∀ l, lookE t l = look t l
 | [] => rfl
 | (s, v) :: l => by
  have h : lookE t ((s, v) :: l) = Bool.rec (motive := fun _ => Option Value) (lookE t l) (some v) (Nat.beq t s) := rfl
  rw [h, lookE_eq t l]
  simp only [look]
  by_cases e : t = s
  ·subst e; rw [nbeq_t rfl, if_pos rfl]
  ·rw [nbeq_f e, if_neg e]
noncomputable def putK (fr : Frm) (dst : Option Nat) (v : Value) (k : Frm → Option β) : Option β :=
 match dst with
 | none => k fr
 | some d => match Nat.blt d fr.size with | true => setkK d v fr.slots fun s => k ⟨fr.size, s, fr.defers⟩ | false => none
theorem putK_eq (fr : Frm) (dst : Option Nat) (v : Value) (k : Frm → Option β) : putK fr dst v k = (fr.put dst v).bind k := by
 unfold putK Frm.put
 cases dst with
 | none => rfl
 | some d =>
  simp only []
  by_cases h : d < fr.size
  ·have hb : Nat.blt d fr.size = true := by unfold Nat.blt; exact Nat.ble_eq_true_of_le h
   rw [if_pos h]; simp only [hb, setkK_eq, Option.bind_some]
  ·have hb : Nat.blt d fr.size = false := by
    cases q : Nat.blt d fr.size with
    | false => rfl
    | true => unfold Nat.blt at q; exact absurd (Nat.le_of_ble_eq_true q) h
   rw [if_neg h]; simp only [hb, Option.bind_none]
def Tr.setK (a : AObj) : Nat → Tr → Nat → (Tr → β) → β
 | 0, t, _, c => c t
 | n + 1, .leaf, k, c => match Nat.beq k 0 with
  | true => c (.node .leaf (some a) .leaf)
  | false => match Nat.beq (k % 2) 1 with
   | true => forceN (k / 2) fun k => Tr.setK a n .leaf k fun t => c (.node t none .leaf)
   | false => forceN (k / 2 - 1) fun k => Tr.setK a n .leaf k fun t => c (.node .leaf none t)
 | n + 1, .node l v r, k, c => match Nat.beq k 0 with
  | true => c (.node l (some a) r)
  | false => match Nat.beq (k % 2) 1 with
   | true => forceN (k / 2) fun k => Tr.setK a n l k fun t => c (.node t v r)
   | false => forceN (k / 2 - 1) fun k => Tr.setK a n r k fun t => c (.node l v t)
theorem Tr.setK_eq (a : AObj) : ∀ (n : Nat) (t : Tr) (k : Nat) (c : Tr → β), Tr.setK a n t k c = c (Tr.set a n t k)
 | 0, _, _, _ => rfl
 | n + 1, .leaf, k, c => by
  rw [Tr.setK, Tr.set]
  cases Nat.beq k 0 with
  | true => rfl
  | false =>
   cases Nat.beq (k % 2) 1 with
   | true => simp only [forceN_eq, Tr.setK_eq a n]
   | false => simp only [forceN_eq, Tr.setK_eq a n]
 | n + 1, .node l v r, k, c => by
  rw [Tr.setK, Tr.set]
  cases Nat.beq k 0 with
  | true => rfl
  | false =>
   cases Nat.beq (k % 2) 1 with
   | true => simp only [forceN_eq, Tr.setK_eq a n]
   | false => simp only [forceN_eq, Tr.setK_eq a n]
def Heap.setK (h : Heap) (i : Nat) (o : AObj) (k : Heap → β) : β := match Nat.blt i h.next with | true => Tr.setK o (i + 1) h.objs i fun l => k ⟨h.next, l⟩ | false => k h
theorem Heap.setK_eq (h : Heap) (i : Nat) (o : AObj) (k : Heap → β) : h.setK i o k = k (h.set i o) := by
 unfold Heap.setK Heap.set
 by_cases e : i < h.next
 ·have hb : Nat.blt i h.next = true := by unfold Nat.blt; exact Nat.ble_eq_true_of_le e
  rw [if_pos e]; simp only [hb, Tr.setK_eq]
 ·have hb : Nat.blt i h.next = false := by
   cases q : Nat.blt i h.next with
   | false => rfl
   | true => unfold Nat.blt at q; exact absurd (Nat.le_of_ble_eq_true q) e
  rw [if_neg e]; simp only [hb]
def forceVs : List Value → (List Value → β) → β
 | [], k => k []
 | v :: l, k => forceV v fun v => forceVs l fun l => k (v :: l)
theorem forceVs_eq : ∀ (l : List Value) (k : List Value → β), forceVs l k = k l
 | [], k => rfl
 | v :: l, k => by simp only [forceVs, forceV_eq, forceVs_eq l]
def forceO (o : AObj) (k : AObj → β) : β :=
 match o with
 | .row ⟨vs, e, g, ou, ro, st⟩ => forceVs vs fun vs => forceN e fun e => match g with
  | true => match ro with
   | true => k (.row ⟨vs, e, true, ou, true, st⟩)
   | false => k (.row ⟨vs, e, true, ou, false, st⟩)
  | false => match ro with
   | true => k (.row ⟨vs, e, false, ou, true, st⟩)
   | false => k (.row ⟨vs, e, false, ou, false, st⟩)
 | o => k o
theorem forceO_eq (o : AObj) (k : AObj → β) : forceO o k = k o := by
 cases o with
 | row r =>
  obtain ⟨vs, e, g, ou, ro, st⟩ := r
  simp only [forceO, forceVs_eq, forceN_eq]
  cases g <;> cases ro <;> rfl
 | _ => rfl
def forceOO (o : Option AObj) (k : Option AObj → β) : β := match o with | none => k none | some o => forceO o fun o => k (some o)
theorem forceOO_eq (o : Option AObj) (k : Option AObj → β) : forceOO o k = k o := by cases o <;> simp only [forceOO, forceO_eq]
def Tr.forceAt : Nat → Tr → Nat → (Tr → β) → β
 | 0, t, _, c => c t
 | _ + 1, .leaf, _, c => c .leaf
 | n + 1, .node l v r, k, c => match Nat.beq k 0 with
  | true => forceOO v fun v => c (.node l v r)
  | false => match Nat.beq (k % 2) 1 with
   | true => forceN (k / 2) fun k => Tr.forceAt n l k fun t => c (.node t v r)
   | false => forceN (k / 2 - 1) fun k => Tr.forceAt n r k fun t => c (.node l v t)
theorem Tr.forceAt_eq : ∀ (n : Nat) (t : Tr) (k : Nat) (c : Tr → β), Tr.forceAt n t k c = c t
 | 0, _, _, _ => rfl
 | _ + 1, .leaf, _, _ => rfl
 | n + 1, .node l v r, k, c => by
  rw [Tr.forceAt]
  cases Nat.beq k 0 with
  | true => simp only [forceOO_eq]
  | false =>
   cases Nat.beq (k % 2) 1 with
   | true => simp only [forceN_eq, Tr.forceAt_eq n]
   | false => simp only [forceN_eq, Tr.forceAt_eq n]
def forceH (h : Heap) (k : Heap → β) : β :=
 match h with
 | ⟨n, t⟩ => forceN n fun n => match n with
  | 0 => k ⟨0, t⟩
  | j + 1 => forceN j fun j => Tr.forceAt n t j fun t => k ⟨n, t⟩
theorem forceH_eq (h : Heap) (k : Heap → β) : forceH h k = k h := by
 obtain ⟨n, t⟩ := h
 cases n with
 | zero => rfl
 | succ j => simp only [forceH, forceN_eq, Tr.forceAt_eq]
def storeK (P : Program) (h : Heap) (t : TypeId) (a v : Value) (k : Heap → Option β) : Option β :=
 match a with
 | .pointer (some ⟨i, o, none⟩) =>
  match P.info? t with
  | some info =>
   if v.cells.size = info.size ∧ v.cells.all one = true then
    match h.row i with
    | some r => if o + v.cells.toList.length ≤ r.vs.length ∧ r.outer = false ∧ r.ro = false then forceL (splice r.vs o v.cells.toList) fun vs => h.setK i (.row { r with vs := vs }) k else none
    | none => none
   else none
  | none => none
 | _ => none
theorem storeK_eq (P : Program) (h : Heap) (t : TypeId) (a v : Value) (k : Heap → Option β) : storeK P h t a v k = (astore P h t a v).bind k := by
 unfold storeK astore
 split
 ·rename_i i o
  cases P.info? t with
  | none => rfl
  | some info =>
   simp only []
   split
   ·unfold Heap.sts
    cases h.row i with
    | none => rfl
    | some r =>
     simp only [Option.bind_some]
     split
     ·simp only [forceL_eq, Heap.setK_eq, Option.bind_some]
     ·rfl
   ·rfl
 ·rename_i hno
  split
  ·rename_i i o
   exact absurd rfl (hno i o)
  ·rfl
def isMade (o : Op) : Bool := match o with | .binOp .add _ _ _ _ => true | .slice .. => true | .convert .. => true | _ => false
def aopK0 (P : Program) (ρ : Operand → Option Value) (o : Oper) (h : Heap) (k : AN → Heap → Option β) : Option β :=
 match aopE P ρ o h with
 | none => none
 | some (.val v, h1) =>
  match isLoud o with
  | true => match isMade o.op with | true => forceS v fun v => forceH h1 fun h1 => k (.val v) h1 | false => forceV v fun v => forceH h1 fun h1 => k (.val v) h1
  | false => match isMade o.op with | true => forceS v fun v => k (.val v) h1 | false => forceV v fun v => k (.val v) h1
 | some (n, h1) => k n h1
theorem aopK0_eq (P : Program) (ρ : Operand → Option Value) (o : Oper) (h : Heap) (k : AN → Heap → Option β) : aopK0 P ρ o h k = (aopE P ρ o h).bind fun r => k r.1 r.2 := by
 unfold aopK0
 cases aopE P ρ o h with
 | none => rfl
 | some r =>
  obtain ⟨n, h1⟩ := r
  cases n <;> simp only [Option.bind_some]
  repeat' split
  all_goals simp only [forceS_eq, forceV_eq, forceH_eq]
def kMove (h : Heap) (k : AN → Heap → Option β) : Option Value → Option β
 | none => none
 | some v => k (.val v) h
def kVal (h : Heap) (k : AN → Heap → Option β) : Option Value → Option β
 | none => none
 | some v => forceV v fun v => k (.val v) h
def kLoad (P : Program) (t : TypeId) (h : Heap) (k : AN → Heap → Option β) : Option Value → Option β
 | none => none
 | some p => kVal h k (aload P h t p)
def kFieldAddr (P : Program) (t : TypeId) (f : Nat) (h : Heap) (k : AN → Heap → Option β) : Option Value → Option β
 | none => none
 | some p => kVal h k (afieldAddr P t p f)
def kField (P : Program) (t : TypeId) (f : Nat) (h : Heap) (k : AN → Heap → Option β) : Option Value → Option β
 | none => none
 | some p => kVal h k (afield P t p f)
def kExtract (f : Nat) (h : Heap) (k : AN → Heap → Option β) : Option Value → Option β
 | none => none
 | some p => kVal h k (aextract p f)
def kStore (P : Program) (t : TypeId) (h : Heap) (k : AN → Heap → Option β) : Option Value → Option Value → Option β
 | some p, some v => storeK P h t p v fun h1 => k .skip h1
 | _, _ => none
def kIndexAddr (P : Program) (t : TypeId) (h : Heap) (k : AN → Heap → Option β) : Option Value → Option Value → Option β
 | some p, some v => kVal h k (aindexAddr P t p v)
 | _, _ => none
def kIndex (P : Program) (t : TypeId) (h : Heap) (k : AN → Heap → Option β) : Option Value → Option Value → Option β
 | some p, some v => kVal h k (aindex P t p v)
 | _, _ => none
def kMadeIf (h : Heap) (k : AN → Heap → Option β) (made : Bool) : Option Value → Option β
 | none => none
 | some v => match made with
  | true => forceS v fun v => k (.val v) h
  | false => forceV v fun v => k (.val v) h
def kBin (P : Program) (op : BinOp) (t : TypeId) (both : Bool) (h : Heap) (k : AN → Heap → Option β) : Option Value → Option Value → Option β
 | some a, some b => kMadeIf h k (match op with | .add => true | _ => false) (binA P h op t both a b)
 | _, _ => none
theorem kMove_eq (h : Heap) (k : AN → Heap → Option β) (v : Option Value) : kMove h k v = v.bind fun v => k (.val v) h := by cases v <;> rfl
theorem kVal_eq (h : Heap) (k : AN → Heap → Option β) (v : Option Value) : kVal h k v = v.bind fun v => k (.val v) h := by cases v <;> simp [kVal, forceV_eq]
theorem kMadeIf_eq (h : Heap) (k : AN → Heap → Option β) (b : Bool) (v : Option Value) : kMadeIf h k b v = v.bind fun v => k (.val v) h := by cases v <;> cases b <;> simp [kMadeIf, forceV_eq, forceS_eq]
def aopK (P : Program) (ρ : Operand → Option Value) (o : Oper) (h : Heap) (k : AN → Heap → Option β) : Option β :=
 match o.op with
 | .move x => kMove h k (ρ x)
 | .assign x => kMove h k (ρ x)
 | .load t a => kLoad P t h k (ρ a)
 | .store t a x => kStore P t h k (ρ a) (ρ x)
 | .fieldAddr t x f => kFieldAddr P t f h k (ρ x)
 | .field t x f => kField P t f h k (ρ x)
 | .indexAddr t x i => kIndexAddr P t h k (ρ x) (ρ i)
 | .index t x i => kIndex P t h k (ρ x) (ρ i)
 | .extract x i => kExtract i h k (ρ x)
 | .binOp op t x y _ => kBin P op t (isEqOp op && !isConstO x && !isConstO y) h k (ρ x) (ρ y)
 | _ => aopK0 P ρ o h k
theorem aopK_eq (P : Program) (ρ : Operand → Option Value) (o : Oper) (h : Heap) (k : AN → Heap → Option β) : aopK P ρ o h k = (aopE P ρ o h).bind fun r => k r.1 r.2 := by
 obtain ⟨dst, op, type, pos, after, guard⟩ := o
 unfold aopK
 cases op <;> simp only [] <;> try exact aopK0_eq _ _ _ _ _
 case move x => simp only [aopE, kMove_eq]; cases ρ x <;> rfl
 case assign x => simp only [aopE, kMove_eq]; cases ρ x <;> rfl
 case load t a =>
  simp only [aopE]
  cases ρ a with
  | none => rfl
  | some p => simp only [kLoad, kVal_eq, Option.bind_some]; cases aload P h t p <;> rfl
 case store t a x =>
  simp only [aopE]
  cases ρ a with
  | none => cases ρ x <;> rfl
  | some p =>
   cases ρ x with
   | none => rfl
   | some v =>
    simp only [kStore, storeK_eq, Option.bind_some]
    cases astore P h t p v <;> rfl
 case fieldAddr t x f =>
  simp only [aopE]
  cases ρ x with
  | none => rfl
  | some p => simp only [kFieldAddr, kVal_eq, Option.bind_some]; cases afieldAddr P t p f <;> rfl
 case field t x f =>
  simp only [aopE]
  cases ρ x with
  | none => rfl
  | some p => simp only [kField, kVal_eq, Option.bind_some]; cases afield P t p f <;> rfl
 case extract x i =>
  simp only [aopE]
  cases ρ x with
  | none => rfl
  | some p => simp only [kExtract, kVal_eq, Option.bind_some]; cases aextract p i <;> rfl
 case indexAddr t x i =>
  simp only [aopE]
  cases ρ x with
  | none => cases ρ i <;> rfl
  | some p =>
   cases ρ i with
   | none => rfl
   | some v => simp only [kIndexAddr, kVal_eq, Option.bind_some]; cases aindexAddr P t p v <;> rfl
 case index t x i =>
  simp only [aopE]
  cases ρ x with
  | none => cases ρ i <;> rfl
  | some p =>
   cases ρ i with
   | none => rfl
   | some v => simp only [kIndex, kVal_eq, Option.bind_some]; cases aindex P t p v <;> rfl
 case binOp op t x y z =>
  simp only [aopE]
  cases ρ x with
  | none => cases ρ y <;> rfl
  | some p =>
   cases ρ y with
   | none => rfl
   | some v => simp only [kBin, kMadeIf_eq, Option.bind_some]; cases binA P h op t _ p v <;> rfl
end
noncomputable def aevE (G : Nat) (fr : Frm) (x : Operand) : Option Value := match x with | .tmp t => lookE t fr.slots | x => aev G fr x
theorem aevE_eq (G : Nat) (fr : Frm) : aevE G fr = aev G fr := by
 funext x
 cases x <;> first | rfl | exact lookE_eq _ _
def veqL (f : Value → Value → Bool) : List Value → List Value → Bool
 | [], [] => true
 | x :: l, y :: l' => f x y && veqL f l l'
 | _, _ => false
theorem veqL_eq {f : Value → Value → Bool} (hf : ∀ x y, f x y = true → x = y) : ∀ l l', veqL f l l' = true → l = l'
 | [], [], _ => rfl
 | x :: l, y :: l', h => by
  simp only [veqL, Bool.and_eq_true] at h
  rw [hf x y h.1, veqL_eq hf l l' h.2]
 | [], _ :: _, h => by cases h
 | _ :: _, [], h => by cases h
def veq : Nat → Value → Value → Bool
 | 0, _, _ => false
 | n + 1, a, b =>
  match a, b with
  | .bool x, .bool y => x == y
  | .int k x, .int k' y => decide (k = k') && decide (x = y)
  | .string s, .string t => strEq s t
  | .pointer a, .pointer b => decide (a = b)
  | .slice a l c, .slice b l' c' => decide (a = b) && decide (l = l') && decide (c = c')
  | .map a, .map b => decide (a = b)
  | .nilIface, .nilIface => true
  | .nilFunc, .nilFunc => true
  | .iface t v, .iface t' v' => decide (t = t') && veq n v v'
  | .func (.func f) a b, .func (.func f') a' b' => decide (f = f') && veqL (veq n) a.toList a'.toList && veqL (veq n) b.toList b'.toList
  | .agg xs, .agg ys => veqL (veq n) xs.toList ys.toList
  | .tuple xs, .tuple ys => veqL (veq n) xs.toList ys.toList
  | _, _ => false
theorem veq_eq : ∀ n a b, veq n a b = true → a = b
 | 0, _, _, h => by cases h
 | n + 1, a, b, h => by
  unfold veq at h
  split at h
  ·simp at h; rw [h]
  ·simp at h; rw [h.1, h.2]
  ·rw [(strEq_iff _ _).1 h]
  ·simp at h; rw [h]
  ·simp at h; rw [h.1.1, h.1.2, h.2]
  ·simp at h; rw [h]
  ·rfl
  ·rfl
  ·simp only [Bool.and_eq_true, decide_eq_true_eq] at h; rw [h.1, veq_eq n _ _ h.2]
  ·simp only [Bool.and_eq_true, decide_eq_true_eq] at h
   rw [h.1.1, Array.toList_inj.1 (veqL_eq (veq_eq n) _ _ h.1.2), Array.toList_inj.1 (veqL_eq (veq_eq n) _ _ h.2)]
  ·rw [Array.toList_inj.1 (veqL_eq (veq_eq n) _ _ h)]
  ·rw [Array.toList_inj.1 (veqL_eq (veq_eq n) _ _ h)]
  ·cases h
abbrev Rec := Task → Heap → Option (Out × Heap)
abbrev Then := Frm → Option FrameMode → Heap → Option (Out × Heap)
noncomputable def opCall (p : Oper) (ih : Then) (fr : Frm) (u : Option FrameMode) : Option (Out × Heap) → Option (Out × Heap)
 | some (.ends (.returned v), h2) => putK fr p.dst v fun fr1 => ih fr1 u h2
 | some (.ends (.panicked c), h2) => some (.x (.panic c) fr u, h2)
 | _ => none
noncomputable def opRec (p : Oper) (ih : Then) (fr : Frm) (u : Option FrameMode) (h1 : Heap) : Option (Out × Heap) :=
 match u with
 | some (.panicking ({ v, recovered := false, goexit := false } :: older)) => putK fr p.dst v fun fr1 => ih fr1 (some (.panicking ({ v, recovered := true } :: older))) h1
 | some .returning => putK fr p.dst .nilIface fun fr1 => ih fr1 (some .returning) h1
 | _ => none
noncomputable def opPut (dst : Option Nat) (ih : Then) (fr : Frm) (u : Option FrameMode) (h1 : Heap) (v : Value) : Option (Out × Heap) := putK fr dst v fun fr1 => ih fr1 u h1
noncomputable def opNext (rec : Rec) (p : Oper) (ih : Then) (fr : Frm) (u : Option FrameMode) (r : AN) (h1 : Heap) : Option (Out × Heap) :=
 match r with
 | .val v => opPut p.dst ih fr u h1 v
 | .skip => opPut p.dst ih fr u h1 undef
 | .call f args => opCall p ih fr u (rec (.call f args) h1)
 | .defer d => opPut p.dst ih { fr with defers := d :: fr.defers } u h1 undef
 | .panic v => some (.x (.panic [{ v, recovered := false }]) fr u, h1)
 | .recover => opRec p ih fr u h1
noncomputable def opGo (P : Program) (G : Nat) (rec : Rec) (p : Oper) (ih : Then) (fr : Frm) (u : Option FrameMode) (h : Heap) (w : Option Bool) : Option (Out × Heap) :=
 match w with
 | none => none
 | some false => opPut p.dst ih fr u h undef
 | some true => aopK P (aevE G fr) p h (opNext rec p ih fr u)
noncomputable def evOps (P : Program) (G : Nat) (rec : Rec) (ops : Array Oper) (l : List Oper) : Then :=
 List.rec (motive := fun _ => Then) (fun fr u h => some (.x .normal fr u, h)) (fun p _ ih fr u h => opGo P G rec p ih fr u h (awanted ops fr p)) l
theorem evOps_cons (P : Program) (G : Nat) (rec : Rec) (ops : Array Oper) (p : Oper) (l : List Oper) (fr : Frm) (u : Option FrameMode) (h : Heap) : evOps P G rec ops (p :: l) fr u h = opGo P G rec p (evOps P G rec ops l) fr u h (awanted ops fr p) := rfl
theorem evOps_nil (P : Program) (G : Nat) (rec : Rec) (ops : Array Oper) (fr : Frm) (u : Option FrameMode) (h : Heap) : evOps P G rec ops [] fr u h = some (.x .normal fr u, h) := rfl
abbrev Reads := List (TypeId × Value × Value)
def readsOk (P : Program) (R : Reads) (h : Heap) : Bool := R.all fun r => match aload P h r.1 r.2.1 with | some v => veq 100 v r.2.2 | none => false
def readsAll (P : Program) (R : Reads) (h : Heap) (hs : List Heap) : Bool := match R with | [] => true | _ :: _ => readsOk P R h && hs.all (readsOk P R)
def alenQ (P : Program) (t : TypeId) (x : Value) : Option Value :=
 match P.underlying t, x with
 | some .string, .string s => some (.int .i64 (s.size : Nat))
 | some (.slice _), .slice _ n _ => some (.int .i64 (n : Nat))
 | _, _ => none
theorem alenQ_alen {P : Program} {t : TypeId} {x v : Value} (e : alenQ P t x = some v) (h : Heap) : alen P h t x = some v := by
 unfold alenQ at e
 unfold alen
 split at e
 ·rename_i hu; rw [hu]; exact e
 ·rename_i hu; rw [hu]; exact e
 ·cases e
def quietV (P : Program) (ρ : Operand → Option Value) (cal : FuncId → List Value → Option Value) (o : Oper) : Option Value :=
 match o.op with
 | .binOp op t x y _ => (ρ x).bind fun a => (ρ y).bind fun b => abin P op t a b
 | .convert s d x => (ρ x).bind fun a => aconv P s d a
 | .call c =>
  match c.callee with
  | .value f => (ρ f).bind fun fv => (calleeOf fv).bind fun q => (fnOf q.1).bind fun g => (evs ρ c.args.toList).bind fun zs =>
    if canEnter P g then cal g (q.2.1.toList ++ zs ++ q.2.2.toList) else none
  | .builtin .len => match c.argTypes.toList with
   | [t] => (evs ρ c.args.toList).bind fun zs => match zs with
    | [x] => alenQ P t x
    | _ => none
   | _ => none
  | _ => none
 | _ => none
def addH (q : Nat) (l : List Oper) (h : Heap) (hs : List Heap) : List Heap := if q ≤ l.length then h :: hs else hs
noncomputable def evDraw (P : Program) (G : Nat) (rec : Rec) (cal : FuncId → List Value → Option Value) (ops : List Oper) (ex pu : List Nat) (q : Nat) : List Oper → Frm → Heap → Option (Frm × Heap × Reads × List Heap)
 | [], fr, h => some (fr, h, [], [])
 | p :: l, fr, h =>
  match awanted ops.toArray fr p with
  | none => none
  | some false => putK fr p.dst undef fun fr1 => evDraw P G rec cal ops ex pu q l fr1 h
  | some true =>
   if exempt pu p then
    match quietV P (aevE G fr) cal p with
    | none => none
    | some v => forceS v fun v => putK fr p.dst v fun fr1 => evDraw P G rec cal ops ex pu q l fr1 h
   else if exempt ex p then
    match p.op with
    | .load t a =>
     match aevE G fr a with
     | none => none
     | some r =>
      match aload P h t r with
      | none => none
      | some v => forceV v fun v => putK fr p.dst v fun fr1 =>
        match evDraw P G rec cal ops ex pu q l fr1 h with
        | some (fr2, h2, R, hs) => some (fr2, h2, (t, r, v) :: R, hs)
        | none => none
    | _ => none
   else
   aopK P (aevE G fr) p h fun n h1 =>
   match n with
   | .val v =>
    match isLoud p with
    | true => putK fr p.dst v fun fr1 =>
      match evDraw P G rec cal ops ex pu q l fr1 h1 with
      | some (fr2, h2, R, hs) => some (fr2, h2, R, addH q l h1 hs)
      | none => none
    | false => if h1.next = h.next then putK fr p.dst v fun fr1 => evDraw P G rec cal ops ex pu q l fr1 h else none
   | .skip =>
    match isLoud p with
    | true => putK fr p.dst undef fun fr1 =>
      match evDraw P G rec cal ops ex pu q l fr1 h1 with
      | some (fr2, h2, R, hs) => some (fr2, h2, R, addH q l h1 hs)
      | none => none
    | false => none
   | .call f args =>
    match isLoud p with
    | true =>
     match rec (.call f args) h1 with
     | some (.ends (.returned v), h2) => putK fr p.dst v fun fr1 =>
       match evDraw P G rec cal ops ex pu q l fr1 h2 with
       | some (fr3, h3, R, hs) => some (fr3, h3, R, addH q l h2 hs)
       | none => none
     | _ => none
    | false => none
   | _ => none
abbrev ThenD := Frm → Heap → Option (Frm × Heap × Reads × List Heap)
noncomputable def dPut (dst : Option Nat) (ih : ThenD) (fr : Frm) (h : Heap) (v : Value) : Option (Frm × Heap × Reads × List Heap) := putK fr dst v fun fr1 => ih fr1 h
def dAdd (q : Nat) (l : List Oper) (h1 : Heap) : Option (Frm × Heap × Reads × List Heap) → Option (Frm × Heap × Reads × List Heap)
 | some (fr2, h2, R, hs) => some (fr2, h2, R, addH q l h1 hs)
 | none => none
noncomputable def dPutAdd (q : Nat) (l : List Oper) (dst : Option Nat) (ih : ThenD) (fr : Frm) (h1 : Heap) (v : Value) : Option (Frm × Heap × Reads × List Heap) := putK fr dst v fun fr1 => dAdd q l h1 (ih fr1 h1)
def dRd (t : TypeId) (r v : Value) : Option (Frm × Heap × Reads × List Heap) → Option (Frm × Heap × Reads × List Heap)
 | some (fr2, h2, R, hs) => some (fr2, h2, (t, r, v) :: R, hs)
 | none => none
noncomputable def dQuiet (p : Oper) (ih : ThenD) (fr : Frm) (h : Heap) : Option Value → Option (Frm × Heap × Reads × List Heap)
 | none => none
 | some v => forceS v fun v => dPut p.dst ih fr h v
noncomputable def dLoadV (t : TypeId) (r : Value) (p : Oper) (ih : ThenD) (fr : Frm) (h : Heap) : Option Value → Option (Frm × Heap × Reads × List Heap)
 | none => none
 | some v => forceV v fun v => putK fr p.dst v fun fr1 => dRd t r v (ih fr1 h)
noncomputable def dLoad (P : Program) (t : TypeId) (p : Oper) (ih : ThenD) (fr : Frm) (h : Heap) : Option Value → Option (Frm × Heap × Reads × List Heap)
 | none => none
 | some r => dLoadV t r p ih fr h (aload P h t r)
noncomputable def dEx (P : Program) (G : Nat) (p : Oper) (ih : ThenD) (fr : Frm) (h : Heap) : Option (Frm × Heap × Reads × List Heap) :=
 match p.op with
 | .load t a => dLoad P t p ih fr h (aevE G fr a)
 | _ => none
noncomputable def dCall (q : Nat) (l : List Oper) (p : Oper) (ih : ThenD) (fr : Frm) : Option (Out × Heap) → Option (Frm × Heap × Reads × List Heap)
 | some (.ends (.returned v), h2) => dPutAdd q l p.dst ih fr h2 v
 | _ => none
noncomputable def dVal (q : Nat) (l : List Oper) (p : Oper) (ih : ThenD) (fr : Frm) (h h1 : Heap) (v : Value) (loud : Bool) : Option (Frm × Heap × Reads × List Heap) :=
 match loud with
 | true => dPutAdd q l p.dst ih fr h1 v
 | false => if h1.next = h.next then dPut p.dst ih fr h v else none
noncomputable def dSkip (q : Nat) (l : List Oper) (p : Oper) (ih : ThenD) (fr : Frm) (h1 : Heap) (loud : Bool) : Option (Frm × Heap × Reads × List Heap) :=
 match loud with
 | true => dPutAdd q l p.dst ih fr h1 undef
 | false => none
noncomputable def dCallL (rec : Rec) (q : Nat) (l : List Oper) (p : Oper) (ih : ThenD) (fr : Frm) (h1 : Heap) (f : FuncId) (args : List Value) (loud : Bool) : Option (Frm × Heap × Reads × List Heap) :=
 match loud with
 | true => dCall q l p ih fr (rec (.call f args) h1)
 | false => none
noncomputable def dNext (rec : Rec) (q : Nat) (l : List Oper) (p : Oper) (ih : ThenD) (fr : Frm) (h : Heap) (n : AN) (h1 : Heap) : Option (Frm × Heap × Reads × List Heap) :=
 match n with
 | .val v => dVal q l p ih fr h h1 v (isLoud p)
 | .skip => dSkip q l p ih fr h1 (isLoud p)
 | .call f args => dCallL rec q l p ih fr h1 f args (isLoud p)
 | _ => none
noncomputable def dGo (P : Program) (G : Nat) (rec : Rec) (cal : FuncId → List Value → Option Value) (ex pu : List Nat) (q : Nat) (p : Oper) (l : List Oper) (ih : ThenD) (fr : Frm) (h : Heap) (w : Option Bool) : Option (Frm × Heap × Reads × List Heap) :=
 match w with
 | none => none
 | some false => dPut p.dst ih fr h undef
 | some true =>
  if exempt pu p then dQuiet p ih fr h (quietV P (aevE G fr) cal p)
  else if exempt ex p then dEx P G p ih fr h
  else aopK P (aevE G fr) p h (dNext rec q l p ih fr h)
noncomputable def evDrawF (P : Program) (G : Nat) (rec : Rec) (cal : FuncId → List Value → Option Value) (ops : List Oper) (ex pu : List Nat) (q : Nat) (l : List Oper) : ThenD :=
 List.rec (motive := fun _ => ThenD) (fun fr h => some (fr, h, [], [])) (fun p l ih fr h => dGo P G rec cal ex pu q p l ih fr h (awanted ops.toArray fr p)) l
theorem evDrawF_eq (P : Program) (G : Nat) (rec : Rec) (cal : FuncId → List Value → Option Value) (ops : List Oper) (ex pu : List Nat) (q : Nat) : ∀ l, evDrawF P G rec cal ops ex pu q l = evDraw P G rec cal ops ex pu q l
 | [] => rfl
 | p :: l => by
  funext fr h
  have e : evDrawF P G rec cal ops ex pu q (p :: l) fr h = dGo P G rec cal ex pu q p l (evDrawF P G rec cal ops ex pu q l) fr h (awanted ops.toArray fr p) := rfl
  rw [e, evDrawF_eq P G rec cal ops ex pu q l, evDraw]
  cases awanted ops.toArray fr p with
  | none => rfl
  | some b =>
   cases b with
   | false => rfl
   | true =>
    simp only [dGo]
    split
    ·cases quietV P (aevE G fr) cal p <;> rfl
    ·split
     ·unfold dEx
      split
      ·rename_i t a _
       cases aevE G fr a with
       | none => rfl
       | some r => simp only [dLoad]; cases aload P h t r <;> rfl
      ·rfl
     ·congr 1
def quietStat (P : Program) (fl : FuncId → Bool) (o : Oper) : Bool :=
 match o.op with
 | .binOp _ t _ _ _ => match P.underlying t with | some (.pointer _) | some (.interface _) | none => false | some _ => isReader o
 | .convert s d _ =>
  match P.underlying s, P.underlying d with
  | some .string, some (.slice _) => false
  | some (.slice _), some .string => false
  | _, _ => true
 | .call c => match c.callee with
  | .value (.func g) => fl g
  | .builtin .len => match c.argTypes.toList with
   | [t] => match P.underlying t with | some .string | some (.slice _) => true | _ => false
   | _ => false
  | _ => false
 | _ => false
def slotsOf (p : Oper → Bool) (l : List Oper) : List Nat := l.filterMap fun o => if p o then o.dst else none
def isLoadO (o : Oper) : Bool := match o.op with | .load .. => true | _ => false
def loose (ms : List Nat) (pu : List Nat) (l : List (Nat × Oper)) (j : Nat) : Bool := l.any fun p => loudX pu p.2 && decide (p.1 ≠ j) && !(ms.getD j 0).testBit p.1 && !(ms.getD p.1 0).testBit j
def looseL (ms : List Nat) (pu : List Nat) (all : List (Nat × Oper)) : List (Nat × Oper) → List Nat
 | [] => []
 | p :: l => if isLoadO p.2 && loose ms pu all p.1 then (match p.2.dst with | some d => d :: looseL ms pu all l | none => looseL ms pu all l) else looseL ms pu all l
def tailQ (ms : List Nat) (pu : List Nat) (rs : List Nat) : List (Nat × Oper) → Nat
 | [] => 0
 | p :: l => if loudX pu p.2 && rs.any (fun i => !(ms.getD p.1 0).testBit i) then 0 else tailQ ms pu rs l + 1
def qOf (ms : List Nat) (ex pu : List Nat) (ps : List (Nat × Oper)) : Nat := match ex with | [] => 0 | _ :: _ => tailQ ms pu ((ps.filter fun p => exempt ex p.2).map (·.1)) ps.reverse
def planOf (P : Program) (fl : FuncId → Bool) (ops : List Oper) : Option (List Nat × List Nat × Nat) :=
 let pu := slotsOf (quietStat P fl) ops
 let ms := masks [] ops
 let ps := pairs ops 0
 let ex := looseL ms pu ps ps
 let q := qOf ms ex pu ps
 if drawable ops ex pu q then some (ex, pu, q) else none
def exF (ops : List Oper) : List Nat :=
 let ms := masks [] ops
 let ps := pairs ops 0
 let fs := (ps.filter fun p => isFill p.2).map (·.1)
 (ps.filter fun p => (match p.2.op with | .load .. => true | .call _ => isReader p.2 | _ => false) && fs.any fun i => !(ms.getD p.1 0).testBit i).filterMap fun p => p.2.dst
noncomputable def evF (P : Program) (G : Nat) (ops : List Oper) (fr : Frm) (u : Option FrameMode) (h : Heap) : Option (Out × Heap) :=
 match (if drawableF ops (exF ops) = true then runDF P G ops.toArray h.next (exF ops) ops fr h else none) with
 | some (fr1, h1) => some (.x .normal fr1 u, h1)
 | none => none
noncomputable def evCode (P : Program) (G : Nat) (fl : FuncId → Bool) (rec : Rec) (cal : FuncId → List Value → Option Value) (c : Code) (fr : Frm) (u : Option FrameMode) (h : Heap) : Option (Out × Heap) :=
 match c with
 | .skip => some (.x .normal fr u, h)
 | .label _ => some (.x .normal fr u, h)
 | .exit id => some (.x (.exit id) fr u, h)
 | .goto l => some (.x (.goto l) fr u, h)
 | .ret => some (.x .ret fr u, h)
 | .seq a b =>
  match rec (.code a fr u) h with
  | some (.x e fr1 u1, h1) =>
   match e with
   | .normal => rec (.code b fr1 u1) h1
   | e => some (.x e fr1 u1, h1)
  | _ => none
 | .cond c a b =>
  match aevE G fr c with
  | some (.bool t) => match t with | true => rec (.code a fr u) h | false => rec (.code b fr u) h
  | _ => none
 | .block id c =>
  match rec (.code c fr u) h with
  | some (.x e fr1 u1, h1) => some (.x (blockExit id e) fr1 u1, h1)
  | _ => none
 | .loop c =>
  match rec (.code c fr u) h with
  | some (.x e fr1 u1, h1) =>
   match e with
   | .normal => rec (.code (.loop c) fr1 u1) h1
   | e => some (.x e fr1 u1, h1)
  | _ => none
 | .region _ ops d =>
  match d with
  | false => evOps P G rec ops ops.toList fr u h
  | true =>
   if P.follows .mixedOrders then
    match planOf P fl ops.toList with
    | some (ex, pu, q) =>
     match evDrawF P G rec cal ops.toList ex pu q ops.toList fr h with
     | some (fr1, h1, R, hs) => if readsAll P R h hs then some (.x .normal fr1 u, h1) else none
     | none => none
    | none => evF P G ops.toList fr u h
   else none
 | .scope c => rec (.scope c c fr u) h
 | _ => none
noncomputable def evLeave (P : Program) (rec : Rec) (fn : Func) (fr : Frm) : List Deferred → FrameMode → Heap → Option (Out × Heap)
 | [], u, h =>
  match u with
  | .returning => (ares P fn fr h).bind fun v => some (.ends (.returned v), h)
  | .panicking c => some (.ends (.panicked c), h)
  | _ => none
 | d :: ds, u, h =>
  match u with
  | .run => none
  | u =>
   match d.target with
   | .fn (.func g) cap =>
    if canEnter P g then
     match rec (.callD g (d.args.toList ++ cap.toList) u) h with
     | some (.endsD e u1, h1) =>
      match afterD e u1 with
      | some u2 => evLeave P rec fn fr ds u2 h1
      | none => none
     | _ => none
    else none
   | _ => none
noncomputable def evBody (P : Program) (rec : Rec) (f : FuncId) (args : List Value) (h : Heap) : Option (Out × Heap) :=
 match P.funcs[f]? with
 | none => none
 | some fn =>
  match fn.body with
  | none => none
  | some c =>
   match rec (.code c (enterF fn args) none) h with
   | some (.x e fr1 none, h1) =>
    match modeOf e with
    | some u => evLeave P rec fn fr1 fr1.defers u h1
    | none => none
   | _ => none
abbrev Known := FuncId → List Value → Heap → Option (Value × Heap)
noncomputable def evFlat (P : Program) (hB : Heap) (X : Known) (rec : Rec) (f : FuncId) (args : List Value) : Option Value :=
 if args.all flat then
  match X f args hB with
  | some (v, _) => if flat v then some v else none
  | none =>
   match evBody P rec f args hB with
   | some (.ends (.returned v), _) => if flat v then some v else none
   | _ => none
 else none
noncomputable def evTask (P : Program) (G : Nat) (hB : Heap) (fl : FuncId → Bool) (X : Known) (rec : Rec) (t : Task) (h : Heap) : Option (Out × Heap) :=
 match t with
 | .code c fr u => evCode P G fl rec (evFlat P hB X rec) c fr u h
 | .scope body cur fr u =>
  match rec (.code cur fr u) h with
  | some (.x e fr1 u1, h1) =>
   match e with
   | .goto l =>
    match findLabel body l with
    | some rest => rec (.scope body rest fr1 u1) h1
    | none => some (.x (.goto l) fr1 u1, h1)
   | e => some (.x e fr1 u1, h1)
  | _ => none
 | .call f args =>
  if fl f then
   match evFlat P hB X rec f args with
   | some v => some (.ends (.returned v), h)
   | none => none
  else
   match X f args h with
   | some (v, h1) => some (.ends (.returned v), h1)
   | none => evBody P rec f args h
 | .callD f args u =>
  match P.funcs[f]? with
  | none => none
  | some fn =>
   match fn.body with
   | none => none
   | some c =>
    match rec (.code c (enterF fn args) (some u)) h with
    | some (.x e fr1 (some u1), h1) =>
     match fr1.defers with
     | [] =>
      match e with
      | .normal => (ares P fn fr1 h1).bind fun v => some (.endsD (.returned v) u1, h1)
      | .ret => (ares P fn fr1 h1).bind fun v => some (.endsD (.returned v) u1, h1)
      | .panic ch => some (.endsD (.panicked ch) u1, h1)
      | _ => none
     | _ => none
    | _ => none
 | _ => none
noncomputable def ev (P : Program) (G : Nat) (hB : Heap) (fl : FuncId → Bool) (X : Known) : Nat → Rec
 | 0 => fun _ _ => none
 | n + 1 => fun t h => evTask P G hB fl X (ev P G hB fl X n) t h
section
variable {P : Program} {G : Nat} {hB : Heap} {Ext : FuncId → List Value → Heap → Value → Heap → Prop}
def Good (P : Program) (G : Nat) (Ext : FuncId → List Value → Heap → Value → Heap → Prop) (rec : Rec) : Prop := ∀ t h o h', rec t h = some (o, h') → Big P G Ext t h o h'
def FlatOk (P : Program) (G : Nat) (hB : Heap) (Ext : FuncId → List Value → Heap → Value → Heap → Prop) : Prop :=
 ∀ f args v h0, Big P G Ext (.call f args) hB (.ends (.returned v)) h0 → args.all flat = true → flat v = true → ∀ h, Ext f args h v h
theorem flatOk (B : Base P G) : FlatOk P G B.hB (GoodE P B) := fun _ _ _ _ b ha hv h => GoodE.ofFlat (flatC_of (by simpa using ha) hv b) h
def KnownOk (P : Program) (G : Nat) (Ext : FuncId → List Value → Heap → Value → Heap → Prop) (X : Known) : Prop := ∀ f args h v h', X f args h = some (v, h') → Big P G Ext (.call f args) h (.ends (.returned v)) h'
def CalOk (P : Program) (G : Nat) (Ext : FuncId → List Value → Heap → Value → Heap → Prop) (cal : FuncId → List Value → Option Value) : Prop := ∀ f args v, cal f args = some v → ∀ h, Big P G Ext (.call f args) h (.ends (.returned v)) h
theorem evOps_sound {rec : Rec} (hrec : Good P G Ext rec) {ops : Array Oper} : ∀ (l : List Oper) (k : Nat) (fr : Frm) (u : Option FrameMode) (h : Heap) (o : Out) (h' : Heap), (∀ j p, l[j]? = some p → ops[k + j]? = some p) →
  evOps P G rec ops l fr u h = some (o, h') → Big P G Ext (.ops ops (List.range' k l.length) fr u) h o h'
 | [], k, fr, u, h, o, h', _, e => by
  simp only [evOps_nil, Option.some.injEq, Prod.mk.injEq] at e
  obtain ⟨rfl, rfl⟩ := e
  exact .opsNil
 | p :: l, k, fr, u, h, o, h', hl, e => by
  have hk : ops[k]? = some p := by simpa using hl 0 p rfl
  have hl' : ∀ j q, l[j]? = some q → ops[(k + 1) + j]? = some q := fun j q hq => by have := hl (j + 1) q (by simpa using hq); rwa [show k + (j + 1) = k + 1 + j by omega] at this
  simp only [List.length_cons, List.range'_succ]
  rw [evOps_cons] at e
  unfold opGo opPut at e
  split at e
  ·cases e
  ·rename_i ht
   rw [putK_eq] at e
   obtain ⟨fr1, hp, e⟩ := ob e
   exact .opsUnwanted hk ht hp (evOps_sound hrec l (k + 1) _ _ _ _ _ hl' e)
  ·rename_i ht
   rw [aopK_eq, aevE_eq] at e
   obtain ⟨⟨r, h1⟩, ha, e⟩ := ob e
   replace ha := aopE_aop ha
   simp only [] at e
   unfold opNext opPut at e
   split at e
   ·rw [putK_eq] at e
    obtain ⟨fr1, hp, e⟩ := ob e
    exact .opsVal hk ht ha hp (evOps_sound hrec l (k + 1) _ _ _ _ _ hl' e)
   ·rw [putK_eq] at e
    obtain ⟨fr1, hp, e⟩ := ob e
    exact .opsSkip hk ht ha hp (evOps_sound hrec l (k + 1) _ _ _ _ _ hl' e)
   ·unfold opCall at e
    split at e
    ·rename_i v h2 hc
     rw [putK_eq] at e
     obtain ⟨fr1, hp, e⟩ := ob e
     exact .opsCall hk ht ha (hrec _ _ _ _ hc) hp (evOps_sound hrec l (k + 1) _ _ _ _ _ hl' e)
    ·rename_i c h2 hc
     cases e
     exact .opsCallPanic hk ht ha (hrec _ _ _ _ hc)
    ·cases e
   ·rw [putK_eq] at e
    obtain ⟨fr1, hp, e⟩ := ob e
    exact .opsDefer hk ht ha hp (evOps_sound hrec l (k + 1) _ _ _ _ _ hl' e)
   ·cases e
    exact .opsPanic hk ht ha
   ·unfold opRec at e
    split at e
    ·rw [putK_eq] at e
     obtain ⟨fr1, hp, e⟩ := ob e
     exact .opsRecover hk ht ha hp (evOps_sound hrec l (k + 1) _ _ _ _ _ hl' e)
    ·rw [putK_eq] at e
     obtain ⟨fr1, hp, e⟩ := ob e
     exact .opsRecoverNot hk ht ha hp (evOps_sound hrec l (k + 1) _ _ _ _ _ hl' e)
    ·cases e
theorem quietV_sound {cal : FuncId → List Value → Option Value} (hcal : CalOk P G Ext cal) {ops : List Oper} {fr : Frm} {p : Oper} {v : Value} (hw : awanted ops.toArray fr p = some true) (e : quietV P (aev G fr) cal p = some v) (h : Heap) : St P G Ext ops p fr h v h := by
 obtain ⟨dst, op, type, pos, after, guard⟩ := p
 cases op <;> simp only [quietV] at e <;> try (cases e; done)
 case binOp op t x y z =>
  obtain ⟨a, ha, e⟩ := ob e
  obtain ⟨b, hb, e⟩ := ob e
  refine .val hw ?_
  simp only [aop, ha, hb, Option.bind_some, binA_some e]
 case convert s d x =>
  obtain ⟨a, ha, e⟩ := ob e
  refine .val hw ?_
  simp only [aop, ha, Option.bind_some, e]
 case call c =>
  obtain ⟨callee, args, ats⟩ := c
  cases callee with
  | invoke r s => cases e
  | value f =>
   obtain ⟨fv, hf, e⟩ := ob e
   obtain ⟨q, hq, e⟩ := ob e
   obtain ⟨g, hg, e⟩ := ob e
   obtain ⟨zs, hz, e⟩ := ob e
   split at e
   ·rename_i hc
    refine .call hw ?_ (hcal _ _ _ e h)
    simp only [aop]
    rw [hf, Option.bind_some, hq, Option.bind_some, hg, Option.bind_some, hz, Option.bind_some, if_pos hc]
   ·cases e
  | builtin b =>
   cases b <;> simp only [] at e <;> try (cases e; done)
   split at e
   ·rename_i t ht
    obtain ⟨zs, hz, e⟩ := ob e
    split at e
    ·rename_i x
     refine .val hw ?_
     simp only [aop, hz, Option.bind_some, ht, abuiltin, alenQ_alen e h]
    ·cases e
   ·cases e
theorem evDraw_sound {rec : Rec} (hrec : Good P G Ext rec) {cal : FuncId → List Value → Option Value} (hcal : CalOk P G Ext cal) {ops : List Oper} {ex pu : List Nat} {q : Nat} : ∀ (l : List Oper) (fr : Frm) (h : Heap) (fr' : Frm) (h' : Heap) (R : Reads) (hs : List Heap),
  evDraw P G rec cal ops ex pu q l fr h = some (fr', h', R, hs) → ∀ K : Heap → Prop, (∀ r ∈ R, ∀ H, K H → aload P H r.1 r.2.1 = some r.2.2) → (∀ H ∈ hs, K H) → (q ≤ l.length → K h) → Trd P G Ext ops ex pu q K l fr h fr' h'
 | [], fr, h, fr', h', R, hs, e, K, _, _, _ => by
  simp only [evDraw, Option.some.injEq, Prod.mk.injEq] at e
  obtain ⟨rfl, rfl, _⟩ := e
  exact .nil
 | p :: l, fr, h, fr', h', R, hs, e, K, hR, hhs, hK0 => by
  have hK : q ≤ l.length → K h := fun hl => hK0 (Nat.le_trans hl (by simp))
  rw [evDraw] at e
  split at e
  ·cases e
  ·rename_i ht
   rw [putK_eq] at e
   obtain ⟨fr1, hp, e⟩ := ob e
   exact .step (.unwanted ht) (fun _ => rfl) (fun _ _ => .unwanted ht) (fun _ _ _ _ _ => .unwanted ht) hK hp (evDraw_sound hrec hcal l _ _ _ _ _ _ e K hR hhs hK)
  ·rename_i ht
   split at e
   ·rename_i hpu
    rw [aevE_eq] at e
    split at e
    ·cases e
    ·rename_i v hv
     rw [forceS_eq, putK_eq] at e
     obtain ⟨fr1, hp, e⟩ := ob e
     have hs := quietV_sound hcal ht hv
     exact .step (hs h) (fun _ => rfl) (fun _ H => hs H) (fun _ _ _ H _ => hs H) hK hp (evDraw_sound hrec hcal l _ _ _ _ _ _ e K hR hhs hK)
   ·rename_i hnpu
    have hnpu' : exempt pu p = false := by simpa using hnpu
    have hno : exempt pu p = true → False := fun q => by rw [hnpu'] at q; cases q
    split at e
    ·rename_i hex
     split at e
     ·rename_i t a hop
      rw [aevE_eq] at e
      split at e
      ·cases e
      ·rename_i r0 hq
       split at e
       ·cases e
       ·rename_i v hv
        rw [forceV_eq, putK_eq] at e
        obtain ⟨fr1, hp, e⟩ := ob e
        split at e
        ·rename_i fr2 h2 R2 hs2 hr
         simp only [Option.some.injEq, Prod.mk.injEq] at e
         obtain ⟨rfl, rfl, rfl, rfl⟩ := e
         have hst : ∀ H, aload P H t r0 = some v → St P G Ext ops p fr H v H := fun H hH => by
          refine .val ht ?_
          unfold aop
          rw [hop]
          simp only [hq, hH, Option.bind_some]
         refine .step (hst h hv) (fun _ => rfl) (fun hpu => ?_) (fun _ _ _ H hH => hst H (hR (t, r0, v) (by simp) H hH)) hK hp (evDraw_sound hrec hcal l _ _ _ _ _ _ hr K (fun r hr => hR r (by simp [hr])) hhs hK)
         rcases hpu with hpu | hpu
         ·unfold isPure at hpu; rw [hop] at hpu; cases hpu
         ·exact (hno hpu).elim
        ·cases e
     ·cases e
    ·rename_i hnex
     have hnex' : exempt ex p = true → False := fun q => hnex q
     have hlx : ∀ b, isLoud p = b → loudX pu p = b := fun b hb => by unfold loudX; rw [hnpu', hb]; simp
     rw [aopK_eq, aevE_eq] at e
     obtain ⟨⟨r, h1⟩, ha, e⟩ := ob e
     have ha' := aopE_aop ha
     simp only [] at e
     split at e
     ·split at e
      ·rename_i hlo
       rw [putK_eq] at e
       obtain ⟨fr1, hp, e⟩ := ob e
       split at e
       ·rename_i fr2 h2 R2 hs2 hr
        simp only [Option.some.injEq, Prod.mk.injEq] at e
        obtain ⟨rfl, rfl, rfl, rfl⟩ := e
        refine .step (.val ht ha') (fun q => by rw [hlx _ hlo] at q; cases q) (fun hpu => ?_) (fun _ q => (hnex' q).elim) (fun hl => hhs _ (by unfold addH; rw [if_pos hl]; simp)) hp (evDraw_sound hrec hcal l _ _ _ _ _ _ hr K hR (fun H hH => hhs H (by unfold addH; split <;> simp [hH])) (fun hl => hhs _ (by unfold addH; rw [if_pos hl]; simp)))
        rcases hpu with hpu | hpu
        ·unfold isLoud at hlo; rw [hpu] at hlo; cases hlo
        ·exact (hno hpu).elim
       ·cases e
      ·rename_i hlo
       split at e
       ·rename_i hn
        rw [putK_eq] at e
        obtain ⟨fr1, hp, e⟩ := ob e
        have hh : h1 = h := aop_quiet_heap hlo ha' hn
        subst hh
        exact .step (.val ht ha') (fun _ => rfl) (fun hpu H => .val ht (aop_pure (hpu.resolve_right hno) ha')) (fun _ q => (hnex' q).elim) hK hp (evDraw_sound hrec hcal l _ _ _ _ _ _ e K hR hhs hK)
       ·cases e
     ·split at e
      ·rename_i hlo
       rw [putK_eq] at e
       obtain ⟨fr1, hp, e⟩ := ob e
       split at e
       ·rename_i fr2 h2 R2 hs2 hr
        simp only [Option.some.injEq, Prod.mk.injEq] at e
        obtain ⟨rfl, rfl, rfl, rfl⟩ := e
        refine .step (.skip ht ha') (fun q => by rw [hlx _ hlo] at q; cases q) (fun hpu => ?_) (fun _ q => (hnex' q).elim) (fun hl => hhs _ (by unfold addH; rw [if_pos hl]; simp)) hp (evDraw_sound hrec hcal l _ _ _ _ _ _ hr K hR (fun H hH => hhs H (by unfold addH; split <;> simp [hH])) (fun hl => hhs _ (by unfold addH; rw [if_pos hl]; simp)))
        rcases hpu with hpu | hpu
        ·unfold isLoud at hlo; rw [hpu] at hlo; cases hlo
        ·exact (hno hpu).elim
       ·cases e
      ·cases e
     ·split at e
      ·rename_i hlo
       split at e
       ·rename_i v h2 hc
        rw [putK_eq] at e
        obtain ⟨fr1, hp, e⟩ := ob e
        split at e
        ·rename_i fr2 h3 R2 hs2 hr
         simp only [Option.some.injEq, Prod.mk.injEq] at e
         obtain ⟨rfl, rfl, rfl, rfl⟩ := e
         refine .step (.call ht ha' (hrec _ _ _ _ hc)) (fun q => by rw [hlx _ hlo] at q; cases q) (fun hpu => ?_) (fun _ q => (hnex' q).elim) (fun hl => hhs _ (by unfold addH; rw [if_pos hl]; simp)) hp (evDraw_sound hrec hcal l _ _ _ _ _ _ hr K hR (fun H hH => hhs H (by unfold addH; split <;> simp [hH])) (fun hl => hhs _ (by unfold addH; rw [if_pos hl]; simp)))
         rcases hpu with hpu | hpu
         ·unfold isLoud at hlo; rw [hpu] at hlo; cases hlo
         ·exact (hno hpu).elim
        ·cases e
       ·cases e
      ·cases e
     ·cases e
theorem planOf_ok {fl : FuncId → Bool} {ops : List Oper} {ex pu : List Nat} {q : Nat} (e : planOf P fl ops = some (ex, pu, q)) : drawable ops ex pu q = true := by
 unfold planOf at e
 simp only at e
 split at e
 ·rename_i h
  simp only [Option.some.injEq, Prod.mk.injEq] at e
  obtain ⟨rfl, rfl, rfl⟩ := e
  exact h
 ·cases e
theorem readsOk_load {R : Reads} {H : Heap} (h : readsOk P R H = true) : ∀ r ∈ R, aload P H r.1 r.2.1 = some r.2.2 := by
 intro r hr
 have := List.all_eq_true.1 h r hr
 split at this
 ·rename_i v hv
  rw [hv, veq_eq _ _ _ this]
 ·cases this
theorem evCode_sound {fl : FuncId → Bool} {rec : Rec} (hrec : Good P G Ext rec) {cal : FuncId → List Value → Option Value} (hcal : CalOk P G Ext cal) {c : Code} {fr : Frm} {u : Option FrameMode} {h : Heap} {o : Out} {h' : Heap} (e : evCode P G fl rec cal c fr u h = some (o, h')) : Big P G Ext (.code c fr u) h o h' := by
 unfold evCode at e
 split at e
 ·cases e; exact .skip
 ·cases e; exact .label
 ·cases e; exact .exit
 ·cases e; exact .goto
 ·cases e; exact .ret
 ·rename_i a b
  split at e
  ·rename_i x fr1 u1 h1 ha
   split at e
   ·exact .seq (hrec _ _ _ _ ha) (hrec _ _ _ _ e)
   ·rename_i hne
    cases e
    exact .seqStop (hrec _ _ _ _ ha) hne
  ·cases e
 ·rename_i c a b
  split at e
  ·rename_i t hc
   rw [aevE_eq] at hc
   refine .cond hc ?_
   cases t
   ·exact hrec _ _ _ _ e
   ·exact hrec _ _ _ _ e
  ·cases e
 ·rename_i id c
  split at e
  ·rename_i x fr1 u1 h1 ha
   cases e
   exact .block (hrec _ _ _ _ ha)
  ·cases e
 ·rename_i c
  split at e
  ·rename_i x fr1 u1 h1 ha
   split at e
   ·exact .loop (hrec _ _ _ _ ha) (hrec _ _ _ _ e)
   ·rename_i hne
    cases e
    exact .loopStop (hrec _ _ _ _ ha) hne
  ·cases e
 ·rename_i id ops d
  split at e
  ·refine .region ?_
   have := evOps_sound hrec ops.toList 0 fr u h o h' (fun j p hj => by simpa using hj) e
   simpa [List.range_eq_range'] using this
  ·split at e
   ·rename_i hm
    split at e
    ·rename_i ex pu q hpl
     split at e
     ·rename_i fr1 h1 R hs hr
      split at e
      ·rename_i hok
       cases e
       have hK : ∃ K : Heap → Prop, (∀ r ∈ R, ∀ H, K H → aload P H r.1 r.2.1 = some r.2.2) ∧ (∀ H ∈ hs, K H) ∧ K h := by
        cases R with
        | nil => exact ⟨fun _ => True, by simp, by simp, trivial⟩
        | cons r R =>
         simp only [readsAll, Bool.and_eq_true] at hok
         exact ⟨fun H => readsOk P (r :: R) H = true, fun q hq H hH => readsOk_load hH q hq, by simpa using hok.2, hok.1⟩
       obtain ⟨K, k1, k2, k3⟩ := hK
       rw [evDrawF_eq] at hr
       have ht := evDraw_sound hrec hcal _ _ _ _ _ _ _ hr K k1 k2 (fun _ => k3)
       obtain ⟨e2, fr2, u2, h2, b, q9⟩ := Wp.drawT (P := P) (G := G) (Ext := Ext) (id := id) (u := u) (Q := fun x fr9 u9 h9 => x = Exit.normal ∧ fr9 = fr1 ∧ u9 = u ∧ h9 = h') ex pu q K hm (planOf_ok hpl) k3 ht ⟨rfl, rfl, rfl, rfl⟩
       obtain ⟨rfl, rfl, rfl, rfl⟩ := q9
       exact b
      ·cases e
     ·cases e
    ·unfold evF at e
     split at e
     ·rename_i fr1 h1 hr
      split at hr
      ·rename_i hd
       cases e
       obtain ⟨e2, fr2, u2, h2, b, q9⟩ := Wp.runF (P := P) (G := G) (Ext := Ext) (id := id) (u := u) (Q := fun x fr9 u9 h9 => x = Exit.normal ∧ fr9 = fr1 ∧ u9 = u ∧ h9 = h') (exF ops.toList) hm hd hr ⟨rfl, rfl, rfl, rfl⟩
       obtain ⟨rfl, rfl, rfl, rfl⟩ := q9
       exact b
      ·cases hr
     ·cases e
   ·cases e
 ·exact .scope (hrec _ _ _ _ e)
 ·cases e
theorem evLeave_sound {rec : Rec} (hrec : Good P G Ext rec) {fn : Func} {fr : Frm} : ∀ (ds : List Deferred) (u : FrameMode) (h : Heap) (o : Out) (h' : Heap), evLeave P rec fn fr ds u h = some (o, h') → Big P G Ext (.leave fn fr ds u) h o h'
 | [], u, h, o, h', e => by
  unfold evLeave at e
  split at e
  ·obtain ⟨v, hv, e⟩ := ob e
   cases e
   exact .leaveRet hv
  ·cases e; exact .leavePanic
  ·cases e
 | d :: ds, u, h, o, h', e => by
  unfold evLeave at e
  split at e
  ·cases e
  ·rename_i hne
   split at e
   ·rename_i g cap ht
    split at e
    ·rename_i hc
     split at e
     ·rename_i x u1 h1 hd
      split at e
      ·rename_i u2 ha
       exact .leaveCons hne ht hc (hrec _ _ _ _ hd) ha (evLeave_sound hrec ds _ _ _ _ e)
      ·cases e
     ·cases e
    ·cases e
   ·cases e
theorem evBody_sound {rec : Rec} (hrec : Good P G Ext rec) {f : FuncId} {args : List Value} {h : Heap} {o : Out} {h' : Heap} (e : evBody P rec f args h = some (o, h')) : Big P G Ext (.call f args) h o h' := by
 unfold evBody at e
 split at e
 ·cases e
 ·rename_i fn hf
  split at e
  ·cases e
  ·rename_i c hb
   split at e
   ·rename_i x fr1 h1 hc
    split at e
    ·rename_i u hm
     exact .call hf hb (hrec _ _ _ _ hc) hm (evLeave_sound hrec _ _ _ _ _ e)
    ·cases e
   ·cases e
theorem evFlat_sound {X : Known} (hX : KnownOk P G Ext X) (hF : FlatOk P G hB Ext) {rec : Rec} (hrec : Good P G Ext rec) : CalOk P G Ext (evFlat P hB X rec) := by
 intro f args v e h
 unfold evFlat at e
 split at e
 ·rename_i ha
  split at e
  ·rename_i v1 h0 hx
   split at e
   ·rename_i hv; cases e; exact .ext (hF _ _ _ _ (hX _ _ _ _ _ hx) ha hv h)
   ·cases e
  ·split at e
   ·rename_i v1 h0 hx
    split at e
    ·rename_i hv; cases e; exact .ext (hF _ _ _ _ (evBody_sound hrec hx) ha hv h)
    ·cases e
   ·cases e
 ·cases e
theorem evTask_sound {fl : FuncId → Bool} {X : Known} (hX : KnownOk P G Ext X) (hF : FlatOk P G hB Ext) {rec : Rec} (hrec : Good P G Ext rec) : Good P G Ext (evTask P G hB fl X rec) := by
 intro t h o h' e
 unfold evTask at e
 split at e
 ·exact evCode_sound hrec (evFlat_sound hX hF hrec) e
 ·rename_i body cur fr u
  split at e
  ·rename_i x fr1 u1 h1 hc
   split at e
   ·rename_i l
    split at e
    ·rename_i rest hl
     exact .scopeJump (hrec _ _ _ _ hc) hl (hrec _ _ _ _ e)
    ·rename_i hl
     cases e
     exact .scopeEnd (hrec _ _ _ _ hc) (fun l' hl' => by cases hl'; exact hl)
   ·rename_i hne
    cases e
    exact .scopeEnd (hrec _ _ _ _ hc) (fun l' hl' => (hne _ hl').elim)
  ·cases e
 ·rename_i f args
  split at e
  ·split at e
   ·rename_i v hv
    cases e
    exact evFlat_sound hX hF hrec _ _ _ hv h
   ·cases e
  ·split at e
   ·rename_i v h1 hv
    cases e
    exact hX _ _ _ _ _ hv
   ·exact evBody_sound hrec e
 ·rename_i f args u
  split at e
  ·cases e
  ·rename_i fn hf
   split at e
   ·cases e
   ·rename_i c hb
    split at e
    ·rename_i x fr1 u1 h1 hc
     split at e
     ·rename_i hd
      split at e
      ·obtain ⟨v, hv, e⟩ := ob e
       cases e
       exact .callD hf hb (hrec _ _ _ _ hc) rfl hd hv
      ·obtain ⟨v, hv, e⟩ := ob e
       cases e
       exact .callD hf hb (hrec _ _ _ _ hc) rfl hd hv
      ·cases e
       exact .callDPanic hf hb (hrec _ _ _ _ hc) hd
      ·cases e
     ·cases e
    ·cases e
 ·cases e
theorem ev_sound {fl : FuncId → Bool} {X : Known} (hX : KnownOk P G Ext X) (hF : FlatOk P G hB Ext) : ∀ n, Good P G Ext (ev P G hB fl X n)
 | 0 => fun _ _ _ _ e => by cases e
 | n + 1 => evTask_sound hX hF (ev_sound hX hF n)
end
end
section
def byteV (b : UInt8) : Value := .int .u8 b.toNat
noncomputable def flatly (P : Program) (X : Known) (n : Nat) (f : FuncId) (args : List Value) : Option Value :=
 match ev P 0 (heap0 0) (fun _ => false) X n (.call f args) (heap0 0) with
 | some (.ends (.returned v), _) => if flat v then some v else none
 | _ => none
theorem flatly_ok {P : Program} {X : Known} (hX : KnownOk P 0 (GoodE P (base0 P 0)) X) {n : Nat} {f : FuncId} {args : List Value} {v : Value} (ha : args.all flat = true) (e : flatly P X n f args = some v) : FlatC P (base0 P 0) f args v := by
 unfold flatly at e
 split at e
 ·rename_i u h0 hev
  split at e
  ·rename_i hf
   cases e
   exact flatC_of (B := base0 P 0) (by simpa using ha) hf (ev_sound hX (flatOk (base0 P 0)) n _ _ _ _ hev)
  ·cases e
 ·cases e
noncomputable def byteOk (P : Program) (X : Known) (f : FuncId) (g : UInt8 → Value) : Nat → Bool
 | 0 => true
 | n + 1 => (match flatly P X 200 f [.int .u8 n] with | some v => veq 20 v (g n.toUInt8) | none => false) && byteOk P X f g n
theorem byteOk_at {P : Program} {X : Known} {f : FuncId} {g : UInt8 → Value} : ∀ (n : Nat), byteOk P X f g n = true → ∀ k, k < n → flatly P X 200 f [.int .u8 k] = some (g k.toUInt8)
 | n + 1, h, k, hk => by
  simp only [byteOk, Bool.and_eq_true] at h
  rcases Nat.lt_or_ge k n with q | q
  ·exact byteOk_at n h.2 k q
  ·obtain rfl : k = n := by omega
   have h1 := h.1
   split at h1
   ·rename_i v hv; rw [hv, veq_eq _ _ _ h1]
   ·cases h1
theorem noKnown (P : Program) (G : Nat) (E : FuncId → List Value → Heap → Value → Heap → Prop) : KnownOk P G E fun _ _ _ => none := fun _ _ _ _ _ e => by cases e
theorem byteFn {P : Program} {X : Known} (hX : KnownOk P 0 (GoodE P (base0 P 0)) X) {f : FuncId} {g : UInt8 → Value} (e : byteOk P X f g 256 = true) {G : Nat} {B : Base P G} (b : UInt8) (h : Heap) :
  Does P G (GoodE P B) f [byteV b] h fun r h' => r = .returned (g b) ∧ h' = h := by
 refine (FlatC.any (flatly_ok (n := 200) hX rfl ?_)).does h
 have := byteOk_at 256 e b.toNat (by have := b.toNat_lt; omega)
 rwa [show b.toNat.toUInt8 = b from by simp] at this
end
end Go.Mini
