/-
  MINI, part Z: a call whose arguments and results name no memory: what it comes to from a bare heap it comes to from any.
-/
import Derived.Test.YtbcdlipddmoobaaMiniY
namespace Go.Mini

/-- A heap that tells of no more than the program's variables: it is told of each world of which W holds. -/
structure Base (P : Program) (G : Nat) where
  hB : Heap
  mB : Ren
  W : World → Prop
  rel : ∀ w, W w → HRel P ⟨G, w.heap.size, w⟩ mB hB w
  stay : ∀ w w', W w → w.heap.size ≤ w'.heap.size → (∀ b, b < w.heap.size → w'.heap[b]? = w.heap[b]?) → W w'

def base0 (P : Program) (G : Nat) : Base P G where
  hB := heap0 G
  mB := ren0
  W _ := True
  rel w _ := heap0_rel P G w
  stay _ _ _ _ _ := trivial

def StartOk {P : Program} {G : Nat} (B : Base P G) (S : Start) : Prop := S.G = G ∧ B.W S.w0 ∧ S.base = S.w0.heap.size

/-- What a call leaves that touches nothing that was there. -/
def Quiet (w w' : World) : Prop := w.heap.size ≤ w'.heap.size ∧ (∀ b, b < w.heap.size → w'.heap[b]? = w.heap[b]?) ∧ Mini.io w' = Mini.io w
theorem Quiet.refl (w : World) : Quiet w w := ⟨Nat.le_refl _, fun _ _ => rfl, rfl⟩

/-- A call whose arguments and result name no memory: what it hands back. -/
def FlatC (P : Program) {G : Nat} (B : Base P G) (f : FuncId) (args : List Value) (v : Value) : Prop :=
  (∀ x ∈ args, flat x = true) ∧ flat v = true ∧ ∀ w, B.W w → Calls P f args.toArray w fun e w' => e = .returned v ∧ Quiet w w'
/-- What the model's calls do, told of the abstract heap: whatever is so may be leant on. -/
def GoodE (P : Program) {G : Nat} (B : Base P G) : FuncId → List Value → Heap → Value → Heap → Prop := fun f args h v h' =>
  ∀ S, StartOk B S → ∀ m w, HRel P S m h w → (∀ x ∈ args, sc h.next x) → Calls P f (args.map (ren m)).toArray w (Ends P S m h h' (.returned v))
theorem goodE_ok {P : Program} {G : Nat} (B : Base P G) : ∀ S, StartOk B S → ExtOk P S (GoodE P B) := fun S hS _ _ _ _ _ he m w hr hs => he S hS m w hr hs

theorem HRel.later {P : Program} {S : Start} {m : Ren} {h : Heap} {w w' : World} (hr : HRel P S m h w) (hq : Quiet w w') : HRel P S m h w' where
  gle := hr.gle
  glob := hr.glob
  obj i o hg := (hr.obj i o hg).keep (Ren.agree_refl _ _) (Heap.lt_of_get hg) (Nat.le_refl _) fun x hx => by rw [hq.2.1 _ (lt_of_some hx)]; exact hx
  apart := hr.apart
  frame b hlt := by rw [hq.2.1 b (by have := hr.size; omega)]; exact hr.frame b hlt
  size := by have := hr.size; have := hq.1; omega
  io := hq.2.2.trans hr.io

theorem HRel.W {P : Program} {G : Nat} {B : Base P G} {S : Start} (hS : StartOk B S) {m : Ren} {h : Heap} {w : World} (hr : HRel P S m h w) : B.W w :=
  B.stay S.w0 w hS.2.1 (by have := hr.size; have := hS.2.2; omega) fun b hlt => hr.frame b (by have := hS.2.2; omega)
theorem map_flat {m : Ren} {args : List Value} (ha : ∀ x ∈ args, flat x = true) : args.map (ren m) = args := by
  have : args.map (ren m) = args.map id := List.map_congr_left fun x hx => ren_flat _ x (ha x hx)
  simpa using this
theorem GoodE.ofFlat {P : Program} {G : Nat} {B : Base P G} {f : FuncId} {args : List Value} {v : Value} (hc : FlatC P B f args v) (h : Heap) : GoodE P B f args h v h := by
  intro S hS m w hr _
  rw [map_flat hc.1]
  refine (hc.2.2 w (hr.W hS)).mono ?_
  rintro e w' ⟨rfl, hq⟩
  exact ⟨m, Ren.agree_refl _ _, Nat.le_refl _, hr.later hq, by simp [renN, ren_flat _ v hc.2.1], sc_flat _ v hc.2.1⟩

/-- What the relation tells of a call from a bare heap. -/
theorem flatC_of {P : Program} {G : Nat} {B : Base P G} {f : FuncId} {args : List Value} {v : Value} {h0 : Heap} (ha : ∀ x ∈ args, flat x = true) (hv : flat v = true) (hb : Big P G (GoodE P B) (.call f args) B.hB (.ends (.returned v)) h0) :
    FlatC P B f args v := by
  refine ⟨ha, hv, fun w hw => ?_⟩
  have hs := (big_sound (S := ⟨G, w.heap.size, w⟩) (goodE_ok B _ ⟨rfl, hw, rfl⟩) hb).1 B.mB w (B.rel w hw) (fun x hx => sc_flat _ x (ha x hx))
  rw [map_flat ha] at hs
  refine hs.mono ?_
  rintro e w' ⟨m', _, _, h3, rfl, _⟩
  exact ⟨by simp [renN, ren_flat _ v hv], by have := h3.size; simpa using this, fun b hlt => h3.frame b hlt, h3.io⟩
theorem FlatC.does {P : Program} {G : Nat} {B : Base P G} {f : FuncId} {args : List Value} {v : Value} (hc : FlatC P B f args v) (h : Heap) : Does P G (GoodE P B) f args h fun e h' => e = .returned v ∧ h' = h :=
  ⟨_, h, .ext (GoodE.ofFlat hc h), rfl, rfl⟩
theorem Does.fromBare {P : Program} {G : Nat} {B : Base P G} {f : FuncId} {args : List Value} {v : Value} (ha : ∀ x ∈ args, flat x = true) (hv : flat v = true) (hd : Does P G (GoodE P B) f args B.hB fun e _ => e = .returned v) (h : Heap) :
    Does P G (GoodE P B) f args h fun e h' => e = .returned v ∧ h' = h := by
  obtain ⟨e, h0, b, rfl⟩ := hd
  exact (flatC_of ha hv b).does h
/-- What is told of a call of the model's. -/
theorem Does.ofCalls {P : Program} {G : Nat} {B : Base P G} {f : FuncId} {args : List Value} {v : Value} (ha : ∀ x ∈ args, flat x = true) (hv : flat v = true) (hc : ∀ w, B.W w → Calls P f args.toArray w fun e w' => e = .returned v ∧ w' = w) (h : Heap) :
    Does P G (GoodE P B) f args h fun e h' => e = .returned v ∧ h' = h :=
  FlatC.does ⟨ha, hv, fun w hw => (hc w hw).mono fun e w' q => ⟨q.1, by rw [q.2]; exact Quiet.refl w⟩⟩ h
theorem FlatC.any {P : Program} {G : Nat} {B : Base P G} {f : FuncId} {args : List Value} {v : Value} (hc : FlatC P (base0 P 0) f args v) : FlatC P B f args v := ⟨hc.1, hc.2.1, fun w _ => hc.2.2 w trivial⟩
/-- What the relation tells, of any start. -/
theorem GoodE.of {P : Program} {G : Nat} {B : Base P G} {f : FuncId} {args : List Value} {h h' : Heap} {v : Value} (hb : Big P G (GoodE P B) (.call f args) h (.ends (.returned v)) h') : GoodE P B f args h v h' := by
  rintro S ⟨rfl, hS⟩ m w hr hs
  exact (big_sound (goodE_ok B S ⟨rfl, hS⟩) hb).1 m w hr hs

/-- What a call made is one row, of which nothing points anywhere: so the heap may be told as it was, and that row. -/
theorem HRel.gather {P : Program} {S : Start} {m m' : Ren} {h h' : Heap} {w w' : World} (hr : HRel P S m h w) (hr' : HRel P S m' h' w') (ha : m.agree h.next m') (hm : ∀ j, j < h.next → h'.get j = h.get j) {b : Nat} {r : Row} (hb : h.next ≤ b)
    (hg : h'.get b = some (.row r)) (hf : ∀ v ∈ r.vs, flat v = true) : HRel P S (m.put h.next (m'.blk b) (m'.sh b) (m'.ext b)) (h.alloc (.row r)) w' where
  gle := by have := hr.gle; simp; omega
  glob i hi := by
    have := hr.gle
    have e1 := hr.glob i hi
    simp [Ren.put, show ¬ i = h.next by omega, e1]
  obj i p hp := by
    rw [Heap.get_alloc] at hp
    split at hp
    · rename_i e
      subst e
      cases hp
      obtain ⟨_, c, fz, h1, h2, h3, h4, h5, h6, h7, h8⟩ := hr'.obj b _ hg
      refine ⟨fun v hv => sc_flat _ v (hf v hv), c, fz, by rw [Ren.put_blk]; exact h1, by rw [Ren.put_sh, Ren.put_ext]; exact h2, ?_, by rw [Ren.put_blk]; exact h4, by rw [Ren.put_blk]; exact h5, h6, h7, by rw [Ren.put_ext]; exact h8⟩
      intro k v hk
      rw [Ren.put_sh, h3 k v hk, ren_flat _ v (hf v (List.mem_of_getElem? hk)), ren_flat _ v (hf v (List.mem_of_getElem? hk))]
    · have hlt := Heap.lt_of_get hp
      have h0 := hr.obj i p hp
      have h1 := hr'.obj i p (by rw [hm i hlt]; exact hp)
      obtain ⟨e1, e2, e3⟩ := ha i hlt
      have hag : m.agree h.next (m.put h.next (m'.blk b) (m'.sh b) (m'.ext b)) := Ren.agree_put m _ _ _ _ _ (Nat.le_refl _)
      obtain ⟨q1, q2, q3⟩ := hag i hlt
      cases p with
      | dead => trivial
      | row r2 =>
        obtain ⟨s1, _⟩ := h0
        obtain ⟨_, c, fz, b1, b2, b3, b4, b5, b6, b7, b8⟩ := h1
        refine ⟨fun v hv => sc_mono (by simp) v (s1 v hv), c, fz, by rw [← q1, e1]; exact b1, by rw [← q2, ← q3, e2, e3]; exact b2, ?_, by rw [← q1, e1]; exact b4, by rw [← q1, e1]; exact b5, b6, b7, by rw [← q3, e3]; exact b8⟩
        intro k v hk
        have hs := s1 v (List.mem_of_getElem? hk)
        rw [← q2, ← ren_congr hag v hs, e2, b3 k v hk, ren_congr ha v hs]
      | map es clock =>
        obtain ⟨s1, _⟩ := h0
        obtain ⟨_, b1, b2⟩ := h1
        refine ⟨fun e he => ⟨sc_mono (by simp) _ (s1 e he).1, sc_mono (by simp) _ (s1 e he).2⟩, ?_, by rw [← q1, e1]; exact b2⟩
        have : es.map (renE (m.put h.next (m'.blk b) (m'.sh b) (m'.ext b))) = es.map (renE m') := List.map_congr_left fun e he => by rw [← renE_congr hag (s1 e he), renE_congr ha (s1 e he)]
        rw [← q1, e1, this]; exact b1
      | iter s pos =>
        obtain ⟨b1, b2⟩ := h1
        exact ⟨by rw [← q1, e1]; exact b1, by rw [← q1, e1]; exact b2⟩
  apart i j p q hij hp hq hpo hqo := by
    have key : ∀ i p, (h.alloc (.row r)).get i = some p → p.own = true → ∃ i', h'.get i' = some p ∧ (m.put h.next (m'.blk b) (m'.sh b) (m'.ext b)).blk i = m'.blk i' ∧ (i = h.next ∧ i' = b ∨ i < h.next ∧ i' = i) := by
      intro i p hp _
      rw [Heap.get_alloc] at hp
      split at hp
      · rename_i e; subst e; cases hp; exact ⟨b, hg, Ren.put_blk _ _ _ _ _, .inl ⟨rfl, rfl⟩⟩
      · have hlt := Heap.lt_of_get hp
        exact ⟨i, by rw [hm i hlt]; exact hp, by rw [← (Ren.agree_put m _ _ _ _ _ (Nat.le_refl _) i hlt).1]; exact (ha i hlt).1, .inr ⟨hlt, rfl⟩⟩
    obtain ⟨i', a1, a2, a3⟩ := key i p hp hpo
    obtain ⟨j', b1, b2, b3⟩ := key j q hq hqo
    rw [a2, b2]
    exact hr'.apart i' j' p q (by omega) a1 b1 hpo hqo
  frame := hr'.frame
  size := hr'.size
  io := hr'.io

/-- What a call made is forgotten. -/
theorem HRel.forget {P : Program} {S : Start} {m m' : Ren} {h h' : Heap} {w w' : World} (hr : HRel P S m h w) (hr' : HRel P S m' h' w') (ha : m.agree h.next m') (hm : ∀ j, j < h.next → h'.get j = h.get j) : HRel P S m h w' where
  gle := hr.gle
  glob := hr.glob
  obj i p hp := by
    have hlt := Heap.lt_of_get hp
    have h0 := hr.obj i p hp
    have h1 := hr'.obj i p (by rw [hm i hlt]; exact hp)
    obtain ⟨e1, e2, e3⟩ := ha i hlt
    cases p with
    | dead => trivial
    | row r2 =>
      obtain ⟨s1, _⟩ := h0
      obtain ⟨_, c, fz, b1, b2, b3, b4, b5, b6, b7, b8⟩ := h1
      refine ⟨s1, c, fz, by rw [e1]; exact b1, by rw [e2, e3]; exact b2, ?_, by rw [e1]; exact b4, by rw [e1]; exact b5, b6, b7, by rw [e3]; exact b8⟩
      intro k v hk
      rw [e2, b3 k v hk, ren_congr ha v (s1 v (List.mem_of_getElem? hk))]
    | map es clock =>
      obtain ⟨s1, _⟩ := h0
      obtain ⟨_, b1, b2⟩ := h1
      refine ⟨s1, ?_, by rw [e1]; exact b2⟩
      have : es.map (renE m) = es.map (renE m') := List.map_congr_left fun e he => renE_congr ha (s1 e he)
      rw [e1, this]; exact b1
    | iter s pos =>
      obtain ⟨b1, b2⟩ := h1
      exact ⟨by rw [e1]; exact b1, by rw [e1]; exact b2⟩
  apart i j p q hij hp hq hpo hqo := by
    have l1 := Heap.lt_of_get hp
    have l2 := Heap.lt_of_get hq
    rw [(ha i l1).1, (ha j l2).1]
    exact hr'.apart i j p q hij (by rw [hm i l1]; exact hp) (by rw [hm j l2]; exact hq) hpo hqo
  frame := hr'.frame
  size := hr'.size
  io := hr'.io
/-- A call that leaves nothing but its result, which names no memory. -/
theorem GoodE.forget {P : Program} {G : Nat} {B : Base P G} {f : FuncId} {args : List Value} {h h' : Heap} {v : Value} (hg : GoodE P B f args h v h') (hm : h.more h') (hv : flat v = true) : GoodE P B f args h v h := by
  intro S hS m w hr hs
  refine (hg S hS m w hr hs).mono ?_
  rintro e w' ⟨m', q1, _, q3, rfl, _⟩
  exact ⟨m, Ren.agree_refl _ _, Nat.le_refl _, hr.forget q3 q1 hm.2, by simp [renN, ren_flat _ v hv], sc_flat _ v hv⟩
/-- A call that leaves nothing but its result: a row that append made, of which nothing points anywhere, in a tuple with what is flat. -/
theorem GoodE.gather {P : Program} {G : Nat} {B : Base P G} {f : FuncId} {args : List Value} {h h' : Heap} {b n : Nat} {r : Row} {g : Value → Value} (hg : GoodE P B f args h (g (.slice (some ⟨b, 0, none⟩) n n)) h') (hm : h.more h') (hb : h.next ≤ b)
    (hrow : h'.get b = some (.row r)) (hf : ∀ v ∈ r.vs, flat v = true) (hren : ∀ m x, ren m (g x) = g (ren m x)) (hsc : ∀ k x, sc k x → sc k (g x)) : GoodE P B f args h (g (.slice (some ⟨h.next, 0, none⟩) n n)) (h.alloc (.row r)) := by
  intro S hS m w hr hs
  refine (hg S hS m w hr hs).mono ?_
  rintro e w' ⟨m', q1, _, q3, rfl, _⟩
  refine ⟨_, Ren.agree_put m _ _ _ _ _ (Nat.le_refl _), by simp, hr.gather q3 q1 hm.2 hb hrow hf, ?_, hsc _ _ (by simp [sc])⟩
  simp only [renN, hren, ren, Ren.put_blk, Ren.put_sh, Ren.put_ext, Nat.zero_add]
end Go.Mini
