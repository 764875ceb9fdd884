/-
  Parts MiniZL to MiniZM.
-/
import Derived.Test.YtomndnhkgfeiiaaGreatDoorMiniZFtoZK
section
/-
  MINI, part ZL: calls that read rows, kept: what is told of a small heap, put down at any heap that holds the like.
-/
namespace Go.Mini
set_option linter.unusedSimpArgs false

def putR (τ : List Nat) (n d i : Nat) : Nat := if i < n then (τ[i]?).getD 0 else d + (i - n)
def atR (τ : List Nat) (i : Nat) : Nat := (τ[i]?).getD 0
def pickR (m : Ren) (τ : List Nat) : Ren := ⟨fun i => m.blk (atR τ i), fun i => m.sh (atR τ i), fun i => m.ext (atR τ i)⟩
def seedR (m m' : Ren) (d n : Nat) : Ren :=
  ⟨fun i => if i < d then m.blk i else m'.blk (n + (i - d)), fun i => if i < d then m.sh i else m'.sh (n + (i - d)), fun i => if i < d then m.ext i else m'.ext (n + (i - d))⟩
theorem seedR_old {m m' : Ren} {d n i : Nat} (hi : i < d) : (seedR m m' d n).blk i = m.blk i ∧ (seedR m m' d n).sh i = m.sh i ∧ (seedR m m' d n).ext i = m.ext i := by simp [seedR, hi]
theorem seedR_new (m m' : Ren) (d n j : Nat) : (seedR m m' d n).blk (d + j) = m'.blk (n + j) ∧ (seedR m m' d n).sh (d + j) = m'.sh (n + j) ∧ (seedR m m' d n).ext (d + j) = m'.ext (n + j) := by
  simp [seedR, show ¬ d + j < d by omega]
theorem seedR_agree (m m' : Ren) (d n : Nat) : m.agree d (seedR m m' d n) := fun i hi => by obtain ⟨a, b, c⟩ := seedR_old (m := m) (m' := m') (n := n) hi; rw [a, b, c]; exact ⟨rfl, rfl, rfl⟩

section
variable {P : Program} {S : Start} {m m' : Ren} {h h' : Heap} {w w' : World} {τ : List Nat} {n : Nat}
theorem seed_via (hτ : ∀ i, i < n → atR τ i < h.next) (hag : (pickR m τ).agree n m') (k : Nat) : (seedR m m' h.next n).via (n + k) (putR τ n h.next) m' (fun i => i) := by
  intro i hi
  unfold putR
  by_cases h1 : i < n
  · rw [if_pos h1]
    obtain ⟨a1, a2, a3⟩ := hag i h1
    obtain ⟨c1, c2, c3⟩ := seedR_old (m := m) (m' := m') (n := n) (hτ i h1)
    exact ⟨c1.trans a1, c2.trans a2, c3.trans a3⟩
  · rw [if_neg h1]
    have := seedR_new m m' h.next n (i - n)
    rwa [show n + (i - n) = i by omega] at this
theorem putR_lt (hτ : ∀ i, i < n → atR τ i < h.next) (k : Nat) : ∀ i, i < n + k → putR τ n h.next i < h.next + k := by
  intro i hi
  unfold putR
  split
  · rename_i h1; have := hτ i h1; unfold atR at this; omega
  · omega
theorem HRel.seed (hG : S.G = 0) (hr : HRel P S m h w) (hr' : HRel P ⟨0, w.heap.size, w⟩ m' h' w') (hτ : ∀ i, i < n → atR τ i < h.next) (hag : (pickR m τ).agree n m') {objs : List AObj}
    (ho : ∀ (j : Nat) (o : AObj), objs[j]? = some o → h'.get (n + j) = some o ∧ scO (n + objs.length) o ∧ o.outer = false) :
    HRel P S (seedR m m' h.next n) (h.push (objs.map (mvO (putR τ n h.next)))) w' := by
  have hq : Quiet w w' := ⟨hr'.size, hr'.frame, hr'.io⟩
  have hr2 := hr.later hq
  have hvia := seed_via hτ hag objs.length
  have hnext : (h.push (objs.map (mvO (putR τ n h.next)))).next = h.next + objs.length := by rw [Heap.next_push]; simp
  have hlt := putR_lt (h := h) hτ objs.length
  have hrn : ∀ v, sc (n + objs.length) v → ren (seedR m m' h.next n) (mv (putR τ n h.next) v) = ren m' v := fun v hv => by
    rw [ren_mv hvia v hv, mv_id (fun _ _ => rfl) v hv]
  have hnew : ∀ i o, ¬ i < h.next → (h.push (objs.map (mvO (putR τ n h.next)))).get i = some o → ∃ j p, i = h.next + j ∧ objs[j]? = some p ∧ o = mvO (putR τ n h.next) p ∧ h'.get (n + j) = some p ∧ scO (n + objs.length) p ∧ p.outer = false := by
    intro i o hi hg
    rw [Heap.get_push, if_neg hi, List.getElem?_map] at hg
    obtain ⟨p, hp, rfl⟩ := Option.map_eq_some_iff.1 hg
    exact ⟨i - h.next, p, by omega, hp, rfl, ho _ _ hp⟩
  have hold : ∀ i o, i < h.next → (h.push (objs.map (mvO (putR τ n h.next)))).get i = some o → h.get i = some o := by
    intro i o hi hg
    rwa [Heap.get_push, if_pos hi] at hg
  refine ⟨by rw [hnext]; have := hr.gle; omega, ?_, ?_, ?_, hr2.frame, hr2.size, hr2.io⟩
  · intro i hi
    rw [hG] at hi
    exact absurd hi (Nat.not_lt_zero _)
  · intro i o hg
    rw [hnext]
    by_cases hi : i < h.next
    · exact (hr2.obj i o (hold i o hi hg)).keep (seedR_agree m m' _ n) hi (by omega) fun _ hx => hx
    · obtain ⟨j, p, rfl, hp, rfl, hgk, hsc, hout⟩ := hnew i o hi hg
      have h1 := hr'.obj _ _ hgk
      obtain ⟨c1, c2, c3⟩ := seedR_new m m' h.next n j
      have hbase := hr.size
      cases p with
      | dead => trivial
      | row r =>
        simp only [AObj.outer] at hout
        obtain ⟨_, c, fz, b1, b2, b3, b4, b5, b6, b7, b8⟩ := h1
        simp only [scO] at hsc
        refine ⟨?_, c, fz, by rw [c1]; exact b1, ?_, ?_, ?_, ?_, b6, b7, by rw [c3]; exact b8⟩
        · exact (scL_all _ _).1 (scL_mv hlt _ hsc)
        · rw [c2, c3]
          have e1 := mvL_length (putR τ n h.next) r.vs
          simp only [e1]
          exact b2
        · intro q v hq2
          simp only [mvL_map, List.getElem?_map] at hq2
          obtain ⟨u, hu, rfl⟩ := Option.map_eq_some_iff.1 hq2
          rw [c2, b3 q u hu, hrn u ((scL_all _ _).1 hsc u (List.mem_of_getElem? hu))]
        · intro _; have := b4 hout; simp only at this; rw [c1, c2]; exact ⟨by omega, this.2⟩
        · intro hx; simp only [hout] at hx; cases hx
      | map es clock =>
        obtain ⟨_, b1, b2⟩ := h1
        simp only [scO] at hsc
        refine ⟨?_, ?_, by rw [c1]; have : w.heap.size ≤ m'.blk (n + j) := b2; omega⟩
        · intro e he
          obtain ⟨e0, he0, rfl⟩ := List.mem_map.1 he
          exact ⟨sc_mv hlt _ (hsc e0 he0).1, sc_mv hlt _ (hsc e0 he0).2⟩
        · have : (es.map (mvE (putR τ n h.next))).map (renE (seedR m m' h.next n)) = es.map (renE m') := by
            rw [List.map_map]
            refine List.map_congr_left fun e he => ?_
            simp only [Function.comp, renE, mvE, hrn _ (hsc e he).1, hrn _ (hsc e he).2]
          rw [c1, this]; exact b1
      | iter s pos =>
        obtain ⟨b1, b2⟩ := h1
        exact ⟨by rw [c1]; exact b1, by rw [c1]; have : w.heap.size ≤ m'.blk (n + j) := b2; omega⟩
  · intro i j o p hij hi hj ho1 hp1
    have key : ∀ i o, (h.push (objs.map (mvO (putR τ n h.next)))).get i = some o → o.own = true → (i < h.next ∧ h.get i = some o ∧ (seedR m m' h.next n).blk i = m.blk i ∧ m.blk i < w.heap.size) ∨ ∃ j q, i = h.next + j ∧ h'.get (n + j) = some q ∧ q.own = true ∧ (seedR m m' h.next n).blk i = m'.blk (n + j) ∧ w.heap.size ≤ m'.blk (n + j) := by
      intro i o hg ho
      by_cases hi : i < h.next
      · have h0 := hold i o hi hg
        refine .inl ⟨hi, h0, (seedR_old hi).1, ?_⟩
        obtain ⟨x, hx⟩ := (hr.obj i o h0).block (by rintro rfl; cases ho)
        exact lt_of_some hx
      · obtain ⟨j, q, rfl, hp, rfl, hgk, _, _⟩ := hnew i o hi hg
        rw [own_mvO] at ho
        exact .inr ⟨j, _, rfl, hgk, ho, (seedR_new m m' h.next n j).1, (hr'.obj _ _ hgk).base_le ho⟩
    rcases key i o hi ho1 with ⟨a1, a2, a3, a4⟩ | ⟨j1, q1, rfl, g1, o1, e1, l1⟩ <;> rcases key j p hj hp1 with ⟨b1, b2, b3, b4⟩ | ⟨j2, q2, rfl, g2, o2, e2, l2⟩
    · rw [a3, b3]; exact hr.apart i j o p hij a2 b2 ho1 hp1
    · rw [a3, e2]; omega
    · rw [e1, b3]; omega
    · rw [e1, e2]
      exact hr'.apart (n + j1) (n + j2) q1 q2 (by omega) g1 g2 o1 o2
end

/-- A call that reads rows: its arguments, the rows that they name, what it comes to, and the objects that it leaves. -/
structure Read where
  f : FuncId
  args : List Value
  ins : List Row
  v : Value
  outs : List AObj
def Read.heap (k : Read) : Heap := (heap0 0).push (k.ins.map fun r => .row { r with outer := true })
def readC (k : Read) : Value × Heap → Bool
  | (u2, h2) => veq 50 u2 k.v && scp (fun i => Nat.blt i (k.ins.length + k.outs.length)) k.v && objsOk h2 (k.ins.length + k.outs.length) k.ins.length k.outs
noncomputable def readB (P : Program) (X : Known) (fl : FuncId → Bool) (N : Nat) (hB : Heap) (k : Read) : Bool :=
  k.args.all (scp fun i => Nat.blt i k.ins.length) && k.ins.all (fun r => scpL (fun i => Nat.blt i k.ins.length) r.vs) && match evBody P (ev P 0 hB fl X N) k.f k.args k.heap with
  | some (.ends (.returned u), h1) => readC k (tidy k.ins.length u h1)
  | _ => false
/-- The heap holds the like of the rows at these places. -/
def RowsAt (h : Heap) (τ : List Nat) (ins : List Row) : Prop := ∀ (i : Nat) (r : Row), ins[i]? = some r → ∃ r', h.get (atR τ i) = some (.row r') ∧ r'.vs = mvL (atR τ) r.vs ∧ r'.elem = r.elem ∧ r'.grown = r.grown
def ReadSays (P : Program) (B : Base P 0) (k : Read) : Prop := ∀ (h : Heap) (τ : List Nat), RowsAt h τ k.ins →
  GoodE P B k.f (k.args.map (mv (atR τ))) h (mv (putR τ k.ins.length h.next) k.v) (h.push (k.outs.map (mvO (putR τ k.ins.length h.next))))
theorem readB_ok {P : Program} {B : Base P 0} {X : Known} (hX : KnownOk P 0 (GoodE P B) X) {fl : FuncId → Bool} {N : Nat} {k : Read} (e : readB P X fl N B.hB k = true) : ReadSays P B k := by
  intro h τ hat
  unfold readB at e
  simp only [Bool.and_eq_true] at e
  obtain ⟨⟨ha, hi⟩, e⟩ := e
  have hkn : k.heap.next = k.ins.length := by unfold Read.heap; rw [Heap.next_push]; simp [heap0]
  split at e
  · rename_i u h1 hev
    have hb := evBody_sound (ev_sound (fl := fl) hX (flatOk B) N) hev
    have hg := (GoodE.of hb).tidy
    rw [hkn] at hg
    generalize ht : tidy k.ins.length u h1 = r at e hg
    obtain ⟨u2, h2⟩ := r
    simp only [readC, Bool.and_eq_true] at e
    obtain ⟨⟨e1, e2⟩, e3⟩ := e
    simp only at hg
    rw [veq_eq _ _ _ e1] at hg
    have hv := sc_of_scp (fun i hi => nblt_iff.1 hi) _ e2
    have hasc : ∀ x ∈ k.args, sc k.ins.length x := fun x hx => sc_of_scp (fun i hi => nblt_iff.1 hi) _ (List.all_eq_true.1 ha x hx)
    have hisc : ∀ r ∈ k.ins, scL k.ins.length r.vs := fun r hr => scL_of_scp (fun i hi => nblt_iff.1 hi) _ (List.all_eq_true.1 hi r hr)
    intro S hS m w hr _
    obtain ⟨hG, hW, hb2⟩ := hS
    have hw := hr.W (B := B) ⟨hG, hW, hb2⟩
    have hτ : ∀ i, i < k.ins.length → atR τ i < h.next := fun i hi => by
      obtain ⟨r', q, _⟩ := hat i _ (List.getElem?_eq_getElem hi)
      exact Heap.lt_of_get q
    have hvia0 : m.via k.ins.length (atR τ) (pickR m τ) (fun i => i) := fun i _ => ⟨rfl, rfl, rfl⟩
    have hren0 : ∀ v, sc k.ins.length v → ren m (mv (atR τ) v) = ren (pickR m τ) v := fun v hv => by rw [ren_mv hvia0 v hv, mv_id (fun _ _ => rfl) v hv]
    have hsmall : HRel P ⟨0, w.heap.size, w⟩ (pickR m τ) k.heap w := by
      refine ⟨Nat.zero_le _, fun i hi => absurd hi (Nat.not_lt_zero _), ?_, ?_, fun _ _ => rfl, Nat.le_refl _, rfl⟩
      · intro i o hg
        rw [hkn]
        unfold Read.heap at hg
        rw [Heap.get_push, if_neg (by simp [heap0]), List.getElem?_map] at hg
        obtain ⟨r, hr0, rfl⟩ := Option.map_eq_some_iff.1 hg
        simp only [heap0, Nat.sub_zero] at hr0
        obtain ⟨r', q1, q2, q3, q4⟩ := hat i r hr0
        obtain ⟨_, c, fz, b1, b2, b3, b4, b5, b6, b7, b8⟩ := hr.obj _ _ q1
        have hsc := hisc r (List.mem_of_getElem? hr0)
        refine ⟨(scL_all _ _).1 hsc, c, fz, by rw [← q3]; exact b1, ?_, ?_, (fun hx => by cases hx), (fun _ => lt_of_some b1), (fun hx => by cases hx), (fun hx => by cases hx), fun hx => b8 (q4.trans hx)⟩
        · rw [q2, mvL_length, q3] at b2
          exact b2
        · intro q v hq
          have := b3 q (mv (atR τ) v) (by rw [q2, mvL_map, List.getElem?_map, hq]; rfl)
          rw [hren0 v ((scL_all _ _).1 hsc v (List.mem_of_getElem? hq))] at this
          exact this
      · intro i j o p _ hi' _ ho
        unfold Read.heap at hi'
        rw [Heap.get_push, if_neg (by simp [heap0]), List.getElem?_map] at hi'
        obtain ⟨r, _, rfl⟩ := Option.map_eq_some_iff.1 hi'
        cases ho
    have hs := hg ⟨0, w.heap.size, w⟩ ⟨rfl, hw, rfl⟩ (pickR m τ) w hsmall (fun x hx => by rw [hkn]; exact hasc x hx)
    have hargs : (k.args.map (mv (atR τ))).map (ren m) = k.args.map (ren (pickR m τ)) := by
      rw [List.map_map]
      exact List.map_congr_left fun x hx => hren0 x (hasc x hx)
    rw [hargs]
    refine hs.mono ?_
    rintro e' w' ⟨m', p1, p2, p3, rfl, p4⟩
    rw [hkn] at p1
    have hvia := seed_via (h := h) (m := m) hτ p1 k.outs.length
    refine ⟨seedR m m' h.next k.ins.length, seedR_agree m m' _ _, by rw [Heap.next_push]; exact Nat.le_add_right _ _, hr.seed hG p3 hτ p1 (fun j o hj => objsOk_at e3 j o hj), ?_, ?_⟩
    · simp only [renN]
      rw [ren_mv hvia k.v hv, mv_id (fun _ _ => rfl) k.v hv]
    · refine sc_mv ?_ k.v hv
      rw [Heap.next_push, List.length_map]
      exact putR_lt hτ k.outs.length
  · cases e
/-! ### known -/
def rowsAtB (h : Heap) (τ : List Nat) : List Nat → List Row → Bool
  | t :: l, r :: m => (match h.get t with
    | some (.row r') => Nat.beq r'.elem r.elem && argsEq r'.vs (mvL (atR τ) r.vs) && (r'.grown == r.grown)
    | _ => false) && rowsAtB h τ l m
  | [], [] => true
  | _, _ => false
theorem rowsAtB_at {h : Heap} {τ : List Nat} : ∀ {l : List Nat} {ins : List Row}, rowsAtB h τ l ins = true → ∀ (i : Nat) (r : Row), ins[i]? = some r → ∃ r', h.get ((l[i]?).getD 0) = some (.row r') ∧ r'.vs = mvL (atR τ) r.vs ∧ r'.elem = r.elem ∧ r'.grown = r.grown
  | t :: l, r :: ins, e, 0, r0, hr => by
    simp only [rowsAtB, Bool.and_eq_true] at e
    simp at hr; subst hr
    have e := e.1
    split at e
    · rename_i r' hg
      simp only [Bool.and_eq_true] at e
      exact ⟨r', by simpa using hg, argsEq_eq e.1.2, Nat.eq_of_beq_eq_true e.1.1, by simpa using e.2⟩
    · cases e
  | t :: l, r :: ins, e, i + 1, r0, hr => by
    simp only [rowsAtB, Bool.and_eq_true] at e
    have := rowsAtB_at e.2 i r0 (by simpa using hr)
    simpa using this
  | [], [], _, i, r, hr => by simp at hr
  | [], _ :: _, e, _, _, _ => by cases e
  | _ :: _, [], _, i, r, hr => by simp at hr
def readFind (h : Heap) (f : FuncId) (args : List Value) (τ : List Nat) : List Read → Option (Value × Heap) → Option (Value × Heap)
  | [], o => o
  | k :: l, o =>
    match Nat.beq f k.f && argsEq args (k.args.map (mv (atR τ))) && rowsAtB h τ τ k.ins with
    | true => forceV (mv (putR τ k.ins.length h.next) k.v) fun v => pushK (k.outs.map (mvO (putR τ k.ins.length h.next))) h fun h1 => some (v, h1)
    | false => readFind h f args τ l o
theorem readFind_ok {P : Program} {B : Base P 0} {h : Heap} {f : FuncId} {args : List Value} {τ : List Nat} : ∀ {l : List Read} {o : Option (Value × Heap)} {v : Value} {h' : Heap}, (∀ k ∈ l, ReadSays P B k) → readFind h f args τ l o = some (v, h') → GoodE P B f args h v h' ∨ o = some (v, h')
  | [], _, _, _, _, e => .inr e
  | k :: l, o, v, h', hl, e => by
    unfold readFind at e
    split at e
    · rename_i hc
      simp only [Bool.and_eq_true] at hc
      rw [forceV_eq, pushK_eq] at e
      simp only [Option.some.injEq, Prod.mk.injEq] at e
      obtain ⟨rfl, rfl⟩ := e
      rw [Nat.eq_of_beq_eq_true hc.1.1, argsEq_eq hc.1.2]
      exact .inl (hl k (by simp) h τ (rowsAtB_at hc.2))
    · exact readFind_ok (fun k hk => hl k (by simp [hk])) e
/-- The numbers, written out. -/
def forceNs {β : Type} : List Nat → (List Nat → β) → β
  | [], c => c []
  | n :: l, c => forceN n fun n => forceNs l fun l => c (n :: l)
theorem forceNs_eq {β : Type} : ∀ (l : List Nat) (c : List Nat → β), forceNs l c = c l
  | [], _ => rfl
  | n :: l, c => by simp only [forceNs, forceN_eq, forceNs_eq l]
def readsX (X : Known) (fs : FuncId → Bool) (l : List Read) : Known := fun f args h =>
  match fs f with
  | false => X f args h
  | true => forceNs (bitsFrom 0 (marks 0 h 30 (refsL 0 args)) h.next 0) fun τ => readFind h f args τ l (X f args h)
theorem readsX_ok {P : Program} {B : Base P 0} {X : Known} (hX : KnownOk P 0 (GoodE P B) X) (fs : FuncId → Bool) {l : List Read} (hl : ∀ k ∈ l, ReadSays P B k) : KnownOk P 0 (GoodE P B) (readsX X fs l) := by
  intro f args h v h' e
  unfold readsX at e
  split at e
  · exact hX _ _ _ _ _ e
  · rw [forceNs_eq] at e
    rcases readFind_ok hl e with hg | hx
    · exact .ext hg
    · exact hX _ _ _ _ _ hx
end Go.Mini
end
section
/-
  MINI, part ZM: a call at a heap that is told whole (what nothing needs may be told dead): kept, where that very heap comes again. So a long reckoning is cut into several.
-/
namespace Go.Mini
set_option linter.unusedSimpArgs false

/-- The second heap is the first one, but that some objects may be dead. -/
def Heap.less (h k : Heap) : Prop := k.next = h.next ∧ ∀ i o, k.get i = some o → o = .dead ∨ h.get i = some o
theorem HRel.less {P : Program} {S : Start} {m : Ren} {h k : Heap} {w : World} (hr : HRel P S m h w) (hl : h.less k) : HRel P S m k w where
  gle := by rw [hl.1]; exact hr.gle
  glob := hr.glob
  obj i o hg := by
    rcases hl.2 i o hg with rfl | hg2
    · trivial
    · rw [hl.1]; exact hr.obj i o hg2
  apart i j o p hij hi hj ho hp := by
    rcases hl.2 i o hi with rfl | hi2
    · cases ho
    · rcases hl.2 j p hj with rfl | hj2
      · cases hp
      · exact hr.apart i j o p hij hi2 hj2 ho hp
  frame := hr.frame
  size := hr.size
  io := hr.io
theorem GoodE.less {P : Program} {G : Nat} {B : Base P G} {f : FuncId} {args : List Value} {h k h1 k1 : Heap} {v : Value} (hg : GoodE P B f args k v h1) (hl : h.less k) (hl1 : h1.less k1) : GoodE P B f args h v k1 := by
  intro S hS m w hr hs
  refine (hg S hS m w (hr.less hl) (fun x hx => by rw [hl.1]; exact hs x hx)).mono ?_
  rintro e w' ⟨m', p1, p2, p3, p4, p5⟩
  refine ⟨m', by rw [← hl.1]; exact p1, by rw [← hl.1, hl1.1]; exact p2, p3.less hl1, p4, ?_⟩
  rw [hl1.1]; exact p5

/-- A heap, told: how many objects, and those that are not dead. -/
def heapOf (n : Nat) : List (Nat × AObj) → Heap
  | [] => ⟨n, .leaf⟩
  | (i, o) :: l => ⟨n, Tr.set o (n + 1) (heapOf n l).objs i⟩
theorem heapOf_next (n : Nat) : ∀ l, (heapOf n l).next = n
  | [] => rfl
  | (_, _) :: _ => rfl
theorem heapOf_get (n : Nat) : ∀ (l : List (Nat × AObj)), (∀ p ∈ l, p.1 < n) → ∀ i o, (heapOf n l).get i = some o → (i, o) ∈ l
  | [], _, i, o, hg => by
    unfold Heap.get heapOf at hg
    simp only at hg
    split at hg
    · simp [Tr.get] at hg
    · cases hg
  | (j, p) :: l, hl, i, o, hg => by
    unfold Heap.get heapOf at hg
    simp only at hg
    split at hg
    · rename_i hi
      have hj := hl (j, p) (by simp)
      simp only at hj
      rw [Tr.get_set p (n + 1) _ j i (by omega)] at hg
      split at hg
      · rename_i he; cases hg; simp [he]
      · have := heapOf_get n l (fun q hq => hl q (by simp [hq])) i o (by unfold Heap.get; rw [heapOf_next, if_pos hi]; exact hg)
        simp [this]
    · cases hg
/-- What is told of a heap is so. -/
def lessB (h : Heap) (n : Nat) (l : List (Nat × AObj)) : Bool := Nat.beq h.next n && l.all fun p => Nat.blt p.1 n && match h.get p.1 with | some q => eqO q p.2 | none => false
theorem lessB_ok {h : Heap} {n : Nat} {l : List (Nat × AObj)} (e : lessB h n l = true) : h.less (heapOf n l) := by
  simp only [lessB, Bool.and_eq_true, List.all_eq_true] at e
  have hn := Nat.eq_of_beq_eq_true e.1
  refine ⟨by rw [heapOf_next, hn], fun i o hg => ?_⟩
  have hm := heapOf_get n l (fun p hp => nblt_iff.1 (e.2 p hp).1) i o hg
  have h2 := (e.2 _ hm).2
  simp only at h2
  split at h2
  · rename_i q hq
    rw [hq, eqO_eq h2]; exact .inr rfl
  · cases h2

structure Spot where
  f : FuncId
  args : List Value
  n : Nat
  ins : List (Nat × AObj)
  v : Value
  n1 : Nat
  outs : List (Nat × AObj)
noncomputable def spotB (P : Program) (X : Known) (fl : FuncId → Bool) (N : Nat) (hB : Heap) (k : Spot) : Bool :=
  match evBody P (ev P 0 hB fl X N) k.f k.args (heapOf k.n k.ins) with
  | some (.ends (.returned u), h1) => veq 50 u k.v && lessB h1 k.n1 k.outs
  | _ => false
def SpotSays (P : Program) (B : Base P 0) (k : Spot) : Prop := ∀ h : Heap, h.less (heapOf k.n k.ins) → GoodE P B k.f k.args h k.v (heapOf k.n1 k.outs)
theorem spotB_ok {P : Program} {B : Base P 0} {X : Known} (hX : KnownOk P 0 (GoodE P B) X) {fl : FuncId → Bool} {N : Nat} {k : Spot} (e : spotB P X fl N B.hB k = true) : SpotSays P B k := by
  intro h hl
  unfold spotB at e
  split at e
  · rename_i u h1 hev
    simp only [Bool.and_eq_true] at e
    have hb := GoodE.of (evBody_sound (ev_sound (fl := fl) hX (flatOk B) N) hev)
    rw [veq_eq _ _ _ e.1] at hb
    exact hb.less hl (lessB_ok e.2)
  · cases e
def spotFind (h : Heap) (f : FuncId) (args : List Value) : List Spot → Option (Value × Heap) → Option (Value × Heap)
  | [], o => o
  | k :: l, o =>
    match Nat.beq f k.f && Nat.beq h.next k.n && argsEq args k.args && lessB h k.n k.ins with
    | true => forceN k.n1 fun n => forceObjs n 0 (heapOf n k.outs).objs fun t => some (k.v, ⟨n, t⟩)
    | false => spotFind h f args l o
theorem spotFind_ok {P : Program} {B : Base P 0} {h : Heap} {f : FuncId} {args : List Value} : ∀ {l : List Spot} {o : Option (Value × Heap)} {v : Value} {h' : Heap}, (∀ k ∈ l, SpotSays P B k) → spotFind h f args l o = some (v, h') → GoodE P B f args h v h' ∨ o = some (v, h')
  | [], _, _, _, _, e => .inr e
  | k :: l, o, v, h', hl, e => by
    unfold spotFind at e
    split at e
    · rename_i hc
      simp only [Bool.and_eq_true] at hc
      simp only [forceN_eq, forceObjs_eq, Option.some.injEq, Prod.mk.injEq] at e
      obtain ⟨rfl, e2⟩ := e
      have e3 : heapOf k.n1 k.outs = h' := by
        rw [← e2]
        cases k.outs <;> rfl
      rw [Nat.eq_of_beq_eq_true hc.1.1.1, argsEq_eq hc.1.2, ← e3]
      exact .inl (hl k (by simp) h (lessB_ok hc.2))
    · exact spotFind_ok (fun k hk => hl k (by simp [hk])) e
def spotsX (X : Known) (fs : FuncId → Bool) (l : List Spot) : Known := fun f args h =>
  match fs f with
  | false => X f args h
  | true => spotFind h f args l (X f args h)
theorem spotsX_ok {P : Program} {B : Base P 0} {X : Known} (hX : KnownOk P 0 (GoodE P B) X) (fs : FuncId → Bool) {l : List Spot} (hl : ∀ k ∈ l, SpotSays P B k) : KnownOk P 0 (GoodE P B) (spotsX X fs l) := by
  intro f args h v h' e
  unfold spotsX at e
  split at e
  · exact hX _ _ _ _ _ e
  · rcases spotFind_ok hl e with hg | hx
    · exact .ext hg
    · exact hX _ _ _ _ _ hx
end Go.Mini
end
