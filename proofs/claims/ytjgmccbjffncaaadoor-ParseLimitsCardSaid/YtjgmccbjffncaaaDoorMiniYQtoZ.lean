/-
  MINI, parts YQ to Z.
-/
import Derived.Test.YtjgmccbjffncaaaDoorMiniYKtoYP
import Derived.Test.YtjgmccbjffncaaaDoorMiniOtoY
section
/-
  MINI, part YQ: a region that draws, in which a call panics ahead of whatever turns the memory.
-/
namespace Go.Mini
set_option linter.unusedSimpArgs false

section
variable {P : Program} {G : Nat} {Ext : FuncId → List Value → Heap → Value → Heap → Prop} {ops : List Oper}

/-- All operations ahead of place c leave the memory; all behind it wait for it. -/
def panicky (ops : List Oper) (c : Nat) : Bool :=
  let ms := masks [] ops
  let l := pairs ops 0
  l.all (fun p => p.2.after.all fun e => !Region.binds .any e || decide (e.on < p.1)) &&
  l.all (fun p => l.all fun q => !(decide (p.1 < q.1)) || (ms.getD q.1 0).testBit p.1 || !clash ops p.2 q.2) &&
  l.all fun p => if p.1 < c then !isLoud p.2 else decide (p.1 = c) || (ms.getD p.1 0).testBit c

theorem Big.panics {V : Nat → Value} {FF : Nat → Frm} {c : Nat} {oc : Oper} {f : FuncId} {args : List Value} {ch : List PanicEntry} {h h2 : Heap} {fr0 : Frm} {id : Nat} {u : Option FrameMode} (hm : P.follows .mixedOrders = true) (hd : panicky ops c = true) (hoc : ops[c]? = some oc)
    (hst : ∀ i o, i < c → ops[i]? = some o → Sf P G ops o (FF i) h (V i) h) (hput : ∀ i o, ops[i]? = some o → (FF i).put o.dst (V i) = some (FF (i + 1)))
    (hw : awanted ops.toArray (FF c) oc = some true) (ha : aop P (aev G (FF c)) oc h = some (.call f args, h)) (hb : Big P G Ext (.call f args) h (.ends (.panicked ch)) h2)
    (h0 : fr0.le (FF 0)) (h0d : ∀ s v, look s fr0.slots = some v → ∀ o ∈ ops, o.dst ≠ some s) :
    Big P G Ext (.code (.region id ops.toArray true) (FF 0) u) h (.x (.panic ch) fr0 u) h2 := by
  unfold panicky at hd
  simp only [Bool.and_eq_true, List.all_eq_true] at hd
  obtain ⟨⟨hd1, hd2⟩, hd3⟩ := hd
  have hcl := lt_length hoc
  have hg : DrawnG ops V FF := {
    back := by
      intro i o ho e he hb
      have := hd1 _ (by simpa using mem_pairs ops 0 i o ho)
      have h2 := (Array.all_eq_true_iff_forall_mem.1 this) e he
      simp only [hb, Bool.not_true, Bool.false_or] at h2
      exact of_decide_eq_true h2
    slot := by
      intro i j x y hij hx hy hc
      have := hd2 _ (by simpa using mem_pairs ops 0 i x hx) _ (by simpa using mem_pairs ops 0 j y hy)
      simp only [decide_eq_true hij, hc, Bool.not_true, Bool.false_or, Bool.or_false] at this
      exact this
    put := hput }
  have hkind : ∀ i o, ops[i]? = some o → (i < c ∧ isLoud o = false) ∨ i = c ∨ ahead ops c i = true := by
    intro i o ho
    have := hd3 _ (by simpa using mem_pairs ops 0 i o ho)
    by_cases hi : i < c
    · simp only [hi, if_true, Bool.not_eq_true'] at this
      exact .inl ⟨hi, this⟩
    · simp only [hi, if_false, Bool.or_eq_true, decide_eq_true_eq] at this
      rcases this with q | q
      · exact .inr (.inl q)
      · exact .inr (.inr q)
  have hle : ∀ {F F1 : Frm} {i : Nat} {o : Oper} {v : Value}, ops[i]? = some o → fr0.le F → F.put o.dst v = some F1 → fr0.le F1 := by
    intro F F1 i o v ho hl hp
    obtain ⟨q1, q2⟩ := put_size hp
    refine ⟨hl.1.trans q1.symm, hl.2.1.trans q2.symm, fun s w hs => ?_⟩
    rw [put_look hp, if_neg (h0d s w hs o (List.mem_of_getElem? ho))]
    exact hl.2.2 s w hs
  let B : (Nat → Bool) → List Nat → Frm → Frm → Prop := fun L l F _ => L c = true ∨ (fr0.le F → ∃ F2, Big P G Ext (.ops ops.toArray l F u) h (.x (.panic ch) F2 u) h2 ∧ fr0.le F2)
  have hgo := fun t => hg.go B (fun L F hL => .inl (hL c hcl)) (by
    intro L i o l F F1 F' hcL ho hLi hpre hlook hp hB
    by_cases hic : i = c
    · subst hic
      obtain rfl : o = oc := Option.some.inj (ho.symm.trans hoc)
      refine .inr fun hl => ⟨F, ?_, hl⟩
      have e1 := awanted_congr hlook
      have e2 : aop P (aev G (FF i)) o = aop P (aev G F) o := funext fun H => aop_congr (aev_congr hlook) fun _ => rfl
      exact .opsCallPanic (by simpa using ho) (e1 ▸ hw) (e2 ▸ ha) hb
    · by_cases hLc : L c = true
      · exact .inl hLc
      · rcases hkind i o ho with ⟨hi, hq⟩ | hq | hq
        · rcases hB with hB | hB
          · unfold also at hB
            rw [if_neg (Ne.symm hic)] at hB
            exact .inl hB
          · refine .inr fun hl => ?_
            obtain ⟨F2, b, hl2⟩ := hB (hle ho hl hp)
            have hs := (hst i o hi ho).congr hlook
            refine ⟨F2, ?_, hl2⟩
            generalize V i = vi at hs hp
            have ho' : ops.toArray[i]? = some o := by simpa using ho
            cases hs with
            | unwanted hw' => exact .opsUnwanted ho' hw' hp b
            | val hw' ha' => exact .opsVal ho' hw' ha' hp b
            | skip hw' ha' => exact .opsSkip ho' hw' ha' hp b
        · exact absurd hq hic
        · exact absurd (ahead_closed ops (fun j => L j = true) hg.back (fun j x hj hx => hcL j x hx hj) i o ho hpre c hq) hLc)
    (by
      intro L L' l F F' hLL hB
      rcases hB with hB | hB
      · exact .inl (by rw [← hLL c hcl]; exact hB)
      · exact .inr hB)
    ops.length t (Array.replicate ops.length false) (FF 0) (by simp) (by
      intro i o ho hi
      have := lt_length ho
      simp [this] at hi) rfl rfl (by
      intro s
      rw [vat_congr (L' := fun j => decide (j < 0)) ops.length (fun j hj _ => by simp [hj]), vat_below ops.length (Nat.zero_le _)]
      rfl) (Nat.le_trans (List.length_filter_le _ _) (by simp))
  have hall : ∀ t, ∃ F2, Big P G Ext (.ops ops.toArray (Region.linearise .any ops.toArray t) (FF 0) u) h (.x (.panic ch) F2 u) h2 ∧ fr0.le F2 := by
    intro t
    obtain ⟨_, hB, _⟩ := hgo t
    rcases hB with hB | hB
    · simp [hcl] at hB
    · have := hB h0
      simpa [Region.linearise] using this
  exact .draw (frs := fun t => (hall t).choose) hm (fun t => (hall t).choose_spec.1) fun t => (hall t).choose_spec.2

/-- The slots that operations fill with nothing. -/
def putsU : List Oper → Frm → Bool
  | [], _ => true
  | o :: l, fr => match fr.put o.dst undef with | some fr1 => putsU l fr1 | none => false
theorem putsU_seq : ∀ (l : List Oper) (fr : Frm), putsU l fr = true → ∃ FF : Nat → Frm, FF 0 = fr ∧ ∀ i o, l[i]? = some o → (FF i).put o.dst undef = some (FF (i + 1))
  | [], fr, _ => ⟨fun _ => fr, rfl, fun i o h => by simp at h⟩
  | o :: l, fr, h => by
    unfold putsU at h
    split at h
    · rename_i fr1 hp
      obtain ⟨FF, h1, h2⟩ := putsU_seq l fr1 h
      refine ⟨fun i => match i with | 0 => fr | j + 1 => FF j, rfl, fun i x hx => ?_⟩
      match i, hx with
      | 0, hx => simp at hx; subst hx; simp only []; rw [h1]; exact hp
      | j + 1, hx => exact h2 j x (by simpa using hx)
    · cases h
theorem runD_seq (ops0 : List Oper) (h : Heap) : ∀ (l : List Oper) (fr fr' : Frm) (h1 : Heap), l.all (fun o => !isLoud o) = true → runD P G ops0.toArray l fr h = some (fr', h1) →
    ∃ (V : Nat → Value) (FF : Nat → Frm), FF 0 = fr ∧ FF l.length = fr' ∧ h1 = h ∧ ∀ i o, l[i]? = some o → Sf P G ops0 o (FF i) h (V i) h ∧ (FF i).put o.dst (V i) = some (FF (i + 1))
  | [], fr, fr', h1, _, e => by
    simp only [runD, Option.some.injEq, Prod.mk.injEq] at e
    obtain ⟨rfl, rfl⟩ := e
    exact ⟨fun _ => undef, fun _ => fr, rfl, rfl, rfl, fun i o q => by simp at q⟩
  | o :: l, fr, fr', h1, ha, e => by
    simp only [List.all_cons, Bool.and_eq_true, Bool.not_eq_true'] at ha
    obtain ⟨a1, a2⟩ := ha
    have a2' : l.all (fun o => !isLoud o) = true := by simpa using a2
    simp only [runD] at e
    obtain ⟨w, hw, e⟩ := Option.bind_eq_some_iff.1 e
    have glue : ∀ (v : Value) (F1 : Frm), fr.put o.dst v = some F1 → Sf P G ops0 o fr h v h → runD P G ops0.toArray l F1 h = some (fr', h1) →
        ∃ (V : Nat → Value) (FF : Nat → Frm), FF 0 = fr ∧ FF (o :: l).length = fr' ∧ h1 = h ∧ ∀ i x, (o :: l)[i]? = some x → Sf P G ops0 x (FF i) h (V i) h ∧ (FF i).put x.dst (V i) = some (FF (i + 1)) := by
      intro v F1 hp hs e
      obtain ⟨V, FF, q1, q2, q3, q4⟩ := runD_seq ops0 h l F1 fr' h1 a2' e
      refine ⟨fun i => match i with | 0 => v | j + 1 => V j, fun i => match i with | 0 => fr | j + 1 => FF j, rfl, q2, q3, fun i x hx => ?_⟩
      match i, hx with
      | 0, hx => simp at hx; subst hx; exact ⟨hs, by simp only []; rw [q1]; exact hp⟩
      | j + 1, hx => exact q4 j x (by simpa using hx)
    cases w with
    | false =>
      simp only [Bool.false_eq_true, if_false] at e
      obtain ⟨F1, hp, e⟩ := Option.bind_eq_some_iff.1 e
      exact glue undef F1 hp (.unwanted hw) e
    | true =>
      simp only [if_true] at e
      obtain ⟨⟨r, h3⟩, hr, e⟩ := Option.bind_eq_some_iff.1 e
      cases r with
      | val v =>
        simp only [] at e
        split at e
        · rename_i hc
          obtain ⟨F1, hp, e3⟩ := Option.bind_eq_some_iff.1 e
          have hh : h3 = h := aop_quiet_heap a1 hr (by rw [a1] at hc; simpa using hc)
          rw [hh] at hr e3
          exact glue v F1 hp (.val hw hr) e3
        · cases e
      | skip => simp only [] at e; rw [a1] at e; cases e
      | _ => cases e
/-- A region that draws in which a call panics. -/
theorem Wp.drawPanic {id : Nat} {fr frc fr0 : Frm} {u : Option FrameMode} {h : Heap} {Q : Exit → Frm → Option FrameMode → Heap → Prop} {f : FuncId} {args : List Value} {oc : Oper} {R : Ending → Heap → Prop} (c : Nat) (hm : P.follows .mixedOrders = true) (hd : panicky ops c = true)
    (hc : ops[c]? = some oc) (hr : Go.Mini.runSD P G ops (ops.take c) (some (fr, h)) = some (frc, h)) (hu : putsU (ops.drop c) frc = true) (hw : wantG frc (guardOf ops oc) = some true) (ha : aop P (aev G frc) oc h = some (.call f args, h))
    (h0 : fr0.le fr) (h0d : ops.all (fun o => match o.dst with | some s => (look s fr0.slots).isNone | none => true) = true) (hb : Does P G Ext f args h R) (hR : ∀ e h2, R e h2 → ∃ ch, e = .panicked ch ∧ Q (.panic ch) fr0 u h2) :
    Wp P G Ext (.region id ops.toArray true) fr u h Q := by
  obtain ⟨e, h2, b, hre⟩ := hb
  obtain ⟨ch, rfl, hq⟩ := hR e h2 hre
  rw [runSD_eq] at hr
  have hlen : (ops.take c).length = c := by have := lt_length hc; rw [List.length_take]; omega
  have hall : (ops.take c).all (fun o => !isLoud o) = true := by
    unfold panicky at hd
    simp only [Bool.and_eq_true, List.all_eq_true] at hd
    rw [List.all_eq_true]
    intro o ho
    obtain ⟨i, hi⟩ := List.getElem?_of_mem ho
    have hic : i < c := by have := lt_length hi; omega
    rw [List.getElem?_take_of_lt hic] at hi
    have := hd.2 _ (by simpa using mem_pairs ops 0 i o hi)
    simpa [hic] using this
  obtain ⟨V1, F1, a1, a2, _, a4⟩ := runD_seq (P := P) (G := G) ops h (ops.take c) fr frc h hall hr
  obtain ⟨F2, b1, b2⟩ := putsU_seq _ _ hu
  rw [hlen] at a2
  have key := Big.panics (P := P) (G := G) (Ext := Ext) (ops := ops) (V := fun i => if i < c then V1 i else undef) (FF := fun i => if i ≤ c then F1 i else F2 (i - c)) (c := c) (id := id) (u := u) (fr0 := fr0) hm hd hc
    (by
      intro i o hi ho
      simp only [hi, if_true, Nat.le_of_lt hi]
      exact (a4 i o (by rw [List.getElem?_take_of_lt hi]; exact ho)).1)
    (by
      intro i o ho
      by_cases hi : i < c
      · simp only [hi, if_true, Nat.le_of_lt hi, show i + 1 ≤ c by omega]
        exact (a4 i o (by rw [List.getElem?_take_of_lt hi]; exact ho)).2
      · have := b2 (i - c) o (by rw [List.getElem?_drop, show c + (i - c) = i by omega]; exact ho)
        simp only [hi, if_false, show ¬ i + 1 ≤ c by omega]
        rw [show i - c + 1 = i + 1 - c by omega] at this
        by_cases hic : i = c
        · subst hic
          simp only [Nat.le_refl, if_true]
          rw [a2, ← b1]
          simpa using this
        · simp only [show ¬ i ≤ c by omega, if_false]
          exact this)
    (by simp only [Nat.le_refl, if_true]; rw [a2, awanted_eq]; exact hw) (by simp only [Nat.le_refl, if_true]; rw [a2]; exact ha) b
    (by simp only [Nat.zero_le, if_true]; rw [a1]; exact h0)
    (by
      intro s v hs o ho q
      have := List.all_eq_true.1 h0d o ho
      rw [q] at this
      simp only [hs, Option.isNone_some, Bool.false_eq_true] at this)
  simp only [Nat.zero_le, if_true] at key
  rw [a1] at key
  exact ⟨_, _, _, _, key, hq⟩
end
end Go.Mini
end
section
/-
  MINI, part YT: more of what a region's walk reckons with, in short names.
-/
namespace Go.Mini
theorem bsf : type_of% (And.intro bse (And.intro @if_true.{1} @if_false.{1})) := And.intro bse (And.intro @if_true.{1} @if_false.{1})
theorem bsd : type_of% (And.intro @List.drop_succ_cons.{0} (And.intro @List.drop_zero.{0} (And.intro @List.take_succ_cons.{0} @List.take_zero.{0}))) := And.intro @List.drop_succ_cons.{0} (And.intro @List.drop_zero.{0} (And.intro @List.take_succ_cons.{0} @List.take_zero.{0}))
theorem bsb : type_of% (And.intro Bool.or_true (And.intro Bool.true_or (And.intro Bool.or_self (And.intro Bool.and_self (And.intro Bool.and_true (And.intro Bool.and_false (And.intro Bool.false_and (And.intro Bool.true_and (And.intro @Heap.next_set @Heap.next_alloc))))))))) := And.intro Bool.or_true (And.intro Bool.true_or (And.intro Bool.or_self (And.intro Bool.and_self (And.intro Bool.and_true (And.intro Bool.and_false (And.intro Bool.false_and (And.intro Bool.true_and (And.intro @Heap.next_set @Heap.next_alloc))))))))
end Go.Mini
end
section
/-
  MINI, part V: a slice of strings among a law's arguments, with its data.
-/
namespace Go.Mini
open Go.ChangeShapes Go.WideShapes Go.RowKit
section
variable {H : Type} {enc : TypeId × Value → H} {P : Program} {W : World} {G : Nat} {m : Ren} {h : Heap}

/-- A slice of strings among a law's arguments. -/
theorem open_strsD {t e : TypeId} {v : Value} {d : DataW H} {ps : List MemPlace} {base : Nat} (ht : P.underlying t = some (.slice e)) (he : P.underlying e = some .string) (hc : P.cellsOf e = 1)
    (hok : Value.okWide P W .any base t v) (h0 : DataW.Trod enc P W 0 (fun _ => true) true t v d ps) (hr : HRel P ⟨G, W.heap.size, W⟩ m h W) :
    ∃ m' h' v' ls, HRel P ⟨G, W.heap.size, W⟩ m' h' W ∧ m.agree h.next m' ∧ h.more h' ∧ ren m' v' = v ∧ sc h'.next v' ∧ Strs h' v' ls ∧
      ((d = .nil ∧ ls = []) ∨ ∃ A B, d = .slice (strs A) (strs B) ∧ ls = A.map fun s => s.data.toList) := by
  obtain ⟨a0, len, cap, rfl⟩ := okWide_slice ht hok
  have hsp : ∀ a, a0 = some a → a.spot = none := by
    rintro a rfl
    simp only [Value.okWide, ht, Cell.okWide, Cell.ok] at hok
    exact hok.2.2.2.1
  obtain ⟨fuel, hf⟩ := h0
  rcases open_strings ht he hc hf with ⟨hcs, hx⟩ | ⟨a, len', cap', ss, hcs, _, hl, hm, hz, hx, hcell, hsz⟩
  · simp [Value.cells] at hcs
    obtain ⟨rfl, rfl, rfl⟩ := hcs
    simp only [Prod.mk.injEq] at hx
    obtain ⟨rfl, rfl⟩ := hx
    exact ⟨m, h, .slice none 0 0, [], hr, Ren.agree_refl _ _, Heap.more_refl _, by simp [ren], by simp [sc], ⟨none, 0, rfl, fun j l e => by simp at e⟩, .inl ⟨rfl, rfl⟩⟩
  · simp [Value.cells] at hcs
    obtain ⟨rfl, rfl, rfl⟩ := hcs
    simp only [Prod.mk.injEq] at hx
    obtain ⟨rfl, rfl⟩ := hx
    have hlen : len ≤ ss.length := by rw [hz]; split <;> omega
    obtain ⟨o, hr', hld⟩ := hr.outerRow rfl a ((ss.take len).map Value.string) (fun v hv => by obtain ⟨s, _, rfl⟩ := List.mem_map.1 hv; rfl) (by
      intro i v hi
      rw [List.getElem?_map, List.getElem?_take] at hi
      split at hi
      · rename_i hil
        have hi2 := hcell i (by omega)
        rw [hi2]
        rw [List.getElem?_eq_getElem (by omega)] at hi
        simp only [Option.map_some, Option.some.injEq] at hi
        rw [← hi, List.getD_eq_getElem?_getD, List.getElem?_eq_getElem (by omega)]
        rfl
      · cases hi)
    refine ⟨_, _, .slice (some ⟨h.next, 0, none⟩) len cap, (ss.take len).map fun s => s.data.toList, hr', Ren.agree_put m _ _ _ _ _ (Nat.le_refl _), Heap.more_alloc _ _, ?_, ?_, ⟨some ⟨h.next, 0, none⟩, cap, ?_, ?_⟩, ?_⟩
    · have h2 := hsp a rfl
      obtain ⟨b, o2, sp⟩ := a
      simp only at h2
      subst h2
      simp only [ren, Ren.put_blk, Ren.put_sh, Ren.put_ext, Nat.zero_add, Nat.add_zero, Option.isSome_none, Bool.false_eq_true, if_false]
    · simp [sc]
    · simp; omega
    · intro j l hj
      refine ⟨h.next, 0, none, rfl, ?_⟩
      rw [Nat.zero_add]
      apply hld
      rw [List.getElem?_map] at hj ⊢
      obtain ⟨s, hs, rfl⟩ := Option.map_eq_some_iff.1 hj
      rw [hs]; rfl
    · exact .inr ⟨_, _, rfl, rfl⟩
end
theorem mem_flat_le {ls : List (List UInt8)} {l : List UInt8} (h : l ∈ ls) : l.length ≤ ls.flatten.length := by
  induction ls with
  | nil => cases h
  | cons x r ih =>
    rw [List.flatten_cons, List.length_append]
    rcases List.mem_cons.1 h with rfl | h
    · omega
    · have := ih h; omega
end Go.Mini
end
section
/-
  MINI, part Z: a call whose arguments and results name no memory: what it comes to from a bare heap it comes to from any.
-/
namespace Go.Mini

/-- A heap that tells of no more than the program's variables: it is told of each world of which W holds. -/
structure Base (P : Program) (G : Nat) where
  hB : Heap
  mB : Ren
  W : World → Prop
  rel : ∀ w, W w → HRel P ⟨G, w.heap.size, w⟩ mB hB w
  stay : ∀ w w', W w → w.heap.size ≤ w'.heap.size → (∀ b, b < w.heap.size → w'.heap[b]? = w.heap[b]?) → W w'

def base0 (P : Program) (G : Nat) : Base P G where
  hB := heap0 G
  mB := ren0
  W _ := True
  rel w _ := heap0_rel P G w
  stay _ _ _ _ _ := trivial

def StartOk {P : Program} {G : Nat} (B : Base P G) (S : Start) : Prop := S.G = G ∧ B.W S.w0 ∧ S.base = S.w0.heap.size

/-- What a call leaves that touches nothing that was there. -/
def Quiet (w w' : World) : Prop := w.heap.size ≤ w'.heap.size ∧ (∀ b, b < w.heap.size → w'.heap[b]? = w.heap[b]?) ∧ Mini.io w' = Mini.io w
theorem Quiet.refl (w : World) : Quiet w w := ⟨Nat.le_refl _, fun _ _ => rfl, rfl⟩

/-- A call whose arguments and result name no memory: what it hands back. -/
def FlatC (P : Program) {G : Nat} (B : Base P G) (f : FuncId) (args : List Value) (v : Value) : Prop :=
  (∀ x ∈ args, flat x = true) ∧ flat v = true ∧ ∀ w, B.W w → Calls P f args.toArray w fun e w' => e = .returned v ∧ Quiet w w'
/-- What the model's calls do, told of the abstract heap: whatever is so may be leant on. -/
def GoodE (P : Program) {G : Nat} (B : Base P G) : FuncId → List Value → Heap → Value → Heap → Prop := fun f args h v h' =>
  ∀ S, StartOk B S → ∀ m w, HRel P S m h w → (∀ x ∈ args, sc h.next x) → Calls P f (args.map (ren m)).toArray w (Ends P S m h h' (.returned v))
theorem goodE_ok {P : Program} {G : Nat} (B : Base P G) : ∀ S, StartOk B S → ExtOk P S (GoodE P B) := fun S hS _ _ _ _ _ he m w hr hs => he S hS m w hr hs

theorem HRel.later {P : Program} {S : Start} {m : Ren} {h : Heap} {w w' : World} (hr : HRel P S m h w) (hq : Quiet w w') : HRel P S m h w' where
  gle := hr.gle
  glob := hr.glob
  obj i o hg := (hr.obj i o hg).keep (Ren.agree_refl _ _) (Heap.lt_of_get hg) (Nat.le_refl _) fun x hx => by rw [hq.2.1 _ (lt_of_some hx)]; exact hx
  apart := hr.apart
  frame b hlt := by rw [hq.2.1 b (by have := hr.size; omega)]; exact hr.frame b hlt
  size := by have := hr.size; have := hq.1; omega
  io := hq.2.2.trans hr.io

theorem HRel.W {P : Program} {G : Nat} {B : Base P G} {S : Start} (hS : StartOk B S) {m : Ren} {h : Heap} {w : World} (hr : HRel P S m h w) : B.W w :=
  B.stay S.w0 w hS.2.1 (by have := hr.size; have := hS.2.2; omega) fun b hlt => hr.frame b (by have := hS.2.2; omega)
theorem map_flat {m : Ren} {args : List Value} (ha : ∀ x ∈ args, flat x = true) : args.map (ren m) = args := by
  have : args.map (ren m) = args.map id := List.map_congr_left fun x hx => ren_flat _ x (ha x hx)
  simpa using this
theorem GoodE.ofFlat {P : Program} {G : Nat} {B : Base P G} {f : FuncId} {args : List Value} {v : Value} (hc : FlatC P B f args v) (h : Heap) : GoodE P B f args h v h := by
  intro S hS m w hr _
  rw [map_flat hc.1]
  refine (hc.2.2 w (hr.W hS)).mono ?_
  rintro e w' ⟨rfl, hq⟩
  exact ⟨m, Ren.agree_refl _ _, Nat.le_refl _, hr.later hq, by simp [renN, ren_flat _ v hc.2.1], sc_flat _ v hc.2.1⟩

/-- What the relation tells of a call from a bare heap. -/
theorem flatC_of {P : Program} {G : Nat} {B : Base P G} {f : FuncId} {args : List Value} {v : Value} {h0 : Heap} (ha : ∀ x ∈ args, flat x = true) (hv : flat v = true) (hb : Big P G (GoodE P B) (.call f args) B.hB (.ends (.returned v)) h0) :
    FlatC P B f args v := by
  refine ⟨ha, hv, fun w hw => ?_⟩
  have hs := (big_sound (S := ⟨G, w.heap.size, w⟩) (goodE_ok B _ ⟨rfl, hw, rfl⟩) hb).1 B.mB w (B.rel w hw) (fun x hx => sc_flat _ x (ha x hx))
  rw [map_flat ha] at hs
  refine hs.mono ?_
  rintro e w' ⟨m', _, _, h3, rfl, _⟩
  exact ⟨by simp [renN, ren_flat _ v hv], by have := h3.size; simpa using this, fun b hlt => h3.frame b hlt, h3.io⟩
theorem FlatC.does {P : Program} {G : Nat} {B : Base P G} {f : FuncId} {args : List Value} {v : Value} (hc : FlatC P B f args v) (h : Heap) : Does P G (GoodE P B) f args h fun e h' => e = .returned v ∧ h' = h :=
  ⟨_, h, .ext (GoodE.ofFlat hc h), rfl, rfl⟩
theorem Does.fromBare {P : Program} {G : Nat} {B : Base P G} {f : FuncId} {args : List Value} {v : Value} (ha : ∀ x ∈ args, flat x = true) (hv : flat v = true) (hd : Does P G (GoodE P B) f args B.hB fun e _ => e = .returned v) (h : Heap) :
    Does P G (GoodE P B) f args h fun e h' => e = .returned v ∧ h' = h := by
  obtain ⟨e, h0, b, rfl⟩ := hd
  exact (flatC_of ha hv b).does h
/-- What is told of a call of the model's. -/
theorem Does.ofCalls {P : Program} {G : Nat} {B : Base P G} {f : FuncId} {args : List Value} {v : Value} (ha : ∀ x ∈ args, flat x = true) (hv : flat v = true) (hc : ∀ w, B.W w → Calls P f args.toArray w fun e w' => e = .returned v ∧ w' = w) (h : Heap) :
    Does P G (GoodE P B) f args h fun e h' => e = .returned v ∧ h' = h :=
  FlatC.does ⟨ha, hv, fun w hw => (hc w hw).mono fun e w' q => ⟨q.1, by rw [q.2]; exact Quiet.refl w⟩⟩ h
theorem FlatC.any {P : Program} {G : Nat} {B : Base P G} {f : FuncId} {args : List Value} {v : Value} (hc : FlatC P (base0 P 0) f args v) : FlatC P B f args v := ⟨hc.1, hc.2.1, fun w _ => hc.2.2 w trivial⟩
/-- What the relation tells, of any start. -/
theorem GoodE.of {P : Program} {G : Nat} {B : Base P G} {f : FuncId} {args : List Value} {h h' : Heap} {v : Value} (hb : Big P G (GoodE P B) (.call f args) h (.ends (.returned v)) h') : GoodE P B f args h v h' := by
  rintro S ⟨rfl, hS⟩ m w hr hs
  exact (big_sound (goodE_ok B S ⟨rfl, hS⟩) hb).1 m w hr hs

/-- What a call made is one row, of which nothing points anywhere: so the heap may be told as it was, and that row. -/
theorem HRel.gather {P : Program} {S : Start} {m m' : Ren} {h h' : Heap} {w w' : World} (hr : HRel P S m h w) (hr' : HRel P S m' h' w') (ha : m.agree h.next m') (hm : ∀ j, j < h.next → h'.get j = h.get j) {b : Nat} {r : Row} (hb : h.next ≤ b)
    (hg : h'.get b = some (.row r)) (hf : ∀ v ∈ r.vs, flat v = true) : HRel P S (m.put h.next (m'.blk b) (m'.sh b) (m'.ext b)) (h.alloc (.row r)) w' where
  gle := by have := hr.gle; simp; omega
  glob i hi := by
    have := hr.gle
    have e1 := hr.glob i hi
    simp [Ren.put, show ¬ i = h.next by omega, e1]
  obj i p hp := by
    rw [Heap.get_alloc] at hp
    split at hp
    · rename_i e
      subst e
      cases hp
      obtain ⟨_, c, fz, h1, h2, h3, h4, h5, h6, h7, h8⟩ := hr'.obj b _ hg
      refine ⟨fun v hv => sc_flat _ v (hf v hv), c, fz, by rw [Ren.put_blk]; exact h1, by rw [Ren.put_sh, Ren.put_ext]; exact h2, ?_, by rw [Ren.put_blk, Ren.put_sh]; exact h4, by rw [Ren.put_blk]; exact h5, h6, h7, by rw [Ren.put_ext]; exact h8⟩
      intro k v hk
      rw [Ren.put_sh, h3 k v hk, ren_flat _ v (hf v (List.mem_of_getElem? hk)), ren_flat _ v (hf v (List.mem_of_getElem? hk))]
    · have hlt := Heap.lt_of_get hp
      have h0 := hr.obj i p hp
      have h1 := hr'.obj i p (by rw [hm i hlt]; exact hp)
      obtain ⟨e1, e2, e3⟩ := ha i hlt
      have hag : m.agree h.next (m.put h.next (m'.blk b) (m'.sh b) (m'.ext b)) := Ren.agree_put m _ _ _ _ _ (Nat.le_refl _)
      obtain ⟨q1, q2, q3⟩ := hag i hlt
      cases p with
      | dead => trivial
      | row r2 =>
        obtain ⟨s1, _⟩ := h0
        obtain ⟨_, c, fz, b1, b2, b3, b4, b5, b6, b7, b8⟩ := h1
        refine ⟨fun v hv => sc_mono (by simp) v (s1 v hv), c, fz, by rw [← q1, e1]; exact b1, by rw [← q2, ← q3, e2, e3]; exact b2, ?_, by rw [← q1, e1, ← q2, e2]; exact b4, by rw [← q1, e1]; exact b5, b6, b7, by rw [← q3, e3]; exact b8⟩
        intro k v hk
        have hs := s1 v (List.mem_of_getElem? hk)
        rw [← q2, ← ren_congr hag v hs, e2, b3 k v hk, ren_congr ha v hs]
      | map es clock =>
        obtain ⟨s1, _⟩ := h0
        obtain ⟨_, b1, b2⟩ := h1
        refine ⟨fun e he => ⟨sc_mono (by simp) _ (s1 e he).1, sc_mono (by simp) _ (s1 e he).2⟩, ?_, by rw [← q1, e1]; exact b2⟩
        have : es.map (renE (m.put h.next (m'.blk b) (m'.sh b) (m'.ext b))) = es.map (renE m') := List.map_congr_left fun e he => by rw [← renE_congr hag (s1 e he), renE_congr ha (s1 e he)]
        rw [← q1, e1, this]; exact b1
      | iter s pos =>
        obtain ⟨b1, b2⟩ := h1
        exact ⟨by rw [← q1, e1]; exact b1, by rw [← q1, e1]; exact b2⟩
  apart i j p q hij hp hq hpo hqo := by
    have key : ∀ i p, (h.alloc (.row r)).get i = some p → p.own = true → ∃ i', h'.get i' = some p ∧ (m.put h.next (m'.blk b) (m'.sh b) (m'.ext b)).blk i = m'.blk i' ∧ (i = h.next ∧ i' = b ∨ i < h.next ∧ i' = i) := by
      intro i p hp _
      rw [Heap.get_alloc] at hp
      split at hp
      · rename_i e; subst e; cases hp; exact ⟨b, hg, Ren.put_blk _ _ _ _ _, .inl ⟨rfl, rfl⟩⟩
      · have hlt := Heap.lt_of_get hp
        exact ⟨i, by rw [hm i hlt]; exact hp, by rw [← (Ren.agree_put m _ _ _ _ _ (Nat.le_refl _) i hlt).1]; exact (ha i hlt).1, .inr ⟨hlt, rfl⟩⟩
    obtain ⟨i', a1, a2, a3⟩ := key i p hp hpo
    obtain ⟨j', b1, b2, b3⟩ := key j q hq hqo
    rw [a2, b2]
    exact hr'.apart i' j' p q (by omega) a1 b1 hpo hqo
  frame := hr'.frame
  size := hr'.size
  io := hr'.io

/-- What a call made is forgotten. -/
theorem HRel.forget {P : Program} {S : Start} {m m' : Ren} {h h' : Heap} {w w' : World} (hr : HRel P S m h w) (hr' : HRel P S m' h' w') (ha : m.agree h.next m') (hm : ∀ j, j < h.next → h'.get j = h.get j) : HRel P S m h w' where
  gle := hr.gle
  glob := hr.glob
  obj i p hp := by
    have hlt := Heap.lt_of_get hp
    have h0 := hr.obj i p hp
    have h1 := hr'.obj i p (by rw [hm i hlt]; exact hp)
    obtain ⟨e1, e2, e3⟩ := ha i hlt
    cases p with
    | dead => trivial
    | row r2 =>
      obtain ⟨s1, _⟩ := h0
      obtain ⟨_, c, fz, b1, b2, b3, b4, b5, b6, b7, b8⟩ := h1
      refine ⟨s1, c, fz, by rw [e1]; exact b1, by rw [e2, e3]; exact b2, ?_, by rw [e1, e2]; exact b4, by rw [e1]; exact b5, b6, b7, by rw [e3]; exact b8⟩
      intro k v hk
      rw [e2, b3 k v hk, ren_congr ha v (s1 v (List.mem_of_getElem? hk))]
    | map es clock =>
      obtain ⟨s1, _⟩ := h0
      obtain ⟨_, b1, b2⟩ := h1
      refine ⟨s1, ?_, by rw [e1]; exact b2⟩
      have : es.map (renE m) = es.map (renE m') := List.map_congr_left fun e he => renE_congr ha (s1 e he)
      rw [e1, this]; exact b1
    | iter s pos =>
      obtain ⟨b1, b2⟩ := h1
      exact ⟨by rw [e1]; exact b1, by rw [e1]; exact b2⟩
  apart i j p q hij hp hq hpo hqo := by
    have l1 := Heap.lt_of_get hp
    have l2 := Heap.lt_of_get hq
    rw [(ha i l1).1, (ha j l2).1]
    exact hr'.apart i j p q hij (by rw [hm i l1]; exact hp) (by rw [hm j l2]; exact hq) hpo hqo
  frame := hr'.frame
  size := hr'.size
  io := hr'.io
/-- A call that leaves nothing but its result, which names no memory. -/
theorem GoodE.forget {P : Program} {G : Nat} {B : Base P G} {f : FuncId} {args : List Value} {h h' : Heap} {v : Value} (hg : GoodE P B f args h v h') (hm : h.more h') (hv : flat v = true) : GoodE P B f args h v h := by
  intro S hS m w hr hs
  refine (hg S hS m w hr hs).mono ?_
  rintro e w' ⟨m', q1, _, q3, rfl, _⟩
  exact ⟨m, Ren.agree_refl _ _, Nat.le_refl _, hr.forget q3 q1 hm.2, by simp [renN, ren_flat _ v hv], sc_flat _ v hv⟩
/-- A call that leaves nothing but its result: a row that append made, of which nothing points anywhere, in a tuple with what is flat. -/
theorem GoodE.gather {P : Program} {G : Nat} {B : Base P G} {f : FuncId} {args : List Value} {h h' : Heap} {b n : Nat} {r : Row} {g : Value → Value} (hg : GoodE P B f args h (g (.slice (some ⟨b, 0, none⟩) n n)) h') (hm : h.more h') (hb : h.next ≤ b)
    (hrow : h'.get b = some (.row r)) (hf : ∀ v ∈ r.vs, flat v = true) (hren : ∀ m x, ren m (g x) = g (ren m x)) (hsc : ∀ k x, sc k x → sc k (g x)) : GoodE P B f args h (g (.slice (some ⟨h.next, 0, none⟩) n n)) (h.alloc (.row r)) := by
  intro S hS m w hr hs
  refine (hg S hS m w hr hs).mono ?_
  rintro e w' ⟨m', q1, _, q3, rfl, _⟩
  refine ⟨_, Ren.agree_put m _ _ _ _ _ (Nat.le_refl _), by simp, hr.gather q3 q1 hm.2 hb hrow hf, ?_, hsc _ _ (by simp [sc])⟩
  simp only [renN, hren, ren, Ren.put_blk, Ren.put_sh, Ren.put_ext, Nat.zero_add]
end Go.Mini
end
