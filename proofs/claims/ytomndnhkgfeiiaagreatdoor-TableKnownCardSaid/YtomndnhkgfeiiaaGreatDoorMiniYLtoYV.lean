/-
  Parts MiniYL to MiniYV.
-/
import Derived.Test.YtomndnhkgfeiiaaGreatDoorMiniOtoYK
section
/-
  MINI, part YL: places that are made in no told order: what the model does.
-/
namespace Go.Mini
set_option linter.unusedSimpArgs false

theorem HRel.same {P : Program} {S : Start} {m : Ren} {h h2 : Heap} {w : World} (hr : HRel P S m h w) (hn : h2.next = h.next) (hg : ∀ j, h2.get j = h.get j) : HRel P S m h2 w where
  gle := by rw [hn]; exact hr.gle
  glob := hr.glob
  obj i o ho := by rw [hn]; exact hr.obj i o (by rw [← hg]; exact ho)
  apart i j o p hij hi hj := hr.apart i j o p hij (by rw [← hg]; exact hi) (by rw [← hg]; exact hj)
  frame := hr.frame
  size := hr.size
  io := hr.io

/-- It leaves memory and world. -/
def still (o : Oper) : Bool :=
  match o.op with
  | .move _ | .assign _ | .load .. | .fieldAddr .. | .field .. | .indexAddr .. | .index .. | .build .. | .binOp .. | .unOp .. | .nilCheck _ | .extract .. => true
  | .call c => match c.callee with
    | .builtin .len => true
    | _ => false
  | _ => false

section
variable {P : Program} {S : Start} {m : Ren} {h : Heap} {w : World} {ρ : Operand → Option Value} {ρ' : Operand → Value}

theorem run_value {s : Sem Value} {v : Value} (e : s.run P w = .ok v w) : (do pure (.value (← s)) : Sem Next).run P w = .ok (.value v) w := by simp [e]
theorem abuiltin_len (hr : HRel P S m h w) {b : Builtin} (hb : b = .len) {ats : Array TypeId} {ty : TypeId} {consts : Array Bool} {args : List Value} {v : Value} {h' : Heap}
    (e : abuiltin P b ats.toList args h = some (.val v, h')) : h' = h ∧ (builtin b ats ty consts (args.map (ren m)).toArray).run P w = .ok (.value (ren m v)) w ∧ sc h.next v := by
  unfold abuiltin at e
  split at e <;> try (cases hb; done)
  · rename_i t x h1
    obtain ⟨v, hp, e⟩ := Option.bind_eq_some_iff.1 e
    cases e
    have ha : ats = #[t] := by apply Array.ext'; simpa using h1
    subst ha
    obtain ⟨q1, q2⟩ := alen_run (ty := ty) hr hp
    exact ⟨rfl, run_value q1, q2⟩
  · cases e

theorem aop_still (hr : HRel P S m h w) (hρ : ∀ x v, ρ x = some v → ρ' x = ren m v ∧ sc h.next v) {o : Oper} (hs : still o = true) {v : Value} {h' : Heap} (e : aop P ρ o h = some (.val v, h')) :
    h' = h ∧ (execOp ρ' o).run P w = .ok (.value (ren m v)) w ∧ sc h.next v := by
  obtain ⟨dst, op, type, pos, after, guard⟩ := o
  cases op <;> simp only [still] at hs <;> try (cases hs; done)
  all_goals simp only [aop] at e
  case move x => obtain ⟨v, hv, e⟩ := Option.bind_eq_some_iff.1 e; cases e; obtain ⟨q1, q2⟩ := hρ x v hv; exact ⟨rfl, by simp [execOp, q1], q2⟩
  case assign x => obtain ⟨v, hv, e⟩ := Option.bind_eq_some_iff.1 e; cases e; obtain ⟨q1, q2⟩ := hρ x v hv; exact ⟨rfl, by simp [execOp, q1], q2⟩
  case load t a =>
    obtain ⟨p, hp, e⟩ := Option.bind_eq_some_iff.1 e
    obtain ⟨v, hv, e⟩ := Option.bind_eq_some_iff.1 e
    cases e
    obtain ⟨q1, q2⟩ := aload_run hr hv
    exact ⟨rfl, by simp [execOp, (hρ a p hp).1, q1], q2⟩
  case fieldAddr t x f =>
    obtain ⟨a, ha, e⟩ := Option.bind_eq_some_iff.1 e
    obtain ⟨v, hv, e⟩ := Option.bind_eq_some_iff.1 e
    cases e
    obtain ⟨q1, q2⟩ := afieldAddr_run (w := w) (m := m) (hρ x a ha).2 hv
    exact ⟨rfl, by simp [execOp, (hρ x a ha).1, q1], q2⟩
  case field t x f =>
    obtain ⟨a, ha, e⟩ := Option.bind_eq_some_iff.1 e
    obtain ⟨v, hv, e⟩ := Option.bind_eq_some_iff.1 e
    cases e
    obtain ⟨q1, q2⟩ := afield_run (w := w) (m := m) (hρ x a ha).2 hv
    exact ⟨rfl, by simp [execOp, (hρ x a ha).1, q1], q2⟩
  case indexAddr t x i =>
    obtain ⟨a, ha, e⟩ := Option.bind_eq_some_iff.1 e
    obtain ⟨b, hb, e⟩ := Option.bind_eq_some_iff.1 e
    obtain ⟨v, hv, e⟩ := Option.bind_eq_some_iff.1 e
    cases e
    obtain ⟨q1, q2⟩ := aindexAddr_run (w := w) (m := m) (hρ x a ha).2 hv
    exact ⟨rfl, by simp [execOp, (hρ x a ha).1, (hρ i b hb).1, q1], q2⟩
  case index t x i =>
    obtain ⟨a, ha, e⟩ := Option.bind_eq_some_iff.1 e
    obtain ⟨b, hb, e⟩ := Option.bind_eq_some_iff.1 e
    obtain ⟨v, hv, e⟩ := Option.bind_eq_some_iff.1 e
    cases e
    obtain ⟨q1, q2⟩ := aindex_run (w := w) (m := m) (hρ x a ha).2 hv
    exact ⟨rfl, by simp [execOp, (hρ x a ha).1, (hρ i b hb).1, q1], q2⟩

  case build t parts =>
    obtain ⟨ps, hps, e⟩ := Option.bind_eq_some_iff.1 e
    obtain ⟨v, hv, e⟩ := Option.bind_eq_some_iff.1 e
    cases e
    obtain ⟨q1, q2⟩ := evp_run hρ hps
    obtain ⟨q3, q4⟩ := abuild_run m w q2 hv
    have ha : (parts.map fun (i, x) => (i, ρ' x)) = (ps.map fun p => (p.1, ren m p.2)).toArray := by apply Array.ext'; simpa using q1
    exact ⟨rfl, by simp [execOp, ha, q3], q4⟩
  case binOp op t x y yt =>
    obtain ⟨a, ha, e⟩ := Option.bind_eq_some_iff.1 e
    obtain ⟨b, hb, e⟩ := Option.bind_eq_some_iff.1 e
    obtain ⟨v, hv, e⟩ := Option.bind_eq_some_iff.1 e
    cases e
    obtain ⟨q1, q2⟩ := binA_run hr x y hv
    refine ⟨rfl, ?_, sc_flat _ _ q2⟩
    simp only [execOp, (hρ x a ha).1, (hρ y b hb).1]
    exact run_value (by rw [ren_flat m v q2]; exact q1)
  case unOp op t x =>
    obtain ⟨a, ha, e⟩ := Option.bind_eq_some_iff.1 e
    obtain ⟨v, hv, e⟩ := Option.bind_eq_some_iff.1 e
    cases e
    obtain ⟨q1, q2⟩ := aun_run (P := P) m w hv
    exact ⟨rfl, by simp [execOp, (hρ x a ha).1, q1, ren_flat m v q2], sc_flat _ _ q2⟩
  case nilCheck x =>
    obtain ⟨v, hv, e⟩ := Option.bind_eq_some_iff.1 e
    obtain ⟨q1, q2⟩ := hρ x v hv
    split at e
    · rename_i hn
      cases e
      refine ⟨rfl, ?_, q2⟩
      unfold notNil at hn
      split at hn
      · simp [execOp, q1, ren]
      · simp [execOp, q1, ren]
      · cases hn
    · cases e
  case extract x i =>
    obtain ⟨a, ha, e⟩ := Option.bind_eq_some_iff.1 e
    obtain ⟨v, hv, e⟩ := Option.bind_eq_some_iff.1 e
    cases e
    obtain ⟨q1, q2⟩ := aextract_run (P := P) (w := w) (m := m) (hρ x a ha).2 hv
    exact ⟨rfl, by simp [execOp, (hρ x a ha).1, q1], q2⟩
  case call c =>
    obtain ⟨callee, args, ats⟩ := c
    cases callee with
    | builtin b =>
      cases b <;> try (cases hs; done)
      simp only at e
      obtain ⟨as, has, e⟩ := Option.bind_eq_some_iff.1 e
      obtain ⟨q3, q4⟩ := evs_run hρ has
      obtain ⟨r1, r2, r3⟩ := abuiltin_len (ty := type) (consts := args.map fun | .const _ => true | _ => false) hr rfl e
      refine ⟨r1, ?_, r3⟩
      simp only [execOp, resolve, map_eq_toArray q3, Sem.run_bind, Sem.run_pure, Result.andThen_ok, invoke]
      exact r2
    | _ => cases hs

/-- A place that was kept is made. -/
theorem HRel.fill (hr : HRel P S m h w) {k : Nat} {t : TypeId} {vs : List Value} (hk : h.get k = some .dead) (hb : m.blk k = w.heap.size) (hs : m.sh k = 0) (he : m.ext k = 0) (hv : ∀ v ∈ vs, sc h.next v) :
    HRel P S m (h.set k (.row { vs := vs, elem := t })) (w.alloc (.cells (vs.map (ren m)).toArray t)) := by
  have hget : ∀ j, (h.set k (.row { vs := vs, elem := t })).get j = if j = k then some (.row { vs := vs, elem := t }) else h.get j := fun j => Heap.get_set h k _ j (by simp [hk])
  have hne : ∀ j p, h.get j = some p → p.own = true → m.blk j ≠ w.heap.size := by
    intro j p hj hp
    have := hr.obj j p hj
    cases p with
    | dead => cases hp
    | row r => obtain ⟨_, c, fz, hc, _⟩ := this; have := lt_of_some hc; omega
    | map es clock => have := lt_of_some this.2.1; omega
    | iter s pos => have := lt_of_some this.1; omega
  refine ⟨by have := hr.gle; simp; omega, hr.glob, ?_, ?_, ?_, ?_, hr.io⟩
  · intro j p hj
    rw [hget] at hj
    simp only [Heap.next_set]
    split at hj
    · rename_i e
      subst e; cases hj
      refine ⟨hv, (vs.map (ren m)).toArray, (0, 0), ?_, ?_, ?_, ?_, ?_, ?_, ?_, ?_⟩
      · show (w.heap.push _)[_]? = _
        rw [hb, Array.getElem?_push, if_pos rfl]
      · simp [hs, he]
      · intro i v hi
        have hi' : vs[i]? = some v := hi
        simp only [hs, Nat.zero_add, List.getElem?_toArray, List.getElem?_map, hi', Option.map_some]
      · intro _; rw [hb]; exact ⟨hr.size, fun _ => hs⟩
      · intro q; cases q
      · intro _ _ k _; simp
      · intro _ _ _; rfl
      · intro _; exact he
    · have h0 := hr.obj j p hj
      by_cases hd : p = .dead
      · subst hd; trivial
      refine h0.keep (Ren.agree_refl _ _) (Heap.lt_of_get hj) (Nat.le_refl _) ?_
      intro x hx
      show (w.heap.push _)[_]? = _
      rw [Array.getElem?_push, if_neg (by have := lt_of_some hx; omega)]; exact hx
  · intro i j o p hij hi hj ho hp
    rw [hget] at hi hj
    split at hi
    · rename_i e1
      split at hj
      · rename_i e2; omega
      · subst e1
        rw [hb]
        exact fun e => hne j p hj hp e.symm
    · split at hj
      · rename_i e2
        subst e2
        rw [hb]
        exact hne i o hi ho
      · exact hr.apart i j o p hij hi hj ho hp
  · intro b hb'
    show (w.heap.push _)[b]? = _
    have := hr.size
    rw [Array.getElem?_push, if_neg (by omega)]
    exact hr.frame b hb'
  · show S.base ≤ (w.heap.push _).size
    have := hr.size
    simp; omega
end

/-- Operations of a region, in some order; ks: the places that are made still, in the order in which they are. -/
inductive PathF (P : Program) (G : Nat) (ops : Array Oper) : List Nat → List Nat → Frm → Heap → Frm → Heap → Prop where
  | nil {F H} : PathF P G ops [] [] F H F H
  | same {ks l F H H2 F' H'} : H2.next = H.next → (∀ j, H2.get j = H.get j) → PathF P G ops ks l F H2 F' H' → PathF P G ops ks l F H F' H'
  | unwanted {ks i l F H o F1 F' H'} : ops[i]? = some o → awanted ops F o = some false → F.put o.dst undef = some F1 → PathF P G ops ks l F1 H F' H' → PathF P G ops ks (i :: l) F H F' H'
  | still {ks i l F H o v F1 F' H'} : ops[i]? = some o → awanted ops F o = some true → still o = true → aop P (aev G F) o H = some (.val v, H) → F.put o.dst v = some F1 → PathF P G ops ks l F1 H F' H' → PathF P G ops ks (i :: l) F H F' H'
  | fill {k ks i l F H o t inf z F1 F' H'} : ops[i]? = some o → awanted ops F o = some true → o.op = .alloc t → P.info? t = some inf → inf.zero = some z → flat z = true → H.get k = some .dead → F.put o.dst (.pointer (some ⟨k, 0, none⟩)) = some F1 →
      PathF P G ops ks l F1 (H.set k (.row { vs := z.cells.toList, elem := t })) F' H' → PathF P G ops (k :: ks) (i :: l) F H F' H'
  | val {i l F H o v H1 F1 F' H'} : ops[i]? = some o → awanted ops F o = some true → aop P (aev G F) o H = some (.val v, H1) → F.put o.dst v = some F1 → PathF P G ops [] l F1 H1 F' H' → PathF P G ops [] (i :: l) F H F' H'
  | skip {i l F H o H1 F1 F' H'} : ops[i]? = some o → awanted ops F o = some true → aop P (aev G F) o H = some (.skip, H1) → F.put o.dst undef = some F1 → PathF P G ops [] l F1 H1 F' H' → PathF P G ops [] (i :: l) F H F' H'

def Pend (m : Ren) (w : World) (n : Nat) (ks : List Nat) : Prop := ∀ j k, ks[j]? = some k → k < n ∧ m.blk k = w.heap.size + j ∧ m.sh k = 0 ∧ m.ext k = 0

theorem run_alloc0 {P : Program} {t : TypeId} {inf : TypeInfo} {z : Value} (hi : P.info? t = some inf) (hz : inf.zero = some z) (w : World) :
    (Instr.alloc t true (.tuple #[])).run P w = .ok (.pointer (some ⟨w.heap.size, 0, none⟩)) (w.alloc (.cells z.cells t)) := by
  simp only [Instr.alloc, Sem.run_bind, run_zeroValue' hi hz w, Result.andThen_ok, newVar, newRow, run_newObj, Sem.run_pure]
  rfl

theorem flat_cells (m : Ren) {z : Value} (h : flat z = true) : (z.cells.toList.map (ren m)).toArray = z.cells := by
  have h1 := ren_cells m z
  rw [ren_flat m z h] at h1
  apply Array.ext'
  rw [List.toList_toArray]
  conv => rhs; rw [h1]
  simp

theorem PathF.sound {P : Program} {S : Start} {ops : Array Oper} {ks l : List Nat} {F F' : Frm} {H H' : Heap} (hp : PathF P S.G ops ks l F H F' H') :
    ∀ m w a, HRel P S m H w → Pend m w H.next ks → FRel m H.next F a → ∀ u, scU H.next u → ∀ (b : Frame) (k : List Item) (c₀ : Frame) (cs₀ : List Frame),
      ∃ m' w' a', m.agree H.next m' ∧ H.next ≤ H'.next ∧ HRel P S m' H' w' ∧ FRel m' H'.next F' a' ∧ scU H'.next u ∧
        Steps P (lone (b.at a (.inRegion ops l :: k)) (csOf m c₀ cs₀ u) w) (lone (b.at a' k) (csOf m' c₀ cs₀ u) w') := by
  induction hp with
  | nil =>
    intro m w a hr _ hf u hu b k c₀ cs₀
    exact ⟨m, w, a, Ren.agree_refl _ _, Nat.le_refl _, hr, hf, hu, .one step_region_end⟩
  | same hn hg _ ih =>
    intro m w a hr hpd hf u hu b k c₀ cs₀
    have := ih m w a (hr.same hn hg) (by rw [hn]; exact hpd) (by rw [hn]; exact hf) u (by rw [hn]; exact hu) b k c₀ cs₀
    rw [hn] at this
    exact this
  | unwanted hi hw hpt _ ih =>
    intro m w a hr hpd hf u hu b k c₀ cs₀
    have hf2 := hf.put hpt (by simp [undef, sc, scA, scL])
    have hu2 : ren m undef = undef := by simp [undef, ren, renA, renL]
    rw [hu2] at hf2
    obtain ⟨m', w', a', g1, g2, g3, g4, g5, g6⟩ := ih m w _ hr hpd hf2 u hu b k c₀ cs₀
    exact ⟨m', w', a', g1, g2, g3, g4, g5, (go_unwanted hi (awanted_run hf hw)).trans g6⟩
  | still hi hw hst ha hpt _ ih =>
    intro m w a hr hpd hf u hu b k c₀ cs₀
    obtain ⟨_, q2, q3⟩ := aop_still hr (fun x v hx => aev_run hr hf hx) hst ha
    obtain ⟨m', w', a', g1, g2, g3, g4, g5, g6⟩ := ih m w _ hr hpd (hf.put hpt q3) u hu b k c₀ cs₀
    exact ⟨m', w', a', g1, g2, g3, g4, g5, (go_value hi (awanted_run hf hw) q2).trans g6⟩
  | @fill k0 ks i l F H o t inf z F1 F' H' hi hw ho hin hz hfl hk hpt _ ih =>
    intro m w a hr hpd hf u hu b k c₀ cs₀
    obtain ⟨p1, p2, p3, p4⟩ := hpd 0 _ rfl
    have hfill := hr.fill (t := t) (vs := z.cells.toList) hk (by omega) p3 p4 (fun v hv => sc_cells (sc_flat H.next z hfl) v (Array.mem_toList_iff.1 hv))
    rw [flat_cells m hfl] at hfill
    have hrun : (execOp a.eval o).run P w = .ok (.value (ren m (.pointer (some ⟨k0, 0, none⟩)))) (w.alloc (.cells z.cells t)) := by
      have hb : m.blk k0 = w.heap.size := by omega
      obtain ⟨dst, op, type, pos, after, guard⟩ := o
      simp only at ho
      subst ho
      simp only [execOp, Sem.run_bind, run_alloc0 hin hz, Result.andThen_ok, Sem.run_pure, ren, hb, p3]
    have hpd2 : Pend m (w.alloc (.cells z.cells t)) (H.set k0 (.row { vs := z.cells.toList, elem := t })).next ks := by
      intro j k hj
      obtain ⟨q1, q2, q3, q4⟩ := hpd (j + 1) k (by simpa using hj)
      refine ⟨by simpa using q1, ?_, q3, q4⟩
      show _ = (w.heap.push _).size + j
      rw [Array.size_push]; omega
    have hn : (H.set k0 (.row { vs := z.cells.toList, elem := t })).next = H.next := Heap.next_set _ _ _
    have hf2 := hf.put hpt (show sc H.next (.pointer (some ⟨k0, 0, none⟩)) by simpa [sc] using p1)
    obtain ⟨m', w', a', g1, g2, g3, g4, g5, g6⟩ := ih m _ _ hfill hpd2 (by rw [hn]; exact hf2) u (by rw [hn]; exact hu) b k c₀ cs₀
    rw [hn] at g1 g2
    exact ⟨m', w', a', g1, g2, g3, g4, g5, (go_value hi (awanted_run hf hw) hrun).trans g6⟩
  | val hi hw ha hpt _ ih =>
    intro m w a hr _ hf u hu b k c₀ cs₀
    obtain ⟨m1, w1, f1, f2, f3, f4, f5⟩ := aop_run hr (fun x v hx => aev_run hr hf hx) (fun _ => rfl) ha
    obtain ⟨m', w', a', g1, g2, g3, g4, g5, g6⟩ := ih m1 w1 _ f3 (fun j k hj => by simp at hj) ((hf.agree f1 f5).put hpt f4) u (scU_mono f5 hu) b k c₀ cs₀
    refine ⟨m', w', a', f1.trans (g1.mono f5), by omega, g3, g4, g5, ?_⟩
    rw [csOf_congr f1 hu]
    exact (go_value hi (awanted_run hf hw) f2).trans g6
  | skip hi hw ha hpt _ ih =>
    intro m w a hr _ hf u hu b k c₀ cs₀
    obtain ⟨m1, w1, f1, f2, f3, f4, f5⟩ := aop_run hr (fun x v hx => aev_run hr hf hx) (fun _ => rfl) ha
    have hf2 := (hf.agree f1 f5).put hpt (by simp [undef, sc, scA, scL])
    have hu2 : ren m1 undef = undef := by simp [undef, ren, renA, renL]
    rw [hu2] at hf2
    obtain ⟨m', w', a', g1, g2, g3, g4, g5, g6⟩ := ih m1 w1 _ f3 (fun j k hj => by simp at hj) hf2 u (scU_mono f5 hu) b k c₀ cs₀
    refine ⟨m', w', a', f1.trans (g1.mono f5), by omega, g3, g4, g5, ?_⟩
    rw [csOf_congr f1 hu]
    exact (go_skip hi (awanted_run hf hw) f2).trans g6
end Go.Mini
end
section
/-
  MINI, part YM: places that are made in no told order: the region.
-/
namespace Go.Mini
set_option linter.unusedSimpArgs false

def isFill (o : Oper) : Bool := match o.op with | .alloc _ => true | _ => false
def loudN (o : Oper) : Bool := isLoud o && !isFill o
def readN (ex : List Nat) (o : Oper) : Bool := isReader o && !exempt ex o
/-- May the region's order be left to the tape, its places among it? ex: slots of loads that look at what was there before. -/
def drawableF (ops : List Oper) (ex : List Nat) : Bool :=
  let ms := masks [] ops
  let l := pairs ops 0
  l.all (fun p => p.2.after.all fun e => !Region.binds .any e || decide (e.on < p.1)) &&
  l.all (fun p => l.all fun q => !(decide (p.1 < q.1)) || (ms.getD q.1 0).testBit p.1 || (!(loudN p.2 && loudN q.2) && !clash ops p.2 q.2 && !(loudN p.2 && readN ex q.2) && !(readN ex p.2 && loudN q.2))) &&
  (ops.any isFill) &&
  l.all fun p => !isFill p.2 || l.all fun q => isFill q.2 || ((ms.getD q.1 0).testBit p.1 && decide (p.1 < q.1)) || (still q.2 && (isPure q.2 || exempt ex q.2))

section
variable {P : Program} {G : Nat} {ops : List Oper}

/-- One operation without a call. -/
inductive Sf (P : Program) (G : Nat) (ops : List Oper) (o : Oper) (F : Frm) (H : Heap) : Value → Heap → Prop where
  | unwanted : awanted ops.toArray F o = some false → Sf P G ops o F H undef H
  | val {v H'} : awanted ops.toArray F o = some true → aop P (aev G F) o H = some (.val v, H') → Sf P G ops o F H v H'
  | skip {H'} : awanted ops.toArray F o = some true → aop P (aev G F) o H = some (.skip, H') → Sf P G ops o F H undef H'
theorem Sf.congr {o : Oper} {F F2 : Frm} {H H' : Heap} {v : Value} (hs : Sf P G ops o F H v H') (h : ∀ s ∈ o.looksAt ops.toArray, look s F.slots = look s F2.slots) : Sf P G ops o F2 H v H' := by
  have h1 := awanted_congr h
  have h2 : aop P (aev G F) o = aop P (aev G F2) o := funext fun H => aop_congr (aev_congr h) fun _ => rfl
  cases hs with
  | unwanted hw => exact .unwanted (h1 ▸ hw)
  | val hw ha => exact .val (h1 ▸ hw) (h2 ▸ ha)
  | skip hw ha => exact .skip (h1 ▸ hw) (h2 ▸ ha)

theorem abuiltin_len_skip {P : Program} {b : Builtin} (hb : b = .len) {ats : List TypeId} {args : List Value} {h h' : Heap} (e : abuiltin P b ats args h = some (.skip, h')) : False := by
  unfold abuiltin at e
  split at e <;> try (cases hb; done)
  · obtain ⟨v, hp, e⟩ := Option.bind_eq_some_iff.1 e
    cases e
  · cases e
theorem aop_still_skip {ρ : Operand → Option Value} {o : Oper} {h h' : Heap} (hs : still o = true) (e : aop P ρ o h = some (.skip, h')) : False := by
  obtain ⟨dst, op, type, pos, after, guard⟩ := o
  cases op <;> simp only [still] at hs <;> try (cases hs; done)
  case call c =>
    obtain ⟨callee, args, ats⟩ := c
    cases callee with
    | builtin b =>
      cases b <;> simp only at hs <;> try (cases hs; done)
      simp only [aop] at e
      obtain ⟨as, has, e⟩ := Option.bind_eq_some_iff.1 e
      exact abuiltin_len_skip rfl e
    | _ => cases hs
  case nilCheck x =>
    simp only [aop] at e
    obtain ⟨v, hv, e⟩ := Option.bind_eq_some_iff.1 e
    split at e <;> simp at e
  all_goals
    simp only [aop] at e
    repeat (rw [Option.bind_eq_some_iff] at e; obtain ⟨_, _, e⟩ := e)
    simp at e

/-- The run in the text's order. -/
structure Trf (P : Program) (G : Nat) (ops : List Oper) (ex : List Nat) (n : Nat) (h : Heap) (V : Nat → Value) (HH : Nat → Heap) (FF : Nat → Frm) : Prop where
  start : HH 0 = h
  hn : h.next = n
  step : ∀ i o, ops[i]? = some o → Sf P G ops o (FF i) (HH i) (V i) (HH (i + 1))
  put : ∀ i o, ops[i]? = some o → (FF i).put o.dst (V i) = some (FF (i + 1))
  quiet : ∀ i o, ops[i]? = some o → isLoud o = false → HH (i + 1) = HH i
  pure : ∀ i o, ops[i]? = some o → isPure o = true → ∀ H, Sf P G ops o (FF i) H (V i) H
  load : ∀ i o, ops[i]? = some o → isReader o = true → exempt ex o = true → ∀ H, (∀ j, j < n → H.get j = h.get j) → Sf P G ops o (FF i) H (V i) H
  fill : ∀ i o, ops[i]? = some o → isFill o = true → ∃ t inf z, o.op = .alloc t ∧ P.info? t = some inf ∧ inf.zero = some z ∧ flat z = true ∧ V i = (HH i).new ∧ HH (i + 1) = (HH i).alloc (.row { vs := z.cells.toList, elem := t }) ∧ o.guard = none
  old : ∀ i, i ≤ ops.length → ∀ j, j < n → (HH i).get j = h.get j
  next : ∀ i o, ops[i]? = some o → loudN o = true → (HH (i + 1)).next = (HH i).next

/-- What is not made is dead. -/
def kills (kf : Nat → Nat) (L : Nat → Bool) : List Nat → Heap → Heap
  | [], H => H
  | i :: l, H => kills kf L l (if L i then H else H.set (kf i) .dead)
theorem kills_next (kf : Nat → Nat) (L : Nat → Bool) : ∀ (l : List Nat) (H : Heap), (kills kf L l H).next = H.next
  | [], _ => rfl
  | i :: l, H => by
    simp only [kills]
    rw [kills_next kf L l]
    split
    · rfl
    · exact Heap.next_set _ _ _
theorem Heap.get_isSome {H : Heap} {i : Nat} {o : AObj} (h : H.get i = some o) : (H.get i).isSome := by rw [h]; rfl
theorem kills_get (kf : Nat → Nat) (L : Nat → Bool) : ∀ (l : List Nat) (H : Heap), (∀ i ∈ l, (H.get (kf i)).isSome) → ∀ j, (kills kf L l H).get j = if l.any (fun i => !L i && (kf i == j)) then some .dead else H.get j
  | [], H, _, j => by simp [kills]
  | i :: l, H, hs, j => by
    simp only [kills, List.any_cons]
    have hi := hs i (by simp)
    by_cases hL : L i = true
    · rw [if_pos hL, kills_get kf L l H (fun i hi => hs i (by simp [hi]))]
      simp [hL]
    · rw [if_neg hL, kills_get kf L l _ (fun a ha => by
        rw [Heap.get_set H _ _ _ hi]
        split
        · rfl
        · exact hs a (by simp [ha])), Heap.get_set H _ _ _ hi]
      have hL' : L i = false := by simpa using hL
      by_cases e : kf i = j
      · subst e; simp [hL']
      · have e1 : (kf i == j) = false := by simpa using e
        simp only [e1, Bool.and_false, Bool.false_or]
        rw [if_neg (Ne.symm e)]
theorem kills_all (kf : Nat → Nat) (L : Nat → Bool) : ∀ (l : List Nat) (H : Heap), (∀ i ∈ l, L i = true) → kills kf L l H = H
  | [], _, _ => rfl
  | i :: l, H, h => by
    simp only [kills, h i (by simp), if_true]
    exact kills_all kf L l H fun i hi => h i (by simp [hi])
theorem kills_congr (kf : Nat → Nat) {L L' : Nat → Bool} : ∀ (l : List Nat) (H : Heap), (∀ i ∈ l, L i = L' i) → kills kf L l H = kills kf L' l H
  | [], _, _ => rfl
  | i :: l, H, h => by
    simp only [kills, h i (by simp)]
    exact kills_congr kf l _ fun i hi => h i (by simp [hi])

/-- Places ahead of time. -/
theorem HRel.reserve {P : Program} {S : Start} {m m0 : Ren} {h h2 : Heap} {w : World} (hr : HRel P S m h w) (ha : m.agree h.next m0) (hn : h.next ≤ h2.next)
    (hg : ∀ i o, h2.get i = some o → i < h.next ∧ h.get i = some o ∨ o = .dead) : HRel P S m0 h2 w where
  gle := Nat.le_trans hr.gle hn
  glob i hi := by
    obtain ⟨a1, a2, a3⟩ := hr.glob i hi
    obtain ⟨b1, b2, b3⟩ := ha i (Nat.lt_of_lt_of_le hi hr.gle)
    exact ⟨b1 ▸ a1, b2 ▸ a2, b3 ▸ a3⟩
  obj i o ho := by
    rcases hg i o ho with ⟨h1, h2'⟩ | rfl
    · exact (hr.obj i o h2').keep ha h1 hn (fun x hx => hx)
    · trivial
  apart i j o p hij hi hj ho hp := by
    rcases hg i o hi with ⟨h1, h2'⟩ | rfl
    · rcases hg j p hj with ⟨h3, h4⟩ | rfl
      · rw [← (ha i h1).1, ← (ha j h3).1]
        exact hr.apart i j o p hij h2' h4 ho hp
      · cases hp
    · cases ho
  frame := hr.frame
  size := hr.size
  io := hr.io

variable {Ext : FuncId → List Value → Heap → Value → Heap → Prop}
/-- Whatever the order, a path: so the region. -/
theorem Big.ofPaths {id : Nat} {fr fr1 : Frm} {u : Option FrameMode} {h h0 h1 : Heap} (hm : P.follows .mixedOrders = true) (hn : h.next ≤ h0.next)
    (hg : ∀ i o, h0.get i = some o → i < h.next ∧ h.get i = some o ∨ o = .dead)
    (hp : ∀ t, ∃ ks F', PathF P G ops.toArray ks (Region.linearise .any ops.toArray t) fr h0 F' h1 ∧ fr1.le F' ∧ ks.Nodup ∧ ∀ k ∈ ks, h.next ≤ k ∧ k < h0.next) :
    Big P G Ext (.code (.region id ops.toArray true) fr u) h (.x .normal fr1 u) h1 := by
  refine .said fun S hS => ?_
  subst hS
  intro m w a hr hf hu b k c₀ cs₀ hk
  have hs := step_region_draw (P := P) (b := b) (a := a) (k := k) (cs := csOf m c₀ cs₀ u) (w := w) (ops := ops.toArray) (id := id)
  simp only [Region.schedule, hm, Bool.true_or, if_true] at hs
  obtain ⟨ks, F', hpath, hle, hnd, hks⟩ := hp _
  let m0 : Ren := ⟨fun i => if i < h.next then m.blk i else w.heap.size + ks.idxOf i, fun i => if i < h.next then m.sh i else 0, fun i => if i < h.next then m.ext i else 0⟩
  have hag : m.agree h.next m0 := fun i hi => ⟨by simp [m0, hi], by simp [m0, hi], by simp [m0, hi]⟩
  have hr0 : HRel P S m h { w with drawn := w.drawn + 1 } := hr.world rfl rfl
  have hpd : Pend m0 { w with drawn := w.drawn + 1 } h0.next ks := by
    intro j k hj
    obtain ⟨h1, h2⟩ := hks k (List.mem_of_getElem? hj)
    have hx : ks.idxOf k = j := by
      obtain ⟨hlt, hjk⟩ := List.getElem?_eq_some_iff.1 hj
      rw [← hjk]
      exact hnd.idxOf_getElem j hlt
    have hge : ¬ k < h.next := by omega
    refine ⟨h2, ?_, by simp [m0, hge], by simp [m0, hge]⟩
    simp [m0, hge, hx]
  obtain ⟨m', w', a', g1, g2, g3, g4, g5, g6⟩ := hpath.sound m0 _ a (hr0.reserve hag hn hg) hpd (hf.agree hag hn) u (scU_mono hn hu) b k c₀ cs₀
  rw [← csOf_congr hag hu] at g6
  exact ⟨m', w', a', hag.trans (g1.mono hn), by omega, g3, g4.weaken hle, g5, trivial, rfl, .of_steps (.one hs) g6⟩
end
end Go.Mini
end
section
/-
  MINI, part YN: places that are made in no told order: one run in the text's order serves every order.
-/
namespace Go.Mini
set_option linter.unusedSimpArgs false
set_option maxHeartbeats 1000000

section
variable {P : Program} {G : Nat} {ops : List Oper} {ex : List Nat} {n : Nat} {h : Heap} {V : Nat → Value} {HH : Nat → Heap} {FF : Nat → Frm}
variable {Ext : FuncId → List Value → Heap → Value → Heap → Prop}

def fillsOf (ops : List Oper) : List Nat := (List.range ops.length).filter fun i => ((ops[i]?).map isFill).getD false
theorem mem_fillsOf {i : Nat} : i ∈ fillsOf ops ↔ ∃ o, ops[i]? = some o ∧ isFill o = true := by
  unfold fillsOf
  rw [List.mem_filter, List.mem_range]
  constructor
  · rintro ⟨h1, h2⟩
    rw [List.getElem?_eq_getElem h1] at h2
    exact ⟨_, List.getElem?_eq_getElem h1, by simpa using h2⟩
  · rintro ⟨o, h1, h2⟩
    exact ⟨lt_length h1, by rw [h1]; simpa using h2⟩
theorem fill_loud {o : Oper} (h : isFill o = true) : isLoud o = true := by
  unfold isFill at h
  split at h
  · rename_i t e
    unfold isLoud isPure isReader
    rw [e]; rfl
  · cases h
theorem loudX_nil (o : Oper) : loudX [] o = isLoud o := by unfold loudX; rw [exempt_nil]; simp

theorem still_quiet {o : Oper} (hs : still o = true) : isLoud o = false := by
  obtain ⟨dst, op, type, pos, after, guard⟩ := o
  cases op <;> simp only [still] at hs <;> try (cases hs; done)
  case call c =>
    obtain ⟨callee, args, ats⟩ := c
    cases callee with
    | builtin b =>
      cases b <;> simp only at hs <;> try (cases hs; done)
      rfl
    | _ => cases hs
  case binOp op t x y yt =>
    unfold isLoud isPure isReader
    simp only
    cases (isEqOp op && !isConstO x && !isConstO y) <;> rfl
  all_goals rfl

theorem Trf.big (ht : Trf P G ops ex n h V HH FF) (hd : drawableF ops ex = true) (hm : P.follows .mixedOrders = true) {id : Nat} {u : Option FrameMode} :
    Big P G Ext (.code (.region id ops.toArray true) (FF 0) u) h (.x .normal (FF ops.length) u) (HH ops.length) := by
  unfold drawableF at hd
  simp only [Bool.and_eq_true, List.all_eq_true] at hd
  obtain ⟨⟨⟨hd1, hd2⟩, hd4⟩, hd3⟩ := hd
  have hpair : ∀ i j x y, i < j → ops[i]? = some x → ops[j]? = some y → ahead ops i j = true ∨ (¬ (loudN x = true ∧ loudN y = true) ∧ clash ops x y = false ∧ ¬ (loudN x = true ∧ readN ex y = true) ∧ ¬ (readN ex x = true ∧ loudN y = true)) := by
    intro i j x y hij hx hy
    have := hd2 _ (by simpa using mem_pairs ops 0 i x hx) _ (by simpa using mem_pairs ops 0 j y hy)
    simp only [decide_eq_true hij, Bool.not_true, Bool.false_or, Bool.or_eq_true, Bool.and_eq_true, Bool.not_eq_true', Bool.and_eq_false_iff] at this
    rcases this with h | ⟨⟨⟨h1, h2⟩, h3⟩, h4⟩
    · exact .inl h
    · refine .inr ⟨?_, h2, ?_, ?_⟩
      · rintro ⟨q1, q2⟩; rcases h1 with h1 | h1 <;> simp_all
      · rintro ⟨q1, q2⟩; rcases h3 with h3 | h3 <;> simp_all
      · rintro ⟨q1, q2⟩; rcases h4 with h4 | h4 <;> simp_all
  have hback : ∀ i o, ops[i]? = some o → ∀ e ∈ o.after, Region.binds .any e = true → e.on < i := by
    intro i o ho e he hb
    have := hd1 _ (by simpa using mem_pairs ops 0 i o ho)
    have h2 := (Array.all_eq_true_iff_forall_mem.1 this) e he
    simp only [hb, Bool.not_true, Bool.false_or] at h2
    exact of_decide_eq_true h2
  have hfills : ∀ i j x y, ops[i]? = some x → isFill x = true → ops[j]? = some y → isFill y = false → (ahead ops i j = true ∧ i < j) ∨ (still y = true ∧ (isPure y = true ∨ exempt ex y = true)) := by
    intro i j x y hx hfx hy hfy
    have := hd3 _ (by simpa using mem_pairs ops 0 i x hx)
    simp only [hfx, Bool.not_true, Bool.false_or, List.all_eq_true] at this
    have := this _ (by simpa using mem_pairs ops 0 j y hy)
    simp only [hfy, Bool.false_or, Bool.or_eq_true, Bool.and_eq_true, decide_eq_true_eq] at this
    exact this
  have hstill : ∀ o : Oper, still o = true → isLoud o = false := fun o ho => still_quiet ho
  have hloudF : ∀ i j x y, ops[i]? = some x → isFill x = true → ops[j]? = some y → loudN y = true → ahead ops i j = true ∧ i < j := by
    intro i j x y hx hfx hy hly
    unfold loudN at hly
    simp only [Bool.and_eq_true, Bool.not_eq_true'] at hly
    rcases hfills i j x y hx hfx hy hly.2 with h1 | ⟨h1, _⟩
    · exact h1
    · rw [hstill _ h1] at hly; cases hly.1
  have hloud : ∀ i j x y, i < j → ops[i]? = some x → ops[j]? = some y → loudN x = true → loudN y = true → ahead ops i j = true :=
    fun i j x y hij hx hy lx ly => (hpair i j x y hij hx hy).resolve_right fun h => h.1 ⟨lx, ly⟩
  have hkind : ∀ o : Oper, isLoud o = true → isFill o = true ∨ loudN o = true := by
    intro o ho
    unfold loudN
    cases h : isFill o
    · right; rw [ho]; rfl
    · exact .inl rfl
  have hconst : ∀ a b, a ≤ b → b ≤ ops.length → (∀ l y, a ≤ l → l < b → ops[l]? = some y → isLoud y = false) → HH b = HH a := by
    intro a b
    induction b with
    | zero => intro h _ _; have : a = 0 := by omega
              subst this; rfl
    | succ b ih =>
      intro h hb hno
      by_cases e : a = b + 1
      · subst e; rfl
      · have ho : ops[b]? = some ops[b] := List.getElem?_eq_getElem (by omega)
        rw [ht.quiet b _ ho (hno b _ (by omega) (by omega) ho)]
        exact ih (by omega) (by omega) fun l y h1 h2 => hno l y h1 (by omega)
  have hsame : ∀ c i, c ≤ ops.length → i ≤ ops.length → (∀ l y, ops[l]? = some y → isLoud y = true → (l < i ↔ l < c)) → HH c = HH i := by
    intro c i hc hi hl
    rcases Nat.le_total c i with q | q
    · refine (hconst c i q hi fun l y h1 h2 hy => ?_).symm
      cases hly : isLoud y with
      | false => rfl
      | true => have := (hl l y hy hly).1 h2; omega
    · refine hconst i c q hc fun l y h1 h2 hy => ?_
      cases hly : isLoud y with
      | false => rfl
      | true => have := (hl l y hy hly).2 h2; omega
  have hbelow : ∀ {L : Nat → Bool} {l : Nat} {y : Oper}, ops[l]? = some y → isLoud y = true → l < cOf ops [] L → L l = true := fun hy hl hlt => cOf_below hy (by rw [loudX_nil]; exact hl) hlt
  have hnotc : ∀ {L : Nat → Bool}, cOf ops [] L < ops.length → ∃ y, ops[cOf ops [] L]? = some y ∧ isLoud y = true ∧ L (cOf ops [] L) = false := fun h => by
    obtain ⟨y, h1, h2, h3⟩ := cOf_not h
    exact ⟨y, h1, by rw [← loudX_nil y]; exact h2, h3⟩
  -- where all places are made
  have hcount : ∀ L, Closed ops L → (∀ i ∈ fillsOf ops, L i = true) → ∀ l y, ops[l]? = some y → isLoud y = true → (L l = true ↔ l < cOf ops [] L) := by
    intro L hL hall l y hy hly
    constructor
    · intro hl
      rcases Nat.lt_or_ge l (cOf ops [] L) with q | q
      · exact q
      · obtain ⟨z, hz, hlz, hnz⟩ := hnotc (L := L) (Nat.lt_of_le_of_lt q (lt_length hy))
        have hzn : loudN z = true := by
          rcases hkind z hlz with h1 | h1
          · rw [hall _ (mem_fillsOf.2 ⟨z, hz, h1⟩)] at hnz; cases hnz
          · exact h1
        rcases Nat.lt_or_ge (cOf ops [] L) l with q2 | q2
        · have hyn : loudN y = true := by
            rcases hkind y hly with h1 | h1
            · have := (hloudF l _ y z hy h1 hz hzn).2; omega
            · exact h1
          have := ahead_closed ops (fun j => L j = true) hback (fun j x hj hx => hL j x hx hj) l y hy (hL l y hy hl) _ (hloud _ _ z y q2 hz hy hzn hyn)
          rw [hnz] at this; cases this
        · have : l = cOf ops [] L := by omega
          rw [this, hnz] at hl; cases hl
    · exact fun h => hbelow hy hly h
  let fl := fillsOf ops
  let kf : Nat → Nat := fun i => (HH i).next
  let c0 := cOf ops [] (fun i => fl.contains i)
  have hc0 : c0 ≤ ops.length := cOf_le _ _ _
  have hc0fill : ∀ l y, ops[l]? = some y → isLoud y = true → (l < c0 ↔ isFill y = true) := by
    intro l y hy hly
    constructor
    · intro hl
      have := hbelow hy hly hl
      have hmem : l ∈ fillsOf ops := by simpa [fl] using this
      obtain ⟨o, ho, hf⟩ := mem_fillsOf.1 hmem
      rw [hy] at ho; cases ho; exact hf
    · intro hf
      rcases Nat.lt_or_ge l c0 with q | q
      · exact q
      · obtain ⟨z, hz, hlz, hnz⟩ := hnotc (L := fun i => fl.contains i) (Nat.lt_of_le_of_lt q (lt_length hy))
        rcases hkind z hlz with h1 | h1
        · have : cOf ops [] (fun i => fl.contains i) ∈ fillsOf ops := mem_fillsOf.2 ⟨z, hz, h1⟩
          have h3 : fl.contains (cOf ops [] (fun i => fl.contains i)) = true := List.contains_iff_mem.2 this
          rw [h3] at hnz; cases hnz
        · have h2 := (hloudF l _ y z hy hf hz h1).2
          exact absurd h2 (Nat.not_lt.2 q)
  -- the numbers of the places
  have hmono1 : ∀ i, i < ops.length → (HH i).next ≤ (HH (i + 1)).next := by
    intro i hi
    have ho : ops[i]? = some ops[i] := List.getElem?_eq_getElem hi
    cases hl : isLoud ops[i] with
    | false => rw [ht.quiet i _ ho hl]; exact Nat.le_refl _
    | true =>
      rcases hkind _ hl with h1 | h1
      · obtain ⟨t, inf, z, _, _, _, _, _, e, _⟩ := ht.fill i _ ho h1
        rw [e, Heap.next_alloc]; omega
      · rw [ht.next i _ ho h1]; exact Nat.le_refl _
  have hmono : ∀ i j, i ≤ j → j ≤ ops.length → (HH i).next ≤ (HH j).next := by
    intro i j hij
    induction j with
    | zero => intro _; have : i = 0 := by omega
              subst this; exact Nat.le_refl _
    | succ j ih =>
      intro hj
      by_cases e : i = j + 1
      · subst e; exact Nat.le_refl _
      · exact Nat.le_trans (ih (by omega) (by omega)) (hmono1 j (by omega))
  have hn0 : (HH 0).next = n := by rw [ht.start]; exact ht.hn
  have hkn : ∀ i, i ≤ ops.length → n ≤ kf i := fun i hi => by rw [← hn0]; exact hmono 0 i (Nat.zero_le _) hi
  have hkinj : ∀ i j, i ∈ fl → j ∈ fl → kf i = kf j → i = j := by
    have key : ∀ i j, i ∈ fl → j ∈ fl → i < j → kf i < kf j := by
      intro i j hi hj hij
      obtain ⟨o, ho, hf⟩ := mem_fillsOf.1 hi
      obtain ⟨o2, ho2, hf2⟩ := mem_fillsOf.1 hj
      obtain ⟨t, inf, z, _, _, _, _, _, e, _⟩ := ht.fill i _ ho hf
      have := hmono (i + 1) j (by omega) (Nat.le_of_lt (lt_length ho2))
      rw [e, Heap.next_alloc] at this
      show (HH i).next < (HH j).next
      omega
    intro i j hi hj e
    rcases Nat.lt_trichotomy i j with q | q | q
    · have := key i j hi hj q; omega
    · exact q
    · have := key j i hj hi q; omega
  have hrow : ∀ i o, ops[i]? = some o → isFill o = true → ∀ c, i + 1 ≤ c → c ≤ c0 → (HH c).get (kf i) = (HH (i + 1)).get (kf i) := by
    intro i o ho hf c hic
    induction c with
    | zero => omega
    | succ c ih =>
      intro hc
      by_cases e : i = c
      · subst e; rfl
      · rw [← ih (by omega) (by omega)]
        have hoc : ops[c]? = some ops[c] := List.getElem?_eq_getElem (by omega)
        cases hl : isLoud ops[c] with
        | false => rw [ht.quiet c _ hoc hl]
        | true =>
          obtain ⟨t, inf, z, _, _, _, _, _, e2, _⟩ := ht.fill c _ hoc ((hc0fill c _ hoc hl).1 (by omega))
          rw [e2]
          have h1 := hmono (i + 1) c (by omega) (by omega)
          obtain ⟨t, inf, z, _, _, _, _, _, e3, _⟩ := ht.fill i _ ho hf
          rw [e3, Heap.next_alloc] at h1
          exact Heap.get_alloc_old _ _ (by show (HH i).next < (HH c).next; omega)
  have hplace : ∀ c, c ≤ c0 → ∀ j, n ≤ j → j < (HH c).next → ∃ i, i ∈ fl ∧ kf i = j := by
    intro c
    induction c with
    | zero => intro _ j h1 h2; rw [hn0] at h2; omega
    | succ c ih =>
      intro hc j h1 h2
      have hoc : ops[c]? = some ops[c] := List.getElem?_eq_getElem (by omega)
      cases hl : isLoud ops[c] with
      | false => rw [ht.quiet c _ hoc hl] at h2; exact ih (by omega) j h1 h2
      | true =>
        have hf := (hc0fill c _ hoc hl).1 (by omega)
        obtain ⟨t, inf, z, _, _, _, _, _, e2, _⟩ := ht.fill c _ hoc hf
        rw [e2, Heap.next_alloc] at h2
        rcases Nat.lt_or_ge j (HH c).next with q | q
        · exact ih (by omega) j h1 q
        · exact ⟨c, mem_fillsOf.2 ⟨_, hoc, hf⟩, by show (HH c).next = j; omega⟩
  have hfillc0 : ∀ i o, ops[i]? = some o → isFill o = true → i < c0 := fun i o ho hf => (hc0fill i o ho (fill_loud hf)).2 hf
  -- the memory, told by what is done
  let part : (Nat → Bool) → Heap := fun L => kills kf L fl (HH c0)
  let HS : (Nat → Bool) → Heap := fun L => if fl.all L = true then HH (cOf ops [] L) else part L
  have hsomek : ∀ i ∈ fl, ((HH c0).get (kf i)).isSome := by
    intro i hi
    obtain ⟨o, ho, hf⟩ := mem_fillsOf.1 hi
    obtain ⟨t, inf, z, _, _, _, _, _, e3, _⟩ := ht.fill i _ ho hf
    rw [hrow i o ho hf c0 (hfillc0 i o ho hf) (Nat.le_refl _), e3, Heap.get_alloc_new]; rfl
  have hpget : ∀ L j, (part L).get j = if fl.any (fun i => !L i && (kf i == j)) then some .dead else (HH c0).get j := fun L j => kills_get kf L fl (HH c0) hsomek j
  have hpnext : ∀ L, (part L).next = (HH c0).next := fun L => kills_next kf L fl _
  have hpold : ∀ L j, j < n → (part L).get j = h.get j := by
    intro L j hj
    rw [hpget, if_neg, ht.old c0 hc0 j hj]
    intro hany
    obtain ⟨i, hi, hx⟩ := List.any_eq_true.1 hany
    simp only [Bool.and_eq_true, beq_iff_eq] at hx
    obtain ⟨o, ho, _⟩ := mem_fillsOf.1 hi
    have := hkn i (Nat.le_of_lt (lt_length ho))
    omega
  have hallof : ∀ L, fl.all L = true → ∀ i ∈ fillsOf ops, L i = true := fun L h i hi => List.all_eq_true.1 h i hi
  let B : (Nat → Bool) → List Nat → Frm → Frm → Prop := fun L l F F' => ∃ ks, PathF P G ops.toArray ks l F (HS L) F' (HH ops.length) ∧ ks.Nodup ∧ ∀ k ∈ ks, ∃ i ∈ fl, L i = false ∧ kf i = k
  have hdr : DrawnG ops V FF := {
    back := hback
    slot := by
      intro i j x y hij hx hy hc
      exact (hpair i j x y hij hx hy).resolve_right fun h => by rw [h.2.1] at hc; cases hc
    put := ht.put }
  have hHSext : ∀ L L', (∀ j, j < ops.length → L j = L' j) → HS L = HS L' := by
    intro L L' hLL
    have hfl : ∀ i ∈ fl, L i = L' i := fun i hi => by
      obtain ⟨o, ho, _⟩ := mem_fillsOf.1 hi
      exact hLL i (lt_length ho)
    have e1 : fl.all L = fl.all L' := by
      rw [Bool.eq_iff_iff, List.all_eq_true, List.all_eq_true]
      exact ⟨fun h i hi => by rw [← hfl i hi]; exact h i hi, fun h i hi => by rw [hfl i hi]; exact h i hi⟩
    show (if fl.all L = true then HH (cOf ops [] L) else part L) = (if fl.all L' = true then HH (cOf ops [] L') else part L')
    rw [e1, cOf_ext hLL, show part L = part L' from kills_congr kf fl _ hfl]
  have hHSall : ∀ L, fl.all L = true → HS L = HH (cOf ops [] L) := fun L h => if_pos h
  have hHSpart : ∀ L, ¬ fl.all L = true → HS L = part L := fun L h => if_neg h
  have hnil : ∀ L F, (∀ j, j < ops.length → L j = true) → B L [] F F := by
    intro L F hL
    refine ⟨[], ?_, List.nodup_nil, fun k hk => by cases hk⟩
    have hall : fl.all L = true := List.all_eq_true.2 fun i hi => by
      obtain ⟨o, ho, _⟩ := mem_fillsOf.1 hi
      exact hL i (lt_length ho)
    have e1 : HH (cOf ops [] L) = HH ops.length := hsame _ _ (cOf_le _ _ _) (Nat.le_refl _) fun l y hy hly => by
      refine ⟨fun _ => ?_, fun _ => lt_length hy⟩
      rcases Nat.lt_or_ge l (cOf ops [] L) with q | q
      · exact q
      · obtain ⟨z, hz, hlz, hnz⟩ := hnotc (L := L) (Nat.lt_of_le_of_lt q (lt_length hy))
        rw [hL _ (lt_length hz)] at hnz; cases hnz
    rw [hHSall L hall, e1]
    exact .nil
  have hext : ∀ L L' l F F', (∀ j, j < ops.length → L j = L' j) → B L l F F' → B L' l F F' := by
    rintro L L' l F F' hLL ⟨ks, h1, h2, h3⟩
    refine ⟨ks, hHSext L L' hLL ▸ h1, h2, fun k hk => ?_⟩
    obtain ⟨i, hi, hx, hy⟩ := h3 k hk
    obtain ⟨o, ho, _⟩ := mem_fillsOf.1 hi
    exact ⟨i, hi, by rw [← hLL i (lt_length ho)]; exact hx, hy⟩
  have hcons : ∀ L i o l F F1 F', Closed ops L → ops[i]? = some o → L i = false → (∀ e ∈ o.after, Region.binds .any e = true → L e.on = true) → (∀ s ∈ o.looksAt ops.toArray, look s (FF i).slots = look s F.slots) → F.put o.dst (V i) = some F1 → B (also L i) l F1 F' → B L (i :: l) F F' := by
    rintro L i o l F F1 F' hL ho hnot hpre hlook hput ⟨ks, hp, hnd, hks⟩
    have hil := lt_length ho
    have ho' : ops.toArray[i]? = some o := by simpa using ho
    have hL' : Closed ops (also L i) := by
      intro j x hx hj e he hb
      unfold also
      split
      · rfl
      · unfold also at hj
        split at hj
        · rename_i q; subst q; rw [ho] at hx; cases hx; exact hpre e he hb
        · exact hL j x hx hj e he hb
    have hmet : ∀ j, ahead ops j i = true → L j = true := ahead_closed ops (fun j => L j = true) hback (fun j x hj hx => hL j x hx hj) i o ho hpre
    have hunmet : ∀ j x, ops[j]? = some x → ahead ops i j = true → L j = false := by
      intro j x hx ha
      cases e : L j with
      | false => rfl
      | true =>
        have := ahead_closed ops (fun j => L j = true) hback (fun j x hj hx => hL j x hx hj) j x hx (hL j x hx e) i ha
        rw [hnot] at this; cases this
    have halso : ∀ k, k ≠ i → also L i k = L k := fun k hk => by unfold also; rw [if_neg hk]
    have halsoi : also L i i = true := by unfold also; rw [if_pos rfl]
    have hksL : ∀ k ∈ ks, ∃ i ∈ fl, L i = false ∧ kf i = k := by
      intro k hk
      obtain ⟨i2, h1, h2, h3⟩ := hks k hk
      by_cases e : i2 = i
      · subst e; rw [halsoi] at h2; cases h2
      · exact ⟨i2, h1, by rw [← halso i2 e]; exact h2, h3⟩
    cases hfo : isFill o with
    | true =>
      have hifl : i ∈ fl := mem_fillsOf.2 ⟨o, ho, hfo⟩
      have hno : ¬ fl.all L = true := fun h => by rw [hallof L h i hifl] at hnot; cases hnot
      obtain ⟨t, inf, z, e1, e2, e3, e4, e5, e6, e7⟩ := ht.fill i o ho hfo
      have hrow0 : (HH c0).get (kf i) = some (.row { vs := z.cells.toList, elem := t }) := by
        rw [hrow i o ho hfo c0 (hfillc0 i o ho hfo) (Nat.le_refl _), e6]; exact Heap.get_alloc_new _ _
      have hdead : (part L).get (kf i) = some .dead := by
        rw [hpget, if_pos (List.any_eq_true.2 ⟨i, hifl, by simp [hnot]⟩)]
      have hX : (HS (also L i)).next = (HH c0).next ∧ ∀ j, (HS (also L i)).get j = if fl.any (fun k => !also L i k && (kf k == j)) then some .dead else (HH c0).get j := by
        by_cases hall' : fl.all (also L i) = true
        · have e8 : HH (cOf ops [] (also L i)) = HH c0 := hsame _ _ (cOf_le _ _ _) hc0 fun l y hy hly => by
            rw [hc0fill l y hy hly, ← hcount _ hL' (hallof _ hall') l y hy hly]
            constructor
            · intro hf; exact hallof _ hall' l (mem_fillsOf.2 ⟨y, hy, hf⟩)
            · intro hal
              rcases hkind y hly with h1 | h1
              · exact h1
              · have hne : l ≠ i := by rintro rfl; rw [ho] at hy; cases hy; unfold loudN at h1; rw [hfo] at h1; simp at h1
                rw [halso l hne] at hal
                rw [hunmet l y hy (hloudF i l o y ho hfo hy h1).1] at hal; cases hal
          rw [hHSall _ hall', e8]
          refine ⟨rfl, fun j => ?_⟩
          rw [if_neg]
          intro hany
          obtain ⟨k, hk, hx⟩ := List.any_eq_true.1 hany
          rw [hallof _ hall' k hk] at hx
          simp at hx
        · rw [hHSpart _ hall']
          exact ⟨hpnext _, hpget _⟩
      have hg : ∀ j, (HS (also L i)).get j = ((part L).set (kf i) (.row { vs := z.cells.toList, elem := t })).get j := by
        intro j
        rw [hX.2, Heap.get_set _ _ _ _ (by rw [hdead]; rfl)]
        by_cases e : j = kf i
        · rw [if_pos e, if_neg, e, hrow0]
          intro hany
          obtain ⟨k, hk, hx⟩ := List.any_eq_true.1 hany
          simp only [Bool.and_eq_true, beq_iff_eq, Bool.not_eq_true'] at hx
          have := hkinj k i hk hifl (hx.2.trans e)
          rw [this, halsoi] at hx
          cases hx.1
        · rw [if_neg e, hpget]
          have : fl.any (fun k => !also L i k && (kf k == j)) = fl.any (fun k => !L k && (kf k == j)) := by
            rw [Bool.eq_iff_iff, List.any_eq_true, List.any_eq_true]
            constructor
            · rintro ⟨k, hk, hx⟩
              have hne : k ≠ i := by rintro rfl; rw [halsoi] at hx; simp at hx
              exact ⟨k, hk, by rw [halso k hne] at hx; exact hx⟩
            · rintro ⟨k, hk, hx⟩
              have hne : k ≠ i := by
                rintro rfl
                simp only [Bool.and_eq_true, beq_iff_eq] at hx
                exact e hx.2.symm
              exact ⟨k, hk, by rw [halso k hne]; exact hx⟩
          rw [this]
      refine ⟨kf i :: ks, ?_, ?_, ?_⟩
      · rw [hHSpart L hno]
        refine .fill ho' (by unfold awanted; rw [e7]) e1 e2 e3 e4 hdead (by rw [e5] at hput; exact hput) (.same ?_ hg hp)
        rw [hX.1, Heap.next_set, hpnext]
      · refine List.nodup_cons.2 ⟨fun hk => ?_, hnd⟩
        obtain ⟨i2, h1, h2, h3⟩ := hks _ hk
        have := hkinj i2 i h1 hifl h3
        rw [this, halsoi] at h2; cases h2
      · intro k hk
        rcases List.mem_cons.1 hk with rfl | hk
        · exact ⟨i, hifl, hnot, rfl⟩
        · exact hksL k hk
    | false =>
      have hinf : ∀ k ∈ fl, k ≠ i := by
        rintro k hk rfl
        obtain ⟨o2, h1, h2⟩ := mem_fillsOf.1 hk
        rw [ho] at h1; cases h1; rw [hfo] at h2; cases h2
      by_cases hall : fl.all L = true
      · have hall' : fl.all (also L i) = true := List.all_eq_true.2 fun k hk => by rw [halso k (hinf k hk)]; exact hallof L hall k hk
        have hks0 : ks = [] := by
          cases ks with
          | nil => rfl
          | cons k ks =>
            obtain ⟨i2, h1, h2, _⟩ := hks k (by simp)
            rw [hallof _ hall' i2 h1] at h2; cases h2
        subst hks0
        have hc := cOf_le ops [] L
        have hc' := cOf_le ops [] (also L i)
        have hcnt := hcount L hL (hallof L hall)
        have hcnt' := hcount _ hL' (hallof _ hall')
        have hstep : Sf P G ops o (FF i) (HS L) (V i) (HS (also L i)) := by
          rw [hHSall L hall, hHSall _ hall']
          cases hlo : isLoud o with
          | false =>
            have hsm : HH (cOf ops [] (also L i)) = HH (cOf ops [] L) := hsame _ _ hc' hc fun l y hy hly => by
              have hne : l ≠ i := by rintro rfl; rw [ho] at hy; cases hy; rw [hlo] at hly; cases hly
              rw [← hcnt l y hy hly, ← hcnt' l y hy hly, halso l hne]
            rw [hsm]
            cases hpu : isPure o with
            | true => exact ht.pure i o ho hpu _
            | false =>
              have hrd : isReader o = true := by
                unfold isLoud at hlo
                rw [hpu] at hlo
                simpa using hlo
              cases hex : exempt ex o with
              | true => exact ht.load i o ho hrd hex _ (ht.old _ hc)
              | false =>
                have hrx : readN ex o = true := by unfold readN; rw [hrd, hex]; rfl
                have hci : HH (cOf ops [] L) = HH i := hsame _ i hc (by omega) fun l y hy hly => by
                  rw [← hcnt l y hy hly]
                  rcases hkind y hly with h1 | h1
                  · constructor
                    · intro _; exact hallof L hall l (mem_fillsOf.2 ⟨y, hy, h1⟩)
                    · intro _
                      rcases hfills l i y o hy h1 ho hfo with h2 | ⟨_, h2⟩
                      · exact h2.2
                      · rcases h2 with h2 | h2
                        · rw [hpu] at h2; cases h2
                        · rw [hex] at h2; cases h2
                  · constructor
                    · intro hli
                      exact hmet l ((hpair l i y o hli hy ho).resolve_right fun h => h.2.2.1 ⟨h1, hrx⟩)
                    · intro hl
                      rcases Nat.lt_trichotomy l i with q | q | q
                      · exact q
                      · subst q; rw [hnot] at hl; cases hl
                      · rw [hunmet l y hy ((hpair i l o y q ho hy).resolve_right fun h => h.2.2.2 ⟨hrx, h1⟩)] at hl; cases hl
                have h1 := ht.step i o ho
                rw [ht.quiet i o ho hlo] at h1
                rw [hci]; exact h1
          | true =>
            have hln : loudN o = true := by unfold loudN; rw [hlo, hfo]; rfl
            have hci : HH (cOf ops [] L) = HH i := hsame _ i hc (by omega) fun l y hy hly => by
              rw [← hcnt l y hy hly]
              rcases hkind y hly with h1 | h1
              · have h2 := hloudF l i y o hy h1 ho hln
                exact ⟨fun _ => hmet l h2.1, fun _ => h2.2⟩
              · constructor
                · intro hli; exact hmet l (hloud l i y o hli hy ho h1 hln)
                · intro hl
                  rcases Nat.lt_trichotomy l i with q | q | q
                  · exact q
                  · subst q; rw [hnot] at hl; cases hl
                  · rw [hunmet l y hy (hloud i l o y q ho hy hln h1)] at hl; cases hl
            have hci' : HH (cOf ops [] (also L i)) = HH (i + 1) := hsame _ (i + 1) hc' (by omega) fun l y hy hly => by
              rw [← hcnt' l y hy hly]
              by_cases hli : l = i
              · subst hli; rw [halsoi]; exact ⟨fun _ => rfl, fun _ => by omega⟩
              · rw [halso l hli]
                rcases hkind y hly with h1 | h1
                · have h2 := hloudF l i y o hy h1 ho hln
                  exact ⟨fun _ => hmet l h2.1, fun _ => by omega⟩
                · constructor
                  · intro hl; exact hmet l (hloud l i y o (by omega) hy ho h1 hln)
                  · intro hl
                    rcases Nat.lt_or_ge l (i + 1) with q | q
                    · exact q
                    · rw [hunmet l y hy (hloud i l o y (by omega) ho hy hln h1)] at hl; cases hl
            rw [hci, hci']
            exact ht.step i o ho
        refine ⟨[], ?_, List.nodup_nil, fun k hk => by cases hk⟩
        have hst := hstep.congr hlook
        generalize V i = v at hst hput
        generalize HS (also L i) = H2 at hst hp
        cases hst with
        | unwanted hw => exact .unwanted ho' hw hput hp
        | val hw ha => exact .val ho' hw ha hput hp
        | skip hw ha => exact .skip ho' hw ha hput hp
      · obtain ⟨f, hf, hLf⟩ : ∃ f ∈ fl, L f = false := by
          have : ¬ ∀ f ∈ fl, L f = true := fun h => hall (List.all_eq_true.2 h)
          simpa using this
        obtain ⟨of, hof, hff⟩ := mem_fillsOf.1 hf
        have hstl : still o = true ∧ (isPure o = true ∨ exempt ex o = true) := by
          rcases hfills f i of o hof hff ho hfo with h1 | h1
          · rw [hmet f h1.1] at hLf; cases hLf
          · exact h1
        have hall' : ¬ fl.all (also L i) = true := fun h => by
          have := hallof _ h f hf
          rw [halso f (hinf f hf), hLf] at this; cases this
        have he : HS (also L i) = part L := by
          rw [hHSpart _ hall']
          exact kills_congr kf fl _ fun k hk => halso k (hinf k hk)
        rw [he] at hp
        have hst : Sf P G ops o (FF i) (part L) (V i) (part L) := by
          cases hpu : isPure o with
          | true => exact ht.pure i o ho hpu _
          | false =>
            have hlo := hstill o hstl.1
            have hrd : isReader o = true := by
              unfold isLoud at hlo
              rw [hpu] at hlo
              simpa using hlo
            have hex : exempt ex o = true := hstl.2.resolve_left (by rw [hpu]; simp)
            exact ht.load i o ho hrd hex _ (hpold L)
        refine ⟨ks, ?_, hnd, hksL⟩
        rw [hHSpart L hall]
        have hst2 := hst.congr hlook
        generalize V i = v at hst2 hput
        generalize hH : part L = H2 at hst2 hp
        generalize hH3 : H2 = H3 at hst2
        cases hst2 with
        | unwanted hw => exact .unwanted ho' hw hput (by first | exact hp | (rw [← hH3]; exact hp) | (rw [hH3] at hp; exact hp))
        | val hw ha => subst hH3; exact .still ho' hw hstl.1 ha hput hp
        | skip hw ha => exact (aop_still_skip hstl.1 ha).elim
  have hne : ∃ i, i ∈ fl := by
    obtain ⟨o, ho, hf⟩ := List.any_eq_true.1 hd4
    obtain ⟨i, hi⟩ := List.getElem?_of_mem ho
    exact ⟨i, mem_fillsOf.2 ⟨o, hi, hf⟩⟩
  have hnone : ¬ fl.all (fun _ => false) = true := by
    obtain ⟨i, hi⟩ := hne
    intro h
    have := hallof _ h i hi
    cases this
  have hgo : ∀ t, ∃ F', B (fun _ => false) (Region.linearise .any ops.toArray t) (FF 0) F' ∧ (FF ops.length).le F' := by
    intro t
    have := hdr.go B hnil hcons hext ops.length t (Array.replicate ops.length false) (FF 0) (by simp) ?_ rfl rfl ?_ ?_
    · obtain ⟨F', b, hle⟩ := this
      refine ⟨F', ?_, hle⟩
      have b2 := hext _ (fun _ => false) _ _ _ (fun j hj => by simp [hj]) b
      simpa [Region.linearise] using b2
    · intro i o ho hi
      have := lt_length ho
      simp [this] at hi
    · intro s
      rw [vat_congr (L' := fun j => decide (j < 0)) ops.length (fun j hj _ => by simp [hj]), vat_below ops.length (Nat.zero_le _)]
      rfl
    · exact Nat.le_trans (List.length_filter_le _ _) (by simp)
  refine Big.ofPaths (h0 := part fun _ => false) hm ?_ ?_ fun t => ?_
  · rw [hpnext, ht.hn]; exact hkn c0 hc0
  · intro i o hio
    by_cases hin : i < n
    · left
      rw [ht.hn]
      exact ⟨hin, by rw [← hpold (fun _ => false) i hin]; exact hio⟩
    · right
      have hlt := Heap.lt_of_get hio
      rw [hpnext] at hlt
      obtain ⟨k, hk, e⟩ := hplace c0 (Nat.le_refl _) i (by omega) hlt
      rw [hpget, if_pos (List.any_eq_true.2 ⟨k, hk, by simp [e]⟩)] at hio
      cases hio; rfl
  · obtain ⟨F', ⟨ks, h1, h2, h3⟩, hle⟩ := hgo t
    refine ⟨ks, F', by rw [← hHSpart _ hnone]; exact h1, hle, h2, fun k hk => ?_⟩
    obtain ⟨i, hi, _, rfl⟩ := h3 k hk
    obtain ⟨o, ho, _⟩ := mem_fillsOf.1 hi
    refine ⟨by rw [ht.hn]; exact hkn i (Nat.le_of_lt (lt_length ho)), ?_⟩
    obtain ⟨x, hx⟩ := Option.isSome_iff_exists.1 (hsomek i hi)
    rw [hpnext]
    exact Heap.lt_of_get hx
end
end Go.Mini
end
section
/-
  MINI, part YO: places that are made in no told order: the run, and the rule.
-/
namespace Go.Mini
set_option linter.unusedSimpArgs false

/-- The block of what an operand points at lies below n. -/
def below (G n : Nat) (fr : Frm) (a : Operand) : Bool :=
  match aev G fr a with
  | some (.pointer (some ad)) => decide (ad.block < n)
  | _ => false
def notBelow (G n : Nat) (fr : Frm) (a : Operand) : Bool :=
  match aev G fr a with
  | some (.pointer (some ad)) => decide (n ≤ ad.block)
  | _ => false
/-- A slice, or a string: its length is told by no memory. -/
def lenOk (G : Nat) (fr : Frm) (args : List Operand) : Bool :=
  match evs (aev G fr) args with
  | some [.slice _ _ _] => true
  | some [.string _] => true
  | _ => false
def loadOk (G n : Nat) (fr : Frm) (o : Oper) : Bool :=
  match o.op with
  | .load _ a => below G n fr a
  | .call c => match c.callee with
    | .builtin .len => lenOk G fr c.args.toList
    | _ => false
  | _ => false
def okF (G n : Nat) (ex : List Nat) (fr : Frm) (o : Oper) (h h1 : Heap) : AN → Option Value
  | .val v => if isFill o then (if o.guard.isNone then some v else none)
      else if !isLoud o && decide (h1.next = h.next) && (!(isReader o && exempt ex o) || loadOk G n fr o) then some v else none
  | .skip => match o.op with
    | .store _ a _ => if notBelow G n fr a then some undef else none
    | _ => none
  | _ => none
/-- Operations carried out in the text's order. -/
noncomputable def runDF (P : Program) (G : Nat) (ops : Array Oper) (n : Nat) (ex : List Nat) : List Oper → Frm → Heap → Option (Frm × Heap)
  | [], fr, h => some (fr, h)
  | o :: l, fr, h => (awanted ops fr o).bind fun t =>
    if t then (aop P (aev G fr) o h).bind fun r => (okF G n ex fr o h r.2 r.1).bind fun v => (fr.put o.dst v).bind fun fr1 => runDF P G ops n ex l fr1 r.2
    else if isFill o then none else (fr.put o.dst undef).bind fun fr1 => runDF P G ops n ex l fr1 h

section
variable {P : Program} {G : Nat} {ops : List Oper} {n : Nat}
theorem Heap.row_congr {H H2 : Heap} {b : Nat} (e : H.get b = H2.get b) : H.row b = H2.row b := by unfold Heap.row; rw [e]
theorem aload_old {H H2 : Heap} {t : TypeId} {a : Addr} (e : H.get a.block = H2.get a.block) : aload P H t (.pointer (some a)) = aload P H2 t (.pointer (some a)) := by
  obtain ⟨b, k, o⟩ := a
  cases o with
  | some o => rfl
  | none =>
    simp only at e
    simp only [aload, Heap.lds, Heap.ld, Heap.row_congr e]
theorem astore_old {H H2 : Heap} {t : TypeId} {a : Addr} {v : Value} (e : astore P H t (.pointer (some a)) v = some H2) : H2.next = H.next ∧ ∀ j, j ≠ a.block → H2.get j = H.get j := by
  obtain ⟨b, k, o⟩ := a
  unfold astore at e
  split at e
  · rename_i i k2 heq
    cases heq
    split at e
    · split at e
      · unfold Heap.sts at e
        obtain ⟨r, hr, e⟩ := Option.bind_eq_some_iff.1 e
        split at e
        · cases e
          exact ⟨Heap.next_set _ _ _, fun j hj => Heap.get_set_ne hj⟩
        · cases e
      · cases e
    · cases e
  · cases e

theorem alen_any {H H2 : Heap} {t : TypeId} {x v : Value} (hx : ∀ r, x ≠ .map r) (e : alen P H t x = some v) : alen P H2 t x = some v := by
  unfold alen at e ⊢
  split at e <;> first | exact e | (exfalso; exact hx _ rfl) | cases e
theorem abuiltin_len_any {H H2 : Heap} {ats : List TypeId} {x v : Value} {b : Builtin} (hb : b = .len) (hx : ∀ r, x ≠ .map r) (e : abuiltin P b ats [x] H = some (.val v, H)) : abuiltin P b ats [x] H2 = some (.val v, H2) := by
  subst hb
  unfold abuiltin at e ⊢
  cases ats with
  | nil => cases e
  | cons t l =>
    cases l with
    | cons _ _ => cases e
    | nil =>
      simp only at e ⊢
      obtain ⟨u, hu, e⟩ := Option.bind_eq_some_iff.1 e
      simp only [Option.some.injEq, Prod.mk.injEq, AN.val.injEq, and_true] at e
      subst e
      rw [alen_any hx hu]; rfl
theorem len_any {H H2 : Heap} {ats : List TypeId} {a : Option Addr} {l c : Nat} {v : Value} (e : ((some [Value.slice a l c]).bind fun as => abuiltin P .len ats as H) = some (.val v, H)) : ((some [Value.slice a l c]).bind fun as => abuiltin P .len ats as H2) = some (.val v, H2) :=
  abuiltin_len_any rfl (fun r h => by cases h) e
theorem len_any' {H H2 : Heap} {ats : List TypeId} {s : ByteArray} {v : Value} (e : ((some [Value.string s]).bind fun as => abuiltin P .len ats as H) = some (.val v, H)) : ((some [Value.string s]).bind fun as => abuiltin P .len ats as H2) = some (.val v, H2) :=
  abuiltin_len_any rfl (fun r h => by cases h) e

/-- What a run in the text's order tells. -/
def TrfL (P : Program) (G : Nat) (ops : List Oper) (n : Nat) (ex : List Nat) (h : Heap) (l : List Oper) (F F' : Frm) (H H' : Heap) : Prop :=
    ∃ (V : Nat → Value) (HH : Nat → Heap) (FF : Nat → Frm), FF 0 = F ∧ HH 0 = H ∧ FF l.length = F' ∧ HH l.length = H' ∧ (∀ i, i ≤ l.length → ∀ j, j < n → (HH i).get j = h.get j) ∧ ∀ i o, l[i]? = some o →
      Sf P G ops o (FF i) (HH i) (V i) (HH (i + 1)) ∧ (FF i).put o.dst (V i) = some (FF (i + 1)) ∧ (isLoud o = false → HH (i + 1) = HH i) ∧ (isPure o = true → ∀ H2, Sf P G ops o (FF i) H2 (V i) H2) ∧
      (isReader o = true → exempt ex o = true → ∀ H2, (∀ j, j < n → H2.get j = h.get j) → Sf P G ops o (FF i) H2 (V i) H2) ∧
      (isFill o = true → ∃ t inf z, o.op = .alloc t ∧ P.info? t = some inf ∧ inf.zero = some z ∧ flat z = true ∧ V i = (HH i).new ∧ HH (i + 1) = (HH i).alloc (.row { vs := z.cells.toList, elem := t }) ∧ o.guard = none) ∧
      (loudN o = true → (HH (i + 1)).next = (HH i).next)
theorem runDF_trf {ex : List Nat} {h : Heap} : ∀ (l : List Oper) (F F' : Frm) (H H' : Heap), runDF P G ops.toArray n ex l F H = some (F', H') → n ≤ H.next → (∀ j, j < n → H.get j = h.get j) → TrfL P G ops n ex h l F F' H H'
  | [], F, F', H, H', e, _, hK => by
    simp only [runDF, Option.some.injEq, Prod.mk.injEq] at e
    obtain ⟨rfl, rfl⟩ := e
    exact ⟨fun _ => undef, fun _ => H, fun _ => F, rfl, rfl, rfl, rfl, fun i hi => hK, fun i o h => by simp at h⟩
  | o :: l, F, F', H, H', e, hge, hK => by
    simp only [runDF] at e
    obtain ⟨t, hw, e0⟩ := Option.bind_eq_some_iff.1 e
    clear e
    have e := e0
    clear e0
    -- the first, and the others
    have key : ∀ (v : Value) (H1 : Heap) (F1 : Frm), Sf P G ops o F H v H1 → F.put o.dst v = some F1 → (isLoud o = false → H1 = H) → (isPure o = true → ∀ H2, Sf P G ops o F H2 v H2) →
        (isReader o = true → exempt ex o = true → ∀ H2, (∀ j, j < n → H2.get j = h.get j) → Sf P G ops o F H2 v H2) →
        (isFill o = true → ∃ t inf z, o.op = .alloc t ∧ P.info? t = some inf ∧ inf.zero = some z ∧ flat z = true ∧ v = H.new ∧ H1 = H.alloc (.row { vs := z.cells.toList, elem := t }) ∧ o.guard = none) →
        (loudN o = true → H1.next = H.next) → n ≤ H1.next → (∀ j, j < n → H1.get j = h.get j) → runDF P G ops.toArray n ex l F1 H1 = some (F', H') → TrfL P G ops n ex h (o :: l) F F' H H' := by
      intro v H1 F1 a1 a2 a3 a4 a5 a6 a7 a9 a8 er
      obtain ⟨V, HH, FF, e1, e2, e3, e4, e5, e6⟩ := runDF_trf l F1 F' H1 H' er a9 a8
      refine ⟨fun i => match i with | 0 => v | i + 1 => V i, fun i => match i with | 0 => H | i + 1 => HH i, fun i => match i with | 0 => F | i + 1 => FF i, rfl, rfl, e3, e4, ?_, ?_⟩
      · intro i hi
        cases i with
        | zero => exact hK
        | succ i => exact e5 i (by simp only [List.length_cons] at hi; omega)
      · intro i o hi
        cases i with
        | zero =>
          simp only [List.getElem?_cons_zero, Option.some.injEq] at hi
          subst hi
          simp only [e1, e2]
          exact ⟨a1, a2, a3, a4, a5, a6, a7⟩
        | succ i => exact e6 i o (by simpa using hi)
    cases t with
    | false =>
      simp only [Bool.false_eq_true, if_false] at e
      split at e
      · cases e
      · rename_i hnf
        obtain ⟨F1, hp, e⟩ := Option.bind_eq_some_iff.1 e
        exact key undef H F1 (.unwanted hw) hp (fun _ => rfl) (fun _ _ => .unwanted hw) (fun _ _ _ _ => .unwanted hw) (fun q => (hnf q).elim) (fun _ => rfl) hge hK e
    | true =>
      simp only [if_true] at e
      obtain ⟨⟨r, H1⟩, hr, e1⟩ := Option.bind_eq_some_iff.1 e
      clear e
      obtain ⟨v, hv, e2⟩ := Option.bind_eq_some_iff.1 e1
      clear e1
      obtain ⟨F1, hp, e⟩ := Option.bind_eq_some_iff.1 e2
      clear e2
      simp only at hv
      replace e : runDF P G ops.toArray n ex l F1 H1 = some (F', H') := e
      cases r with
      | val v0 =>
        simp only [okF] at hv
        split at hv
        · rename_i hf
          split at hv
          · rename_i hg
            cases hv
            have hfill : ∃ t inf z, o.op = .alloc t ∧ P.info? t = some inf ∧ inf.zero = some z ∧ flat z = true ∧ v = H.new ∧ H1 = H.alloc (.row { vs := z.cells.toList, elem := t }) ∧ o.guard = none := by
              obtain ⟨dst, op, type, pos, after, guard⟩ := o
              simp only at hf hg
              unfold isFill at hf
              simp only at hf
              split at hf
              · rename_i t
                simp only [aop] at hr
                obtain ⟨⟨v2, h2⟩, ha, hr⟩ := Option.bind_eq_some_iff.1 hr
                simp only [Option.some.injEq, Prod.mk.injEq, AN.val.injEq] at hr
                obtain ⟨rfl, rfl⟩ := hr
                unfold aalloc at ha
                obtain ⟨inf, hi, ha⟩ := Option.bind_eq_some_iff.1 ha
                obtain ⟨z, hz, ha⟩ := Option.bind_eq_some_iff.1 ha
                split at ha
                · rename_i hfl
                  simp only [Option.some.injEq, Prod.mk.injEq] at ha
                  exact ⟨t, inf, z, rfl, hi, hz, hfl, ha.1.symm, ha.2.symm, by simpa using hg⟩
                · cases ha
              · cases hf
            have hl := fill_loud hf
            refine key v H1 F1 (.val hw hr) hp (fun q => by rw [hl] at q; cases q) (fun q => ?_) (fun q => ?_) (fun _ => hfill) (fun q => ?_) ?_ ?_ e
            · unfold isLoud at hl; rw [q] at hl; cases hl
            · unfold isLoud at hl; rw [q] at hl; simp at hl
            · unfold loudN at q; rw [hf] at q; simp at q
            · obtain ⟨t, inf, z, _, _, _, _, _, e2, _⟩ := hfill
              rw [e2, Heap.next_alloc]; omega
            · intro j hj
              obtain ⟨t, inf, z, _, _, _, _, _, e2, _⟩ := hfill
              rw [e2, Heap.get_alloc, if_neg (by omega)]
              exact hK j hj
          · cases hv
        · rename_i hf
          split at hv
          · rename_i hc
            cases hv
            simp only [Bool.and_eq_true, Bool.not_eq_true', decide_eq_true_eq, Bool.or_eq_true, Bool.and_eq_false_iff] at hc
            obtain ⟨⟨hl, hnx⟩, hx⟩ := hc
            have hh : H1 = H := aop_quiet_heap hl hr hnx
            subst hh
            refine key v H1 F1 (.val hw hr) hp (fun _ => rfl) (fun q H2 => .val hw (aop_pure q hr)) (fun q1 q2 H2 hK2 => ?_) (fun q => (hf q).elim) (fun _ => rfl) hge hK e
            have hb : loadOk G n F o = true := by
              rcases hx with (h1 | h1) | h1
              · rw [q1] at h1; cases h1
              · rw [q2] at h1; cases h1
              · exact h1
            refine .val hw ?_
            obtain ⟨dst, op, type, pos, after, guard⟩ := o
            cases op <;> simp only [loadOk] at hb <;> try (cases hb; done)
            case call c =>
              obtain ⟨callee, args, ats⟩ := c
              cases callee with
              | builtin b =>
                cases b <;> simp only at hb <;> try (cases hb; done)
                simp only [aop] at hr ⊢
                unfold lenOk at hb
                split at hb
                · rename_i e9
                  rw [e9] at hr ⊢
                  exact len_any hr
                · rename_i e9
                  rw [e9] at hr ⊢
                  exact len_any' hr
                · cases hb
              | _ => cases hb
            rename_i t a
            simp only [aop] at hr ⊢
            obtain ⟨p, hpv, hr⟩ := Option.bind_eq_some_iff.1 hr
            unfold below at hb
            rw [hpv] at hb
            simp only [hpv, Option.bind_some]
            split at hb
            · rename_i ad heq
              cases heq
              have hlt := of_decide_eq_true hb
              obtain ⟨v2, hv2, hr⟩ := Option.bind_eq_some_iff.1 hr
              simp only [Option.some.injEq, Prod.mk.injEq, AN.val.injEq, and_true] at hr
              subst hr
              rw [aload_old (H2 := H1) (by rw [hK2 _ hlt, hK _ hlt]), hv2]
              rfl
            · cases hb
          · cases hv
      | skip =>
        simp only [okF] at hv
        split at hv
        · rename_i t a x hop
          split at hv
          · rename_i hnb
            cases hv
            have hst : H1.next = H.next ∧ ∀ j, j < n → H1.get j = H.get j := by
              obtain ⟨dst, op, type, pos, after, guard⟩ := o
              simp only at hop
              subst hop
              simp only [aop] at hr
              obtain ⟨p, hpv, hr⟩ := Option.bind_eq_some_iff.1 hr
              obtain ⟨v2, hv2, hr⟩ := Option.bind_eq_some_iff.1 hr
              obtain ⟨h2, hh2, hr⟩ := Option.bind_eq_some_iff.1 hr
              simp only [Option.some.injEq, Prod.mk.injEq, true_and] at hr
              subst hr
              unfold notBelow at hnb
              rw [hpv] at hnb
              split at hnb
              · rename_i ad heq
                cases heq
                have hge := of_decide_eq_true hnb
                obtain ⟨q1, q2⟩ := astore_old hh2
                exact ⟨q1, fun j hj => q2 j (by omega)⟩
              · cases hnb
            have hop2 : isLoud o = true ∧ isFill o = false := by
              unfold isLoud isPure isReader isFill
              rw [hop]
              exact ⟨rfl, rfl⟩
            refine key undef H1 F1 (.skip hw hr) hp (fun q => by rw [hop2.1] at q; cases q) (fun q => ?_) (fun q => ?_) (fun q => by rw [hop2.2] at q; cases q) (fun _ => hst.1) (by rw [hst.1]; exact hge) (fun j hj => by rw [hst.2 j hj]; exact hK j hj) e
            · have := hop2.1; unfold isLoud at this; rw [q] at this; cases this
            · have := hop2.1; unfold isLoud at this; rw [q] at this; simp at this
          · cases hv
        · cases hv
      | _ => simp [okF] at hv

/-- One run in the text's order serves every order, where places are made in no told order. -/
theorem Wp.runF {Ext : FuncId → List Value → Heap → Value → Heap → Prop} {id : Nat} {fr fr' : Frm} {u : Option FrameMode} {h h' : Heap} {Q : Exit → Frm → Option FrameMode → Heap → Prop} (ex : List Nat) (hm : P.follows .mixedOrders = true) (hd : drawableF ops ex = true)
    (hr : runDF P G ops.toArray h.next ex ops fr h = some (fr', h')) (hq : Q .normal fr' u h') : Wp P G Ext (.region id ops.toArray true) fr u h Q := by
  obtain ⟨V, HH, FF, e1, e2, e3, e4, e5, e6⟩ := runDF_trf ops fr fr' h h' hr (Nat.le_refl _) (fun _ _ => rfl)
  have ht : Trf P G ops ex h.next h V HH FF := {
    start := e2
    hn := rfl
    step := fun i o ho => (e6 i o ho).1
    put := fun i o ho => (e6 i o ho).2.1
    quiet := fun i o ho => (e6 i o ho).2.2.1
    pure := fun i o ho => (e6 i o ho).2.2.2.1
    load := fun i o ho => (e6 i o ho).2.2.2.2.1
    fill := fun i o ho => (e6 i o ho).2.2.2.2.2.1
    old := e5
    next := fun i o ho => (e6 i o ho).2.2.2.2.2.2 }
  have hb := ht.big (Ext := Ext) (id := id) (u := u) hd hm
  rw [e1, e3, e4] at hb
  exact ⟨_, _, _, _, hb, hq⟩
end
end Go.Mini
end
section
/-
  MINI, part Z: a call whose arguments and results name no memory: what it comes to from a bare heap it comes to from any.
-/
namespace Go.Mini

/-- A heap that tells of no more than the program's variables: it is told of each world of which W holds. -/
structure Base (P : Program) (G : Nat) where
  hB : Heap
  mB : Ren
  W : World → Prop
  rel : ∀ w, W w → HRel P ⟨G, w.heap.size, w⟩ mB hB w
  stay : ∀ w w', W w → w.heap.size ≤ w'.heap.size → (∀ b, b < w.heap.size → w'.heap[b]? = w.heap[b]?) → W w'

def base0 (P : Program) (G : Nat) : Base P G where
  hB := heap0 G
  mB := ren0
  W _ := True
  rel w _ := heap0_rel P G w
  stay _ _ _ _ _ := trivial

def StartOk {P : Program} {G : Nat} (B : Base P G) (S : Start) : Prop := S.G = G ∧ B.W S.w0 ∧ S.base = S.w0.heap.size

/-- What a call leaves that touches nothing that was there. -/
def Quiet (w w' : World) : Prop := w.heap.size ≤ w'.heap.size ∧ (∀ b, b < w.heap.size → w'.heap[b]? = w.heap[b]?) ∧ Mini.io w' = Mini.io w
theorem Quiet.refl (w : World) : Quiet w w := ⟨Nat.le_refl _, fun _ _ => rfl, rfl⟩

/-- A call whose arguments and result name no memory: what it hands back. -/
def FlatC (P : Program) {G : Nat} (B : Base P G) (f : FuncId) (args : List Value) (v : Value) : Prop :=
  (∀ x ∈ args, flat x = true) ∧ flat v = true ∧ ∀ w, B.W w → Calls P f args.toArray w fun e w' => e = .returned v ∧ Quiet w w'
/-- What the model's calls do, told of the abstract heap: whatever is so may be leant on. -/
def GoodE (P : Program) {G : Nat} (B : Base P G) : FuncId → List Value → Heap → Value → Heap → Prop := fun f args h v h' =>
  ∀ S, StartOk B S → ∀ m w, HRel P S m h w → (∀ x ∈ args, sc h.next x) → Calls P f (args.map (ren m)).toArray w (Ends P S m h h' (.returned v))
theorem goodE_ok {P : Program} {G : Nat} (B : Base P G) : ∀ S, StartOk B S → ExtOk P S (GoodE P B) := fun S hS _ _ _ _ _ he m w hr hs => he S hS m w hr hs

theorem HRel.later {P : Program} {S : Start} {m : Ren} {h : Heap} {w w' : World} (hr : HRel P S m h w) (hq : Quiet w w') : HRel P S m h w' where
  gle := hr.gle
  glob := hr.glob
  obj i o hg := (hr.obj i o hg).keep (Ren.agree_refl _ _) (Heap.lt_of_get hg) (Nat.le_refl _) fun x hx => by rw [hq.2.1 _ (lt_of_some hx)]; exact hx
  apart := hr.apart
  frame b hlt := by rw [hq.2.1 b (by have := hr.size; omega)]; exact hr.frame b hlt
  size := by have := hr.size; have := hq.1; omega
  io := hq.2.2.trans hr.io

theorem HRel.W {P : Program} {G : Nat} {B : Base P G} {S : Start} (hS : StartOk B S) {m : Ren} {h : Heap} {w : World} (hr : HRel P S m h w) : B.W w :=
  B.stay S.w0 w hS.2.1 (by have := hr.size; have := hS.2.2; omega) fun b hlt => hr.frame b (by have := hS.2.2; omega)
theorem map_flat {m : Ren} {args : List Value} (ha : ∀ x ∈ args, flat x = true) : args.map (ren m) = args := by
  have : args.map (ren m) = args.map id := List.map_congr_left fun x hx => ren_flat _ x (ha x hx)
  simpa using this
theorem GoodE.ofFlat {P : Program} {G : Nat} {B : Base P G} {f : FuncId} {args : List Value} {v : Value} (hc : FlatC P B f args v) (h : Heap) : GoodE P B f args h v h := by
  intro S hS m w hr _
  rw [map_flat hc.1]
  refine (hc.2.2 w (hr.W hS)).mono ?_
  rintro e w' ⟨rfl, hq⟩
  exact ⟨m, Ren.agree_refl _ _, Nat.le_refl _, hr.later hq, by simp [renN, ren_flat _ v hc.2.1], sc_flat _ v hc.2.1⟩

/-- What the relation tells of a call from a bare heap. -/
theorem flatC_of {P : Program} {G : Nat} {B : Base P G} {f : FuncId} {args : List Value} {v : Value} {h0 : Heap} (ha : ∀ x ∈ args, flat x = true) (hv : flat v = true) (hb : Big P G (GoodE P B) (.call f args) B.hB (.ends (.returned v)) h0) :
    FlatC P B f args v := by
  refine ⟨ha, hv, fun w hw => ?_⟩
  have hs := (big_sound (S := ⟨G, w.heap.size, w⟩) (goodE_ok B _ ⟨rfl, hw, rfl⟩) hb).1 B.mB w (B.rel w hw) (fun x hx => sc_flat _ x (ha x hx))
  rw [map_flat ha] at hs
  refine hs.mono ?_
  rintro e w' ⟨m', _, _, h3, rfl, _⟩
  exact ⟨by simp [renN, ren_flat _ v hv], by have := h3.size; simpa using this, fun b hlt => h3.frame b hlt, h3.io⟩
theorem FlatC.does {P : Program} {G : Nat} {B : Base P G} {f : FuncId} {args : List Value} {v : Value} (hc : FlatC P B f args v) (h : Heap) : Does P G (GoodE P B) f args h fun e h' => e = .returned v ∧ h' = h :=
  ⟨_, h, .ext (GoodE.ofFlat hc h), rfl, rfl⟩
theorem Does.fromBare {P : Program} {G : Nat} {B : Base P G} {f : FuncId} {args : List Value} {v : Value} (ha : ∀ x ∈ args, flat x = true) (hv : flat v = true) (hd : Does P G (GoodE P B) f args B.hB fun e _ => e = .returned v) (h : Heap) :
    Does P G (GoodE P B) f args h fun e h' => e = .returned v ∧ h' = h := by
  obtain ⟨e, h0, b, rfl⟩ := hd
  exact (flatC_of ha hv b).does h
/-- What is told of a call of the model's. -/
theorem Does.ofCalls {P : Program} {G : Nat} {B : Base P G} {f : FuncId} {args : List Value} {v : Value} (ha : ∀ x ∈ args, flat x = true) (hv : flat v = true) (hc : ∀ w, B.W w → Calls P f args.toArray w fun e w' => e = .returned v ∧ w' = w) (h : Heap) :
    Does P G (GoodE P B) f args h fun e h' => e = .returned v ∧ h' = h :=
  FlatC.does ⟨ha, hv, fun w hw => (hc w hw).mono fun e w' q => ⟨q.1, by rw [q.2]; exact Quiet.refl w⟩⟩ h
theorem FlatC.any {P : Program} {G : Nat} {B : Base P G} {f : FuncId} {args : List Value} {v : Value} (hc : FlatC P (base0 P 0) f args v) : FlatC P B f args v := ⟨hc.1, hc.2.1, fun w _ => hc.2.2 w trivial⟩
/-- What the relation tells, of any start. -/
theorem GoodE.of {P : Program} {G : Nat} {B : Base P G} {f : FuncId} {args : List Value} {h h' : Heap} {v : Value} (hb : Big P G (GoodE P B) (.call f args) h (.ends (.returned v)) h') : GoodE P B f args h v h' := by
  rintro S ⟨rfl, hS⟩ m w hr hs
  exact (big_sound (goodE_ok B S ⟨rfl, hS⟩) hb).1 m w hr hs

/-- What a call made is one row, of which nothing points anywhere: so the heap may be told as it was, and that row. -/
theorem HRel.gather {P : Program} {S : Start} {m m' : Ren} {h h' : Heap} {w w' : World} (hr : HRel P S m h w) (hr' : HRel P S m' h' w') (ha : m.agree h.next m') (hm : ∀ j, j < h.next → h'.get j = h.get j) {b : Nat} {r : Row} (hb : h.next ≤ b)
    (hg : h'.get b = some (.row r)) (hf : ∀ v ∈ r.vs, flat v = true) : HRel P S (m.put h.next (m'.blk b) (m'.sh b) (m'.ext b)) (h.alloc (.row r)) w' where
  gle := by have := hr.gle; simp; omega
  glob i hi := by
    have := hr.gle
    have e1 := hr.glob i hi
    simp [Ren.put, show ¬ i = h.next by omega, e1]
  obj i p hp := by
    rw [Heap.get_alloc] at hp
    split at hp
    · rename_i e
      subst e
      cases hp
      obtain ⟨_, c, fz, h1, h2, h3, h4, h5, h6, h7, h8⟩ := hr'.obj b _ hg
      refine ⟨fun v hv => sc_flat _ v (hf v hv), c, fz, by rw [Ren.put_blk]; exact h1, by rw [Ren.put_sh, Ren.put_ext]; exact h2, ?_, by rw [Ren.put_blk, Ren.put_sh]; exact h4, by rw [Ren.put_blk]; exact h5, h6, h7, by rw [Ren.put_ext]; exact h8⟩
      intro k v hk
      rw [Ren.put_sh, h3 k v hk, ren_flat _ v (hf v (List.mem_of_getElem? hk)), ren_flat _ v (hf v (List.mem_of_getElem? hk))]
    · have hlt := Heap.lt_of_get hp
      have h0 := hr.obj i p hp
      have h1 := hr'.obj i p (by rw [hm i hlt]; exact hp)
      obtain ⟨e1, e2, e3⟩ := ha i hlt
      have hag : m.agree h.next (m.put h.next (m'.blk b) (m'.sh b) (m'.ext b)) := Ren.agree_put m _ _ _ _ _ (Nat.le_refl _)
      obtain ⟨q1, q2, q3⟩ := hag i hlt
      cases p with
      | dead => trivial
      | row r2 =>
        obtain ⟨s1, _⟩ := h0
        obtain ⟨_, c, fz, b1, b2, b3, b4, b5, b6, b7, b8⟩ := h1
        refine ⟨fun v hv => sc_mono (by simp) v (s1 v hv), c, fz, by rw [← q1, e1]; exact b1, by rw [← q2, ← q3, e2, e3]; exact b2, ?_, by rw [← q1, e1, ← q2, e2]; exact b4, by rw [← q1, e1]; exact b5, b6, b7, by rw [← q3, e3]; exact b8⟩
        intro k v hk
        have hs := s1 v (List.mem_of_getElem? hk)
        rw [← q2, ← ren_congr hag v hs, e2, b3 k v hk, ren_congr ha v hs]
      | map es clock =>
        obtain ⟨s1, _⟩ := h0
        obtain ⟨_, b1, b2⟩ := h1
        refine ⟨fun e he => ⟨sc_mono (by simp) _ (s1 e he).1, sc_mono (by simp) _ (s1 e he).2⟩, ?_, by rw [← q1, e1]; exact b2⟩
        have : es.map (renE (m.put h.next (m'.blk b) (m'.sh b) (m'.ext b))) = es.map (renE m') := List.map_congr_left fun e he => by rw [← renE_congr hag (s1 e he), renE_congr ha (s1 e he)]
        rw [← q1, e1, this]; exact b1
      | iter s pos =>
        obtain ⟨b1, b2⟩ := h1
        exact ⟨by rw [← q1, e1]; exact b1, by rw [← q1, e1]; exact b2⟩
  apart i j p q hij hp hq hpo hqo := by
    have key : ∀ i p, (h.alloc (.row r)).get i = some p → p.own = true → ∃ i', h'.get i' = some p ∧ (m.put h.next (m'.blk b) (m'.sh b) (m'.ext b)).blk i = m'.blk i' ∧ (i = h.next ∧ i' = b ∨ i < h.next ∧ i' = i) := by
      intro i p hp _
      rw [Heap.get_alloc] at hp
      split at hp
      · rename_i e; subst e; cases hp; exact ⟨b, hg, Ren.put_blk _ _ _ _ _, .inl ⟨rfl, rfl⟩⟩
      · have hlt := Heap.lt_of_get hp
        exact ⟨i, by rw [hm i hlt]; exact hp, by rw [← (Ren.agree_put m _ _ _ _ _ (Nat.le_refl _) i hlt).1]; exact (ha i hlt).1, .inr ⟨hlt, rfl⟩⟩
    obtain ⟨i', a1, a2, a3⟩ := key i p hp hpo
    obtain ⟨j', b1, b2, b3⟩ := key j q hq hqo
    rw [a2, b2]
    exact hr'.apart i' j' p q (by omega) a1 b1 hpo hqo
  frame := hr'.frame
  size := hr'.size
  io := hr'.io

/-- What a call made is forgotten. -/
theorem HRel.forget {P : Program} {S : Start} {m m' : Ren} {h h' : Heap} {w w' : World} (hr : HRel P S m h w) (hr' : HRel P S m' h' w') (ha : m.agree h.next m') (hm : ∀ j, j < h.next → h'.get j = h.get j) : HRel P S m h w' where
  gle := hr.gle
  glob := hr.glob
  obj i p hp := by
    have hlt := Heap.lt_of_get hp
    have h0 := hr.obj i p hp
    have h1 := hr'.obj i p (by rw [hm i hlt]; exact hp)
    obtain ⟨e1, e2, e3⟩ := ha i hlt
    cases p with
    | dead => trivial
    | row r2 =>
      obtain ⟨s1, _⟩ := h0
      obtain ⟨_, c, fz, b1, b2, b3, b4, b5, b6, b7, b8⟩ := h1
      refine ⟨s1, c, fz, by rw [e1]; exact b1, by rw [e2, e3]; exact b2, ?_, by rw [e1, e2]; exact b4, by rw [e1]; exact b5, b6, b7, by rw [e3]; exact b8⟩
      intro k v hk
      rw [e2, b3 k v hk, ren_congr ha v (s1 v (List.mem_of_getElem? hk))]
    | map es clock =>
      obtain ⟨s1, _⟩ := h0
      obtain ⟨_, b1, b2⟩ := h1
      refine ⟨s1, ?_, by rw [e1]; exact b2⟩
      have : es.map (renE m) = es.map (renE m') := List.map_congr_left fun e he => renE_congr ha (s1 e he)
      rw [e1, this]; exact b1
    | iter s pos =>
      obtain ⟨b1, b2⟩ := h1
      exact ⟨by rw [e1]; exact b1, by rw [e1]; exact b2⟩
  apart i j p q hij hp hq hpo hqo := by
    have l1 := Heap.lt_of_get hp
    have l2 := Heap.lt_of_get hq
    rw [(ha i l1).1, (ha j l2).1]
    exact hr'.apart i j p q hij (by rw [hm i l1]; exact hp) (by rw [hm j l2]; exact hq) hpo hqo
  frame := hr'.frame
  size := hr'.size
  io := hr'.io
/-- A call that leaves nothing but its result, which names no memory. -/
theorem GoodE.forget {P : Program} {G : Nat} {B : Base P G} {f : FuncId} {args : List Value} {h h' : Heap} {v : Value} (hg : GoodE P B f args h v h') (hm : h.more h') (hv : flat v = true) : GoodE P B f args h v h := by
  intro S hS m w hr hs
  refine (hg S hS m w hr hs).mono ?_
  rintro e w' ⟨m', q1, _, q3, rfl, _⟩
  exact ⟨m, Ren.agree_refl _ _, Nat.le_refl _, hr.forget q3 q1 hm.2, by simp [renN, ren_flat _ v hv], sc_flat _ v hv⟩
/-- A call that leaves nothing but its result: a row that append made, of which nothing points anywhere, in a tuple with what is flat. -/
theorem GoodE.gather {P : Program} {G : Nat} {B : Base P G} {f : FuncId} {args : List Value} {h h' : Heap} {b n : Nat} {r : Row} {g : Value → Value} (hg : GoodE P B f args h (g (.slice (some ⟨b, 0, none⟩) n n)) h') (hm : h.more h') (hb : h.next ≤ b)
    (hrow : h'.get b = some (.row r)) (hf : ∀ v ∈ r.vs, flat v = true) (hren : ∀ m x, ren m (g x) = g (ren m x)) (hsc : ∀ k x, sc k x → sc k (g x)) : GoodE P B f args h (g (.slice (some ⟨h.next, 0, none⟩) n n)) (h.alloc (.row r)) := by
  intro S hS m w hr hs
  refine (hg S hS m w hr hs).mono ?_
  rintro e w' ⟨m', q1, _, q3, rfl, _⟩
  refine ⟨_, Ren.agree_put m _ _ _ _ _ (Nat.le_refl _), by simp, hr.gather q3 q1 hm.2 hb hrow hf, ?_, hsc _ _ (by simp [sc])⟩
  simp only [renN, hren, ren, Ren.put_blk, Ren.put_sh, Ren.put_ext, Nat.zero_add]
end Go.Mini
end
section
/-
  MINI, part YU: a region that draws its order, in which one place is made in no told order with calls: each of its orders is one of a few.
-/
namespace Go.Mini
set_option linter.unusedSimpArgs false

/-- How many of cs stand ahead of f. -/
def before (cs : List Nat) (f : Nat) : List Nat → Nat
  | [] => 0
  | i :: l => if i = f then 0 else (if i ∈ cs then 1 else 0) + before cs f l
/-- Those that turn the memory, in their order: the place is made behind p of them. -/
def louds (cs : List Nat) (f p : Nat) : List Nat := cs.take p ++ f :: cs.drop p

section
variable {P : Program} {G : Nat} {Ext : FuncId → List Value → Heap → Value → Heap → Prop} {ops : List Oper} {cs : List Nat} {f p hi : Nat} {V : Nat → Value} {FF : Nat → Frm} {HH : Nat → Heap}

theorem louds_len (h : p ≤ cs.length) : (louds cs f p).length = cs.length + 1 := by unfold louds; simp; omega
theorem louds_mem {i : Nat} (h : i ∈ louds cs f p) : i = f ∨ i ∈ cs := by
  unfold louds at h
  rcases List.mem_append.1 h with q | q
  · exact .inr (List.mem_of_mem_take q)
  · rcases List.mem_cons.1 q with q | q
    · exact .inl q
    · exact .inr (List.mem_of_mem_drop q)
theorem louds_at (h : p ≤ cs.length) : (louds cs f p)[p]? = some f := by
  unfold louds
  rw [List.getElem?_append_right (by simp [Nat.min_eq_left h]), List.length_take, Nat.min_eq_left h, Nat.sub_self]
  rfl
/-- One of cs, where it stands. -/
theorem louds_of (h : p ≤ cs.length) {a i : Nat} (ha : cs[a]? = some i) : (louds cs f p)[if a < p then a else a + 1]? = some i := by
  have hlt := (List.getElem?_eq_some_iff.1 ha).1
  unfold louds
  split
  · rename_i q
    rw [List.getElem?_append_left (by simp; omega), List.getElem?_take, if_pos q]
    exact ha
  · rename_i q
    rw [List.getElem?_append_right (by simp; omega), List.length_take, Nat.min_eq_left h, show a + 1 - p = (a - p) + 1 by omega, List.getElem?_cons_succ, List.getElem?_drop, show p + (a - p) = a by omega]
    exact ha
theorem louds_inv (h : p ≤ cs.length) {e i : Nat} (he : (louds cs f p)[e]? = some i) : (e = p ∧ i = f) ∨ ∃ a, cs[a]? = some i ∧ e = if a < p then a else a + 1 := by
  unfold louds at he
  rcases Nat.lt_trichotomy e p with q | q | q
  · rw [List.getElem?_append_left (by simp; omega), List.getElem?_take, if_pos q] at he
    exact .inr ⟨e, he, by rw [if_pos q]⟩
  · subst q
    rw [List.getElem?_append_right (by simp [Nat.min_eq_left h]), List.length_take, Nat.min_eq_left h, Nat.sub_self] at he
    exact .inl ⟨rfl, by simpa using he.symm⟩
  · rw [List.getElem?_append_right (by simp; omega), List.length_take, Nat.min_eq_left h, show e - p = (e - p - 1) + 1 by omega, List.getElem?_cons_succ, List.getElem?_drop] at he
    exact .inr ⟨p + (e - p - 1), he, by rw [if_neg (by omega)]; omega⟩

/-- One of the orders of those that turn the memory. -/
structure Var (P : Program) (G : Nat) (Ext : FuncId → List Value → Heap → Value → Heap → Prop) (ops : List Oper) (cs : List Nat) (f p : Nat) (V : Nat → Value) (FF : Nat → Frm) (HH : Nat → Heap) : Prop where
  dg : DrawnG ops V FF
  pl : p ≤ cs.length
  lt : ∀ i ∈ f :: cs, i < ops.length
  ne : f ∉ cs
  ord : ∀ (a b i j : Nat), cs[a]? = some i → cs[b]? = some j → a < b → ahead ops i j = true
  inj : ∀ (a b i : Nat), cs[a]? = some i → cs[b]? = some i → a = b
  loud : ∀ (d i : Nat) (o : Oper), (louds cs f p)[d]? = some i → ops[i]? = some o → St P G Ext ops o (FF i) (HH d) (V i) (HH (d + 1))
  calm : ∀ (i : Nat) (o : Oper) (d : Nat), ops[i]? = some o → i ≠ f → i ∉ cs → d ≤ cs.length + 1 → (∀ (j e : Nat), (louds cs f p)[e]? = some j → ahead ops j i = true → e < d) → (∀ (j e : Nat), (louds cs f p)[e]? = some j → ahead ops i j = true → d ≤ e) →
    St P G Ext ops o (FF i) (HH d) (V i) (HH d)

theorem Var.uniq (v : Var P G Ext ops cs f p V FF HH) {d e i : Nat} (h1 : (louds cs f p)[d]? = some i) (h2 : (louds cs f p)[e]? = some i) : d = e := by
  rcases louds_inv v.pl h1 with ⟨rfl, rfl⟩ | ⟨a, a1, rfl⟩
  · rcases louds_inv v.pl h2 with ⟨rfl, _⟩ | ⟨b, b1, _⟩
    · rfl
    · exact absurd (List.mem_of_getElem? b1) v.ne
  · rcases louds_inv v.pl h2 with ⟨rfl, rfl⟩ | ⟨b, b1, rfl⟩
    · exact absurd (List.mem_of_getElem? a1) v.ne
    · rw [v.inj a b i a1 b1]
theorem Var.lord (v : Var P G Ext ops cs f p V FF HH) {d e i j : Nat} (h1 : (louds cs f p)[d]? = some i) (h2 : (louds cs f p)[e]? = some j) (hi : i ≠ f) (hj : j ≠ f) (hde : d < e) : ahead ops i j = true := by
  rcases louds_inv v.pl h1 with ⟨_, q⟩ | ⟨a, a1, rfl⟩
  · exact absurd q hi
  rcases louds_inv v.pl h2 with ⟨_, q⟩ | ⟨b, b1, rfl⟩
  · exact absurd q hj
  refine v.ord a b i j a1 b1 ?_
  split at hde <;> split at hde <;> omega
theorem Var.mem (v : Var P G Ext ops cs f p V FF HH) {i : Nat} (h : i = f ∨ i ∈ cs) : ∃ e : Nat, e < cs.length + 1 ∧ (louds cs f p)[e]? = some i := by
  have key : ∃ e : Nat, (louds cs f p)[e]? = some i := by
    rcases h with rfl | h
    · exact ⟨p, louds_at v.pl⟩
    · obtain ⟨a, ha⟩ := List.getElem?_of_mem h
      exact ⟨_, louds_of v.pl ha⟩
  obtain ⟨e, he⟩ := key
  have := (List.getElem?_eq_some_iff.1 he).1
  rw [louds_len v.pl] at this
  exact ⟨e, this, he⟩
theorem closed_back {L : Nat → Bool} (hb : ∀ i o, ops[i]? = some o → ∀ e ∈ o.after, Region.binds .any e = true → e.on < i) (hc : Closed ops L) {i j : Nat} {o : Oper} (ho : ops[j]? = some o) (hp : ∀ e ∈ o.after, Region.binds .any e = true → L e.on = true) (ha : ahead ops i j = true) : L i = true :=
  ahead_closed ops (fun j => L j = true) hb (fun j x hj hx => hc j x hx hj) j o ho hp i ha

theorem Var.run (v : Var P G Ext ops cs f p V FF HH) (u : Option FrameMode) (t : Nat) (hp : before cs f (Region.linearise .any ops.toArray t) = p) :
    ∃ F', Big P G Ext (.ops ops.toArray (Region.linearise .any ops.toArray t) (FF 0) u) (HH 0) (.x .normal F' u) (HH (cs.length + 1)) ∧ (FF ops.length).le F' := by
  have := v.dg.go (fun L l F F' => ∀ d, d ≤ cs.length + 1 → (∀ (e j : Nat), (louds cs f p)[e]? = some j → (L j = true ↔ e < d)) → (L f = true ∨ d + before cs f l = p) → Big P G Ext (.ops ops.toArray l F u) (HH d) (.x .normal F' u) (HH (cs.length + 1)))
    ?_ ?_ ?_ ops.length t (Array.replicate ops.length false) (FF 0) (by simp) ?_ rfl rfl ?_ ?_
  · obtain ⟨F', b, hle⟩ := this
    refine ⟨F', ?_, hle⟩
    refine b 0 (Nat.zero_le _) (fun e j hj => ?_) (.inr (by simpa [Region.linearise] using hp))
    have hl : j < ops.length := v.lt j (by
      rcases louds_mem (List.mem_of_getElem? hj) with rfl | q
      · exact List.mem_cons_self ..
      · exact List.mem_cons_of_mem _ q)
    simp [hl]
  · intro L F hL d hd hpre _
    have : d = cs.length + 1 := by
      rcases Nat.lt_or_ge d (cs.length + 1) with q | q
      · exfalso
        have hq : d < (louds cs f p).length := by rw [louds_len v.pl]; exact q
        have he := List.getElem?_eq_getElem hq
        have hm : (louds cs f p)[d] ∈ f :: cs := by
          rcases louds_mem (List.getElem_mem hq) with r | r
          · rw [r]; exact List.mem_cons_self ..
          · exact List.mem_cons_of_mem _ r
        have := (hpre d _ he).1 (hL _ (v.lt _ hm))
        omega
      · omega
    subst this
    exact .opsNil
  · intro L i o l F F1 F' hcl ho hun hpr hlook hput ih d hd hpre hC
    by_cases hq : i = f ∨ i ∈ cs
    · obtain ⟨e, he1, he2⟩ := v.mem hq
      have hde : d ≤ e := by
        rcases Nat.lt_or_ge e d with q | q
        · have := (hpre e i he2).2 q; rw [hun] at this; cases this
        · exact q
      have hed : e = d := by
        by_cases hif : i = f
        · subst hif
          rcases hC with q | q
          · rw [hun] at q; cases q
          · have h0 : before cs i (i :: l) = 0 := by simp [before]
            rw [h0] at q
            have := v.uniq he2 (louds_at v.pl)
            omega
        · rcases Nat.lt_or_ge d e with q | q
          · exfalso
            have hdl : d < (louds cs f p).length := by rw [louds_len v.pl]; omega
            have hd1 := List.getElem?_eq_getElem hdl
            have hLd : L (louds cs f p)[d] = false := by
              cases hx : L (louds cs f p)[d] with
              | false => rfl
              | true => have := (hpre d _ hd1).1 hx; omega
            by_cases hjf : (louds cs f p)[d] = f
            · rw [hjf] at hLd hd1
              have := v.uniq hd1 (louds_at v.pl)
              rcases hC with r | r
              · rw [hLd] at r; cases r
              · have h0 : before cs f (i :: l) = 1 + before cs f l := by simp [before, hif, hq.resolve_left hif]
                omega
            · have := closed_back v.dg.back hcl ho hpr (v.lord hd1 he2 hjf hif q)
              rw [hLd] at this; cases this
          · omega
      subst hed
      refine ((v.loud e i o he2 ho).congr hlook).big ho hput (ih (e + 1) (by omega) (fun e' j hj => ?_) ?_)
      · unfold also
        by_cases hji : j = i
        · subst hji
          have := v.uniq hj he2
          simp; omega
        · rw [if_neg hji, hpre e' j hj]
          have : e' ≠ e := by
            rintro rfl
            rw [he2] at hj; cases hj; exact hji rfl
          omega
      · by_cases hif : i = f
        · exact .inl (by simp [also, hif])
        · rcases hC with r | r
          · exact .inl (by unfold also; split <;> simp_all)
          · right
            have h0 : before cs f (i :: l) = 1 + before cs f l := by simp [before, hif, hq.resolve_left hif]
            omega
    · have hif : i ≠ f := fun q => hq (.inl q)
      have hic : i ∉ cs := fun q => hq (.inr q)
      have hs : St P G Ext ops o (FF i) (HH d) (V i) (HH d) := v.calm i o d ho hif hic hd (fun j e hj ha => (hpre e j hj).1 (closed_back v.dg.back hcl ho hpr ha)) (fun j e hj ha => by
        rcases Nat.lt_or_ge e d with q | q
        · have hj1 := (hpre e j hj).2 q
          have hjl : j < ops.length := v.lt j (by
            rcases louds_mem (List.mem_of_getElem? hj) with rfl | q
            · exact List.mem_cons_self ..
            · exact List.mem_cons_of_mem _ q)
          have hoj : ops[j]? = some ops[j] := List.getElem?_eq_getElem hjl
          have := closed_back v.dg.back hcl hoj (hcl j _ hoj hj1) ha
          rw [hun] at this; cases this
        · exact q)
      refine (hs.congr hlook).big ho hput (ih d hd (fun e j hj => ?_) ?_)
      · have hji : j ≠ i := by
          rintro rfl
          exact hq (louds_mem (List.mem_of_getElem? hj))
        unfold also
        rw [if_neg hji]
        exact hpre e j hj
      · have h0 : before cs f (i :: l) = before cs f l := by simp [before, hif, hic]
        rw [h0] at hC
        rcases hC with r | r
        · exact .inl (by unfold also; split <;> simp_all)
        · exact .inr r
  · intro L L' l F F' hLL h d hd hpre hC
    have hfl : f < ops.length := v.lt f (List.mem_cons_self ..)
    refine h d hd (fun e j hj => ?_) (by rw [hLL f hfl]; exact hC)
    have hjl : j < ops.length := v.lt j (by
      rcases louds_mem (List.mem_of_getElem? hj) with rfl | q
      · exact List.mem_cons_self ..
      · exact List.mem_cons_of_mem _ q)
    rw [hLL j hjl]
    exact hpre e j hj
  · intro i o ho hi
    have := lt_length ho
    simp [this] at hi
  · intro s
    rw [vat_congr (L' := fun j => decide (j < 0)) ops.length (fun j hj _ => by simp [hj]), vat_below ops.length (Nat.zero_le _)]
    rfl
  · exact Nat.le_trans (List.length_filter_le _ _) (by simp)

/-- No more than hi stand ahead of the place, where the others come behind it. -/
theorem Var.most (v : Var P G Ext ops cs f p V FF HH) (hh : hi ≤ cs.length) (hd : ∀ (a c : Nat), cs[a]? = some c → hi ≤ a → ahead ops f c = true) (t : Nat) : before cs f (Region.linearise .any ops.toArray t) ≤ hi := by
  have := v.dg.go (fun L l _ _ => ∀ d, d ≤ hi → (∀ (a c : Nat), cs[a]? = some c → (L c = true ↔ a < d)) → L f = false → d + before cs f l ≤ hi)
    ?_ ?_ ?_ ops.length t (Array.replicate ops.length false) (FF 0) (by simp) ?_ rfl rfl ?_ ?_
  · obtain ⟨_, b, _⟩ := this
    have := b 0 (Nat.zero_le _) (fun a c hc => by
      have hl : c < ops.length := v.lt c (List.mem_cons_of_mem _ (List.mem_of_getElem? hc))
      simp [hl]) (by have hl : f < ops.length := v.lt f (List.mem_cons_self ..); simp [hl])
    simpa [Region.linearise] using this
  · intro L F hL d _ _ hf
    rw [hL f (v.lt f (List.mem_cons_self ..))] at hf
    cases hf
  · intro L i o l F F1 F' hcl ho hun hpr _ _ ih d hdl hpre hLf
    by_cases hif : i = f
    · have h0 : before cs f (i :: l) = 0 := by simp [before, hif]
      omega
    by_cases hic : i ∈ cs
    · obtain ⟨a, ha⟩ := List.getElem?_of_mem hic
      have hda : d ≤ a := by
        rcases Nat.lt_or_ge a d with q | q
        · have := (hpre a i ha).2 q; rw [hun] at this; cases this
        · exact q
      have hal := (List.getElem?_eq_some_iff.1 ha).1
      have had : a = d := by
        rcases Nat.lt_or_ge d a with q | q
        · have hd1 : cs[d]? = some cs[d] := List.getElem?_eq_getElem (by omega)
          have h1 := closed_back v.dg.back hcl ho hpr (v.ord d a _ _ hd1 ha q)
          have := (hpre d _ hd1).1 h1
          omega
        · omega
      subst had
      have hlt : a < hi := by
        rcases Nat.lt_or_ge a hi with q | q
        · exact q
        · have := closed_back v.dg.back hcl ho hpr (hd a i ha q)
          rw [hLf] at this; cases this
      have := ih (a + 1) hlt (fun b c hc => by
        unfold also
        by_cases hci : c = i
        · subst hci
          have := v.inj b a c hc ha
          simp; omega
        · rw [if_neg hci, hpre b c hc]
          have : b ≠ a := by rintro rfl; rw [ha] at hc; cases hc; exact hci rfl
          omega) (by unfold also; rw [if_neg (Ne.symm hif)]; exact hLf)
      have h0 : before cs f (i :: l) = 1 + before cs f l := by simp [before, hif, hic]
      omega
    · have := ih d hdl (fun b c hc => by
        have hci : c ≠ i := by rintro rfl; exact hic (List.mem_of_getElem? hc)
        unfold also
        rw [if_neg hci]
        exact hpre b c hc) (by unfold also; rw [if_neg (Ne.symm hif)]; exact hLf)
      have h0 : before cs f (i :: l) = before cs f l := by simp [before, hif, hic]
      omega
  · intro L L' l F F' hLL h d hdl hpre hLf
    refine h d hdl (fun a c hc => ?_) (by rw [hLL f (v.lt f (List.mem_cons_self ..))]; exact hLf)
    rw [hLL c (v.lt c (List.mem_cons_of_mem _ (List.mem_of_getElem? hc)))]
    exact hpre a c hc
  · intro i o ho hi2
    have := lt_length ho
    simp [this] at hi2
  · intro s
    rw [vat_congr (L' := fun j => decide (j < 0)) ops.length (fun j hj _ => by simp [hj]), vat_below ops.length (Nat.zero_le _)]
    rfl
  · exact Nat.le_trans (List.length_filter_le _ _) (by simp)
end
end Go.Mini
end
section
/-
  MINI, part YV: blocks under other numbers: the heap that tells the same.
-/
namespace Go.Mini
set_option linter.unusedSimpArgs false

/-! ### blocks under other numbers -/
mutual
def mv (f : Nat → Nat) : Value → Value
  | .pointer (some a) => .pointer (some ⟨f a.block, a.off, a.spot⟩)
  | .slice (some a) l c => .slice (some ⟨f a.block, a.off, a.spot⟩) l c
  | .map (some r) => .map (some (f r))
  | .func fn x y => .func fn (mvA f x) (mvA f y)
  | .iface t v => .iface t (mv f v)
  | .agg cs => .agg (mvA f cs)
  | .tuple cs => .tuple (mvA f cs)
  | .bool b => .bool b
  | .int k n => .int k n
  | .float k n => .float k n
  | .complex k a b => .complex k a b
  | .string s => .string s
  | .pointer none => .pointer none
  | .slice none l c => .slice none l c
  | .map none => .map none
  | .chan r => .chan r
  | .nilFunc => .nilFunc
  | .nilIface => .nilIface
def mvA (f : Nat → Nat) : Array Value → Array Value
  | ⟨l⟩ => ⟨mvL f l⟩
def mvL (f : Nat → Nat) : List Value → List Value
  | [] => []
  | v :: l => mv f v :: mvL f l
end
theorem mvL_map (f : Nat → Nat) : ∀ l, mvL f l = l.map (mv f)
  | [] => rfl
  | v :: l => by simp [mvL, mvL_map f l]
theorem mvL_length (f : Nat → Nat) (l : List Value) : (mvL f l).length = l.length := by rw [mvL_map]; simp

/-- Two ways to the same place. -/
def Ren.via (n : Nat) (a : Ren) (f : Nat → Nat) (c : Ren) (g : Nat → Nat) : Prop := ∀ i, i < n → a.blk (f i) = c.blk (g i) ∧ a.sh (f i) = c.sh (g i) ∧ a.ext (f i) = c.ext (g i)
mutual
theorem ren_mv {n : Nat} {a c : Ren} {f g : Nat → Nat} (h : a.via n f c g) : ∀ v, sc n v → ren a (mv f v) = ren c (mv g v)
  | .pointer (some p), hs => by simp only [sc] at hs; simp [mv, ren, (h _ hs).1, (h _ hs).2.1]
  | .slice (some p) _ _, hs => by simp only [sc] at hs; simp [mv, ren, (h _ hs).1, (h _ hs).2.1, (h _ hs).2.2]
  | .map (some r), hs => by simp only [sc] at hs; simp [mv, ren, (h _ hs).1]
  | .func fn x y, hs => by simp only [sc] at hs; simp [mv, ren, renA_mv h x hs.1, renA_mv h y hs.2]
  | .iface t v, hs => by simp only [sc] at hs; simp [mv, ren, ren_mv h v hs]
  | .agg cs, hs => by simp only [sc] at hs; simp [mv, ren, renA_mv h cs hs]
  | .tuple cs, hs => by simp only [sc] at hs; simp [mv, ren, renA_mv h cs hs]
  | .bool b, _ => by simp [mv, ren]
  | .int k n, _ => by simp [mv, ren]
  | .float k n, _ => by simp [mv, ren]
  | .complex k a b, _ => by simp [mv, ren]
  | .string s, _ => by simp [mv, ren]
  | .pointer none, _ => by simp [mv, ren]
  | .slice none l c, _ => by simp [mv, ren]
  | .map none, _ => by simp [mv, ren]
  | .chan r, _ => by cases r <;> simp [mv, ren]
  | .nilFunc, _ => by simp [mv, ren]
  | .nilIface, _ => by simp [mv, ren]
theorem renA_mv {n : Nat} {a c : Ren} {f g : Nat → Nat} (h : a.via n f c g) : ∀ v, scA n v → renA a (mvA f v) = renA c (mvA g v)
  | ⟨l⟩, hs => by simp only [scA] at hs; simp [mvA, renA, renL_mv h l hs]
theorem renL_mv {n : Nat} {a c : Ren} {f g : Nat → Nat} (h : a.via n f c g) : ∀ l, scL n l → renL a (mvL f l) = renL c (mvL g l)
  | [], _ => rfl
  | v :: l, hs => by simp only [scL] at hs; simp [mvL, renL, ren_mv h v hs.1, renL_mv h l hs.2]
end
mutual
theorem sc_mv {n k : Nat} {f : Nat → Nat} (h : ∀ i, i < n → f i < k) : ∀ v, sc n v → sc k (mv f v)
  | .pointer (some p), hs => by simp only [sc, mv] at *; exact h _ hs
  | .slice (some p) _ _, hs => by simp only [sc, mv] at *; exact h _ hs
  | .map (some r), hs => by simp only [sc, mv] at *; exact h _ hs
  | .func fn x y, hs => by simp only [sc, mv] at *; exact ⟨scA_mv h x hs.1, scA_mv h y hs.2⟩
  | .iface t v, hs => by simp only [sc, mv] at *; exact sc_mv h v hs
  | .agg cs, hs => by simp only [sc, mv] at *; exact scA_mv h cs hs
  | .tuple cs, hs => by simp only [sc, mv] at *; exact scA_mv h cs hs
  | .bool b, _ | .int k n, _ | .float k n, _ | .complex k a b, _ | .string s, _ | .pointer none, _ | .slice none l c, _ | .map none, _ | .chan r, _ | .nilFunc, _ | .nilIface, _ => by simp [sc, mv]
theorem scA_mv {n k : Nat} {f : Nat → Nat} (h : ∀ i, i < n → f i < k) : ∀ a, scA n a → scA k (mvA f a)
  | ⟨l⟩, hs => by simp only [scA, mvA] at *; exact scL_mv h l hs
theorem scL_mv {n k : Nat} {f : Nat → Nat} (h : ∀ i, i < n → f i < k) : ∀ l, scL n l → scL k (mvL f l)
  | [], _ => by simp [scL, mvL]
  | v :: l, hs => by simp only [scL, mvL] at *; exact ⟨sc_mv h v hs.1, scL_mv h l hs.2⟩
end
def mvE (f : Nat → Nat) (e : MapEntry) : MapEntry := { key := mv f e.key, val := mv f e.val, born := e.born }
def mvO (f : Nat → Nat) : AObj → AObj
  | .dead => .dead
  | .row r => .row { r with vs := mvL f r.vs }
  | .map es c => .map (es.map (mvE f)) c
  | .iter s p => .iter s p
def scO (n : Nat) : AObj → Prop
  | .row r => scL n r.vs
  | .map es _ => ∀ e ∈ es, sc n e.key ∧ sc n e.val
  | _ => True
def AObj.outer : AObj → Bool
  | .row r => r.outer
  | _ => false
theorem own_mvO (f : Nat → Nat) (o : AObj) : (mvO f o).own = o.own := by cases o <;> rfl
theorem outer_mvO (f : Nat → Nat) (o : AObj) : (mvO f o).outer = o.outer := by cases o <;> rfl

mutual
theorem mv_id {k : Nat} {f : Nat → Nat} (h : ∀ i, i < k → f i = i) : ∀ v, sc k v → mv f v = v
  | .pointer (some q), hs => by simp only [sc] at hs; simp [mv, h _ hs]
  | .slice (some q) _ _, hs => by simp only [sc] at hs; simp [mv, h _ hs]
  | .map (some r), hs => by simp only [sc] at hs; simp [mv, h _ hs]
  | .func fn x y, hs => by simp only [sc] at hs; simp [mv, mvA_id h x hs.1, mvA_id h y hs.2]
  | .iface t v, hs => by simp only [sc] at hs; simp [mv, mv_id h v hs]
  | .agg cs, hs => by simp only [sc] at hs; simp [mv, mvA_id h cs hs]
  | .tuple cs, hs => by simp only [sc] at hs; simp [mv, mvA_id h cs hs]
  | .bool b, _ | .int k n, _ | .float k n, _ | .complex k a b, _ | .string s, _ | .pointer none, _ | .slice none l c, _ | .map none, _ | .chan r, _ | .nilFunc, _ | .nilIface, _ => by simp [mv]
theorem mvA_id {k : Nat} {f : Nat → Nat} (h : ∀ i, i < k → f i = i) : ∀ v, scA k v → mvA f v = v
  | ⟨l⟩, hs => by simp only [scA] at hs; simp [mvA, mvL_id h l hs]
theorem mvL_id {k : Nat} {f : Nat → Nat} (h : ∀ i, i < k → f i = i) : ∀ l, scL k l → mvL f l = l
  | [], _ => by simp [mvL]
  | v :: l, hs => by simp only [scL] at hs; simp [mvL, mv_id h v hs.1, mvL_id h l hs.2]
end
theorem mvO_id {k : Nat} {f : Nat → Nat} (h : ∀ i, i < k → f i = i) {o : AObj} (hs : scO k o) : mvO f o = o := by
  cases o with
  | row r => obtain ⟨vs, e, g, ou, ro, st⟩ := r; simp only [scO] at hs; simp only [mvO, mvL_id h vs hs]
  | map es c =>
    simp only [scO] at hs
    have : es.map (mvE f) = es := by
      have : es.map (mvE f) = es.map id := List.map_congr_left fun e he => by
        obtain ⟨k, v, b⟩ := e
        simp only [mvE, id, mv_id h _ (hs _ he).1, mv_id h _ (hs _ he).2]
      simpa using this
    simp only [mvO, this]
  | _ => rfl


/-! ### a heap under other numbers -/
def turnR (m : Ren) (ρ : Nat → Nat) : Ren := ⟨fun i => m.blk (ρ i), fun i => m.sh (ρ i), fun i => m.ext (ρ i)⟩
section
variable {P : Program} {S : Start} {m : Ren} {H H1 : Heap} {w : World} {π ρ : Nat → Nat} {n : Nat}
theorem ren_turn (h2 : ∀ i, ρ (π i) = i) {k : Nat} {v : Value} (hs : sc k v) : ren (turnR m ρ) (mv π v) = ren m v := by
  have hv : (turnR m ρ).via k π m id := fun i _ => by simp [turnR, h2 i]
  rw [ren_mv hv v hs, mv_id (f := id) (fun _ _ => rfl) v hs]
theorem HRel.turn (hr : HRel P S m H w) (hG : S.G ≤ n) (h1 : ∀ i, i < n → ρ i = i) (h2 : ∀ i, ρ (π i) = i) (h2' : ∀ i, π (ρ i) = i) (h3 : ∀ i, i < H.next → π i < H.next) (hn : H1.next = H.next)
    (hg : ∀ i o, H1.get i = some o → ∃ q, H.get (ρ i) = some q ∧ o = mvO π q) : HRel P S (turnR m ρ) H1 w ∧ m.agree n (turnR m ρ) := by
  have hinj : ∀ i j, ρ i = ρ j → i = j := fun i j h => by have := congrArg π h; rwa [h2', h2'] at this
  refine ⟨⟨by rw [hn]; exact hr.gle, ?_, ?_, ?_, hr.frame, hr.size, hr.io⟩, fun i hi => by simp [turnR, h1 i hi]⟩
  · intro i hi
    have := h1 i (by omega)
    simp only [turnR, this]
    exact hr.glob i hi
  · intro i o hg0
    rw [hn]
    obtain ⟨q, hgk, rfl⟩ := hg i o hg0
    have ho := hr.obj (ρ i) q hgk
    cases q with
    | dead => trivial
    | row r =>
      obtain ⟨b0, c, fz, b1, b2, b3, b4, b5, b6, b7, b8⟩ := ho
      refine ⟨?_, c, fz, b1, ?_, ?_, b4, b5, b6, b7, b8⟩
      · intro v hv
        simp only [mvL_map, List.mem_map] at hv
        obtain ⟨x, hx, rfl⟩ := hv
        exact sc_mv h3 x (b0 x hx)
      · simp only [turnR, mvL_length]; exact b2
      · intro k v hk
        simp only [mvL_map, List.getElem?_map] at hk
        obtain ⟨x, hx, rfl⟩ := Option.map_eq_some_iff.1 hk
        rw [ren_turn h2 (b0 x (List.mem_of_getElem? hx))]
        exact b3 k x hx
    | map es clock =>
      obtain ⟨b0, b1, b2⟩ := ho
      refine ⟨?_, ?_, b2⟩
      · intro e he
        obtain ⟨e0, he0, rfl⟩ := List.mem_map.1 he
        exact ⟨sc_mv h3 _ (b0 e0 he0).1, sc_mv h3 _ (b0 e0 he0).2⟩
      · have : (es.map (mvE π)).map (renE (turnR m ρ)) = es.map (renE m) := by
          rw [List.map_map]
          refine List.map_congr_left fun e he => ?_
          simp only [Function.comp, renE, mvE, ren_turn h2 (b0 e he).1, ren_turn h2 (b0 e he).2]
        rw [this]; exact b1
    | iter s pos => exact ho
  · intro i j o p hij hi hj ho hp
    obtain ⟨q1, g1, rfl⟩ := hg i o hi
    obtain ⟨q2, g2, rfl⟩ := hg j p hj
    rw [own_mvO] at ho hp
    exact hr.apart _ _ q1 q2 (fun e => hij (hinj _ _ e)) g1 g2 ho hp
/-- a comes behind the others up to b. -/
def rot (a b i : Nat) : Nat := if i < a then i else if i = a then b else if i ≤ b then i - 1 else i
def tor (a b i : Nat) : Nat := if i < a then i else if i < b then i + 1 else if i = b then a else i
theorem tor_rot {a b : Nat} (h : a ≤ b) (i : Nat) : tor a b (rot a b i) = i := by
  unfold rot tor
  repeat' split
  all_goals omega
theorem rot_tor {a b : Nat} (h : a ≤ b) (i : Nat) : rot a b (tor a b i) = i := by
  unfold rot tor
  repeat' split
  all_goals omega
end
end Go.Mini
end
