/-
  MINI, part L: what the relation tells, the model does.
-/
import Derived.Test.YtbcdlipddmoobaaMiniK
namespace Go.Mini

def Ends (P : Program) (S : Start) (m : Ren) (h h' : Heap) (e : Ending) (e' : Ending) (w' : World) : Prop :=
  ∃ m', m.agree h.next m' ∧ h.next ≤ h'.next ∧ HRel P S m' h' w' ∧ e' = renN m' e ∧ scN h'.next e
def EndsD (P : Program) (S : Start) (m : Ren) (h h' : Heap) (e : Ending) (u : FrameMode) (e' : Ending) (u' : FrameMode) (w' : World) : Prop :=
  ∃ m', m.agree h.next m' ∧ h.next ≤ h'.next ∧ HRel P S m' h' w' ∧ e' = renN m' e ∧ scN h'.next e ∧ u' = renM m' u ∧ scM h'.next u

def ExtOk (P : Program) (S : Start) (Ext : FuncId → List Value → Heap → Value → Heap → Prop) : Prop :=
  ∀ f args h v h', Ext f args h v h' → ∀ m w, HRel P S m h w → (∀ x ∈ args, sc h.next x) → Calls P f (args.map (ren m)).toArray w (Ends P S m h h' (.returned v))

/-- From a list of items on, in whatever surroundings. -/
def Runs (P : Program) (S : Start) (todo : List Item) (fr : Frm) (u : Option FrameMode) (h : Heap) (e : Exit) (fr' : Frm) (u' : Option FrameMode) (h' : Heap) : Prop :=
  ∀ m w a, HRel P S m h w → FRel m h.next fr a → scU h.next u → ∀ (b : Frame) (k : List Item) (c₀ : Frame) (cs₀ : List Frame), kindOk b u →
    ∃ m' w' a', m.agree h.next m' ∧ h.next ≤ h'.next ∧ HRel P S m' h' w' ∧ FRel m' h'.next fr' a' ∧ scU h'.next u' ∧ scX h'.next e ∧ u'.isSome = u.isSome ∧
      Arrives P (lone (b.at a (todo ++ k)) (csOf m c₀ cs₀ u) w) b k (csOf m' c₀ cs₀ u') (renX m' e) a' w'

def Sound (P : Program) (S : Start) : Task → Heap → Out → Heap → Prop
  | .code c fr u, h, .x e fr' u', h' => Runs P S [.code c] fr u h e fr' u' h'
  | .scope body cur fr u, h, .x e fr' u', h' => Runs P S [.code cur, .inScope body] fr u h e fr' u' h'
  | .ops ops l fr u, h, .x e fr' u', h' => Runs P S [.inRegion ops l] fr u h e fr' u' h'
  | .call f args, h, .ends e, h' => ∀ m w, HRel P S m h w → (∀ x ∈ args, sc h.next x) → Calls P f (args.map (ren m)).toArray w (Ends P S m h h' e)
  | .callD f args u, h, .endsD e u', h' => ∀ m w, HRel P S m h w → (∀ x ∈ args, sc h.next x) → scM h.next u → CallsD P f (args.map (ren m)).toArray (renM m u) w (EndsD P S m h h' e u')
  | .leave fn fr ds u, h, .ends e, h' => ∀ m w a, HRel P S m h w → FRel m h.next fr a → (∀ d ∈ ds, scD h.next d) → scM h.next u →
      Leaves P fn a.tmps (Ends P S m h h' e) (ds.map (renD m)) (renM m u) w
  | _, _, _, _ => False

theorem kindOk_of {b : Frame} {u u' : Option FrameMode} (h : kindOk b u) (e : u'.isSome = u.isSome) : kindOk b u' := by
  cases u <;> cases u' <;> simp_all [kindOk]

theorem look_numbered : ∀ (l : List Value) (i t : Nat), look t (numbered i l) = if i ≤ t then l[t - i]? else none
  | [], i, t => by simp [numbered, look]
  | v :: l, i, t => by
    simp only [numbered, look, look_numbered l (i + 1) t]
    by_cases e : t = i
    · subst e; simp
    · rw [if_neg e]
      by_cases q : i ≤ t
      · rw [if_pos q, if_pos (by omega), show t - i = (t - (i + 1)) + 1 by omega, List.getElem?_cons_succ]
      · rw [if_neg q, if_neg (by omega)]

theorem FRel.enter {m : Ren} {n : Nat} (fn : Func) {args : List Value} (hs : ∀ x ∈ args, sc n x) :
    FRel m n (enterF fn args) { tmps := (args.map (ren m)).toArray ++ Array.replicate (fn.ntmps - (args.map (ren m)).toArray.size) undef, defers := [] } where
  size := by simp [enterF]; omega
  slot t v hl := by
    simp only [enterF, look_numbered, Nat.zero_le, if_true, Nat.sub_zero] at hl
    refine ⟨hs v (List.mem_of_getElem? hl), ?_⟩
    have hlt : t < args.length := by
      rcases Nat.lt_or_ge t args.length with q | q
      · exact q
      · rw [List.getElem?_eq_none q] at hl; cases hl
    rw [Array.getElem?_append_left (by simpa using hlt)]
    simp [hl]
  defers := rfl
  scd d hd := by simp [enterF] at hd

theorem FRel.weaken {m : Ren} {n : Nat} {fr fr' : Frm} {a : Act} (hf : FRel m n fr a) (hle : fr'.le fr) : FRel m n fr' a where
  size := by rw [hle.1]; exact hf.size
  slot t v hl := hf.slot t v (hle.2.2 t v hl)
  defers := by rw [hle.2.1]; exact hf.defers
  scd d hd := hf.scd d (by rw [← hle.2.1]; exact hd)

theorem Leaves.mono {P : Program} {fn : Func} {tmps : Array Value} {R R' : Ending → World → Prop} (hR : ∀ e w, R e w → R' e w) : ∀ (ds : List Deferred) (u : FrameMode) (w : World), Leaves P fn tmps R ds u w → Leaves P fn tmps R' ds u w
  | [], .returning, _, ⟨v, h1, h2⟩ => ⟨v, h1, hR _ _ h2⟩
  | [], .panicking _, _, h => hR _ _ h
  | [], .run, _, h => h
  | d :: ds, u, w, ⟨h1, fv, cap, f, args, h2, h3, h4⟩ => ⟨h1, fv, cap, f, args, h2, h3, h4.mono fun e u' w' he => by
      cases e with
      | returned v => exact Leaves.mono hR ds _ _ he
      | panicked c => exact Leaves.mono hR ds _ _ he
      | outgrown => exact hR _ _ he⟩

theorem dropWhile_renC (m : Ren) : ∀ c : List PanicEntry, (renC m c).dropWhile (fun x => !x.goexit) = renC m (c.dropWhile fun x => !x.goexit)
  | [] => rfl
  | p :: c => by
    simp only [renC, List.map_cons, List.dropWhile_cons, renP]
    split
    · exact dropWhile_renC m c
    · rfl
theorem settle_ren (m : Ren) (u : FrameMode) : settle (renM m u) = renM m (settle u) := by
  cases u with
  | panicking c =>
    cases c with
    | nil => rfl
    | cons p c =>
      obtain ⟨v, r, g⟩ := p
      cases r with
      | false => rfl
      | true =>
        simp only [renM, renC, List.map_cons, renP, settle]
        have := dropWhile_renC m c
        unfold renC at this
        rw [this]
        cases (c.dropWhile fun x => !x.goexit) <;> rfl
  | _ => rfl
theorem settle_sc {n : Nat} {u : FrameMode} (h : scM n u) : scM n (settle u) := by
  cases u with
  | panicking c =>
    cases c with
    | nil => exact h
    | cons p c =>
      obtain ⟨v, r, g⟩ := p
      cases r with
      | false => exact h
      | true =>
        simp only [settle]
        split
        · trivial
        · rename_i rest hrest
          intro q hq
          exact h q (List.mem_cons_of_mem _ ((List.dropWhile_suffix _).subset hq))
  | _ => trivial
theorem raised_ren (m : Ren) (u : FrameMode) (c : List PanicEntry) : raised (renM m u) (renC m c) = renM m (raised u c) := by
  cases u <;> simp [raised, renM, renC]
theorem raised_sc {n : Nat} {u : FrameMode} {c : List PanicEntry} (h : scM n u) (hc : scC n c) : scM n (raised u c) := by
  cases u with
  | panicking d =>
    intro p hp0
    have hp : p ∈ c ++ d := hp0
    rcases List.mem_append.1 hp with hp | hp
    · exact hc p hp
    · exact h p hp
  | _ => exact hc

section
variable {P : Program} {S : Start}

theorem Ends.trans {m m1 : Ren} {h h1 h2 : Heap} {e e' : Ending} {w : World} (ha : m.agree h.next m1) (hn : h.next ≤ h1.next) (he : Ends P S m1 h1 h2 e e' w) : Ends P S m h h2 e e' w := by
  obtain ⟨m', g1, g2, g3, g4, g5⟩ := he
  exact ⟨m', ha.trans (g1.mono hn), by omega, g3, g4, g5⟩

theorem EndsD.trans {m m1 : Ren} {h h1 h2 : Heap} {e e' : Ending} {u u' : FrameMode} {w : World} (ha : m.agree h.next m1) (hn : h.next ≤ h1.next) (he : EndsD P S m1 h1 h2 e u e' u' w) : EndsD P S m h h2 e u e' u' w := by
  obtain ⟨m', g1, g2, g3, g4⟩ := he
  exact ⟨m', ha.trans (g1.mono hn), by omega, g3, g4⟩

/-- One step into other items. -/
theorem Runs.pre {it : Item} {todo : List Item} {fr fr2 : Frm} {u u2 : Option FrameMode} {h h2 : Heap} {e : Exit}
    (hstep : ∀ m w a, HRel P S m h w → FRel m h.next fr a → ∀ (b : Frame) (k : List Item) (cs : List Frame), step P (lone (b.at a (it :: k)) cs w) = .next (lone (b.at a (todo ++ k)) cs w))
    (hr : Runs P S todo fr u h e fr2 u2 h2) : Runs P S [it] fr u h e fr2 u2 h2 := by
  intro m w a h1 h3 h4 b k c₀ cs₀ hk
  obtain ⟨m2, w2, a2, f1, f2, f3, f4, f5, f6, f7, f8⟩ := hr m w a h1 h3 h4 b k c₀ cs₀ hk
  exact ⟨m2, w2, a2, f1, f2, f3, f4, f5, f6, f7, .of_steps (.one (hstep m w a h1 h3 b k _)) f8⟩

/-- One item, and what follows. -/
theorem Runs.next {x : Item} {rest : List Item} {fr fr1 fr2 : Frm} {u u1 u2 : Option FrameMode} {h h1 h2 : Heap} {e : Exit}
    (hx : Runs P S [x] fr u h .normal fr1 u1 h1) (hrest : Runs P S rest fr1 u1 h1 e fr2 u2 h2) : Runs P S (x :: rest) fr u h e fr2 u2 h2 := by
  intro m w a hr hf hu b k c₀ cs₀ hk
  obtain ⟨m1, w1, a1, g1, g2, g3, g4, g5, _, g6, g7⟩ := hx m w a hr hf hu b (rest ++ k) c₀ cs₀ hk
  obtain ⟨m2, w2, a2, f1, f2, f3, f4, f5, f6, f7, f8⟩ := hrest m1 w1 a1 g3 g4 g5 b k c₀ cs₀ (kindOk_of hk g6)
  exact ⟨m2, w2, a2, g1.trans (f1.mono g2), by omega, f3, f4, f5, f6, f7.trans g6, .of_steps g7 f8⟩

theorem renX_ne {m : Ren} {e : Exit} (h : e ≠ .normal) : renX m e ≠ .normal := by
  cases e <;> simp_all [renX]

/-- An exit that is none of the item's own passes it by. -/
theorem Runs.stop {x y : Item} {fr fr1 : Frm} {u u1 : Option FrameMode} {h h1 : Heap} {e : Exit} (hy : y.plain = true) (he : e ≠ .normal)
    (hx : Runs P S [x] fr u h e fr1 u1 h1) : Runs P S [x, y] fr u h e fr1 u1 h1 := by
  intro m w a hr hf hu b k c₀ cs₀ hk
  obtain ⟨m1, w1, a1, g1, g2, g3, g4, g5, g6, g7, g8⟩ := hx m w a hr hf hu b (y :: k) c₀ cs₀ hk
  exact ⟨m1, w1, a1, g1, g2, g3, g4, g5, g6, g7, Arrives.pass hy (fun _ _ => .inl (renX_ne he)) g8⟩

theorem Runs.block {x : Item} {id : Nat} {fr fr1 : Frm} {u u1 : Option FrameMode} {h h1 : Heap} {e : Exit}
    (hx : Runs P S [x] fr u h e fr1 u1 h1) : Runs P S [x, .inBlock id] fr u h (blockExit id e) fr1 u1 h1 := by
  intro m w a hr hf hu b k c₀ cs₀ hk
  obtain ⟨m1, w1, a1, g1, g2, g3, g4, g5, g6, g7, g8⟩ := hx m w a hr hf hu b (.inBlock id :: k) c₀ cs₀ hk
  refine ⟨m1, w1, a1, g1, g2, g3, g4, g5, ?_, g7, ?_⟩
  · cases e <;> simp only [blockExit] <;> first | exact g6 | (split <;> trivial)
  · cases e with
    | normal => exact Steps.trans g8 (.one step_inBlock)
    | exit id' =>
      simp only [blockExit]
      by_cases hid : id' = id
      · rw [if_pos hid]
        exact g8 k (by simp [exitTo, hid])
      · rw [if_neg hid]
        intro k' hk'
        refine g8 k' ?_
        have : (id == id') = false := by simp; exact fun h => hid h.symm
        simp [exitTo, this, hk']
    | goto l => intro k' hk'; exact g8 k' (by simp [gotoIn, hk'])
    | ret => exact g8
    | panic c => exact g8
    | outgrown => exact g8

/-- The end of a scope: a jump to one of its labels goes on in it. -/
theorem Runs.scopeEnd {x : Item} {c : Code} {fr fr1 : Frm} {u u1 : Option FrameMode} {h h1 : Heap} {e : Exit} (hno : ∀ l, e = .goto l → findLabel c l = none)
    (hx : Runs P S [x] fr u h e fr1 u1 h1) : Runs P S [x, .inScope c] fr u h e fr1 u1 h1 := by
  intro m w a hr hf hu b k c₀ cs₀ hk
  obtain ⟨m1, w1, a1, g1, g2, g3, g4, g5, g6, g7, g8⟩ := hx m w a hr hf hu b (.inScope c :: k) c₀ cs₀ hk
  refine ⟨m1, w1, a1, g1, g2, g3, g4, g5, g6, g7, ?_⟩
  cases e with
  | normal => exact Steps.trans g8 (.one step_inScope)
  | exit id' => intro k' hk'; exact g8 k' (by simp [exitTo, hk'])
  | goto l => intro k' hk'; exact g8 k' (by simp [gotoIn, hno l rfl, hk'])
  | ret => exact g8
  | panic c => exact g8
  | outgrown => exact g8
theorem Runs.scopeJump {x : Item} {c rest : Code} {l : Nat} {fr fr1 fr2 : Frm} {u u1 u2 : Option FrameMode} {h h1 h2 : Heap} {e : Exit} (hl : findLabel c l = some rest)
    (hx : Runs P S [x] fr u h (.goto l) fr1 u1 h1) (hrest : Runs P S [.code rest, .inScope c] fr1 u1 h1 e fr2 u2 h2) : Runs P S [x, .inScope c] fr u h e fr2 u2 h2 := by
  intro m w a hr hf hu b k c₀ cs₀ hk
  obtain ⟨m1, w1, a1, g1, g2, g3, g4, g5, _, g6, g7⟩ := hx m w a hr hf hu b (.inScope c :: k) c₀ cs₀ hk
  obtain ⟨m2, w2, a2, f1, f2, f3, f4, f5, f6, f7, f8⟩ := hrest m1 w1 a1 g3 g4 g5 b k c₀ cs₀ (kindOk_of hk g6)
  exact ⟨m2, w2, a2, g1.trans (f1.mono g2), by omega, f3, f4, f5, f6, f7.trans g6, .of_steps (g7 _ (by simp [gotoIn, hl])) f8⟩

/-- Exits that end a list of items at once. -/
theorem Runs.now {it : Item} {fr : Frm} {u : Option FrameMode} {h : Heap} {e : Exit} (hs : scX h.next e)
    (ha : ∀ m w a, HRel P S m h w → FRel m h.next fr a → ∀ (b : Frame) (k : List Item) (cs : List Frame), Arrives P (lone (b.at a (it :: k)) cs w) b k cs (renX m e) a w) : Runs P S [it] fr u h e fr u h := by
  intro m w a hr hf hu b k c₀ cs₀ _
  exact ⟨m, w, a, Ren.agree_refl _ _, Nat.le_refl _, hr, hf, hu, hs, rfl, ha m w a hr hf b k _⟩

/-- An operation is carried out, and the region goes on. -/
theorem Runs.op {ops : Array Oper} {i : Nat} {l : List Nat} {fr fr1 fr2 : Frm} {u u1 u2 : Option FrameMode} {h h1 h2 : Heap} {e : Exit}
    (hgo : ∀ m w a, HRel P S m h w → FRel m h.next fr a → scU h.next u → ∀ (b : Frame) (k : List Item) (c₀ : Frame) (cs₀ : List Frame), kindOk b u →
      ∃ m1 w1 a1, m.agree h.next m1 ∧ h.next ≤ h1.next ∧ HRel P S m1 h1 w1 ∧ FRel m1 h1.next fr1 a1 ∧ scU h1.next u1 ∧ u1.isSome = u.isSome ∧
        Steps P (lone (b.at a (.inRegion ops (i :: l) :: k)) (csOf m c₀ cs₀ u) w) (lone (b.at a1 (.inRegion ops l :: k)) (csOf m1 c₀ cs₀ u1) w1))
    (hrest : Runs P S [.inRegion ops l] fr1 u1 h1 e fr2 u2 h2) : Runs P S [.inRegion ops (i :: l)] fr u h e fr2 u2 h2 := by
  intro m w a hr hf hu b k c₀ cs₀ hk
  obtain ⟨m1, w1, a1, g1, g2, g3, g4, g5, g6, g7⟩ := hgo m w a hr hf hu b k c₀ cs₀ hk
  obtain ⟨m2, w2, a2, f1, f2, f3, f4, f5, f6, f7, f8⟩ := hrest m1 w1 a1 g3 g4 g5 b k c₀ cs₀ (kindOk_of hk g6)
  exact ⟨m2, w2, a2, g1.trans (f1.mono g2), by omega, f3, f4, f5, f6, f7.trans g6, .of_steps g7 f8⟩

/-- The loop's body stands for the loop, too. -/
def Sound' (P : Program) (S : Start) (t : Task) (h : Heap) (o : Out) (h' : Heap) : Prop :=
  Sound P S t h o h' ∧ match t, o with
    | .code (.loop c) fr u, .x e fr' u' => Runs P S [.inLoop c] fr u h e fr' u' h'
    | _, _ => True

theorem code_out {G : Nat} {Ext : FuncId → List Value → Heap → Value → Heap → Prop} {t : Task} {h : Heap} {o : Out} {h' : Heap} (hb : Big P G Ext t h o h') :
    match t with
    | .code _ _ _ | .ops _ _ _ _ | .scope _ _ _ _ => ∃ e fr u, o = .x e fr u
    | .call _ _ | .leave _ _ _ _ => ∃ e, o = .ends e
    | .callD _ _ _ => ∃ e u, o = .endsD e u := by
  induction hb <;> first | exact ⟨_, _, _, rfl⟩ | exact ⟨_, rfl⟩ | exact ⟨_, _, rfl⟩ | assumption

theorem big_sound {Ext : FuncId → List Value → Heap → Value → Heap → Prop} (hext : ExtOk P S Ext) {t : Task} {h : Heap} {o : Out} {h' : Heap} (hb : Big P S.G Ext t h o h') : Sound' P S t h o h' := by
  induction hb with
  | skip => exact ⟨Runs.now trivial fun _ _ _ _ _ _ _ _ => .one step_skip, trivial⟩
  | label => exact ⟨Runs.now trivial fun _ _ _ _ _ _ _ _ => .one step_label, trivial⟩
  | exit => exact ⟨Runs.now trivial fun _ _ _ _ _ _ _ _ => fun _ hk => .one (step_exit hk), trivial⟩
  | goto => exact ⟨Runs.now trivial fun _ _ _ _ _ _ _ _ => fun _ hk => .one (step_goto hk), trivial⟩
  | ret => exact ⟨Runs.now trivial fun _ _ _ _ _ _ _ _ => ⟨_, .one step_ret⟩, trivial⟩
  | seq h1 h2 ih1 ih2 =>
    obtain ⟨e, fr, u, rfl⟩ := code_out h2
    exact ⟨Runs.pre (fun _ _ _ _ _ _ _ _ => step_seq) (Runs.next ih1.1 ih2.1), trivial⟩
  | seqStop h1 he ih1 => exact ⟨Runs.pre (todo := [_, _]) (fun _ _ _ _ _ _ _ _ => step_seq) (Runs.stop rfl he ih1.1), trivial⟩
  | cond hc h1 ih =>
    obtain ⟨e, fr, u, rfl⟩ := code_out h1
    refine ⟨Runs.pre (todo := [_]) (fun m w a hr hf b k cs => ?_) ih.1, trivial⟩
    exact step_cond (by have := (aev_run hr hf hc).1; simpa [ren] using this)
  | block h1 ih => exact ⟨Runs.pre (todo := [_, _]) (fun _ _ _ _ _ _ _ _ => step_block) (Runs.block ih.1), trivial⟩
  | loop h1 h2 ih1 ih2 =>
    obtain ⟨e, fr, u, rfl⟩ := code_out h2
    exact ⟨Runs.pre (todo := [_, _]) (fun _ _ _ _ _ _ _ _ => step_loop) (Runs.next ih1.1 ih2.2), Runs.pre (todo := [_, _]) (fun _ _ _ _ _ _ _ _ => step_inLoop) (Runs.next ih1.1 ih2.2)⟩
  | loopStop h1 he ih =>
    exact ⟨Runs.pre (todo := [_, _]) (fun _ _ _ _ _ _ _ _ => step_loop) (Runs.stop rfl he ih.1), Runs.pre (todo := [_, _]) (fun _ _ _ _ _ _ _ _ => step_inLoop) (Runs.stop rfl he ih.1)⟩
  | region h1 ih =>
    obtain ⟨e, fr, u, rfl⟩ := code_out h1
    exact ⟨Runs.pre (todo := [_]) (fun _ _ _ _ _ _ _ _ => step_region) ih.1, trivial⟩
  | draw hm h1 hle ih =>
    refine ⟨fun m w a hr hf hu b k c₀ cs₀ hk => ?_, trivial⟩
    rename_i id ops fr u h frs fr1 h1'
    have hs := step_region_draw (P := P) (b := b) (a := a) (k := k) (cs := csOf m c₀ cs₀ u) (w := w) (ops := ops) (id := id)
    simp only [Region.schedule, hm, Bool.true_or, if_true] at hs
    obtain ⟨m2, w2, a2, f1, f2, f3, f4, f5, f6, f7, f8⟩ := (ih _).1 m { w with drawn := w.drawn + 1 } a (hr.world rfl rfl) hf hu b k c₀ cs₀ hk
    exact ⟨m2, w2, a2, f1, f2, f3, f4.weaken (hle _), f5, f6, f7, .of_steps (.one hs) f8⟩
  | scope h1 ih =>
    obtain ⟨e, fr, u, rfl⟩ := code_out h1
    exact ⟨Runs.pre (todo := [_, _]) (fun _ _ _ _ _ _ _ _ => step_scope) ih.1, trivial⟩
  | scopeEnd h1 hno ih => exact ⟨Runs.scopeEnd hno ih.1, trivial⟩
  | scopeJump h1 hl h2 ih1 ih2 =>
    obtain ⟨e, fr, u, rfl⟩ := code_out h2
    exact ⟨Runs.scopeJump hl ih1.1 ih2.1, trivial⟩
  | @weaken c _ _ _ _ _ _ h1 hle ih =>
    obtain ⟨e, fr, u, rfl⟩ := code_out h1
    refine ⟨fun m w a hr hf => ih.1 m w a hr (hf.weaken hle), ?_⟩
    have := ih.2
    cases c <;> first | trivial | exact fun m w a hr hf => this m w a hr (hf.weaken hle)
  | opsNil => exact ⟨Runs.now trivial fun _ _ _ _ _ _ _ _ => .one step_region_end, trivial⟩
  | opsMissing hi h1 ih =>
    obtain ⟨e, fr, u, rfl⟩ := code_out h1
    exact ⟨Runs.op (fun m w a hr hf hu b k c₀ cs₀ hk => ⟨m, w, a, Ren.agree_refl _ _, Nat.le_refl _, hr, hf, hu, rfl, go_missing hi⟩) ih.1, trivial⟩
  | opsUnwanted hi hw hp h1 ih =>
    obtain ⟨e, fr, u, rfl⟩ := code_out h1
    exact ⟨Runs.op (fun m w a hr hf hu b k c₀ cs₀ hk => ⟨m, w, _, Ren.agree_refl _ _, Nat.le_refl _, hr, by have := hf.put hp (by simp [undef, sc, scA, scL]); simpa [undef, ren, renA, renL] using this, hu, rfl, go_unwanted hi (awanted_run hf hw)⟩) ih.1, trivial⟩
  | opsVal hi hw ha hp h1 ih =>
    obtain ⟨e, fr, u, rfl⟩ := code_out h1
    refine ⟨Runs.op (fun m w a hr hf hu b k c₀ cs₀ hk => ?_) ih.1, trivial⟩
    obtain ⟨m', w', g1, g2, g3, g4, g5⟩ := aop_run hr (fun x v hx => aev_run hr hf hx) (fun _ => rfl) ha
    exact ⟨m', w', _, g1, g5, g3, (hf.agree g1 g5).put hp g4, scU_mono g5 hu, rfl, by rw [← csOf_congr g1 hu]; exact go_value hi (awanted_run hf hw) g2⟩
  | opsSkip hi hw ha hp h1 ih =>
    obtain ⟨e, fr, u, rfl⟩ := code_out h1
    refine ⟨Runs.op (fun m w a hr hf hu b k c₀ cs₀ hk => ?_) ih.1, trivial⟩
    obtain ⟨m', w', g1, g2, g3, g4, g5⟩ := aop_run hr (fun x v hx => aev_run hr hf hx) (fun _ => rfl) ha
    exact ⟨m', w', _, g1, g5, g3, by have := (hf.agree g1 g5).put hp (by simp [undef, sc, scA, scL]); simpa [undef, ren, renA, renL] using this, scU_mono g5 hu, rfl, by rw [← csOf_congr g1 hu]; exact go_skip hi (awanted_run hf hw) g2⟩
  | @opsDefer _ _ _ fr0 _ _ _ _ _ _ _ _ hi hw ha hp h1 ih =>
    obtain ⟨e, fr, u, rfl⟩ := code_out h1
    refine ⟨Runs.op (fun m w a hr hf hu b k c₀ cs₀ hk => ?_) ih.1, trivial⟩
    obtain ⟨m', w', g1, g2, g3, g4, g5⟩ := aop_run hr (fun x v hx => aev_run hr hf hx) (fun _ => rfl) ha
    have hf' := hf.agree g1 g5
    have hf2 : FRel m' _ { fr0 with defers := _ :: fr0.defers } { a with defers := renD m' _ :: a.defers } := ⟨hf'.size, hf'.slot, by rw [hf'.defers]; rfl, fun d hd => by
      rcases List.mem_cons.1 hd with hd | hd
      · subst hd; exact g4
      · exact hf'.scd d hd⟩
    exact ⟨m', w', _, g1, g5, g3, by have := hf2.put hp (by simp [undef, sc, scA, scL]); simpa [undef, ren, renA, renL] using this, scU_mono g5 hu, rfl, by rw [← csOf_congr g1 hu]; exact go_defer hi (awanted_run hf hw) g2⟩
  | opsPanic hi hw ha =>
    refine ⟨fun m w a hr hf hu b k c₀ cs₀ hk => ?_, trivial⟩
    obtain ⟨m', w', g1, g2, g3, g4, g5⟩ := aop_run hr (fun x v hx => aev_run hr hf hx) (fun _ => rfl) ha
    refine ⟨m', w', a, g1, g5, g3, hf.agree g1 g5, scU_mono g5 hu, ?_, rfl, ?_⟩
    · intro p hp
      simp only [List.mem_singleton] at hp
      subst hp; exact g4
    · rw [← csOf_congr g1 hu]
      exact ⟨_, go_panic hi (awanted_run hf hw) g2⟩
  | @opsRecover ops0 i0 l0 _ _ _ _ v0 older0 _ _ _ hi hw ha hp h1 ih =>
    obtain ⟨e, fr, u, rfl⟩ := code_out h1
    refine ⟨Runs.op (fun m w a hr hf hu b k c₀ cs₀ hk => ?_) ih.1, trivial⟩
    obtain ⟨m', w', g1, g2, g3, g4, g5⟩ := aop_run hr (fun x v hx => aev_run hr hf hx) (fun _ => rfl) ha
    have hu' := scU_mono g5 hu
    have hsv := hu' _ (List.mem_cons_self ..)
    refine ⟨m', w', _, g1, g5, g3, (hf.agree g1 g5).put hp hsv, ?_, rfl, ?_⟩
    · intro q hq
      rcases List.mem_cons.1 hq with hq | hq
      · subst hq; exact hsv
      · exact hu' q (List.mem_cons_of_mem _ hq)
    · have := go_recover (P := P) (cs := csOf m c₀ cs₀ (some (.panicking ({ v := v0, recovered := false } :: older0)))) (k := k) (rest := l0) hk hi (awanted_run hf hw) g2
      rw [csOf_congr g1 hu] at this ⊢
      simpa [csOf, renM, renC, renP, recoverD] using this
  | @opsRecoverNot ops0 i0 l0 _ _ _ _ _ _ _ hi hw ha hp h1 ih =>
    obtain ⟨e, fr, u, rfl⟩ := code_out h1
    refine ⟨Runs.op (fun m w a hr hf hu b k c₀ cs₀ hk => ?_) ih.1, trivial⟩
    obtain ⟨m', w', g1, g2, g3, g4, g5⟩ := aop_run hr (fun x v hx => aev_run hr hf hx) (fun _ => rfl) ha
    refine ⟨m', w', _, g1, g5, g3, by have := (hf.agree g1 g5).put hp (by simp [sc]); simpa [ren] using this, trivial, rfl, ?_⟩
    have := go_recover (P := P) (cs := csOf m c₀ cs₀ (some .returning)) (k := k) (rest := l0) hk hi (awanted_run hf hw) g2
    rw [csOf_congr g1 hu] at this ⊢
    simpa [csOf, renM, recoverD] using this
  | opsCall hi hw ha h1 hp h2 ih1 ih2 =>
    obtain ⟨e, fr, u, rfl⟩ := code_out h2
    refine ⟨Runs.op (fun m w a hr hf hu b k c₀ cs₀ hk => ?_) ih2.1, trivial⟩
    obtain ⟨m', w', g1, g2, g3, g4, g5⟩ := aop_run hr (fun x v hx => aev_run hr hf hx) (fun _ => rfl) ha
    obtain ⟨e', w'', frm, ⟨m2, f1, f2, f3, f4, f5⟩, hc, _, hl⟩ := ih1.1 m' w' g3 g4 (b.at a (.inRegion _ (_ :: _) :: k) :: csOf m c₀ cs₀ _)
    subst f4
    have hag := g1.trans (f1.mono g5)
    exact ⟨m2, w'', _, hag, by omega, f3, (hf.agree hag (by omega)).put hp f5, scU_mono (by omega) hu, rfl, by rw [← csOf_congr hag hu]; exact go_call_returned hi (awanted_run hf hw) g2 hc hl⟩
  | opsCallPanic hi hw ha h1 ih1 =>
    refine ⟨fun m w a hr hf hu b k c₀ cs₀ hk => ?_, trivial⟩
    obtain ⟨m', w', g1, g2, g3, g4, g5⟩ := aop_run hr (fun x v hx => aev_run hr hf hx) (fun _ => rfl) ha
    obtain ⟨e', w'', frm, ⟨m2, f1, f2, f3, f4, f5⟩, hc, _, hl⟩ := ih1.1 m' w' g3 g4 (b.at a (.inRegion _ (_ :: _) :: k) :: csOf m c₀ cs₀ _)
    subst f4
    have hag := g1.trans (f1.mono g5)
    exact ⟨m2, w'', a, hag, by omega, f3, hf.agree hag (by omega), scU_mono (by omega) hu, f5, rfl, by rw [← csOf_congr hag hu]; exact ⟨_, go_call_panicked hi (awanted_run hf hw) g2 hc hl⟩⟩
  | ext he => exact ⟨fun m w hr hs => hext _ _ _ _ _ he m w hr hs, trivial⟩
  | @call _ _ _ _ _ e1 _ _ _ _ _ hf hb h1 hm h2 ih1 ih2 =>
    obtain ⟨e2, rfl⟩ := code_out h2
    refine ⟨fun m w hr hs => ?_, trivial⟩
    refine calls_of_wp_defers hf hb fun b k cs => ?_
    obtain ⟨m1, w1, a1, g1, g2, g3, g4, g5, g6, g7, g8⟩ := ih1.1 m w _ hr (FRel.enter _ hs) trivial b k default cs trivial
    refine ⟨_, a1, w1, ?_, g8⟩
    have hlv := ih2.1 m1 w1 a1 g3 g4 g4.scd
    rw [← g4.defers] at hlv
    have hmono := fun (hsc : scM _ _) => Leaves.mono (fun e w he => Ends.trans g1 g2 he) _ _ _ (hlv hsc)
    cases e1 <;> simp only [modeOf] at hm <;> try (cases hm; done)
    · cases hm; exact hmono trivial
    · cases hm; exact hmono trivial
    · cases hm; exact hmono g6
  | leaveRet hres =>
    refine ⟨fun m w a hr hf _ _ => ?_, trivial⟩
    obtain ⟨q1, q2⟩ := ares_run hr hf hres
    exact ⟨_, q1, m, Ren.agree_refl _ _, Nat.le_refl _, hr, rfl, q2⟩
  | leavePanic => exact ⟨fun m w a hr hf _ hu => ⟨m, Ren.agree_refl _ _, Nat.le_refl _, hr, rfl, hu⟩, trivial⟩
  | @leaveCons fn fr d ds u h g cap e u1 h1' u2 _ h2' hu ht hcan h1 haf h2 ih1 ih2 =>
    obtain ⟨e2, rfl⟩ := code_out h2
    refine ⟨fun m w a hr hf hds hsu => ?_, trivial⟩
    obtain ⟨hd1, hd2⟩ := hds d (List.mem_cons_self ..)
    rw [ht] at hd1
    simp only [scA_all] at hd1 hd2
    have hargs : ((d.args.toList ++ cap.toList).map (ren m)).toArray = renA m d.args ++ renA m cap := by
      apply Array.ext'; simp [renA_map]
    refine ⟨by cases u <;> simp_all [renM], .func g, renA m cap, g, renA m d.args ++ renA m cap, by simp [renD, renT, ht], ?_, ?_⟩
    · simp only [renD, renT, ht, invoke]
      exact callFunc_run hcan _ w
    · rw [← hargs]
      refine (ih1.1 m w hr (fun x hx => (List.mem_append.1 hx).elim (fun hx => hd2 x (by simpa using hx)) (fun hx => hd1 x (by simpa using hx))) hsu).mono ?_
      rintro e' u' w' ⟨m', f1, f2, f3, rfl, f5, rfl, f7⟩
      have hlv := ih2.1 m' w' a f3 (hf.agree f1 f2) (fun d hd => scD_mono f2 (hds d (List.mem_cons_of_mem _ hd)))
      have hmap : ds.map (renD m') = ds.map (renD m) := List.map_congr_left fun d hd => (renD_congr f1 (hds d (List.mem_cons_of_mem _ hd))).symm
      rw [hmap] at hlv
      cases e with
      | returned v =>
        simp only [afterD, Option.some.injEq] at haf
        subst haf
        simp only [renN]
        rw [settle_ren]
        exact Leaves.mono (fun e w he => Ends.trans f1 f2 he) _ _ _ (hlv (settle_sc f7))
      | panicked c =>
        simp only [afterD, Option.some.injEq] at haf
        subst haf
        simp only [renN]
        rw [raised_ren]
        exact Leaves.mono (fun e w he => Ends.trans f1 f2 he) _ _ _ (hlv (raised_sc f7 f5))
      | outgrown => simp [afterD] at haf
  | @callD _ _ u0 _ _ _ e1 _ _ _ _ hf hb h1 hm hd hres ih =>
    refine ⟨fun m w hr hs hu => ?_, trivial⟩
    refine callsD_of_wpS hf hb fun c₀ cs hc b k hbk _ => ?_
    obtain ⟨m1, w1, a1, g1, g2, g3, g4, g5, g6, g7, g8⟩ := ih.1 m w _ hr (FRel.enter _ hs) hu b k c₀ cs hbk
    have hcs : csOf m c₀ cs (some u0) = c₀ :: cs := by simp only [csOf]; rw [← hc]
    rw [hcs] at g8
    refine ⟨_, a1, _, w1, ?_, g8⟩
    obtain ⟨q1, q2⟩ := ares_run g3 g4 hres
    have hdd : a1.defers = [] := by rw [g4.defers, hd]; rfl
    cases e1 <;> simp only [modeOf] at hm <;> try (cases hm; done)
    · exact ⟨hdd, _, rfl, _, q1, m1, g1, g2, g3, rfl, q2, rfl, g5⟩
    · exact ⟨hdd, _, rfl, _, q1, m1, g1, g2, g3, rfl, q2, rfl, g5⟩
  | @callDPanic _ _ u0 _ _ _ _ _ _ _ hf hb h1 hd ih =>
    refine ⟨fun m w hr hs hu => ?_, trivial⟩
    refine callsD_of_wpS hf hb fun c₀ cs hc b k hbk _ => ?_
    obtain ⟨m1, w1, a1, g1, g2, g3, g4, g5, g6, g7, g8⟩ := ih.1 m w _ hr (FRel.enter _ hs) hu b k c₀ cs hbk
    have hcs : csOf m c₀ cs (some u0) = c₀ :: cs := by simp only [csOf]; rw [← hc]
    rw [hcs] at g8
    refine ⟨_, a1, _, w1, ?_, g8⟩
    have hdd : a1.defers = [] := by rw [g4.defers, hd]; rfl
    exact ⟨hdd, _, rfl, m1, g1, g2, g3, rfl, g6, rfl, g5⟩
end
end Go.Mini
