/-
  Parts MiniZF to MiniZK.
-/
import Derived.Test.YtomndnhkgfeiiaaGreatDoorMiniZE
import Derived.Lib.Join
import Derived.Lib.ItoaNum
import Derived.Handed
import Derived.HandedShaped
import Derived.Lib.TrailingZeros
section
/-
  MINI, part ZF: what a call from a bare heap leaves, kept, and put down at any heap.
-/
namespace Go.Mini
set_option linter.unusedSimpArgs false

/-! ### a heap, and objects more -/
def Heap.push (h : Heap) : List AObj → Heap
  | [] => h
  | o :: l => (h.alloc o).push l
theorem Heap.next_push : ∀ (l : List AObj) (h : Heap), (h.push l).next = h.next + l.length
  | [], h => rfl
  | o :: l, h => by simp only [Heap.push, Heap.next_push l, Heap.next_alloc, List.length_cons]; omega
theorem Heap.get_push : ∀ (l : List AObj) (h : Heap) (i : Nat), (h.push l).get i = if i < h.next then h.get i else l[i - h.next]?
  | [], h, i => by
    simp only [Heap.push]
    by_cases hi : i < h.next
    · rw [if_pos hi]
    · rw [if_neg hi]; unfold Heap.get; rw [if_neg hi]; simp
  | o :: l, h, i => by
    rw [Heap.push, Heap.get_push l, Heap.next_alloc, Heap.get_alloc]
    by_cases hi : i < h.next
    · rw [if_pos (by omega), if_neg (by omega), if_pos hi]
    · by_cases he : i = h.next
      · subst he; simp
      · rw [if_neg (by omega), if_neg hi, show i - h.next = (i - (h.next + 1)) + 1 by omega, List.getElem?_cons_succ]

/-- Those from G on are kept: put down from d on. -/
def sh (G d i : Nat) : Nat := if i < G then i else d + (i - G)
/-- Where they were. -/
def back (G : Nat) (τ : List Nat) (i : Nat) : Nat := if i < G then i else (τ[i - G]?).getD 0

structure KeptOk (G : Nat) (h' : Heap) (v' : Value) (τ : List Nat) (objs : List AObj) (v : Value) : Prop where
  len : τ.length = objs.length
  val : v' = mv (back G τ) v
  vsc : sc (G + τ.length) v
  obj : ∀ (j : Nat) (o : AObj) (k : Nat), objs[j]? = some o → τ[j]? = some k → h'.get k = some (mvO (back G τ) o) ∧ scO (G + τ.length) o ∧ o.outer = false
  nodup : ∀ (i j k : Nat), τ[i]? = some k → τ[j]? = some k → i = j

def graftR (m m' : Ren) (d : Nat) (τ : List Nat) : Ren :=
  ⟨fun i => if i < d then m.blk i else m'.blk ((τ[i - d]?).getD 0), fun i => if i < d then m.sh i else m'.sh ((τ[i - d]?).getD 0), fun i => if i < d then m.ext i else m'.ext ((τ[i - d]?).getD 0)⟩
theorem graftR_agree (m m' : Ren) (d : Nat) (τ : List Nat) : m.agree d (graftR m m' d τ) := fun i hi => by simp [graftR, hi]
theorem graftR_old {m m' : Ren} {d : Nat} {τ : List Nat} {i : Nat} (hi : i < d) : (graftR m m' d τ).blk i = m.blk i ∧ (graftR m m' d τ).sh i = m.sh i ∧ (graftR m m' d τ).ext i = m.ext i := by simp [graftR, hi]
theorem graftR_new {m m' : Ren} {d : Nat} {τ : List Nat} {j k : Nat} (hk : τ[j]? = some k) : (graftR m m' d τ).blk (d + j) = m'.blk k ∧ (graftR m m' d τ).sh (d + j) = m'.sh k ∧ (graftR m m' d τ).ext (d + j) = m'.ext k := by
  simp [graftR, show ¬ d + j < d by omega, hk]

section
variable {P : Program} {S : Start} {m m' : Ren} {h h' : Heap} {w w' : World}
theorem graft_via (hr : HRel P S m h w) (hr' : HRel P ⟨S.G, w.heap.size, w⟩ m' h' w') (τ : List Nat) : (graftR m m' h.next τ).via (S.G + τ.length) (sh S.G h.next) m' (back S.G τ) := by
  intro i hi
  have hg := hr.gle
  unfold sh back
  by_cases h1 : i < S.G
  · rw [if_pos h1, if_pos h1]
    obtain ⟨a1, a2, a3⟩ := hr.glob i h1
    obtain ⟨b1, b2, b3⟩ := hr'.glob i h1
    obtain ⟨c1, c2, c3⟩ := graftR_old (m := m) (m' := m') (τ := τ) (show i < h.next by omega)
    rw [c1, c2, c3, a1, a2, a3, b1, b2, b3]
    exact ⟨rfl, rfl, rfl⟩
  · rw [if_neg h1, if_neg h1]
    have hk : τ[i - S.G]? = some (τ[i - S.G]'(by omega)) := List.getElem?_eq_getElem _
    rw [hk]
    exact graftR_new hk
theorem HRel.graft (hr : HRel P S m h w) (hr' : HRel P ⟨S.G, w.heap.size, w⟩ m' h' w') {v' v : Value} {τ : List Nat} {objs : List AObj} (hk : KeptOk S.G h' v' τ objs v) :
    HRel P S (graftR m m' h.next τ) (h.push (objs.map (mvO (sh S.G h.next)))) w' := by
  have hq : Quiet w w' := ⟨hr'.size, hr'.frame, hr'.io⟩
  have hr2 := hr.later hq
  have hvia := graft_via hr hr' τ
  have hnext : (h.push (objs.map (mvO (sh S.G h.next)))).next = h.next + τ.length := by rw [Heap.next_push]; simp [hk.len]
  have hshlt : ∀ i, i < S.G + τ.length → sh S.G h.next i < h.next + τ.length := by
    intro i hi
    have := hr.gle
    unfold sh; split <;> omega
  -- a new object
  have hnew : ∀ i o, ¬ i < h.next → (h.push (objs.map (mvO (sh S.G h.next)))).get i = some o → ∃ j k p, i = h.next + j ∧ objs[j]? = some p ∧ τ[j]? = some k ∧ o = mvO (sh S.G h.next) p ∧ h'.get k = some (mvO (back S.G τ) p) ∧ scO (S.G + τ.length) p ∧ p.outer = false := by
    intro i o hi hg
    rw [Heap.get_push, if_neg hi, List.getElem?_map] at hg
    obtain ⟨p, hp, rfl⟩ := Option.map_eq_some_iff.1 hg
    have hlt := (List.getElem?_eq_some_iff.1 hp).1
    have hlt2 : i - h.next < τ.length := by rw [hk.len]; exact hlt
    have hτ : τ[i - h.next]? = some (τ[i - h.next]'hlt2) := List.getElem?_eq_getElem _
    exact ⟨i - h.next, _, p, by omega, hp, hτ, rfl, hk.obj _ _ _ hp hτ⟩
  have hold : ∀ i o, i < h.next → (h.push (objs.map (mvO (sh S.G h.next)))).get i = some o → h.get i = some o := by
    intro i o hi hg
    rwa [Heap.get_push, if_pos hi] at hg
  refine ⟨by rw [hnext]; have := hr.gle; omega, ?_, ?_, ?_, hr2.frame, hr2.size, hr2.io⟩
  · intro i hi
    have := hr.gle
    obtain ⟨a1, a2, a3⟩ := hr.glob i hi
    obtain ⟨c1, c2, c3⟩ := graftR_old (m := m) (m' := m') (τ := τ) (show i < h.next by omega)
    rw [c1, c2, c3]; exact ⟨a1, a2, a3⟩
  · intro i o hg
    rw [hnext]
    by_cases hi : i < h.next
    · exact (hr2.obj i o (hold i o hi hg)).keep (graftR_agree m m' _ τ) hi (by omega) fun _ hx => hx
    · obtain ⟨j, k, p, rfl, hp, hτ, rfl, hgk, hsc, hout⟩ := hnew i o hi hg
      have h1 := hr'.obj k _ hgk
      obtain ⟨c1, c2, c3⟩ := graftR_new (m := m) (m' := m') (d := h.next) hτ
      have hbase := hr.size
      cases p with
      | dead => trivial
      | row r =>
        simp only [AObj.outer] at hout
        obtain ⟨_, c, fz, b1, b2, b3, b4, b5, b6, b7, b8⟩ := h1
        simp only [scO] at hsc
        refine ⟨?_, c, fz, by rw [c1]; exact b1, ?_, ?_, ?_, ?_, b6, b7, by rw [c3]; exact b8⟩
        · exact (scL_all _ _).1 (scL_mv hshlt _ hsc)
        · rw [c2, c3]
          have e1 := mvL_length (sh S.G h.next) r.vs
          have e2 := mvL_length (back S.G τ) r.vs
          simp only [e1]
          simp only [e2] at b2
          exact b2
        · intro q v hq2
          simp only [mvL_map, List.getElem?_map] at hq2
          obtain ⟨u, hu, rfl⟩ := Option.map_eq_some_iff.1 hq2
          have := b3 q (mv (back S.G τ) u) (by simp only [mvL_map, List.getElem?_map, hu, Option.map_some])
          rw [c2, this, ren_mv hvia u ((scL_all _ _).1 hsc u (List.mem_of_getElem? hu))]
        · intro _; have := b4 hout; simp only at this; rw [c1, c2]; exact ⟨by omega, this.2⟩
        · intro hx; simp only [hout] at hx; cases hx
      | map es clock =>
        obtain ⟨_, b1, b2⟩ := h1
        simp only [scO] at hsc
        refine ⟨?_, ?_, by rw [c1]; have : w.heap.size ≤ m'.blk k := b2; omega⟩
        · intro e he
          obtain ⟨e0, he0, rfl⟩ := List.mem_map.1 he
          exact ⟨sc_mv hshlt _ (hsc e0 he0).1, sc_mv hshlt _ (hsc e0 he0).2⟩
        · have : (es.map (mvE (sh S.G h.next))).map (renE (graftR m m' h.next τ)) = (es.map (mvE (back S.G τ))).map (renE m') := by
            rw [List.map_map, List.map_map]
            refine List.map_congr_left fun e he => ?_
            simp only [Function.comp, renE, mvE, ren_mv hvia _ (hsc e he).1, ren_mv hvia _ (hsc e he).2]
          rw [c1, this]; exact b1
      | iter s pos =>
        obtain ⟨b1, b2⟩ := h1
        exact ⟨by rw [c1]; exact b1, by rw [c1]; have : w.heap.size ≤ m'.blk k := b2; omega⟩
  · intro i j o p hij hi hj ho hp
    have key : ∀ i o, (h.push (objs.map (mvO (sh S.G h.next)))).get i = some o → o.own = true → (i < h.next ∧ h.get i = some o ∧ (graftR m m' h.next τ).blk i = m.blk i ∧ m.blk i < w.heap.size) ∨ ∃ j k q, i = h.next + j ∧ τ[j]? = some k ∧ h'.get k = some q ∧ q.own = true ∧ (graftR m m' h.next τ).blk i = m'.blk k ∧ w.heap.size ≤ m'.blk k := by
      intro i o hg ho
      by_cases hi : i < h.next
      · have h0 := hold i o hi hg
        refine .inl ⟨hi, h0, (graftR_old hi).1, ?_⟩
        obtain ⟨x, hx⟩ := (hr.obj i o h0).block (by rintro rfl; cases ho)
        exact lt_of_some hx
      · obtain ⟨j, k, q, rfl, hp, hτ, rfl, hgk, _, _⟩ := hnew i o hi hg
        have ho' : (mvO (back S.G τ) q).own = true := by rw [own_mvO] at ho ⊢; exact ho
        exact .inr ⟨j, k, _, rfl, hτ, hgk, ho', (graftR_new hτ).1, (hr'.obj k _ hgk).base_le ho'⟩
    rcases key i o hi ho with ⟨a1, a2, a3, a4⟩ | ⟨j1, k1, q1, rfl, t1, g1, o1, e1, l1⟩ <;> rcases key j p hj hp with ⟨b1, b2, b3, b4⟩ | ⟨j2, k2, q2, rfl, t2, g2, o2, e2, l2⟩
    · rw [a3, b3]; exact hr.apart i j o p hij a2 b2 ho hp
    · rw [a3, e2]; omega
    · rw [e1, b3]; omega
    · rw [e1, e2]
      refine hr'.apart k1 k2 q1 q2 ?_ g1 g2 o1 o2
      rintro rfl
      have := hk.nodup _ _ _ t1 t2
      omega
end

/-- What a call comes to from a bare heap, kept, it comes to from any. -/
theorem GoodE.kept {P : Program} {G : Nat} {B : Base P G} {f : FuncId} {args : List Value} {v' v : Value} {h' : Heap} {τ : List Nat} {objs : List AObj} (ha : ∀ x ∈ args, flat x = true)
    (hb : Big P G (GoodE P B) (.call f args) B.hB (.ends (.returned v')) h') (hk : KeptOk G h' v' τ objs v) (h : Heap) : GoodE P B f args h (mv (sh G h.next) v) (h.push (objs.map (mvO (sh G h.next)))) := by
  intro S hS m w hr _
  obtain ⟨rfl, hW, hb2⟩ := hS
  have hw := hr.W (B := B) ⟨rfl, hW, hb2⟩
  have hs := (big_sound (S := ⟨S.G, w.heap.size, w⟩) (goodE_ok B _ ⟨rfl, hw, rfl⟩) hb).1 B.mB w (B.rel w hw) (fun x hx => sc_flat _ x (ha x hx))
  rw [map_flat ha] at hs ⊢
  refine hs.mono ?_
  rintro e w' ⟨m', h1, h2, h3, rfl, h4⟩
  refine ⟨graftR m m' h.next τ, graftR_agree m m' _ τ, by rw [Heap.next_push]; omega, hr.graft h3 hk, ?_, ?_⟩
  · rw [hk.val]
    simp only [renN]
    rw [ren_mv (graft_via hr h3 τ) v hk.vsc]
  · refine sc_mv ?_ v hk.vsc
    intro i hi
    have := hr.gle
    rw [Heap.next_push, List.length_map, ← hk.len]
    unfold sh; split <;> omega
end Go.Mini
end
section
/-
  MINI, part ZG: calls of the library's by their contracts: a join of strings, a small number's digits; the wrap that keeps the world's shape and the row's premise.
-/
namespace Go.Mini

/-- A call that turns nothing that was there. -/
theorem GoodE.quiet {P : Program} {G : Nat} {B : Base P G} {f : FuncId} {args : List Value} {h : Heap} {v : Value} (hv : flat v = true)
    (hc : ∀ S m w, StartOk B S → HRel P S m h w → Calls P f (args.map (ren m)).toArray w fun e w' => e = .returned v ∧ Quiet w w') : GoodE P B f args h v h := by
  intro S hS m w hr _
  refine (hc S m w hS hr).mono ?_
  rintro e w' ⟨rfl, hq⟩
  exact ⟨m, Ren.agree_refl _ _, Nat.le_refl _, hr.later hq, by simp [renN, ren_flat _ v hv], sc_flat _ v hv⟩
theorem Quiet.of_below {w w' : World} (h : Go.RowKit.Below w.heap.size w w') : Quiet w w' := ⟨h.size, h.block, by unfold Mini.io; rw [h.os, h.tape, h.output]⟩

/-- Strings out of values. -/
def strsOf : List Value → Option (List ByteArray)
  | [] => some []
  | .string s :: l => match strsOf l with | some r => some (s :: r) | none => none
  | _ => none
theorem strsOf_some : ∀ {l : List Value} {xs : List ByteArray}, strsOf l = some xs → l = xs.map .string
  | [], xs, e => by simp only [strsOf] at e; cases e; rfl
  | v :: l, xs, e => by
    unfold strsOf at e
    split at e
    · rename_i h; cases h
    · rename_i s l' h
      cases h
      split at e
      · rename_i r hr
        cases e
        rw [List.map_cons, ← strsOf_some hr]
      · cases e
    · cases e
/-- strings.Join -/
def joinK (sep : List UInt8) : List (List UInt8) → List UInt8
  | [] => []
  | [x] => x
  | x :: y :: l => x ++ (sep ++ joinK sep (y :: l))
theorem joinK_eq (sep : List UInt8) : ∀ l, joinK sep l = Lib.join l sep
  | [] => rfl
  | [x] => (Lib.join_one x sep).symm
  | x :: y :: l => by
    rw [joinK, joinK_eq sep (y :: l), Lib.join_cons, Lib.join_cons]
    simp [Lib.joinTail]
def joinX (args : List Value) (h : Heap) : Option (Value × Heap) :=
  match args with
  | [.slice (some ⟨i, k, none⟩) n c, .string sep] =>
    if n ≤ c ∧ n ≤ 1000 then
      match h.lds i k n with
      | some vs => match strsOf vs with
        | some xs => let r := joinK sep.data.toList (xs.map (·.data.toList)); if r.length ≤ 1000000000 then some (.string (bs r), h) else none
        | none => none
      | none => none
    else none
  | _ => none
/-- What a contract of strings.Join says, for the call f. -/
def JoinSays (P : Program) (f : FuncId) : Prop := ∀ (bk o c : Nat) (xs : List ByteArray) (sep : ByteArray) (w : World), (∀ (j : Nat) x, xs[j]? = some x → w.cell? ⟨bk, o + j, none⟩ = some (.string x)) → bk < w.heap.size → xs.length ≤ 140737488355328 → xs.length ≤ c →
  (Lib.join (xs.map (·.data.toList)) sep.data.toList).length ≤ 140737488355328 →
  Calls P f #[.slice (some ⟨bk, o, none⟩) xs.length c, .string sep] w fun e w' => e = .returned (.string ⟨(Lib.join (xs.map (·.data.toList)) sep.data.toList).toArray⟩) ∧ Go.RowKit.Below w.heap.size w w'
theorem joinX_ok {P : Program} {G : Nat} {B : Base P G} {f : FuncId} (hj : JoinSays P f) {args : List Value} {h h' : Heap} {v : Value} (e : joinX args h = some (v, h')) : GoodE P B f args h v h' := by
  unfold joinX at e
  split at e
  · rename_i i k n c sep
    split at e
    · rename_i hc
      split at e
      · rename_i vs hvs
        split at e
        · rename_i xs hxs
          simp only [] at e
          split at e
          · rename_i hl
            cases e
            have hvx := strsOf_some hxs
            subst hvx
            unfold Heap.lds at hvs
            obtain ⟨r, hrow, hvs⟩ := Option.bind_eq_some_iff.1 hvs
            split at hvs
            · rename_i hle
              have hvs' := Option.some.inj hvs
              have hlen : xs.length = n := by
                have := congrArg List.length hvs'
                simp at this; omega
              refine GoodE.quiet rfl ?_
              intro S m w hS hr
              have hg := Heap.row_some.1 hrow
              obtain ⟨_, cc, fz, g1, _⟩ := hr.obj i _ hg
              have hcell : ∀ (j : Nat) x, xs[j]? = some x → w.cell? ⟨m.blk i, k + m.sh i + j, none⟩ = some (.string x) := by
                intro j x hx
                have hj : j < n := by have := (List.getElem?_eq_some_iff.1 hx).1; omega
                have h9 : r.vs[k + j]? = some (.string x) := by
                  have : ((r.vs.drop k).take n)[j]? = some (.string x) := by rw [hvs', List.getElem?_map, hx]; rfl
                  rwa [List.getElem?_take_of_lt hj, List.getElem?_drop] at this
                have := (hr.cell hg h9).1
                rw [show k + m.sh i + j = k + j + m.sh i by omega]
                exact this
              rw [joinK_eq] at hl
              have := hj (m.blk i) (k + m.sh i) (c + m.ext i) xs sep w hcell (lt_of_some g1) (by omega) (by omega) (by omega)
              simp only [List.map_cons, List.map_nil, ren, Option.isSome_none, Bool.false_eq_true, if_false]
              rw [hlen] at this
              refine this.mono ?_
              rintro e w' ⟨rfl, hb⟩
              exact ⟨by rw [joinK_eq]; rfl, Quiet.of_below hb⟩
            · cases hvs
          · cases e
        · cases e
      · cases e
    · cases e
  · cases e

/-- A small number's digits. -/
def dig2 (n : Nat) : List UInt8 := if n < 10 then [UInt8.ofNat (48 + n)] else [UInt8.ofNat (48 + n / 10), UInt8.ofNat (48 + n % 10)]
theorem dig2_eq {n : Nat} (h : n < 100) : Lib.decDigits n = dig2 n := by
  unfold dig2
  by_cases h1 : n < 10
  · rw [Lib.decDigits, dif_pos h1, if_pos h1]
  · rw [Lib.decDigits, dif_neg h1, if_neg h1, Lib.decDigits, dif_pos (by omega)]
    rfl
def itoaX (args : List Value) (h : Heap) : Option (Value × Heap) :=
  match args with
  | [.int .i64 (.ofNat n)] => if n < 100 then some (.string (bs (dig2 n)), h) else none
  | _ => none
def ItoaSays (P : Program) (f : FuncId) : Prop := ∀ (i : Nat), i < 100 → ∀ w : World, Calls P f #[.int .i64 i] w fun e w' => e = .returned (.string ⟨(Lib.decDigits i).toArray⟩) ∧ w' = w
theorem itoaX_ok {P : Program} {G : Nat} {B : Base P G} {f : FuncId} (hj : ItoaSays P f) {args : List Value} {h h' : Heap} {v : Value} (e : itoaX args h = some (v, h')) : GoodE P B f args h v h' := by
  unfold itoaX at e
  split at e
  · rename_i n
    split at e
    · rename_i hn
      cases e
      refine GoodE.quiet rfl ?_
      intro S m w hS hr
      refine (hj n hn w).mono ?_
      rintro e w' ⟨rfl, rfl⟩
      exact ⟨by rw [dig2_eq hn]; rfl, Quiet.refl _⟩
    · cases e
  · cases e

end Go.Mini
namespace Go
variable {H : Type} {enc : TypeId × Value → H}
/-- The wrap: the row's premise and the world's shape. -/
theorem returnsInHanded_of_change_both {a : Assume} {C : Checked} {os : Os} {f : FuncId} {fn : Func} {s : ChangeSpec} {conds : List PathCond} {apart fresh handsOn again : Bool} {X : World → Array Value → Prop}
    (hX : ∀ (w w' : World) (args : Array Value), w.heap = w'.heap → X w args → X w' args)
    (own : ownKnob C.prog.godebug = none) (started : os.Started) (noInit : C.prog.inits.idxOf? f = none) (hfn : C.prog.funcs[f]? = some fn)
    (witness : ∃ (w : World) (tape : Tape) (i : Input), w.os = os ∧ (w.forCall tape i).Shaped C.prog ∧ i.vars = [] ∧ Input.okWide C.prog (w.forCall tape i) .any w.heap.size f i ∧
      ((s.pre enc C.prog fn conds apart (w.forCall tape i).memory i.args ∧ X (w.forCall tape i).memory i.args) ∧ sizedMet enc C.prog fn (OpenSpec.ofChange s) apart (w.forCall tape i).memory i.args) ∧ a.holds C.prog (lone (Frame.enter C.prog f i.args .normal) [] (w.forCall tape i)))
    (contract : ∀ (W : World) (base : Nat) (args : Array Value) (ds gs : List (DataW H)) (before : List MemPlace),
      (∀ (j : Nat) t v, fn.params[j]? = some t → args[j]? = some v → Value.okWide C.prog W .any base t v) →
      DataW.Whole enc C.prog fn.params.toList s.vars apart W args.toList ds gs before →
      conds.all (PathCond.test C.prog ⟨fn.params.toList, ds, s.plain.varTypes C.prog, gs⟩) = true →
      (DataW.weightsEach C.prog (fn.params.toList ++ s.plain.varTypes C.prog) (ds ++ gs)).all (· ≤ reachBytes) = true → X W args → W.ShapedOpen C.prog →
      a.holds C.prog (lone (Frame.enter C.prog f args .normal) [] W) →
      Calls C.prog f args W fun e W' => ∃ v, e = .returned v ∧ s.post enc C.prog fn apart fresh handsOn again W args v W') :
    ReturnsInHanded a C os f .any (fun w args => (s.pre enc C.prog fn conds apart w args ∧ X w args) ∧ sizedMet enc C.prog fn (OpenSpec.ofChange s) apart w args) (s.post enc C.prog fn apart fresh handsOn again) := by
  refine returnsInHanded_of_calls own started noInit witness ?_
  intro w tape i _ hsh _ hok hpre hholds
  obtain ⟨_, _, _, fn', hfn', _, _, _, _, hval⟩ := hok
  have e : fn' = fn := Option.some.inj (hfn'.symm.trans hfn)
  subst e
  obtain ⟨⟨⟨ds, gs, before, hw, hc⟩, hx⟩, hz⟩ := hpre
  have hw' := DataW.Whole.of_heap (w' := w.forCall tape i) (by rfl) hw
  refine (contract (w.forCall tape i) w.heap.size i.args ds gs before hval hw' hc (hz.weights hw) (hX _ _ _ (by rfl) hx) hsh hholds).mono fun e W' ⟨v, he, hp⟩ => ?_
  subst he
  exact ChangeSpec.post_blind hp
end Go
end
section
/-
  MINI, part ZH: what a call leaves that nothing points at is let go: the evaluator with that.
-/
namespace Go.Mini
set_option linter.unusedSimpArgs false

/-! ### the blocks that a value names -/
mutual
/-- All blocks that it names are ones of which p holds. -/
def scp (p : Nat → Bool) : Value → Bool
  | .pointer (some a) => p a.block
  | .slice (some a) _ _ => p a.block
  | .map (some r) => p r
  | .func _ x y => scpA p x && scpA p y
  | .iface _ v => scp p v
  | .agg cs => scpA p cs
  | .tuple cs => scpA p cs
  | .pointer none => true
  | .slice none _ _ => true
  | .map none => true
  | .bool _ => true
  | .int _ _ => true
  | .float _ _ => true
  | .complex _ _ _ => true
  | .string _ => true
  | .chan _ => true
  | .nilFunc => true
  | .nilIface => true
def scpA (p : Nat → Bool) : Array Value → Bool
  | ⟨l⟩ => scpL p l
def scpL (p : Nat → Bool) : List Value → Bool
  | [] => true
  | v :: l => scp p v && scpL p l
end
mutual
theorem ren_mvp {p : Nat → Bool} {a c : Ren} {f : Nat → Nat} (h : ∀ i, p i = true → a.blk (f i) = c.blk i ∧ a.sh (f i) = c.sh i ∧ a.ext (f i) = c.ext i) : ∀ v, scp p v = true → ren a (mv f v) = ren c v
  | .pointer (some q), hs => by simp only [scp] at hs; simp [mv, ren, (h _ hs).1, (h _ hs).2.1]
  | .slice (some q) _ _, hs => by simp only [scp] at hs; simp [mv, ren, (h _ hs).1, (h _ hs).2.1, (h _ hs).2.2]
  | .map (some r), hs => by simp only [scp] at hs; simp [mv, ren, (h _ hs).1]
  | .func fn x y, hs => by simp only [scp, Bool.and_eq_true] at hs; simp [mv, ren, renA_mvp h x hs.1, renA_mvp h y hs.2]
  | .iface t v, hs => by simp only [scp] at hs; simp [mv, ren, ren_mvp h v hs]
  | .agg cs, hs => by simp only [scp] at hs; simp [mv, ren, renA_mvp h cs hs]
  | .tuple cs, hs => by simp only [scp] at hs; simp [mv, ren, renA_mvp h cs hs]
  | .bool b, _ => by simp [mv, ren]
  | .int k n, _ => by simp [mv, ren]
  | .float k n, _ => by simp [mv, ren]
  | .complex k a b, _ => by simp [mv, ren]
  | .string s, _ => by simp [mv, ren]
  | .pointer none, _ => by simp [mv, ren]
  | .slice none l c, _ => by simp [mv, ren]
  | .map none, _ => by simp [mv, ren]
  | .chan r, _ => by cases r <;> simp [mv, ren]
  | .nilFunc, _ => by simp [mv, ren]
  | .nilIface, _ => by simp [mv, ren]
theorem renA_mvp {p : Nat → Bool} {a c : Ren} {f : Nat → Nat} (h : ∀ i, p i = true → a.blk (f i) = c.blk i ∧ a.sh (f i) = c.sh i ∧ a.ext (f i) = c.ext i) : ∀ v, scpA p v = true → renA a (mvA f v) = renA c v
  | ⟨l⟩, hs => by simp only [scpA] at hs; simp [mvA, renA, renL_mvp h l hs]
theorem renL_mvp {p : Nat → Bool} {a c : Ren} {f : Nat → Nat} (h : ∀ i, p i = true → a.blk (f i) = c.blk i ∧ a.sh (f i) = c.sh i ∧ a.ext (f i) = c.ext i) : ∀ l, scpL p l = true → renL a (mvL f l) = renL c l
  | [], _ => rfl
  | v :: l, hs => by simp only [scpL, Bool.and_eq_true] at hs; simp [mvL, renL, ren_mvp h v hs.1, renL_mvp h l hs.2]
end
mutual
theorem sc_mvp {p : Nat → Bool} {k : Nat} {f : Nat → Nat} (h : ∀ i, p i = true → f i < k) : ∀ v, scp p v = true → sc k (mv f v)
  | .pointer (some q), hs => by simp only [scp] at hs; simp only [mv, sc]; exact h _ hs
  | .slice (some q) _ _, hs => by simp only [scp] at hs; simp only [mv, sc]; exact h _ hs
  | .map (some r), hs => by simp only [scp] at hs; simp only [mv, sc]; exact h _ hs
  | .func fn x y, hs => by simp only [scp, Bool.and_eq_true] at hs; simp only [mv, sc]; exact ⟨scA_mvp h x hs.1, scA_mvp h y hs.2⟩
  | .iface t v, hs => by simp only [scp] at hs; simp only [mv, sc]; exact sc_mvp h v hs
  | .agg cs, hs => by simp only [scp] at hs; simp only [mv, sc]; exact scA_mvp h cs hs
  | .tuple cs, hs => by simp only [scp] at hs; simp only [mv, sc]; exact scA_mvp h cs hs
  | .bool b, _ | .int k n, _ | .float k n, _ | .complex k a b, _ | .string s, _ | .pointer none, _ | .slice none l c, _ | .map none, _ | .chan r, _ | .nilFunc, _ | .nilIface, _ => by simp [mv, sc]
theorem scA_mvp {p : Nat → Bool} {k : Nat} {f : Nat → Nat} (h : ∀ i, p i = true → f i < k) : ∀ v, scpA p v = true → scA k (mvA f v)
  | ⟨l⟩, hs => by simp only [scpA] at hs; simp only [mvA, scA]; exact scL_mvp h l hs
theorem scL_mvp {p : Nat → Bool} {k : Nat} {f : Nat → Nat} (h : ∀ i, p i = true → f i < k) : ∀ l, scpL p l = true → scL k (mvL f l)
  | [], _ => by simp [mvL, scL]
  | v :: l, hs => by simp only [scpL, Bool.and_eq_true] at hs; simp only [mvL, scL]; exact ⟨sc_mvp h v hs.1, scL_mvp h l hs.2⟩
end
mutual
theorem sc_of_scp {p : Nat → Bool} {k : Nat} (h : ∀ i, p i = true → i < k) : ∀ v, scp p v = true → sc k v
  | .pointer (some q), hs => by simp only [scp] at hs; simp only [sc]; exact h _ hs
  | .slice (some q) _ _, hs => by simp only [scp] at hs; simp only [sc]; exact h _ hs
  | .map (some r), hs => by simp only [scp] at hs; simp only [sc]; exact h _ hs
  | .func fn x y, hs => by simp only [scp, Bool.and_eq_true] at hs; simp only [sc]; exact ⟨scA_of_scp h x hs.1, scA_of_scp h y hs.2⟩
  | .iface t v, hs => by simp only [scp] at hs; simp only [sc]; exact sc_of_scp h v hs
  | .agg cs, hs => by simp only [scp] at hs; simp only [sc]; exact scA_of_scp h cs hs
  | .tuple cs, hs => by simp only [scp] at hs; simp only [sc]; exact scA_of_scp h cs hs
  | .bool b, _ | .int k n, _ | .float k n, _ | .complex k a b, _ | .string s, _ | .pointer none, _ | .slice none l c, _ | .map none, _ | .chan r, _ | .nilFunc, _ | .nilIface, _ => by simp [sc]
theorem scA_of_scp {p : Nat → Bool} {k : Nat} (h : ∀ i, p i = true → i < k) : ∀ v, scpA p v = true → scA k v
  | ⟨l⟩, hs => by simp only [scpA] at hs; simp only [scA]; exact scL_of_scp h l hs
theorem scL_of_scp {p : Nat → Bool} {k : Nat} (h : ∀ i, p i = true → i < k) : ∀ l, scpL p l = true → scL k l
  | [], _ => by simp [scL]
  | v :: l, hs => by simp only [scpL, Bool.and_eq_true] at hs; simp only [scL]; exact ⟨sc_of_scp h v hs.1, scL_of_scp h l hs.2⟩
end
def scpO (p : Nat → Bool) : AObj → Bool
  | .row r => scpL p r.vs
  | .map es _ => es.all fun e => scp p e.key && scp p e.val
  | _ => true

/-! ### the eldest n objects, and some of the others -/
def Heap.trunc (h : Heap) (n : Nat) : Heap := ⟨n, h.objs⟩
theorem Heap.get_trunc {h : Heap} {n : Nat} (hn : n ≤ h.next) (i : Nat) : (h.trunc n).get i = if i < n then h.get i else none := by
  unfold Heap.trunc Heap.get
  by_cases hi : i < n
  · rw [if_pos hi, if_pos hi, if_pos (by omega)]
  · rw [if_neg hi, if_neg hi]

section
variable {P : Program} {S : Start} {m : Ren} {h : Heap} {w : World}
/-- τ: those that are kept, f: their new numbers; objs: they themselves, under the new numbers. -/
theorem HRel.compact (hr : HRel P S m h w) {n : Nat} (hG : S.G ≤ n) (hn : n ≤ h.next) {τ : List Nat} {f : Nat → Nat} (p : Nat → Bool) (hp : ∀ i, p i = true → (i < n ∧ f i = i) ∨ ∃ j, τ[j]? = some i ∧ f i = n + j)
    {objs : List AObj} (hlen : objs.length = τ.length) (hobj : ∀ (j : Nat) (o : AObj), objs[j]? = some o → ∃ k q, τ[j]? = some k ∧ h.get k = some q ∧ o = mvO f q ∧ scpO p q = true ∧ q.outer = false)
    (hold : ∀ i o, i < n → h.get i = some o → scpO (fun i => decide (i < n)) o = true) (hnd : ∀ (i j k : Nat), τ[i]? = some k → τ[j]? = some k → i = j) (hτn : ∀ (j k : Nat), τ[j]? = some k → n ≤ k) :
    HRel P S (graftR m m n τ) ((h.trunc n).push objs) w ∧ m.agree n (graftR m m n τ) ∧ (∀ v, scp p v = true → ren (graftR m m n τ) (mv f v) = ren m v) ∧ (∀ v, scp p v = true → sc (n + τ.length) (mv f v)) := by
  have hnext : ((h.trunc n).push objs).next = n + τ.length := by rw [Heap.next_push, hlen]; rfl
  have hvia : ∀ i, p i = true → (graftR m m n τ).blk (f i) = m.blk i ∧ (graftR m m n τ).sh (f i) = m.sh i ∧ (graftR m m n τ).ext (f i) = m.ext i := by
    intro i hi
    rcases hp i hi with ⟨h1, h2⟩ | ⟨j, h1, h2⟩
    · rw [h2]; exact graftR_old h1
    · rw [h2]; exact graftR_new h1
  have hlt : ∀ i, p i = true → f i < n + τ.length := by
    intro i hi
    rcases hp i hi with ⟨h1, h2⟩ | ⟨j, h1, h2⟩
    · omega
    · have := (List.getElem?_eq_some_iff.1 h1).1; omega
  have hgold : ∀ i o, i < n → ((h.trunc n).push objs).get i = some o → h.get i = some o := by
    intro i o hi hg
    rw [Heap.get_push, if_pos (show i < (h.trunc n).next from hi), Heap.get_trunc hn, if_pos hi] at hg
    exact hg
  have hgnew : ∀ i o, ¬ i < n → ((h.trunc n).push objs).get i = some o → ∃ j k q, i = n + j ∧ τ[j]? = some k ∧ h.get k = some q ∧ o = mvO f q ∧ scpO p q = true ∧ q.outer = false := by
    intro i o hi hg
    rw [Heap.get_push, if_neg (show ¬ i < (h.trunc n).next from hi)] at hg
    obtain ⟨k, q, h1, h2, h3, h4, h5⟩ := hobj _ o hg
    exact ⟨i - n, k, q, by omega, h1, h2, h3, h4, h5⟩
  have hag : m.agree n (graftR m m n τ) := graftR_agree m m n τ
  refine ⟨⟨by rw [hnext]; omega, ?_, ?_, ?_, hr.frame, hr.size, hr.io⟩, hag, fun v hv => ren_mvp hvia v hv, fun v hv => sc_mvp hlt v hv⟩
  · intro i hi
    obtain ⟨a1, a2, a3⟩ := hr.glob i hi
    obtain ⟨c1, c2, c3⟩ := graftR_old (m := m) (m' := m) (τ := τ) (show i < n by omega)
    rw [c1, c2, c3]; exact ⟨a1, a2, a3⟩
  · intro i o hg
    rw [hnext]
    by_cases hi : i < n
    · have hg0 := hgold i o hi hg
      have h1 := hr.obj i o hg0
      have hsp := hold i o hi hg0
      obtain ⟨c1, c2, c3⟩ := graftR_old (m := m) (m' := m) (τ := τ) hi
      have hlt2 : ∀ i, decide (i < n) = true → i < n + τ.length := fun i hi => by have := of_decide_eq_true hi; omega
      have hlt3 : ∀ i, decide (i < n) = true → i < n := fun i hi => of_decide_eq_true hi
      cases o with
      | dead => trivial
      | row r =>
        obtain ⟨_, c, fz, b1, b2, b3, b4, b5, b6, b7, b8⟩ := h1
        simp only [scpO] at hsp
        have hs3 := (scL_all _ _).1 (scL_of_scp hlt3 _ hsp)
        refine ⟨(scL_all _ _).1 (scL_of_scp hlt2 _ hsp), c, fz, by rw [c1]; exact b1, by rw [c2, c3]; exact b2, ?_, by rw [c1, c2]; exact b4, by rw [c1]; exact b5, b6, b7, by rw [c3]; exact b8⟩
        intro k v hk
        rw [c2, b3 k v hk, ren_congr hag v (hs3 v (List.mem_of_getElem? hk))]
      | map es clock =>
        obtain ⟨_, b1, b2⟩ := h1
        simp only [scpO, List.all_eq_true, Bool.and_eq_true] at hsp
        refine ⟨fun e he => ⟨sc_of_scp hlt2 _ (hsp e he).1, sc_of_scp hlt2 _ (hsp e he).2⟩, ?_, by rw [c1]; exact b2⟩
        have : es.map (renE (graftR m m n τ)) = es.map (renE m) := List.map_congr_left fun e he => (renE_congr hag ⟨sc_of_scp hlt3 _ (hsp e he).1, sc_of_scp hlt3 _ (hsp e he).2⟩).symm
        rw [c1, this]; exact b1
      | iter s pos =>
        obtain ⟨b1, b2⟩ := h1
        exact ⟨by rw [c1]; exact b1, by rw [c1]; exact b2⟩
    · obtain ⟨j, k, q, rfl, hτ, hgk, rfl, hsp, hout⟩ := hgnew i o hi hg
      have h1 := hr.obj k q hgk
      obtain ⟨c1, c2, c3⟩ := graftR_new (m := m) (m' := m) (d := n) hτ
      cases q with
      | dead => trivial
      | row r =>
        obtain ⟨_, c, fz, b1, b2, b3, b4, b5, b6, b7, b8⟩ := h1
        simp only [scpO] at hsp
        refine ⟨(scL_all _ _).1 (scL_mvp hlt _ hsp), c, fz, by rw [c1]; exact b1, by rw [c2, c3]; simp only [mvL_length]; exact b2, ?_, by rw [c1, c2]; exact b4, by rw [c1]; exact b5, b6, b7, by rw [c3]; exact b8⟩
        intro k v hk
        simp only [mvL_map, List.getElem?_map] at hk
        obtain ⟨u, hu, rfl⟩ := Option.map_eq_some_iff.1 hk
        have hmem : scp p u = true := by
          have key : ∀ (l : List Value), scpL p l = true → ∀ u ∈ l, scp p u = true := by
            intro l
            induction l with
            | nil => intro _ u hu; cases hu
            | cons x l ih =>
              intro hl u hu
              simp only [scpL, Bool.and_eq_true] at hl
              rcases List.mem_cons.1 hu with hu | hu
              · subst hu; exact hl.1
              · exact ih hl.2 u hu
          exact key _ hsp u (List.mem_of_getElem? hu)
        rw [c2, b3 k u hu, ren_mvp hvia u hmem]
      | map es clock =>
        obtain ⟨_, b1, b2⟩ := h1
        simp only [scpO, List.all_eq_true, Bool.and_eq_true] at hsp
        refine ⟨?_, ?_, by rw [c1]; exact b2⟩
        · intro e he
          obtain ⟨e0, he0, rfl⟩ := List.mem_map.1 he
          exact ⟨sc_mvp hlt _ (hsp e0 he0).1, sc_mvp hlt _ (hsp e0 he0).2⟩
        · have : (es.map (mvE f)).map (renE (graftR m m n τ)) = es.map (renE m) := by
            rw [List.map_map]
            refine List.map_congr_left fun e he => ?_
            simp only [Function.comp, renE, mvE, ren_mvp hvia _ (hsp e he).1, ren_mvp hvia _ (hsp e he).2]
          rw [c1, this]; exact b1
      | iter s pos =>
        obtain ⟨b1, b2⟩ := h1
        exact ⟨by rw [c1]; exact b1, by rw [c1]; exact b2⟩
  · intro i j o q hij hi hj ho hq
    have key : ∀ i o, ((h.trunc n).push objs).get i = some o → o.own = true → ∃ i' o', h.get i' = some o' ∧ o'.own = true ∧ (graftR m m n τ).blk i = m.blk i' ∧ ((i < n ∧ i' = i) ∨ ∃ j, i = n + j ∧ τ[j]? = some i' ∧ n ≤ i') := by
      intro i o hg ho
      by_cases hi : i < n
      · exact ⟨i, o, hgold i o hi hg, ho, (graftR_old hi).1, .inl ⟨hi, rfl⟩⟩
      · obtain ⟨j, k, q, rfl, hτ, hgk, rfl, _, _⟩ := hgnew i o hi hg
        rw [own_mvO] at ho
        exact ⟨k, q, hgk, ho, (graftR_new hτ).1, .inr ⟨j, rfl, hτ, hτn j k hτ⟩⟩
    obtain ⟨i', o1, g1, w1, e1, q1⟩ := key i o hi ho
    obtain ⟨j', o2, g2, w2, e2, q2⟩ := key j q hj hq
    rw [e1, e2]
    refine hr.apart i' j' o1 o2 ?_ g1 g2 w1 w2
    rintro rfl
    rcases q1 with ⟨a1, rfl⟩ | ⟨x, rfl, t1, b1⟩ <;> rcases q2 with ⟨a2, h2⟩ | ⟨y, rfl, t2, b2⟩
    · omega
    · omega
    · omega
    · have := hnd _ _ _ t1 t2; omega
end

/-! ### reckoned -/
/-- The kept ones' new numbers. -/
def newNo (n : Nat) : List Nat → Nat → Nat → Nat
  | [], _, i => i
  | k :: τ, j, i => if i = k then n + j else newNo n τ (j + 1) i
def ascB (n : Nat) : List Nat → Bool
  | [] => true
  | k :: τ => Nat.ble n k && ascB (k + 1) τ
theorem ascB_ge : ∀ {τ : List Nat} {n : Nat}, ascB n τ = true → ∀ (j k : Nat), τ[j]? = some k → n + j ≤ k
  | [], _, _, j, k, h => by simp at h
  | a :: τ, n, h, 0, k, hk => by
    simp only [ascB, Bool.and_eq_true] at h
    simp at hk; subst hk
    exact Nat.le_of_ble_eq_true h.1
  | a :: τ, n, h, j + 1, k, hk => by
    simp only [ascB, Bool.and_eq_true] at h
    have h1 := Nat.le_of_ble_eq_true h.1
    have := ascB_ge h.2 j k (by simpa using hk)
    omega
theorem ascB_nodup : ∀ {τ : List Nat} {n : Nat}, ascB n τ = true → ∀ (i j k : Nat), τ[i]? = some k → τ[j]? = some k → i = j
  | [], _, _, i, j, k, h, _ => by simp at h
  | a :: τ, n, h, 0, 0, k, _, _ => rfl
  | a :: τ, n, h, 0, j + 1, k, h1, h2 => by
    simp only [ascB, Bool.and_eq_true] at h
    simp at h1; subst h1
    have := ascB_ge h.2 j a (by simpa using h2)
    omega
  | a :: τ, n, h, i + 1, 0, k, h1, h2 => by
    simp only [ascB, Bool.and_eq_true] at h
    simp at h2; subst h2
    have := ascB_ge h.2 i a (by simpa using h1)
    omega
  | a :: τ, n, h, i + 1, j + 1, k, h1, h2 => by
    simp only [ascB, Bool.and_eq_true] at h
    have := ascB_nodup h.2 i j k (by simpa using h1) (by simpa using h2)
    omega
theorem newNo_at : ∀ {τ : List Nat} {n b : Nat} (j i : Nat), ascB b τ = true → i < b → newNo n τ j i = i
  | [], n, b, j, i, _, _ => rfl
  | k :: τ, n, b, j, i, h, hi => by
    simp only [ascB, Bool.and_eq_true] at h
    have h1 := Nat.le_of_ble_eq_true h.1
    rw [newNo, if_neg (by omega)]
    exact newNo_at (b := k + 1) (j + 1) i h.2 (by omega)
theorem newNo_mem : ∀ {τ : List Nat} {n b : Nat} (j i : Nat), ascB b τ = true → memB i τ = true → ∃ q, τ[q]? = some i ∧ newNo n τ j i = n + (j + q)
  | [], n, b, j, i, _, h => by cases h
  | k :: τ, n, b, j, i, h, hm => by
    simp only [ascB, Bool.and_eq_true] at h
    by_cases e : i = k
    · subst e
      exact ⟨0, rfl, by rw [newNo, if_pos rfl]; omega⟩
    · simp only [memB, Bool.or_eq_true] at hm
      have hm2 := hm.resolve_left fun q => e (Nat.eq_of_beq_eq_true q)
      obtain ⟨q, h1, h2⟩ := newNo_mem (n := n) (j + 1) i h.2 hm2
      exact ⟨q + 1, by simpa using h1, by rw [newNo, if_neg e, h2]; omega⟩
/-- Objects that are kept, under their new numbers. -/
def keptObjs (h : Heap) (p : Nat → Bool) (f : Nat → Nat) : List Nat → Option (List AObj)
  | [] => some []
  | k :: τ => match h.get k with
    | none => none
    | some q => if scpO p q && !q.outer then (match keptObjs h p f τ with | some l => some (mvO f q :: l) | none => none) else none
theorem keptObjs_ok {h : Heap} {p : Nat → Bool} {f : Nat → Nat} : ∀ {τ : List Nat} {l : List AObj}, keptObjs h p f τ = some l → l.length = τ.length ∧ ∀ (j : Nat) (o : AObj), l[j]? = some o → ∃ k q, τ[j]? = some k ∧ h.get k = some q ∧ o = mvO f q ∧ scpO p q = true ∧ q.outer = false
  | [], l, e => by simp only [keptObjs] at e; cases e; simp
  | k :: τ, l, e => by
    simp only [keptObjs] at e
    split at e
    · cases e
    · rename_i q hq
      split at e
      · rename_i hc
        simp only [Bool.and_eq_true, Bool.not_eq_true'] at hc
        split at e
        · rename_i l' hl
          cases e
          obtain ⟨h1, h2⟩ := keptObjs_ok hl
          refine ⟨by simp [h1], fun j o hj => ?_⟩
          cases j with
          | zero => simp at hj; subst hj; exact ⟨k, q, rfl, hq, rfl, hc.1, hc.2⟩
          | succ j => exact h2 j o (by simpa using hj)
        · cases e
      · cases e
/-- Are the eldest n objects such that they name none but themselves? -/
def oldOk (n : Nat) (h : Heap) : Nat → Bool
  | 0 => true
  | i + 1 => (match h.get i with | some o => scpO (fun i => Nat.blt i n) o | none => true) && oldOk n h i
theorem oldOk_get {h : Heap} {n : Nat} : ∀ {k : Nat}, oldOk n h k = true → ∀ i o, i < k → h.get i = some o → scpO (fun i => decide (i < n)) o = true
  | k + 1, e, i, o, hi, hg => by
    simp only [oldOk, Bool.and_eq_true] at e
    have hf : (fun i => Nat.blt i n) = fun i => decide (i < n) := by
      funext i
      rw [Bool.eq_iff_iff, nblt_iff, decide_eq_true_eq]
    rcases Nat.lt_or_ge i k with q | q
    · exact oldOk_get e.2 i o q hg
    · obtain rfl : i = k := by omega
      have := e.1
      rw [hg, hf] at this
      exact this
/-- The blocks from n on that a value names: bits. -/
def bitOf (n i : Nat) : Nat := if i < n then 0 else 2 ^ (i - n)
mutual
def refs (n : Nat) : Value → Nat
  | .pointer (some a) => bitOf n a.block
  | .slice (some a) _ _ => bitOf n a.block
  | .map (some r) => bitOf n r
  | .func _ x y => refsA n x ||| refsA n y
  | .iface _ v => refs n v
  | .agg cs => refsA n cs
  | .tuple cs => refsA n cs
  | .pointer none => 0
  | .slice none _ _ => 0
  | .map none => 0
  | .bool _ => 0
  | .int _ _ => 0
  | .float _ _ => 0
  | .complex _ _ _ => 0
  | .string _ => 0
  | .chan _ => 0
  | .nilFunc => 0
  | .nilIface => 0
def refsA (n : Nat) : Array Value → Nat
  | ⟨l⟩ => refsL n l
def refsL (n : Nat) : List Value → Nat
  | [] => 0
  | v :: l => refs n v ||| refsL n l
end
def refsO (n : Nat) : AObj → Nat
  | .row r => refsL n r.vs
  | .map es _ => es.foldl (fun s e => s ||| refs n e.key ||| refs n e.val) 0
  | _ => 0
/-- The objects below i, from n on: what those that are marked name is marked too. -/
def markP (n : Nat) (h : Heap) : Nat → Nat → Nat
  | 0, M => M
  | j + 1, M => match M.testBit j with
    | true => match h.get (n + j) with
      | some o => forceN (M ||| refsO n o) fun M => markP n h j M
      | none => markP n h j M
    | false => markP n h j M
def marks (n : Nat) (h : Heap) : Nat → Nat → Nat
  | 0, M => M
  | k + 1, M => forceN (markP n h (h.next - n) M) fun M2 => match Nat.beq M2 M with | true => M | false => marks n h k M2
def bitsFrom (n M : Nat) : Nat → Nat → List Nat
  | 0, _ => []
  | k + 1, i => if M.testBit i then (n + i) :: bitsFrom n M k (i + 1) else bitsFrom n M k (i + 1)
/-- What a call left, without what nothing points at. -/
def tidy (n : Nat) (v : Value) (h : Heap) : Value × Heap :=
  if h.next ≤ n then (v, h)
  else
    let M := marks n h 30 (refs n v)
    let τ := bitsFrom n M (h.next - n) 0
    let p : Nat → Bool := fun i => decide (i < n) || memB i τ
    let f := newNo n τ 0
    if ascB n τ && scp p v && oldOk n h n then
      match keptObjs h p f τ with
      | some objs => (mv f v, (h.trunc n).push objs)
      | none => (v, h)
    else (v, h)
theorem GoodE.tidy {P : Program} {G : Nat} {B : Base P G} {f : FuncId} {args : List Value} {h h1 : Heap} {v : Value} (hg : GoodE P B f args h v h1) : GoodE P B f args h (Mini.tidy h.next v h1).1 (Mini.tidy h.next v h1).2 := by
  unfold Mini.tidy
  split
  · exact hg
  · rename_i hlt
    simp only []
    split
    · rename_i hc
      simp only [Bool.and_eq_true] at hc
      obtain ⟨⟨c1, c2⟩, c3⟩ := hc
      split
      · rename_i objs ho
        obtain ⟨k1, k2⟩ := keptObjs_ok ho
        intro S hS m w hr hs
        refine (hg S hS m w hr hs).mono ?_
        rintro e w' ⟨m', q1, q2, q3, rfl, _⟩
        have hn : h.next ≤ h1.next := q2
        obtain ⟨r1, r2, r3, r4⟩ := q3.compact (n := h.next) hr.gle hn (τ := bitsFrom h.next (marks h.next h1 30 (refs h.next v)) (h1.next - h.next) 0) (f := newNo h.next (bitsFrom h.next (marks h.next h1 30 (refs h.next v)) (h1.next - h.next) 0) 0)
          (fun i => decide (i < h.next) || memB i (bitsFrom h.next (marks h.next h1 30 (refs h.next v)) (h1.next - h.next) 0)) (by
            intro i hi
            simp only [Bool.or_eq_true, decide_eq_true_eq] at hi
            by_cases hlt : i < h.next
            · exact .inl ⟨hlt, newNo_at 0 i c1 hlt⟩
            · obtain ⟨q, a1, a2⟩ := newNo_mem (n := h.next) 0 i c1 (hi.resolve_left hlt)
              exact .inr ⟨q, a1, by rw [a2, Nat.zero_add]⟩) k1 k2 (oldOk_get c3) (ascB_nodup c1) (fun j k hk => by have := ascB_ge c1 j k hk; omega)
        refine ⟨_, q1.trans r2, ?_, r1, ?_, ?_⟩
        · rw [Heap.next_push]; exact Nat.le_add_right _ _
        · simp only [renN]; rw [r3 v c2]
        · have := r4 v c2
          rw [Heap.next_push, k1]; exact this
      · exact hg
    · exact hg

/-! ### the evaluator that lets go -/
section
universe v
variable {β : Type v}
/-- The objects from i on, k of them, written out. -/
def forceObjs : Nat → Nat → Tr → (Tr → β) → β
  | 0, _, t, c => c t
  | k + 1, i, t, c => Tr.forceAt (i + 1) t i fun t => forceObjs k (i + 1) t c
theorem forceObjs_eq : ∀ (k i : Nat) (t : Tr) (c : Tr → β), forceObjs k i t c = c t
  | 0, _, _, _ => rfl
  | k + 1, i, t, c => by simp only [forceObjs, Tr.forceAt_eq, forceObjs_eq k]
end
/-- Calls of those functions of which gc holds are tidied; N: steps; the last number: how deep they stand in one another. -/
noncomputable def gcX (P : Program) (G : Nat) (hB : Heap) (fl gc : FuncId → Bool) (X : Known) (N : Nat) : Nat → Known
  | 0 => X
  | k + 1 => fun f args h =>
    match gc f with
    | true =>
      match evBody P (ev P G hB fl (gcX P G hB fl gc X N k) N) f args h with
      | some (.ends (.returned v), h1) =>
        match tidy h.next v h1 with
        | (v2, h2) => forceV v2 fun v3 => forceN h2.next fun n2 => forceObjs (n2 - h.next) h.next h2.objs fun l2 => some (v3, ⟨n2, l2⟩)
      | _ => none
    | false => X f args h
theorem gcX_ok {P : Program} {G : Nat} {B : Base P G} {fl gc : FuncId → Bool} {X : Known} (hX : KnownOk P G (GoodE P B) X) (N : Nat) : ∀ k, KnownOk P G (GoodE P B) (gcX P G B.hB fl gc X N k)
  | 0 => hX
  | k + 1 => by
    intro f args h v h' e
    unfold gcX at e
    split at e
    · split at e
      · rename_i u h1 hev
        have hb := evBody_sound (ev_sound (fl := fl) (gcX_ok hX N k) (flatOk B) N) hev
        have hg := (GoodE.of hb).tidy
        split at e
        rename_i v2 h2 ht
        simp only [forceV_eq, forceN_eq, forceObjs_eq, Option.some.injEq, Prod.mk.injEq] at e
        obtain ⟨rfl, rfl⟩ := e
        rw [ht] at hg
        exact .ext hg
      · cases e
    · exact hX _ _ _ _ _ e
end Go.Mini
end
section
/-
  MINI, part ZI: what a call with flat arguments comes to, kept in words.
-/
namespace Go.Mini
set_option linter.unusedSimpArgs false

/-- What a call from a bare heap does, it does from any: what it hands back put down there. -/
theorem GoodE.keptG {P : Program} {B : Base P 0} {f : FuncId} {args : List Value} {v : Value} {h' : Heap} {objs : List AObj} (ha : ∀ x ∈ args, flat x = true) (hg : GoodE P B f args B.hB v h')
    (hv : sc objs.length v) (ho : ∀ (j : Nat) (o : AObj), objs[j]? = some o → h'.get j = some o ∧ scO objs.length o ∧ o.outer = false) (h : Heap) : GoodE P B f args h (mv (sh 0 h.next) v) (h.push (objs.map (mvO (sh 0 h.next)))) := by
  intro S hS m w hr _
  obtain ⟨hG, hW, hb2⟩ := hS
  obtain ⟨G0, base, w0⟩ := S
  simp only at hG
  subst hG
  have hw := hr.W (B := B) ⟨rfl, hW, hb2⟩
  have hs := hg ⟨0, w.heap.size, w⟩ ⟨rfl, hw, rfl⟩ B.mB w (B.rel w hw) (fun x hx => sc_flat _ x (ha x hx))
  rw [map_flat ha] at hs ⊢
  refine hs.mono ?_
  rintro e w' ⟨m', h1, h2, h3, rfl, h4⟩
  have hback : ∀ i, i < objs.length → back 0 (List.range objs.length) i = i := by
    intro i hi
    unfold back
    simp [hi]
  have hk : KeptOk 0 h' v (List.range objs.length) objs v := {
    len := by simp
    val := (mv_id hback v hv).symm
    vsc := by simpa using hv
    obj := by
      intro j o k hj hk
      have hjl := (List.getElem?_eq_some_iff.1 hj).1
      rw [List.getElem?_range hjl] at hk
      cases hk
      obtain ⟨q1, q2, q3⟩ := ho j o hj
      exact ⟨by rw [mvO_id hback q2]; exact q1, by simpa using q2, q3⟩
    nodup := by
      intro i j k hi hj
      have hil := (List.getElem?_eq_some_iff.1 hi).1
      have hjl := (List.getElem?_eq_some_iff.1 hj).1
      simp only [List.length_range] at hil hjl
      rw [List.getElem?_range hil] at hi
      rw [List.getElem?_range hjl] at hj
      cases hi; cases hj; rfl }
  refine ⟨graftR m m' h.next (List.range objs.length), graftR_agree m m' _ _, by rw [Heap.next_push]; exact Nat.le_add_right _ _, hr.graft (S := ⟨0, base, w0⟩) h3 hk, ?_, ?_⟩
  · have := ren_mv (graft_via (S := ⟨0, base, w0⟩) hr h3 (List.range objs.length)) v (by simpa using hv)
    simp only [renN]
    rw [this, mv_id hback v hv]
  · refine sc_mv ?_ v hv
    intro i hi
    rw [Heap.next_push, List.length_map]
    unfold sh; split <;> omega

/-! ### reckoned -/
def objsOk (h : Heap) (n : Nat) : Nat → List AObj → Bool
  | _, [] => true
  | j, o :: l => (match h.get j with | some q => eqO q o | none => false) && scpO (fun i => Nat.blt i n) o && !o.outer && objsOk h n (j + 1) l
theorem scO_of_scpO {p : Nat → Bool} {k : Nat} (h : ∀ i, p i = true → i < k) {o : AObj} (ho : scpO p o = true) : scO k o := by
  cases o with
  | row r => exact scL_of_scp h _ ho
  | map es c =>
    simp only [scpO, List.all_eq_true, Bool.and_eq_true] at ho
    exact fun e he => ⟨sc_of_scp h _ (ho e he).1, sc_of_scp h _ (ho e he).2⟩
  | _ => trivial
theorem objsOk_at {h : Heap} {n : Nat} : ∀ {l : List AObj} {b : Nat}, objsOk h n b l = true → ∀ (j : Nat) (o : AObj), l[j]? = some o → h.get (b + j) = some o ∧ scO n o ∧ o.outer = false
  | [], _, _, j, o, hj => by simp at hj
  | q :: l, b, e, 0, o, hj => by
    simp only [objsOk, Bool.and_eq_true, Bool.not_eq_true'] at e
    obtain ⟨⟨⟨e1, e2⟩, e3⟩, _⟩ := e
    simp at hj; subst hj
    refine ⟨?_, scO_of_scpO (fun i hi => nblt_iff.1 hi) e2, e3⟩
    split at e1
    · rename_i p hp; rw [Nat.add_zero, hp, eqO_eq e1]
    · cases e1
  | q :: l, b, e, j + 1, o, hj => by
    simp only [objsOk, Bool.and_eq_true] at e
    have := objsOk_at e.2 j o (by simpa using hj)
    rwa [show b + 1 + j = b + (j + 1) by omega] at this
/-- A call and what it comes to. -/
structure Kept where
  f : FuncId
  args : List Value
  v : Value
  objs : List AObj
def keptC (k : Kept) : Value × Heap → Bool
  | (u2, h2) => veq 50 u2 k.v && scp (fun i => Nat.blt i k.objs.length) k.v && objsOk h2 k.objs.length 0 k.objs
noncomputable def keptB (P : Program) (X : Known) (fl : FuncId → Bool) (N : Nat) (hB : Heap) (k : Kept) : Bool :=
  k.args.all flat && match evBody P (ev P 0 hB fl X N) k.f k.args hB with
  | some (.ends (.returned u), h1) => keptC k (tidy hB.next u h1)
  | _ => false
def KeptSays (P : Program) (B : Base P 0) (k : Kept) : Prop := ∀ h : Heap, GoodE P B k.f k.args h (mv (sh 0 h.next) k.v) (h.push (k.objs.map (mvO (sh 0 h.next))))
theorem keptB_ok {P : Program} {B : Base P 0} {X : Known} (hX : KnownOk P 0 (GoodE P B) X) {fl : FuncId → Bool} {N : Nat} {k : Kept} (e : keptB P X fl N B.hB k = true) : KeptSays P B k := by
  intro h
  unfold keptB at e
  simp only [Bool.and_eq_true] at e
  obtain ⟨ha, e⟩ := e
  split at e
  · rename_i u h1 hev
    generalize ht : tidy B.hB.next u h1 = r at e
    obtain ⟨u2, h2⟩ := r
    simp only [keptC, Bool.and_eq_true] at e
    obtain ⟨⟨e1, e2⟩, e3⟩ := e
    have hb := evBody_sound (ev_sound (fl := fl) hX (flatOk B) N) hev
    have hg := (GoodE.of hb).tidy
    rw [ht] at hg
    rw [veq_eq _ _ _ e1] at hg
    exact GoodE.keptG (by simpa using ha) hg (sc_of_scp (fun i hi => nblt_iff.1 hi) _ e2) (fun j o hj => by have := objsOk_at e3 j o hj; rwa [Nat.zero_add] at this) h
  · cases e
/-- Those of a list, known. -/
def argsEq : List Value → List Value → Bool
  | [], [] => true
  | a :: l, b :: m => veq 20 a b && argsEq l m
  | _, _ => false
theorem argsEq_eq : ∀ {l m : List Value}, argsEq l m = true → l = m
  | [], [], _ => rfl
  | a :: l, b :: m, h => by
    simp only [argsEq, Bool.and_eq_true] at h
    rw [veq_eq _ _ _ h.1, argsEq_eq h.2]
  | [], _ :: _, h => by cases h
  | _ :: _, [], h => by cases h
def pushK : List AObj → Heap → (Heap → Option (Value × Heap)) → Option (Value × Heap)
  | [], h, k => k h
  | o :: l, h, k => forceO o fun o => Tr.setK o (h.next + 1) h.objs h.next fun t => forceN (h.next + 1) fun n => pushK l ⟨n, t⟩ k
theorem pushK_eq : ∀ (l : List AObj) (h : Heap) (k : Heap → Option (Value × Heap)), pushK l h k = k (h.push l)
  | [], h, k => rfl
  | o :: l, h, k => by simp only [pushK, forceO_eq, Tr.setK_eq, forceN_eq, pushK_eq l]; rfl
def keptX (X : Known) : List Kept → Known
  | [] => X
  | k :: l => fun f args h =>
    match Nat.beq f k.f && argsEq args k.args with
    | true => forceV (mv (sh 0 h.next) k.v) fun v => pushK (k.objs.map (mvO (sh 0 h.next))) h fun h1 => some (v, h1)
    | false => keptX X l f args h
theorem keptX_ok {P : Program} {B : Base P 0} {X : Known} (hX : KnownOk P 0 (GoodE P B) X) : ∀ {l : List Kept}, (∀ k ∈ l, KeptSays P B k) → KnownOk P 0 (GoodE P B) (keptX X l)
  | [], _ => hX
  | k :: l, hl => by
    intro f args h v h' e
    unfold keptX at e
    split at e
    · rename_i hc
      simp only [Bool.and_eq_true] at hc
      rw [forceV_eq, pushK_eq] at e
      simp only [Option.some.injEq, Prod.mk.injEq] at e
      obtain ⟨rfl, rfl⟩ := e
      rw [Nat.eq_of_beq_eq_true hc.1, argsEq_eq hc.2]
      exact .ext (hl k (by simp) h)
    · exact keptX_ok hX (fun k hk => hl k (by simp [hk])) _ _ _ _ _ e
end Go.Mini
end
section
/-
  MINI, part ZK: calls of the library's by their contracts: a map's copy, a number's trailing zeros.
-/
namespace Go.Mini
set_option linter.unusedSimpArgs false

/-- maps.Clone -/
def cloneX (args : List Value) (h : Heap) : Option (Value × Heap) :=
  match args with
  | [.map (some r)] => match h.get r with
    | some (.map es c) => some (.map (some h.next), h.alloc (.map es c))
    | _ => none
  | _ => none
def CloneSays (P : Program) (f : FuncId) : Prop := ∀ (b : Nat) (es : Array MapEntry) (clock : Nat) (w : World), w.heap[b]? = some (.map es clock) →
  Calls P f #[.map (some b)] w fun e w' => e = .returned (.map (some w.heap.size)) ∧ w' = w.alloc (.map es clock)
theorem cloneX_ok {P : Program} {G : Nat} {B : Base P G} {f : FuncId} (hC : CloneSays P f) {args : List Value} {h h' : Heap} {v : Value} (e : cloneX args h = some (v, h')) : GoodE P B f args h v h' := by
  unfold cloneX at e
  split at e
  · rename_i r
    split at e
    · rename_i es c hg
      simp only [Option.some.injEq, Prod.mk.injEq] at e
      obtain ⟨rfl, rfl⟩ := e
      intro S hS m w hr hs
      obtain ⟨b0, b1, b2⟩ := hr.obj r _ hg
      refine (hC (m.blk r) _ c w b1).mono ?_
      rintro e w' ⟨rfl, rfl⟩
      have hag := Ren.agree_put m h.next w.heap.size 0 0 h.next (Nat.le_refl _)
      refine ⟨m.put h.next w.heap.size 0 0, hag, by simp, ?_, by simp [renN, ren, Ren.put], by simp [scN, sc]⟩
      refine hr.alloc ⟨fun e he => ⟨sc_mono (Nat.le_succ _) _ (b0 e he).1, sc_mono (Nat.le_succ _) _ (b0 e he).2⟩, ?_, ?_⟩
      · show (w.heap.push _)[_]? = _
        rw [Ren.put_blk, Array.getElem?_push, if_pos rfl]
        congr 2
        congr 1
        exact List.map_congr_left fun e he => renE_congr hag (b0 e he)
      · rw [Ren.put_blk]; exact hr.size
    · cases e
  · cases e
/-- math/bits.TrailingZeros64 -/
def ctzK : Nat → Nat → Nat
  | 0, _ => 0
  | n + 1, x => match Nat.beq (x % 2) 1 with | true => 0 | false => ctzK n (x / 2) + 1
def tzX (args : List Value) (h : Heap) : Option (Value × Heap) :=
  match args with
  | [.int .u64 (.ofNat x)] => match Nat.blt x 18446744073709551616 with
    | true => some (.int .i64 (ctzK 64 x : Nat), h)
    | false => none
  | _ => none
theorem ctzK_eq : ∀ n x, ctzK n x = if x = 0 then n else Lib.ctzFrom n x
  | 0, x => by unfold ctzK Lib.ctzFrom; split <;> rfl
  | n + 1, x => by
    unfold ctzK
    split
    · rename_i h
      have h := Nat.eq_of_beq_eq_true h
      rw [if_neg (by omega), Lib.ctzFrom, if_pos h]
    · rename_i h
      have h : ¬ x % 2 = 1 := fun q => by rw [q] at h; cases h
      rw [ctzK_eq n]
      by_cases h0 : x = 0
      · subst h0; rw [if_pos rfl, if_pos (by omega)]
      · rw [if_neg (by omega), if_neg h0, Lib.ctzFrom, if_neg h]; omega
theorem tzX_ok {P : Program} {G : Nat} {B : Base P G} {f : FuncId} (hC : ∀ x, x < 18446744073709551616 → ∀ w, B.W w → Calls P f #[.int .u64 (x : Nat)] w fun e w' => e = .returned (.int .i64 (Lib.ctz 64 x : Nat)) ∧ w' = w) {args : List Value} {h h' : Heap} {v : Value} (e : tzX args h = some (v, h')) : GoodE P B f args h v h' := by
  unfold tzX at e
  split at e
  · rename_i x
    split at e
    · rename_i hx
      simp only [Option.some.injEq, Prod.mk.injEq] at e
      obtain ⟨rfl, rfl⟩ := e
      refine GoodE.ofFlat ⟨by simp [flat], rfl, fun w hw => (hC x (nblt_iff.1 hx) w hw).mono ?_⟩ h
      rintro e w' ⟨rfl, rfl⟩
      exact ⟨by rw [ctzK_eq]; rfl, Quiet.refl _⟩
    · cases e
  · cases e
end Go.Mini
end
