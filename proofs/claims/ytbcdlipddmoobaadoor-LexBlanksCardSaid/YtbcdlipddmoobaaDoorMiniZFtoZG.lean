/-
  MINI, parts ZF to ZG.
-/
import Derived.Test.YtbcdlipddmoobaaDoorMiniZE
import Derived.Lib.Join
import Derived.Lib.ItoaNum
import Derived.Handed
import Derived.HandedShaped
section
/-
  MINI, part ZF: what a call from a bare heap leaves, kept, and put down at any heap.
-/
namespace Go.Mini
set_option linter.unusedSimpArgs false

/-! ### blocks under other numbers -/
mutual
def mv (f : Nat → Nat) : Value → Value
  | .pointer (some a) => .pointer (some ⟨f a.block, a.off, a.spot⟩)
  | .slice (some a) l c => .slice (some ⟨f a.block, a.off, a.spot⟩) l c
  | .map (some r) => .map (some (f r))
  | .func fn x y => .func fn (mvA f x) (mvA f y)
  | .iface t v => .iface t (mv f v)
  | .agg cs => .agg (mvA f cs)
  | .tuple cs => .tuple (mvA f cs)
  | .bool b => .bool b
  | .int k n => .int k n
  | .float k n => .float k n
  | .complex k a b => .complex k a b
  | .string s => .string s
  | .pointer none => .pointer none
  | .slice none l c => .slice none l c
  | .map none => .map none
  | .chan r => .chan r
  | .nilFunc => .nilFunc
  | .nilIface => .nilIface
def mvA (f : Nat → Nat) : Array Value → Array Value
  | ⟨l⟩ => ⟨mvL f l⟩
def mvL (f : Nat → Nat) : List Value → List Value
  | [] => []
  | v :: l => mv f v :: mvL f l
end
theorem mvL_map (f : Nat → Nat) : ∀ l, mvL f l = l.map (mv f)
  | [] => rfl
  | v :: l => by simp [mvL, mvL_map f l]
theorem mvL_length (f : Nat → Nat) (l : List Value) : (mvL f l).length = l.length := by rw [mvL_map]; simp

/-- Two ways to the same place. -/
def Ren.via (n : Nat) (a : Ren) (f : Nat → Nat) (c : Ren) (g : Nat → Nat) : Prop := ∀ i, i < n → a.blk (f i) = c.blk (g i) ∧ a.sh (f i) = c.sh (g i) ∧ a.ext (f i) = c.ext (g i)
mutual
theorem ren_mv {n : Nat} {a c : Ren} {f g : Nat → Nat} (h : a.via n f c g) : ∀ v, sc n v → ren a (mv f v) = ren c (mv g v)
  | .pointer (some p), hs => by simp only [sc] at hs; simp [mv, ren, (h _ hs).1, (h _ hs).2.1]
  | .slice (some p) _ _, hs => by simp only [sc] at hs; simp [mv, ren, (h _ hs).1, (h _ hs).2.1, (h _ hs).2.2]
  | .map (some r), hs => by simp only [sc] at hs; simp [mv, ren, (h _ hs).1]
  | .func fn x y, hs => by simp only [sc] at hs; simp [mv, ren, renA_mv h x hs.1, renA_mv h y hs.2]
  | .iface t v, hs => by simp only [sc] at hs; simp [mv, ren, ren_mv h v hs]
  | .agg cs, hs => by simp only [sc] at hs; simp [mv, ren, renA_mv h cs hs]
  | .tuple cs, hs => by simp only [sc] at hs; simp [mv, ren, renA_mv h cs hs]
  | .bool b, _ => by simp [mv, ren]
  | .int k n, _ => by simp [mv, ren]
  | .float k n, _ => by simp [mv, ren]
  | .complex k a b, _ => by simp [mv, ren]
  | .string s, _ => by simp [mv, ren]
  | .pointer none, _ => by simp [mv, ren]
  | .slice none l c, _ => by simp [mv, ren]
  | .map none, _ => by simp [mv, ren]
  | .chan r, _ => by simp [mv, ren]
  | .nilFunc, _ => by simp [mv, ren]
  | .nilIface, _ => by simp [mv, ren]
theorem renA_mv {n : Nat} {a c : Ren} {f g : Nat → Nat} (h : a.via n f c g) : ∀ v, scA n v → renA a (mvA f v) = renA c (mvA g v)
  | ⟨l⟩, hs => by simp only [scA] at hs; simp [mvA, renA, renL_mv h l hs]
theorem renL_mv {n : Nat} {a c : Ren} {f g : Nat → Nat} (h : a.via n f c g) : ∀ l, scL n l → renL a (mvL f l) = renL c (mvL g l)
  | [], _ => rfl
  | v :: l, hs => by simp only [scL] at hs; simp [mvL, renL, ren_mv h v hs.1, renL_mv h l hs.2]
end
mutual
theorem sc_mv {n k : Nat} {f : Nat → Nat} (h : ∀ i, i < n → f i < k) : ∀ v, sc n v → sc k (mv f v)
  | .pointer (some p), hs => by simp only [sc, mv] at *; exact h _ hs
  | .slice (some p) _ _, hs => by simp only [sc, mv] at *; exact h _ hs
  | .map (some r), hs => by simp only [sc, mv] at *; exact h _ hs
  | .func fn x y, hs => by simp only [sc, mv] at *; exact ⟨scA_mv h x hs.1, scA_mv h y hs.2⟩
  | .iface t v, hs => by simp only [sc, mv] at *; exact sc_mv h v hs
  | .agg cs, hs => by simp only [sc, mv] at *; exact scA_mv h cs hs
  | .tuple cs, hs => by simp only [sc, mv] at *; exact scA_mv h cs hs
  | .bool b, _ | .int k n, _ | .float k n, _ | .complex k a b, _ | .string s, _ | .pointer none, _ | .slice none l c, _ | .map none, _ | .chan r, _ | .nilFunc, _ | .nilIface, _ => by simp [sc, mv]
theorem scA_mv {n k : Nat} {f : Nat → Nat} (h : ∀ i, i < n → f i < k) : ∀ a, scA n a → scA k (mvA f a)
  | ⟨l⟩, hs => by simp only [scA, mvA] at *; exact scL_mv h l hs
theorem scL_mv {n k : Nat} {f : Nat → Nat} (h : ∀ i, i < n → f i < k) : ∀ l, scL n l → scL k (mvL f l)
  | [], _ => by simp [scL, mvL]
  | v :: l, hs => by simp only [scL, mvL] at *; exact ⟨sc_mv h v hs.1, scL_mv h l hs.2⟩
end
def mvE (f : Nat → Nat) (e : MapEntry) : MapEntry := { key := mv f e.key, val := mv f e.val, born := e.born }
def mvO (f : Nat → Nat) : AObj → AObj
  | .dead => .dead
  | .row r => .row { r with vs := mvL f r.vs }
  | .map es c => .map (es.map (mvE f)) c
  | .iter s p => .iter s p
def scO (n : Nat) : AObj → Prop
  | .row r => scL n r.vs
  | .map es _ => ∀ e ∈ es, sc n e.key ∧ sc n e.val
  | _ => True
def AObj.outer : AObj → Bool
  | .row r => r.outer
  | _ => false
theorem own_mvO (f : Nat → Nat) (o : AObj) : (mvO f o).own = o.own := by cases o <;> rfl
theorem outer_mvO (f : Nat → Nat) (o : AObj) : (mvO f o).outer = o.outer := by cases o <;> rfl

/-! ### a heap, and objects more -/
def Heap.push (h : Heap) : List AObj → Heap
  | [] => h
  | o :: l => (h.alloc o).push l
theorem Heap.next_push : ∀ (l : List AObj) (h : Heap), (h.push l).next = h.next + l.length
  | [], h => rfl
  | o :: l, h => by simp only [Heap.push, Heap.next_push l, Heap.next_alloc, List.length_cons]; omega
theorem Heap.get_push : ∀ (l : List AObj) (h : Heap) (i : Nat), (h.push l).get i = if i < h.next then h.get i else l[i - h.next]?
  | [], h, i => by
    simp only [Heap.push]
    by_cases hi : i < h.next
    · rw [if_pos hi]
    · rw [if_neg hi]; unfold Heap.get; rw [if_neg hi]; simp
  | o :: l, h, i => by
    rw [Heap.push, Heap.get_push l, Heap.next_alloc, Heap.get_alloc]
    by_cases hi : i < h.next
    · rw [if_pos (by omega), if_neg (by omega), if_pos hi]
    · by_cases he : i = h.next
      · subst he; simp
      · rw [if_neg (by omega), if_neg hi, show i - h.next = (i - (h.next + 1)) + 1 by omega, List.getElem?_cons_succ]

/-- Those from G on are kept: put down from d on. -/
def sh (G d i : Nat) : Nat := if i < G then i else d + (i - G)
/-- Where they were. -/
def back (G : Nat) (τ : List Nat) (i : Nat) : Nat := if i < G then i else (τ[i - G]?).getD 0

structure KeptOk (G : Nat) (h' : Heap) (v' : Value) (τ : List Nat) (objs : List AObj) (v : Value) : Prop where
  len : τ.length = objs.length
  val : v' = mv (back G τ) v
  vsc : sc (G + τ.length) v
  obj : ∀ (j : Nat) (o : AObj) (k : Nat), objs[j]? = some o → τ[j]? = some k → h'.get k = some (mvO (back G τ) o) ∧ scO (G + τ.length) o ∧ o.outer = false
  nodup : ∀ (i j k : Nat), τ[i]? = some k → τ[j]? = some k → i = j

def graftR (m m' : Ren) (d : Nat) (τ : List Nat) : Ren :=
  ⟨fun i => if i < d then m.blk i else m'.blk ((τ[i - d]?).getD 0), fun i => if i < d then m.sh i else m'.sh ((τ[i - d]?).getD 0), fun i => if i < d then m.ext i else m'.ext ((τ[i - d]?).getD 0)⟩
theorem graftR_agree (m m' : Ren) (d : Nat) (τ : List Nat) : m.agree d (graftR m m' d τ) := fun i hi => by simp [graftR, hi]
theorem graftR_old {m m' : Ren} {d : Nat} {τ : List Nat} {i : Nat} (hi : i < d) : (graftR m m' d τ).blk i = m.blk i ∧ (graftR m m' d τ).sh i = m.sh i ∧ (graftR m m' d τ).ext i = m.ext i := by simp [graftR, hi]
theorem graftR_new {m m' : Ren} {d : Nat} {τ : List Nat} {j k : Nat} (hk : τ[j]? = some k) : (graftR m m' d τ).blk (d + j) = m'.blk k ∧ (graftR m m' d τ).sh (d + j) = m'.sh k ∧ (graftR m m' d τ).ext (d + j) = m'.ext k := by
  simp [graftR, show ¬ d + j < d by omega, hk]

section
variable {P : Program} {S : Start} {m m' : Ren} {h h' : Heap} {w w' : World}
theorem graft_via (hr : HRel P S m h w) (hr' : HRel P ⟨S.G, w.heap.size, w⟩ m' h' w') (τ : List Nat) : (graftR m m' h.next τ).via (S.G + τ.length) (sh S.G h.next) m' (back S.G τ) := by
  intro i hi
  have hg := hr.gle
  unfold sh back
  by_cases h1 : i < S.G
  · rw [if_pos h1, if_pos h1]
    obtain ⟨a1, a2, a3⟩ := hr.glob i h1
    obtain ⟨b1, b2, b3⟩ := hr'.glob i h1
    obtain ⟨c1, c2, c3⟩ := graftR_old (m := m) (m' := m') (τ := τ) (show i < h.next by omega)
    rw [c1, c2, c3, a1, a2, a3, b1, b2, b3]
    exact ⟨rfl, rfl, rfl⟩
  · rw [if_neg h1, if_neg h1]
    have hk : τ[i - S.G]? = some (τ[i - S.G]'(by omega)) := List.getElem?_eq_getElem _
    rw [hk]
    exact graftR_new hk
theorem HRel.graft (hr : HRel P S m h w) (hr' : HRel P ⟨S.G, w.heap.size, w⟩ m' h' w') {v' v : Value} {τ : List Nat} {objs : List AObj} (hk : KeptOk S.G h' v' τ objs v) :
    HRel P S (graftR m m' h.next τ) (h.push (objs.map (mvO (sh S.G h.next)))) w' := by
  have hq : Quiet w w' := ⟨hr'.size, hr'.frame, hr'.io⟩
  have hr2 := hr.later hq
  have hvia := graft_via hr hr' τ
  have hnext : (h.push (objs.map (mvO (sh S.G h.next)))).next = h.next + τ.length := by rw [Heap.next_push]; simp [hk.len]
  have hshlt : ∀ i, i < S.G + τ.length → sh S.G h.next i < h.next + τ.length := by
    intro i hi
    have := hr.gle
    unfold sh; split <;> omega
  -- a new object
  have hnew : ∀ i o, ¬ i < h.next → (h.push (objs.map (mvO (sh S.G h.next)))).get i = some o → ∃ j k p, i = h.next + j ∧ objs[j]? = some p ∧ τ[j]? = some k ∧ o = mvO (sh S.G h.next) p ∧ h'.get k = some (mvO (back S.G τ) p) ∧ scO (S.G + τ.length) p ∧ p.outer = false := by
    intro i o hi hg
    rw [Heap.get_push, if_neg hi, List.getElem?_map] at hg
    obtain ⟨p, hp, rfl⟩ := Option.map_eq_some_iff.1 hg
    have hlt := (List.getElem?_eq_some_iff.1 hp).1
    have hlt2 : i - h.next < τ.length := by rw [hk.len]; exact hlt
    have hτ : τ[i - h.next]? = some (τ[i - h.next]'hlt2) := List.getElem?_eq_getElem _
    exact ⟨i - h.next, _, p, by omega, hp, hτ, rfl, hk.obj _ _ _ hp hτ⟩
  have hold : ∀ i o, i < h.next → (h.push (objs.map (mvO (sh S.G h.next)))).get i = some o → h.get i = some o := by
    intro i o hi hg
    rwa [Heap.get_push, if_pos hi] at hg
  refine ⟨by rw [hnext]; have := hr.gle; omega, ?_, ?_, ?_, hr2.frame, hr2.size, hr2.io⟩
  · intro i hi
    have := hr.gle
    obtain ⟨a1, a2, a3⟩ := hr.glob i hi
    obtain ⟨c1, c2, c3⟩ := graftR_old (m := m) (m' := m') (τ := τ) (show i < h.next by omega)
    rw [c1, c2, c3]; exact ⟨a1, a2, a3⟩
  · intro i o hg
    rw [hnext]
    by_cases hi : i < h.next
    · exact (hr2.obj i o (hold i o hi hg)).keep (graftR_agree m m' _ τ) hi (by omega) fun _ hx => hx
    · obtain ⟨j, k, p, rfl, hp, hτ, rfl, hgk, hsc, hout⟩ := hnew i o hi hg
      have h1 := hr'.obj k _ hgk
      obtain ⟨c1, c2, c3⟩ := graftR_new (m := m) (m' := m') (d := h.next) hτ
      have hbase := hr.size
      cases p with
      | dead => trivial
      | row r =>
        simp only [AObj.outer] at hout
        obtain ⟨_, c, fz, b1, b2, b3, b4, b5, b6, b7, b8⟩ := h1
        simp only [scO] at hsc
        refine ⟨?_, c, fz, by rw [c1]; exact b1, ?_, ?_, ?_, ?_, b6, b7, by rw [c3]; exact b8⟩
        · exact (scL_all _ _).1 (scL_mv hshlt _ hsc)
        · rw [c2, c3]
          have e1 := mvL_length (sh S.G h.next) r.vs
          have e2 := mvL_length (back S.G τ) r.vs
          simp only [e1]
          simp only [e2] at b2
          exact b2
        · intro q v hq2
          simp only [mvL_map, List.getElem?_map] at hq2
          obtain ⟨u, hu, rfl⟩ := Option.map_eq_some_iff.1 hq2
          have := b3 q (mv (back S.G τ) u) (by simp only [mvL_map, List.getElem?_map, hu, Option.map_some])
          rw [c2, this, ren_mv hvia u ((scL_all _ _).1 hsc u (List.mem_of_getElem? hu))]
        · intro _; have := b4 hout; simp only at this; rw [c1, c2]; exact ⟨by omega, this.2⟩
        · intro hx; simp only [hout] at hx; cases hx
      | map es clock =>
        obtain ⟨_, b1, b2⟩ := h1
        simp only [scO] at hsc
        refine ⟨?_, ?_, by rw [c1]; have : w.heap.size ≤ m'.blk k := b2; omega⟩
        · intro e he
          obtain ⟨e0, he0, rfl⟩ := List.mem_map.1 he
          exact ⟨sc_mv hshlt _ (hsc e0 he0).1, sc_mv hshlt _ (hsc e0 he0).2⟩
        · have : (es.map (mvE (sh S.G h.next))).map (renE (graftR m m' h.next τ)) = (es.map (mvE (back S.G τ))).map (renE m') := by
            rw [List.map_map, List.map_map]
            refine List.map_congr_left fun e he => ?_
            simp only [Function.comp, renE, mvE, ren_mv hvia _ (hsc e he).1, ren_mv hvia _ (hsc e he).2]
          rw [c1, this]; exact b1
      | iter s pos =>
        obtain ⟨b1, b2⟩ := h1
        exact ⟨by rw [c1]; exact b1, by rw [c1]; have : w.heap.size ≤ m'.blk k := b2; omega⟩
  · intro i j o p hij hi hj ho hp
    have key : ∀ i o, (h.push (objs.map (mvO (sh S.G h.next)))).get i = some o → o.own = true → (i < h.next ∧ h.get i = some o ∧ (graftR m m' h.next τ).blk i = m.blk i ∧ m.blk i < w.heap.size) ∨ ∃ j k q, i = h.next + j ∧ τ[j]? = some k ∧ h'.get k = some q ∧ q.own = true ∧ (graftR m m' h.next τ).blk i = m'.blk k ∧ w.heap.size ≤ m'.blk k := by
      intro i o hg ho
      by_cases hi : i < h.next
      · have h0 := hold i o hi hg
        refine .inl ⟨hi, h0, (graftR_old hi).1, ?_⟩
        obtain ⟨x, hx⟩ := (hr.obj i o h0).block (by rintro rfl; cases ho)
        exact lt_of_some hx
      · obtain ⟨j, k, q, rfl, hp, hτ, rfl, hgk, _, _⟩ := hnew i o hi hg
        have ho' : (mvO (back S.G τ) q).own = true := by rw [own_mvO] at ho ⊢; exact ho
        exact .inr ⟨j, k, _, rfl, hτ, hgk, ho', (graftR_new hτ).1, (hr'.obj k _ hgk).base_le ho'⟩
    rcases key i o hi ho with ⟨a1, a2, a3, a4⟩ | ⟨j1, k1, q1, rfl, t1, g1, o1, e1, l1⟩ <;> rcases key j p hj hp with ⟨b1, b2, b3, b4⟩ | ⟨j2, k2, q2, rfl, t2, g2, o2, e2, l2⟩
    · rw [a3, b3]; exact hr.apart i j o p hij a2 b2 ho hp
    · rw [a3, e2]; omega
    · rw [e1, b3]; omega
    · rw [e1, e2]
      refine hr'.apart k1 k2 q1 q2 ?_ g1 g2 o1 o2
      rintro rfl
      have := hk.nodup _ _ _ t1 t2
      omega
end

/-- What a call comes to from a bare heap, kept, it comes to from any. -/
theorem GoodE.kept {P : Program} {G : Nat} {B : Base P G} {f : FuncId} {args : List Value} {v' v : Value} {h' : Heap} {τ : List Nat} {objs : List AObj} (ha : ∀ x ∈ args, flat x = true)
    (hb : Big P G (GoodE P B) (.call f args) B.hB (.ends (.returned v')) h') (hk : KeptOk G h' v' τ objs v) (h : Heap) : GoodE P B f args h (mv (sh G h.next) v) (h.push (objs.map (mvO (sh G h.next)))) := by
  intro S hS m w hr _
  obtain ⟨rfl, hW, hb2⟩ := hS
  have hw := hr.W (B := B) ⟨rfl, hW, hb2⟩
  have hs := (big_sound (S := ⟨S.G, w.heap.size, w⟩) (goodE_ok B _ ⟨rfl, hw, rfl⟩) hb).1 B.mB w (B.rel w hw) (fun x hx => sc_flat _ x (ha x hx))
  rw [map_flat ha] at hs ⊢
  refine hs.mono ?_
  rintro e w' ⟨m', h1, h2, h3, rfl, h4⟩
  refine ⟨graftR m m' h.next τ, graftR_agree m m' _ τ, by rw [Heap.next_push]; omega, hr.graft h3 hk, ?_, ?_⟩
  · rw [hk.val]
    simp only [renN]
    rw [ren_mv (graft_via hr h3 τ) v hk.vsc]
  · refine sc_mv ?_ v hk.vsc
    intro i hi
    have := hr.gle
    rw [Heap.next_push, List.length_map, ← hk.len]
    unfold sh; split <;> omega
end Go.Mini
end
section
/-
  MINI, part ZG: calls of the library's by their contracts: a join of strings, a small number's digits; the wrap that keeps the world's shape and the row's premise.
-/
namespace Go.Mini

/-- A call that turns nothing that was there. -/
theorem GoodE.quiet {P : Program} {G : Nat} {B : Base P G} {f : FuncId} {args : List Value} {h : Heap} {v : Value} (hv : flat v = true)
    (hc : ∀ S m w, StartOk B S → HRel P S m h w → Calls P f (args.map (ren m)).toArray w fun e w' => e = .returned v ∧ Quiet w w') : GoodE P B f args h v h := by
  intro S hS m w hr _
  refine (hc S m w hS hr).mono ?_
  rintro e w' ⟨rfl, hq⟩
  exact ⟨m, Ren.agree_refl _ _, Nat.le_refl _, hr.later hq, by simp [renN, ren_flat _ v hv], sc_flat _ v hv⟩
theorem Quiet.of_below {w w' : World} (h : Go.RowKit.Below w.heap.size w w') : Quiet w w' := ⟨h.size, h.block, by unfold Mini.io; rw [h.os, h.tape, h.output]⟩

/-- Strings out of values. -/
def strsOf : List Value → Option (List ByteArray)
  | [] => some []
  | .string s :: l => match strsOf l with | some r => some (s :: r) | none => none
  | _ => none
theorem strsOf_some : ∀ {l : List Value} {xs : List ByteArray}, strsOf l = some xs → l = xs.map .string
  | [], xs, e => by simp only [strsOf] at e; cases e; rfl
  | v :: l, xs, e => by
    unfold strsOf at e
    split at e
    · rename_i h; cases h
    · rename_i s l' h
      cases h
      split at e
      · rename_i r hr
        cases e
        rw [List.map_cons, ← strsOf_some hr]
      · cases e
    · cases e
/-- strings.Join -/
def joinK (sep : List UInt8) : List (List UInt8) → List UInt8
  | [] => []
  | [x] => x
  | x :: y :: l => x ++ (sep ++ joinK sep (y :: l))
theorem joinK_eq (sep : List UInt8) : ∀ l, joinK sep l = Lib.join l sep
  | [] => rfl
  | [x] => (Lib.join_one x sep).symm
  | x :: y :: l => by
    rw [joinK, joinK_eq sep (y :: l), Lib.join_cons, Lib.join_cons]
    simp [Lib.joinTail]
def joinX (args : List Value) (h : Heap) : Option (Value × Heap) :=
  match args with
  | [.slice (some ⟨i, k, none⟩) n c, .string sep] =>
    if n ≤ c ∧ n ≤ 1000 then
      match h.lds i k n with
      | some vs => match strsOf vs with
        | some xs => let r := joinK sep.data.toList (xs.map (·.data.toList)); if r.length ≤ 100000 then some (.string (bs r), h) else none
        | none => none
      | none => none
    else none
  | _ => none
/-- What a contract of strings.Join says, for the call f. -/
def JoinSays (P : Program) (f : FuncId) : Prop := ∀ (bk o c : Nat) (xs : List ByteArray) (sep : ByteArray) (w : World), (∀ (j : Nat) x, xs[j]? = some x → w.cell? ⟨bk, o + j, none⟩ = some (.string x)) → bk < w.heap.size → xs.length ≤ 140737488355328 → xs.length ≤ c →
  (Lib.join (xs.map (·.data.toList)) sep.data.toList).length ≤ 140737488355328 →
  Calls P f #[.slice (some ⟨bk, o, none⟩) xs.length c, .string sep] w fun e w' => e = .returned (.string ⟨(Lib.join (xs.map (·.data.toList)) sep.data.toList).toArray⟩) ∧ Go.RowKit.Below w.heap.size w w'
theorem joinX_ok {P : Program} {G : Nat} {B : Base P G} {f : FuncId} (hj : JoinSays P f) {args : List Value} {h h' : Heap} {v : Value} (e : joinX args h = some (v, h')) : GoodE P B f args h v h' := by
  unfold joinX at e
  split at e
  · rename_i i k n c sep
    split at e
    · rename_i hc
      split at e
      · rename_i vs hvs
        split at e
        · rename_i xs hxs
          simp only [] at e
          split at e
          · rename_i hl
            cases e
            have hvx := strsOf_some hxs
            subst hvx
            unfold Heap.lds at hvs
            obtain ⟨r, hrow, hvs⟩ := Option.bind_eq_some_iff.1 hvs
            split at hvs
            · rename_i hle
              have hvs' := Option.some.inj hvs
              have hlen : xs.length = n := by
                have := congrArg List.length hvs'
                simp at this; omega
              refine GoodE.quiet rfl ?_
              intro S m w hS hr
              have hg := Heap.row_some.1 hrow
              obtain ⟨_, cc, fz, g1, _⟩ := hr.obj i _ hg
              have hcell : ∀ (j : Nat) x, xs[j]? = some x → w.cell? ⟨m.blk i, k + m.sh i + j, none⟩ = some (.string x) := by
                intro j x hx
                have hj : j < n := by have := (List.getElem?_eq_some_iff.1 hx).1; omega
                have h9 : r.vs[k + j]? = some (.string x) := by
                  have : ((r.vs.drop k).take n)[j]? = some (.string x) := by rw [hvs', List.getElem?_map, hx]; rfl
                  rwa [List.getElem?_take_of_lt hj, List.getElem?_drop] at this
                have := (hr.cell hg h9).1
                rw [show k + m.sh i + j = k + j + m.sh i by omega]
                exact this
              rw [joinK_eq] at hl
              have := hj (m.blk i) (k + m.sh i) (c + m.ext i) xs sep w hcell (lt_of_some g1) (by omega) (by omega) (by omega)
              simp only [List.map_cons, List.map_nil, ren, Option.isSome_none, Bool.false_eq_true, if_false]
              rw [hlen] at this
              refine this.mono ?_
              rintro e w' ⟨rfl, hb⟩
              exact ⟨by rw [joinK_eq]; rfl, Quiet.of_below hb⟩
            · cases hvs
          · cases e
        · cases e
      · cases e
    · cases e
  · cases e

/-- A small number's digits. -/
def dig2 (n : Nat) : List UInt8 := if n < 10 then [UInt8.ofNat (48 + n)] else [UInt8.ofNat (48 + n / 10), UInt8.ofNat (48 + n % 10)]
theorem dig2_eq {n : Nat} (h : n < 100) : Lib.decDigits n = dig2 n := by
  unfold dig2
  by_cases h1 : n < 10
  · rw [Lib.decDigits, dif_pos h1, if_pos h1]
  · rw [Lib.decDigits, dif_neg h1, if_neg h1, Lib.decDigits, dif_pos (by omega)]
    rfl
def itoaX (args : List Value) (h : Heap) : Option (Value × Heap) :=
  match args with
  | [.int .i64 (.ofNat n)] => if n < 100 then some (.string (bs (dig2 n)), h) else none
  | _ => none
def ItoaSays (P : Program) (f : FuncId) : Prop := ∀ (i : Nat), i < 100 → ∀ w : World, Calls P f #[.int .i64 i] w fun e w' => e = .returned (.string ⟨(Lib.decDigits i).toArray⟩) ∧ w' = w
theorem itoaX_ok {P : Program} {G : Nat} {B : Base P G} {f : FuncId} (hj : ItoaSays P f) {args : List Value} {h h' : Heap} {v : Value} (e : itoaX args h = some (v, h')) : GoodE P B f args h v h' := by
  unfold itoaX at e
  split at e
  · rename_i n
    split at e
    · rename_i hn
      cases e
      refine GoodE.quiet rfl ?_
      intro S m w hS hr
      refine (hj n hn w).mono ?_
      rintro e w' ⟨rfl, rfl⟩
      exact ⟨by rw [dig2_eq hn]; rfl, Quiet.refl _⟩
    · cases e
  · cases e

end Go.Mini
namespace Go
variable {H : Type} {enc : TypeId × Value → H}
/-- The wrap: the row's premise and the world's shape. -/
theorem returnsInHanded_of_change_both {a : Assume} {C : Checked} {os : Os} {f : FuncId} {fn : Func} {s : ChangeSpec} {conds : List PathCond} {apart fresh handsOn again : Bool} {X : World → Array Value → Prop}
    (hX : ∀ (w w' : World) (args : Array Value), w.heap = w'.heap → X w args → X w' args)
    (own : ownKnob C.prog.godebug = none) (started : os.Started) (noInit : C.prog.inits.idxOf? f = none) (hfn : C.prog.funcs[f]? = some fn)
    (witness : ∃ (w : World) (tape : Tape) (i : Input), w.os = os ∧ (w.forCall tape i).Shaped C.prog ∧ i.vars = [] ∧ Input.okWide C.prog (w.forCall tape i) .any w.heap.size f i ∧
      ((s.pre enc C.prog fn conds apart (w.forCall tape i).memory i.args ∧ X (w.forCall tape i).memory i.args) ∧ sizedMet enc C.prog fn (OpenSpec.ofChange s) apart (w.forCall tape i).memory i.args) ∧ a.holds C.prog (lone (Frame.enter C.prog f i.args .normal) [] (w.forCall tape i)))
    (contract : ∀ (W : World) (base : Nat) (args : Array Value) (ds gs : List (DataW H)) (before : List MemPlace),
      (∀ (j : Nat) t v, fn.params[j]? = some t → args[j]? = some v → Value.okWide C.prog W .any base t v) →
      DataW.Whole enc C.prog fn.params.toList s.vars apart W args.toList ds gs before →
      conds.all (PathCond.test C.prog ⟨fn.params.toList, ds, s.plain.varTypes C.prog, gs⟩) = true →
      (DataW.weightsEach C.prog (fn.params.toList ++ s.plain.varTypes C.prog) (ds ++ gs)).all (· ≤ reachBytes) = true → X W args → W.ShapedOpen C.prog →
      a.holds C.prog (lone (Frame.enter C.prog f args .normal) [] W) →
      Calls C.prog f args W fun e W' => ∃ v, e = .returned v ∧ s.post enc C.prog fn apart fresh handsOn again W args v W') :
    ReturnsInHanded a C os f .any (fun w args => (s.pre enc C.prog fn conds apart w args ∧ X w args) ∧ sizedMet enc C.prog fn (OpenSpec.ofChange s) apart w args) (s.post enc C.prog fn apart fresh handsOn again) := by
  refine returnsInHanded_of_calls own started noInit witness ?_
  intro w tape i _ hsh _ hok hpre hholds
  obtain ⟨_, _, _, fn', hfn', _, _, _, _, hval⟩ := hok
  have e : fn' = fn := Option.some.inj (hfn'.symm.trans hfn)
  subst e
  obtain ⟨⟨⟨ds, gs, before, hw, hc⟩, hx⟩, hz⟩ := hpre
  have hw' := DataW.Whole.of_heap (w' := w.forCall tape i) (by rfl) hw
  refine (contract (w.forCall tape i) w.heap.size i.args ds gs before hval hw' hc (hz.weights hw) (hX _ _ _ (by rfl) hx) hsh hholds).mono fun e W' ⟨v, he, hp⟩ => ?_
  subst he
  exact ChangeSpec.post_blind hp
end Go
end
