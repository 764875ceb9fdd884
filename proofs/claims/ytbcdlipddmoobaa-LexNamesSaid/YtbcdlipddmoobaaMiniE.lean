/-
  MINI, part E: addresses, slices, append, copy, bytes and strings.
-/
import Derived.Test.YtbcdlipddmoobaaMiniD
import Derived.Lib.AppendStr
import Derived.Laws.BytesArg
import Derived.Laws.IdiomStrings
namespace Go.Mini

/-- A run of the model that an abstract operation stands for: the world, and the renaming, go on. -/
def Goes (P : Program) (S : Start) (m : Ren) (h : Heap) (w : World) (s : Sem Value) (v : Value) (h' : Heap) : Prop :=
  ∃ m' w', m.agree h.next m' ∧ s.run P w = .ok (ren m' v) w' ∧ HRel P S m' h' w' ∧ sc h'.next v ∧ h.next ≤ h'.next
theorem Goes.same {P : Program} {S : Start} {m : Ren} {h : Heap} {w : World} {s : Sem Value} {v : Value} (hr : HRel P S m h w) (e : s.run P w = .ok (ren m v) w) (hs : sc h.next v) : Goes P S m h w s v h :=
  ⟨m, w, Ren.agree_refl _ _, e, hr, hs, Nat.le_refl _⟩

section
variable {P : Program} {S : Start} {m : Ren} {h : Heap} {w : World}

/-! ### addresses -/
def afieldAddr (P : Program) (t : TypeId) (a : Value) (f : Nat) : Option Value :=
  match P.underlying t, a with
  | some (.struct fs), .pointer (some ⟨i, k, none⟩) => (fs[f]?).bind fun fd => (P.info? fd.type).bind fun ti => if ti.size = 0 then none else some (.pointer (some ⟨i, k + fd.offset, none⟩))
  | _, _ => none
theorem afieldAddr_run {n : Nat} {t : TypeId} {a v : Value} {f : Nat} (hs : sc n a) (e : afieldAddr P t a f = some v) :
    (Instr.fieldAt t (ren m a) f).run P w = .ok (ren m v) w ∧ sc n v := by
  unfold afieldAddr at e
  split at e
  · rename_i fs i k hu
    obtain ⟨fd, hf, e⟩ := Option.bind_eq_some_iff.1 e
    obtain ⟨ti, hi, e⟩ := Option.bind_eq_some_iff.1 e
    split at e
    · cases e
    · rename_i hsz
      cases e
      refine ⟨?_, by simpa [sc] using hs⟩
      simp only [Instr.fieldAt, Sem.run_bind, run_underlying hu, Result.andThen_ok, hf, Instr.sureAddr, ren, Sem.run_pure, fieldPlace, run_sizeOf' hi, if_neg hsz, addr_add]
      congr 4
      rw [show k + m.sh i + fd.offset = k + fd.offset + m.sh i by omega]
  · cases e

def aindexAddr (P : Program) (t : TypeId) (x ix : Value) : Option Value :=
  match P.underlying t, x, ix with
  | some (.array len e), .pointer (some ⟨i, k, none⟩), .int _ j => (P.info? e).bind fun ti => if 0 ≤ j ∧ j < (len : Int) then some (.pointer (some ⟨i, k + j.toNat * ti.size, none⟩)) else none
  | some (.slice e), .slice (some ⟨i, k, _⟩) len _, .int _ j => (P.info? e).bind fun ti => if 0 ≤ j ∧ j < (len : Int) then some (.pointer (some ⟨i, k + j.toNat * ti.size, none⟩)) else none
  | _, _, _ => none
theorem aindexAddr_run {n : Nat} {t : TypeId} {x ix v : Value} (hs : sc n x) (e : aindexAddr P t x ix = some v) :
    (Instr.indexAt t (ren m x) (ren m ix)).run P w = .ok (ren m v) w ∧ sc n v := by
  unfold aindexAddr at e
  split at e
  · rename_i len el i k kd j hu
    obtain ⟨ti, hi, e⟩ := Option.bind_eq_some_iff.1 e
    split at e
    · rename_i hj
      cases e
      refine ⟨?_, by simpa [sc] using hs⟩
      simp only [Instr.indexAt, ren, asIntOf, Sem.run_bind, Sem.run_pure, Result.andThen_ok, run_underlying hu, Instr.sureAddr, if_pos hj, run_sizeOf' hi, addr_add, Sem.run_ite]
      congr 4
      rw [show k + m.sh i + j.toNat * ti.size = k + j.toNat * ti.size + m.sh i by omega]
    · cases e
  · rename_i el i k sp len cap kd j hu
    obtain ⟨ti, hi, e⟩ := Option.bind_eq_some_iff.1 e
    split at e
    · rename_i hj
      cases e
      refine ⟨?_, by simpa [sc] using hs⟩
      simp only [Instr.indexAt, ren, asIntOf, Sem.run_bind, Sem.run_pure, Result.andThen_ok, run_underlying hu, if_pos hj, run_sizeOf' hi, addr_add, Sem.run_ite]
      congr 4
      rw [show k + m.sh i + j.toNat * ti.size = k + j.toNat * ti.size + m.sh i by omega]
    · cases e
  · cases e

/-- An element of an array by value; a string's byte. -/
def aindex (P : Program) (t : TypeId) (x ix : Value) : Option Value :=
  match P.underlying t, x, ix with
  | some (.array len e), .agg cs, .int _ j => (P.info? e).bind fun ti => if 0 ≤ j ∧ j < (len : Int) then apart P e cs (j.toNat * ti.size) else none
  | some .string, .string s, .int _ j => aindexS s j
  | _, _, _ => none
theorem aindex_run {n : Nat} {t : TypeId} {x ix v : Value} (hs : sc n x) (e : aindex P t x ix = some v) :
    (Instr.index t (ren m x) (ren m ix)).run P w = .ok (ren m v) w ∧ sc n v := by
  unfold aindex at e
  split at e
  · rename_i len el cs kd j hu
    obtain ⟨ti, hi, e⟩ := Option.bind_eq_some_iff.1 e
    split at e
    · rename_i hj
      simp only [sc, scA_all] at hs
      refine ⟨?_, apart_sc hs e⟩
      simp only [Instr.index, ren, renA_map, asIntOf, Sem.run_bind, Sem.run_pure, Result.andThen_ok, run_underlying hu, if_pos hj, run_sizeOf' hi]
      exact apart_run m w e
    · cases e
  · rename_i s kd j hu
    unfold aindexS at e
    split at e
    · rename_i hj
      obtain ⟨b, hb, rfl⟩ := Option.map_eq_some_iff.1 e
      refine ⟨?_, by simp [sc]⟩
      simp only [Instr.index, ren, asIntOf, Sem.run_bind, Sem.run_pure, Result.andThen_ok, run_underlying hu, if_pos hj]
      rw [hb]
      rfl
    · cases e
  · cases e

def afield (P : Program) (t : TypeId) (x : Value) (f : Nat) : Option Value :=
  match P.underlying t, x with
  | some (.struct fs), .agg cs => (fs[f]?).bind fun fd => apart P fd.type cs fd.offset
  | _, _ => none
theorem afield_run {n : Nat} {t : TypeId} {x v : Value} {f : Nat} (hs : sc n x) (e : afield P t x f = some v) :
    (Instr.field t (ren m x) f).run P w = .ok (ren m v) w ∧ sc n v := by
  unfold afield at e
  split at e
  · rename_i fs cs hu
    obtain ⟨fd, hf, e⟩ := Option.bind_eq_some_iff.1 e
    simp only [sc, scA_all] at hs
    refine ⟨?_, apart_sc hs e⟩
    simp only [Instr.field, ren, renA_map, Sem.run_bind, run_underlying hu, Result.andThen_ok, hf, asAgg, Sem.run_pure]
    exact apart_run m w e
  · cases e

def aextract (x : Value) (i : Nat) : Option Value := match x with | .tuple vs => vs[i]? | _ => none
theorem aextract_run {n : Nat} {x v : Value} {i : Nat} (hs : sc n x) (e : aextract x i = some v) : (Instr.extract (ren m x) i).run P w = .ok (ren m v) w ∧ sc n v := by
  unfold aextract at e
  split at e
  · rename_i vs
    simp only [sc, scA_all] at hs
    refine ⟨?_, hs v (Array.mem_of_getElem? e)⟩
    simp [Instr.extract, ren, renA_map, e]
  · cases e

/-! ### slice expressions -/
def abound (v : Option Value) (dflt y : Nat) : Option Nat :=
  match v with
  | none => some dflt
  | some (.int _ i) => if 0 ≤ i ∧ i ≤ (y : Int) then some i.toNat else none
  | _ => none
theorem abound_le {v : Option Value} {d y n : Nat} (hd : d ≤ y) (e : abound v d y = some n) : n ≤ y := by
  unfold abound at e
  split at e
  · cases e; exact hd
  · split at e
    · cases e; omega
    · cases e
  · cases e
theorem abound_some {v : Value} {d y n : Nat} (c : BoundsCode) {y' : Nat} (hy : y ≤ y') (e : abound (some v) d y = some n) : (Instr.sliceBound (ren m v) y' c).run P w = .ok n w := by
  unfold abound at e
  split at e
  · rename_i q; cases q
  · rename_i k i q
    cases q
    split at e
    · rename_i hi
      cases e
      simp only [ren]
      exact run_sliceBound (P := P) w k i y' c hi.1 (by omega)
    · cases e
  · cases e

/-- 'x[lo:hi]' and 'x[lo:hi:max]'; the heap too: a slice of nothing at the end of room that is not known gets an object of its own, of which nothing is told. -/
def aslice (P : Program) (h : Heap) (t : TypeId) (x : Value) (lo hi mx : Option Value) : Option (Value × Heap) :=
  match P.underlying t, x with
  | some (.array n e), .pointer (some ⟨i, k, none⟩) =>
    if mx.isSome then none else
    (P.info? e).bind fun ti => (abound hi n n).bind fun hh => (abound lo 0 hh).bind fun l => some (.slice (some ⟨i, if n = l then k else k + l * ti.size, some 0⟩) (hh - l) (n - l), h)
  | some .string, .string s => if mx.isSome then none else (abound hi s.size s.size).bind fun hh => (abound lo 0 hh).bind fun l => some (.string (s.extract l hh), h)
  | some (.slice e), .slice a len cap =>
    (P.info? e).bind fun ti =>
    match mx with
    | none =>
      if len ≤ cap then
      (abound hi len cap).bind fun hh => (abound lo 0 hh).bind fun l =>
        match a with
        | none => some (.slice none (hh - l) (cap - l), h)
        | some ⟨i, k, sp⟩ =>
          if cap ≠ l ∨ l = 0 then some (.slice (some ⟨i, k + l * ti.size, sp⟩) (hh - l) (cap - l), h)
          else if sp.isSome then some (.slice (some ⟨i, k, sp⟩) (hh - l) (cap - l), h)
          else some (.slice (some ⟨h.next, 0, none⟩) (hh - l) (cap - l), h.alloc .dead)
      else none
    | some m =>
      (abound (some m) 0 cap).bind fun mm => (abound hi 0 mm).bind fun hh => (abound lo 0 hh).bind fun l =>
        if hi.isSome then
          match a with
          | none => none
          | some ⟨i, k, _⟩ => some (.slice (some ⟨i, if mm = l then k else k + l * ti.size, some 0⟩) (hh - l) (mm - l), h)
        else none
  | _, _ => none

theorem run_bounds {lo hi : Option Value} {len cap cap' hh l : Nat} (b : Bool) (hc : cap ≤ cap') (eh : abound hi len cap = some hh) (el : abound lo 0 hh = some l) :
    (Instr.sliceBounds b len cap' (lo.map (ren m)) (hi.map (ren m)) none).run P w = .ok (l, hh, cap') w := by
  unfold Instr.sliceBounds
  cases hi with
  | none =>
    simp only [abound] at eh; cases eh
    cases lo with
    | none => simp only [abound] at el; cases el; simp
    | some v => simp [abound_some (P := P) (w := w) (m := m) .sliceB (Nat.le_refl _) el]
  | some u =>
    have h1 := abound_some (P := P) (w := w) (m := m) (if b = true then BoundsCode.sliceAcap else .sliceAlen) hc eh
    cases lo with
    | none => simp only [abound] at el; cases el; simp [h1]
    | some v => simp [h1, abound_some (P := P) (w := w) (m := m) .sliceB (Nat.le_refl _) el]

theorem run_bounds3 {lo : Option Value} {hi mx : Value} {len cap cap' hh l mm : Nat} (b : Bool) (hc : cap ≤ cap') (em : abound (some mx) 0 cap = some mm) (eh : abound (some hi) 0 mm = some hh) (el : abound lo 0 hh = some l) :
    (Instr.sliceBounds b len cap' (lo.map (ren m)) (some (ren m hi)) (some (ren m mx))).run P w = .ok (l, hh, mm) w := by
  have h0 := abound_some (P := P) (w := w) (m := m) (if b = true then BoundsCode.slice3Acap else .slice3Alen) hc em
  have h1 := abound_some (P := P) (w := w) (m := m) .slice3B (Nat.le_refl _) eh
  unfold Instr.sliceBounds
  cases lo with
  | none => simp only [abound] at el; cases el; simp [h0, h1]
  | some v => simp [h0, h1, abound_some (P := P) (w := w) (m := m) .slice3C (Nat.le_refl _) el]

theorem HRel.allocDead (hr : HRel P S m h w) (b s e : Nat) : HRel P S (m.put h.next b s e) (h.alloc .dead) w where
  gle := by have := hr.gle; simp; omega
  glob i hi := by
    have := hr.gle
    have e1 := hr.glob i hi
    simp [Ren.put, show ¬ i = h.next by omega, e1]
  obj i p hp := by
    rw [Heap.get_alloc] at hp
    split at hp
    · cases hp; trivial
    · exact (hr.obj i p hp).keep (Ren.agree_put m _ _ _ _ _ (Nat.le_refl _)) (Heap.lt_of_get hp) (by simp) (fun _ hx => hx)
  apart i j p q hij hp hq hpo hqo := by
    rw [Heap.get_alloc] at hp hq
    split at hp
    · cases hp; simp [AObj.own] at hpo
    · split at hq
      · cases hq; simp [AObj.own] at hqo
      · rename_i h1 h2
        have := hr.apart i j p q hij hp hq hpo hqo
        simpa [Ren.put, h1, h2] using this
  frame := hr.frame
  size := hr.size
  io := hr.io


theorem slice_addr (b k l sz M : Nat) : (if M = l then some (⟨b, k, none⟩ : Addr) else (some (⟨b, k, none⟩ : Addr)).map fun x => x.add (l * sz)) = some ⟨b, if M = l then k else k + l * sz, none⟩ := by
  split <;> simp [addr_add]

theorem aslice_run (hr : HRel P S m h w) {t : TypeId} {x v : Value} {lo hi mx : Option Value} {h' : Heap} (hs : sc h.next x) (e : aslice P h t x lo hi mx = some (v, h')) :
    Goes P S m h w (Instr.sliceAt t (ren m x) (lo.map (ren m)) (hi.map (ren m)) (mx.map (ren m))) v h' := by
  unfold aslice at e
  split at e
  · rename_i n el i k hu
    split at e
    · cases e
    · rename_i hmx
      obtain ⟨ti, hi', e⟩ := Option.bind_eq_some_iff.1 e
      obtain ⟨hh, eh, e⟩ := Option.bind_eq_some_iff.1 e
      obtain ⟨l, el', e⟩ := Option.bind_eq_some_iff.1 e
      simp only [Option.some.injEq, Prod.mk.injEq] at e
      obtain ⟨rfl, rfl⟩ := e
      have hm0 : mx = none := by cases mx <;> simp_all
      subst hm0
      refine Goes.same hr ?_ (by simpa [sc] using hs)
      simp only [Instr.sliceAt, ren, Sem.run_bind, run_underlying hu, Result.andThen_ok, Instr.sureAddr, Sem.run_pure, Option.map_none, run_bounds false (Nat.le_refl n) eh el', run_sizeOf' hi', addr_add]
      congr 3
      · split
        · rfl
        · rw [show k + m.sh i + l * ti.size = k + l * ti.size + m.sh i by omega]
  · rename_i s hu
    split at e
    · cases e
    · rename_i hmx
      obtain ⟨hh, eh, e⟩ := Option.bind_eq_some_iff.1 e
      obtain ⟨l, el', e⟩ := Option.bind_eq_some_iff.1 e
      simp only [Option.some.injEq, Prod.mk.injEq] at e
      obtain ⟨rfl, rfl⟩ := e
      have hm0 : mx = none := by cases mx <;> simp_all
      subst hm0
      refine Goes.same hr ?_ (by simp [sc])
      simp only [Instr.sliceAt, ren, Sem.run_bind, run_underlying hu, Result.andThen_ok, Instr.slice, Sem.run_pure, Option.map_none, run_bounds false (Nat.le_refl s.size) eh el', Option.isSome_none, Bool.false_eq_true, if_false]
  · rename_i el a len cap hu
    obtain ⟨ti, hi', e⟩ := Option.bind_eq_some_iff.1 e
    cases mx with
    | none =>
      simp only [] at e
      split at e
      · rename_i hlc
        obtain ⟨hh, eh, e⟩ := Option.bind_eq_some_iff.1 e
        obtain ⟨l, el', e⟩ := Option.bind_eq_some_iff.1 e
        have hhc := abound_le hlc eh
        have hlh := abound_le (Nat.zero_le hh) el'
        cases a with
        | none =>
          simp only [Option.some.injEq, Prod.mk.injEq] at e
          obtain ⟨rfl, rfl⟩ := e
          refine Goes.same hr ?_ (by simp [sc])
          simp only [Instr.sliceAt, ren, Sem.run_bind, run_underlying hu, Result.andThen_ok, Instr.slice, Sem.run_pure, Option.map_none, run_bounds true (Nat.le_refl cap) eh el', run_sizeOf' hi']
          congr 3
          split <;> rfl
        | some ad =>
          obtain ⟨i, k, sp⟩ := ad
          simp only [] at e
          have hii : i < h.next := by simpa [sc] using hs
          -- the capacity in the world
          obtain ⟨cc, hcc⟩ : ∃ cc, cc = (if sp.isSome then cap else cap + m.ext i) := ⟨_, rfl⟩
          have hge : cap ≤ cc := by rw [hcc]; split <;> omega
          have hrun : (Instr.sliceAt t (ren m (.slice (some ⟨i, k, sp⟩) len cap)) (lo.map (ren m)) (hi.map (ren m)) ((none : Option Value).map (ren m))).run P w =
              .ok (.slice (some ⟨m.blk i, if cc = l then k + m.sh i else k + m.sh i + l * ti.size, none⟩) (hh - l) (cc - l)) w := by
            simp only [Instr.sliceAt, ren, Sem.run_bind, run_underlying hu, Result.andThen_ok, Instr.slice, Sem.run_pure, Option.map_none, ← hcc, run_bounds true hge eh el', run_sizeOf' hi', slice_addr]
          split at e
          · rename_i hne
            simp only [Option.some.injEq, Prod.mk.injEq] at e
            obtain ⟨rfl, rfl⟩ := e
            refine Goes.same hr ?_ (by simpa [sc] using hii)
            rw [hrun]
            simp only [ren]
            congr 2
            · congr 2
              rcases hne with hne | hne
              · rw [if_neg (by omega)]; omega
              · subst hne; split <;> omega
            · rw [hcc]; split <;> omega
          · rename_i hne
            have hcl : cap = l := by omega
            split at e
            · rename_i hsp
              simp only [Option.some.injEq, Prod.mk.injEq] at e
              obtain ⟨rfl, rfl⟩ := e
              refine Goes.same hr ?_ (by simpa [sc] using hii)
              rw [hrun]
              rw [if_pos hsp] at hcc
              simp only [ren, if_pos hsp]
              rw [if_pos (by omega)]
              congr 2
              omega
            · rename_i hsp
              simp only [Option.some.injEq, Prod.mk.injEq] at e
              obtain ⟨rfl, rfl⟩ := e
              rw [if_neg hsp] at hcc
              refine ⟨m.put h.next (m.blk i) (if cc = l then k + m.sh i else k + m.sh i + l * ti.size) (cc - l), w, Ren.agree_put m _ _ _ _ _ (Nat.le_refl _), ?_, hr.allocDead _ _ _, by simp [sc], by simp⟩
              rw [hrun]
              simp only [ren, Ren.put_blk, Ren.put_sh, Ren.put_ext, Nat.zero_add, Option.isSome_none, Bool.false_eq_true, if_false]
              congr 2
              omega
      · cases e
    | some mv =>
      simp only [] at e
      obtain ⟨mm, em, e⟩ := Option.bind_eq_some_iff.1 e
      obtain ⟨hh, eh, e⟩ := Option.bind_eq_some_iff.1 e
      obtain ⟨l, el', e⟩ := Option.bind_eq_some_iff.1 e
      split at e
      · rename_i hhi
        cases a with
        | none => cases e
        | some ad =>
          obtain ⟨i, k, sp⟩ := ad
          simp only [Option.some.injEq, Prod.mk.injEq] at e
          obtain ⟨rfl, rfl⟩ := e
          obtain ⟨hv, rfl⟩ := Option.isSome_iff_exists.1 hhi
          refine Goes.same hr ?_ (by simpa [sc] using hs)
          have hge : cap ≤ (if sp.isSome then cap else cap + m.ext i) := by split <;> omega
          simp only [Instr.sliceAt, ren, Sem.run_bind, run_underlying hu, Result.andThen_ok, Instr.slice, Sem.run_pure, Option.map_some, run_bounds3 true hge em eh el', run_sizeOf' hi', Option.isSome_some, if_true]
          congr 3
          split
          · rfl
          · simp only [addr_add]
            rw [show k + m.sh i + l * ti.size = k + l * ti.size + m.sh i by omega]
      · cases e
  · cases e
end
end Go.Mini
