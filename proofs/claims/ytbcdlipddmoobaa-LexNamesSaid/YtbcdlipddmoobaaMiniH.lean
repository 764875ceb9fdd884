/-
  MINI, part H: every operation.
-/
import Derived.Test.YtbcdlipddmoobaaMiniG
namespace Go.Mini
open Go.Lib (strCells strCells_length strCells_oneCell)

section
variable {P : Program} {S : Start} {m : Ren} {h : Heap} {w : World}

/-! ### copy -/
def acopy (P : Program) (h : Heap) (dt : TypeId) (dst src : Value) : Option (Value × Heap) :=
  match P.underlying dt, dst with
  | some (.slice e), .slice a dl _ =>
    (P.info? e).bind fun i => (alenOf src).bind fun sl => (afirst h i.size (min sl dl) src).bind fun new =>
      if new = [] then some (.int .i64 (min sl dl : Nat), h) else
      match a with
      | none => none
      | some ⟨b, k, _⟩ => if new.all one then (h.sts b k new).map fun h' => (.int .i64 (min sl dl : Nat), h') else none
  | _, _ => none
theorem acopy_run (hr : HRel P S m h w) {dt st ty : TypeId} {dst src v : Value} {h' : Heap} (e : acopy P h dt dst src = some (v, h')) :
    Goes P S m h w (Builtin.copy_ #[dt, st] ty #[ren m dst, ren m src]) v h' := by
  unfold acopy at e
  split at e
  · rename_i el a dl dc hu
    obtain ⟨i, hi, e1⟩ := Option.bind_eq_some_iff.1 e
    clear e
    obtain ⟨sl, hsl, e2⟩ := Option.bind_eq_some_iff.1 e1
    clear e1
    obtain ⟨new, hnew, e⟩ := Option.bind_eq_some_iff.1 e2
    clear e2
    obtain ⟨hfr, hsn⟩ := afirst_run hr hnew
    have hlen := alenOf_run (P := P) (w := w) (m := m) hsl
    have key : ∀ (base : Option Addr) (c : Nat), ren m (.slice a dl dc) = .slice base dl c → ∀ w', (∀ b, base = some b → (storeCells b (new.map (ren m)) 0).run P w = .ok () w') → (base = none → w' = w) →
        (Builtin.copy_ #[dt, st] ty #[ren m (.slice a dl dc), ren m src]).run P w = .ok (.int .i64 (min sl dl : Nat)) w' := by
      intro base c hb w' hst hnone
      rw [hb]
      unfold Builtin.copy_
      cases base with
      | none =>
        have := hnone rfl
        subst this
        simp [run_underlying hu, run_sizeOf' hi, hlen, Nat.min_def, goInt] at hfr ⊢
        simp [hfr]
      | some bb =>
        have := hst bb rfl
        simp [run_underlying hu, run_sizeOf' hi, hlen, Nat.min_def, goInt] at hfr ⊢
        simp [hfr, this]
    split at e
    · rename_i hnil
      subst hnil
      simp only [Option.some.injEq, Prod.mk.injEq] at e
      obtain ⟨rfl, rfl⟩ := e
      refine Goes.same hr ?_ (by simp [sc])
      cases a with
      | none => exact key none dc (by simp [ren]) w (fun b hb => by cases hb) (fun _ => rfl)
      | some ad => exact key (some ⟨m.blk ad.block, ad.off + m.sh ad.block, none⟩) (if ad.spot.isSome then dc else dc + m.ext ad.block) (by simp only [ren]) w (fun b hb => by simp [storeCells]) (fun hb => by cases hb)
    · cases a with
      | none => cases e
      | some ad =>
        obtain ⟨b, k, sp⟩ := ad
        simp only [] at e
        split at e
        · rename_i hone
          obtain ⟨h1, hsts, e1⟩ := Option.map_eq_some_iff.1 e
          simp only [Prod.mk.injEq] at e1
          obtain ⟨rfl, rfl⟩ := e1
          obtain ⟨w', hrun, hr', hnx⟩ := hr.sts_run hsts (fun u hu => (List.all_eq_true.1 hone) u hu) hsn
          refine ⟨m, w', Ren.agree_refl _ _, ?_, hr', by simp [sc], by omega⟩
          refine key (some ⟨m.blk b, k + m.sh b, none⟩) (if sp.isSome then dc else dc + m.ext b) (by simp only [ren]) w' (fun bb hb => ?_) (fun hb => by cases hb)
          cases hb
          exact hrun
        · cases e
  · cases e

/-! ### bytes and strings -/
def bytesOf : List Value → Option (List Int)
  | [] => some []
  | .int .u8 n :: l => (bytesOf l).map (n :: ·)
  | _ :: _ => none
theorem bytesOf_some : ∀ {l : List Value} {ns : List Int}, bytesOf l = some ns → l = ns.map (Value.int .u8)
  | [], ns, e => by simp only [bytesOf] at e; cases e; rfl
  | v :: l, ns, e => by
    unfold bytesOf at e
    split at e
    · cases ‹_ :: _ = []›
    · rename_i n l' q
      cases q
      obtain ⟨ms, hm, rfl⟩ := Option.map_eq_some_iff.1 e
      rw [bytesOf_some hm]; rfl
    · cases e
theorem bytesOf_map (ns : List Int) : bytesOf (ns.map (Value.int .u8)) = some ns := by
  induction ns with
  | nil => rfl
  | cons n ns ih => simp [bytesOf, ih]

/-- '[]byte(s)', 'string(b)'. -/
def aconvB (P : Program) (h : Heap) (src dst : TypeId) (x : Value) : Option (Value × Heap) :=
  match P.underlying src, P.underlying dst, x with
  | some .string, some (.slice e), .string s =>
    match P.underlying e with
    | some (.int .u8) => if P.cellsOf e = 1 then some (.slice (some ⟨h.next, 0, none⟩) s.size s.size, h.alloc (.row { vs := strCells s, elem := e, grown := true, str := true })) else none
    | _ => none
  | some (.slice e), some .string, .slice a l _ =>
    match P.underlying e with
    | some (.int .u8) =>
      match a with
      | none => some (.string .empty, h)
      | some ⟨i, k, _⟩ => (h.lds i k l).bind fun vs => (bytesOf vs).bind fun ns => some (.string (strOfNums ns), h)
    | _ => none
  | _, _, _ => none
theorem aconvB_run (hr : HRel P S m h w) {src dst : TypeId} {x v : Value} {h' : Heap} (e : aconvB P h src dst x = some (v, h')) :
    Goes P S m h w (convert src dst (ren m x)) v h' := by
  unfold aconvB at e
  split at e
  · rename_i el s hs hd
    split at e
    · rename_i he
      split at e
      · rename_i hcell
        simp only [Option.some.injEq, Prod.mk.injEq] at e
        obtain ⟨rfl, rfl⟩ := e
        have hrun := run_bytes_of_string (P := P) w src dst el s hs hd he
        have hge := grownCap_ge w s.size 0 el
        have hdr : HRel P S m h w.drew := hr.world rfl rfl
        refine ⟨m.put h.next w.heap.size 0 (grownCap w s.size 0 el - s.size), w.drew.alloc (.cells (bytesRow s (grownCap w s.size 0 el)) el ((bytesRow s (grownCap w s.size 0 el)).size, (bytesRow s (grownCap w s.size 0 el)).size + 1)), Ren.agree_put m _ _ _ _ _ (Nat.le_refl _), ?_, ?_, by simp [sc], by simp⟩
        · simp only [ren, hrun, Ren.put_blk, Ren.put_sh, Ren.put_ext, Option.isSome_none, Bool.false_eq_true, if_false]
          congr 2
          omega
        · refine hdr.alloc ?_
          have hbs : (bytesRow s (grownCap w s.size 0 el)).size = grownCap w s.size 0 el := by
            simp [bytesRow]
            have : s.data.size = s.size := rfl
            omega
          refine ⟨fun v hv => strCells_sc s _ v hv, bytesRow s (grownCap w s.size 0 el), ((bytesRow s (grownCap w s.size 0 el)).size, (bytesRow s (grownCap w s.size 0 el)).size + 1), ?_, ?_, ?_, ?_, ?_, ?_, ?_, ?_⟩
          · show (w.heap.push _)[_]? = _
            rw [Ren.put_blk, Array.getElem?_push]
            simp
          · simp only [Ren.put_sh, Ren.put_ext, strCells_length, hcell, hbs]; omega
          · intro k v hk
            have hk' : (strCells s)[k]? = some v := hk
            simp only [Ren.put_sh, Nat.zero_add]
            have hlt : k < s.size := by
              rcases Nat.lt_or_ge k (strCells s).length with q | q
              · rwa [strCells_length] at q
              · rw [List.getElem?_eq_none q] at hk'; cases hk'
            have hkd : k < s.data.size := hlt
            rw [bytesRow_at s _ k hkd]
            simp only [strCells, List.getElem?_map, Array.getElem?_toList, Array.getElem?_eq_getElem hkd, Option.map_some, Option.some.injEq] at hk'
            rw [← hk']; simp [ren]
          · intro _; simp only [Ren.put_blk]; exact hr.size
          · intro q; cases q
          · intro _ _ k hk
            simp only
            omega
          · intro _ _ q; cases q
          · intro q; cases q
      · cases e
    · cases e
  · rename_i el a l c hs hd
    split at e
    · rename_i he
      cases a with
      | none =>
        simp only [Option.some.injEq, Prod.mk.injEq] at e
        obtain ⟨rfl, rfl⟩ := e
        refine Goes.same hr ?_ (by simp [sc])
        simp only [ren]
        rw [run_convert_bytes_string w src dst el none l c hs he hd]
        simp [Conv.bytesToString]
      | some ad =>
        obtain ⟨i, k, sp⟩ := ad
        simp only [] at e
        obtain ⟨vs, hvs, e1⟩ := Option.bind_eq_some_iff.1 e
        clear e
        obtain ⟨ns, hns, e⟩ := Option.bind_eq_some_iff.1 e1
        clear e1
        simp only [Option.some.injEq, Prod.mk.injEq] at e
        obtain ⟨rfl, rfl⟩ := e
        refine Goes.same hr ?_ (by simp [sc])
        obtain ⟨h1, h2, h3⟩ := hr.lds_run hvs
        have hvm : vs.map (ren m) = ns.map (Value.int .u8) := by
          rw [bytesOf_some hns, List.map_map]
          apply List.map_congr_left
          intro n _
          simp [ren]
        rw [hvm] at h1
        simp only [ren]
        rw [run_convert_bytes_string w src dst el _ l _ hs he hd, run_bytesToString w _ l _ ns h1, foldl_push_bytes]
        congr 2
        simp [strOfNums]
    · cases e
  · cases e

/-! ### len, min, max -/
def alen (P : Program) (h : Heap) (t : TypeId) (x : Value) : Option Value :=
  match P.underlying t, x with
  | some .string, .string s => some (.int .i64 (s.size : Nat))
  | some (.array n _), _ => some (.int .i64 (n : Nat))
  | some (.slice _), .slice _ n _ => some (.int .i64 (n : Nat))
  | some (.map _ _), .map none => some (.int .i64 0)
  | some (.map _ _), .map (some r) => match h.get r with | some (.map es _) => some (.int .i64 (es.length : Nat)) | _ => none
  | _, _ => none
theorem alen_run (hr : HRel P S m h w) {t ty : TypeId} {x v : Value} (e : alen P h t x = some v) : (Builtin.len_ #[t] ty #[ren m x]).run P w = .ok (ren m v) w ∧ sc h.next v := by
  unfold alen at e
  split at e
  · rename_i hu; cases e; simp [Builtin.len_, run_underlying hu, ren, sc, goInt]
  · rename_i hu; cases e; simp [Builtin.len_, run_underlying hu, ren, sc, goInt]
  · rename_i _ a n c hu; cases e; cases a <;> simp [Builtin.len_, run_underlying hu, ren, sc, goInt]
  · rename_i hu; cases e; simp [Builtin.len_, run_underlying hu, ren, sc, goInt]
  · rename_i _ _ r hu
    split at e
    · rename_i es ck hg
      cases e
      obtain ⟨_, hb, _⟩ := hr.obj r _ hg
      refine ⟨?_, by simp [sc]⟩
      simp only [Builtin.len_, ren, List.getElem?_toArray, List.getElem?_cons_zero, Sem.run_bind, run_underlying hu, Result.andThen_ok, getObj, Sem.run, hb]
      simp [goInt]
    · cases e
  · cases e

def ammOf (mx : Bool) (k : IntKind) (x : Int) : List Value → Option Value
  | [] => some (.int k x)
  | .int _ y :: l => ammOf mx k (if mx then (if y > x then y else x) else (if y < x then y else x)) l
  | _ :: _ => none
def amm (mx : Bool) : List Value → Option Value
  | .int k x :: l => ammOf mx k x l
  | _ => none
theorem ammOf_run (mx : Bool) : ∀ (l : List Value) (k : IntKind) (x : Int) (v : Value), ammOf mx k x l = some v →
    ((l.map (ren m)).foldlM (if mx then Builtin.max2 else Builtin.min2) (.int k x)).run P w = .ok v w ∧ flat v = true
  | [], k, x, v, e => by simp only [ammOf] at e; cases e; simp [flat]
  | u :: l, k, x, v, e => by
    unfold ammOf at e
    split at e
    · cases ‹_ :: _ = []›
    · rename_i kk y l' q
      cases q
      have := ammOf_run mx _ _ _ _ e
      cases mx
      · simpa [ren, Builtin.min2] using this
      · simpa [ren, Builtin.max2] using this
    · cases e
theorem amm_run (mx : Bool) {l : List Value} {v : Value} {a : Array TypeId} {ty : TypeId} (e : amm mx l = some v) :
    ((if mx then Builtin.max_ a ty (l.map (ren m)).toArray else Builtin.min_ a ty (l.map (ren m)).toArray)).run P w = .ok (ren m v) w ∧ flat v = true := by
  unfold amm at e
  split at e
  · rename_i k x l
    obtain ⟨h1, h2⟩ := ammOf_run (P := P) (w := w) (m := m) mx l k x v e
    rw [ren_flat m v h2]
    refine ⟨?_, h2⟩
    cases mx
    · simpa [Builtin.min_, ren] using h1
    · simpa [Builtin.max_, ren] using h1
  · cases e
end
end Go.Mini
