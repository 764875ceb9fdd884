/-
  PARSE, ParseJoins B: dialogues to be read; SameLine, Same, lines: walks.
-/
import Derived.Test.YtjgmccbjffncaaaDoorMiniYLtoV
import Derived.Test.YtjgmccbjffncaaaDoorPaO
import Derived.Test.YtjgmccbjffncaaaDoorMiniSQ
set_option linter.unusedSimpArgs false
set_option maxHeartbeats 8000000
set_option maxRecDepth 100000
namespace Go.Mini
open Go.Proofs

/-! ### dialogues to be read -/
def ArmC (_ : Heap) (x : ArmT) (cs : List Value) : Prop := cs = x.cells
def ArmsV (h : Heap) (l : List ArmT) (v : Value) : Prop := SliceR 3 ArmC h l v
def LineC (h : Heap) (x : LineT) (cs : List Value) : Prop := ∃ av, cs = lineCells x av ∧ ArmsV h x.arms av
def LinesV (h : Heap) (l : List LineT) (v : Value) : Prop := SliceR 8 LineC h l v
def BlockC (h : Heap) (x : BlockT) (cs : List Value) : Prop := ∃ lv, cs = [.string (bs x.name), lv] ∧ LinesV h x.lines lv
def BlocksV (h : Heap) (l : List BlockT) (v : Value) : Prop := SliceR 2 BlockC h l v
theorem grows_arm : Grows ArmC := fun _ _ _ _ _ q => q
theorem ArmsV.more {h h' : Heap} {l : List ArmT} {v : Value} (s : ArmsV h l v) (hm : h.more h') : ArmsV h' l v := SliceR.more grows_arm s hm
theorem grows_line : Grows LineC := fun _ _ _ _ hm ⟨av, q1, q2⟩ => ⟨av, q1, q2.more hm⟩
theorem LinesV.more {h h' : Heap} {l : List LineT} {v : Value} (s : LinesV h l v) (hm : h.more h') : LinesV h' l v := SliceR.more grows_line s hm
theorem grows_block : Grows BlockC := fun _ _ _ _ hm ⟨av, q1, q2⟩ => ⟨av, q1, q2.more hm⟩
theorem BlocksV.more {h h' : Heap} {l : List BlockT} {v : Value} (s : BlocksV h l v) (hm : h.more h') : BlocksV h' l v := SliceR.more grows_block s hm
theorem OwnF.view {α : Type} {k : Nat} {R : Heap → α → List Value → Prop} {lo : Nat} {h : Heap} {v : Value} {e n : Nat} {cs : List Value} (o : OwnF lo h v e n cs) (l : List (α × List Value)) (hn : n = l.length) (hcs : cs = l.flatMap (·.2)) (hl : ∀ p ∈ l, p.2.length = k ∧ R h p.1 p.2) (hb : n ≤ maxLen) : SliceR k R h (l.map (·.1)) v := by
  refine ⟨l, rfl, hl, by omega, ?_⟩
  rcases o with ⟨rfl, h2, h3⟩ | ⟨b, _, h2, rfl, h4⟩
  · left
    refine ⟨?_, .inl ⟨none, 0, rfl⟩⟩
    rw [h2] at hn
    exact List.length_eq_zero_iff.1 hn.symm
  · right
    have hlen := elems_len l fun p hp => (hl p hp).1
    refine ⟨b, 0, none, n, ?_, by rw [hn], ?_⟩
    · rintro rfl; simp at hn; omega
    · rw [Heap.lds_of h4 (by simp only [grownRow, hcs]; omega)]
      simp only [grownRow, List.drop_zero, hcs]
      rw [← hlen, List.take_length]
theorem armsM.view {lo : Nat} {h : Heap} {p : LineT × Value} (o : armsM lo h p) (hb : p.1.arms.length ≤ maxLen) : ArmsV h p.1.arms p.2 := by
  have := OwnF.view (k := 3) (R := ArmC) o (p.1.arms.map fun a => (a, a.cells)) (by simp) (by rw [List.flatMap_map]) (by
    intro q hq
    obtain ⟨a, _, rfl⟩ := List.mem_map.1 hq
    exact ⟨rfl, rfl⟩) hb
  rw [List.map_map] at this
  have e : ((fun p : ArmT × List Value => p.1) ∘ fun a => (a, a.cells)) = id := rfl
  rw [e, List.map_id] at this
  exact this
def LineT.few (x : LineT) : Prop := x.arms.length ≤ maxLen
def BlockT.few (b : BlockT) : Prop := b.lines.length ≤ maxLen ∧ ∀ x ∈ b.lines, x.few
def fewB (bl : List BlockT) : Prop := bl.length ≤ maxLen ∧ ∀ b ∈ bl, b.few
theorem LinesM.view {lo : Nat} {h : Heap} {l : List LineT} {v : Value} (o : LinesM lo h l v) (hb : l.length ≤ maxLen) (hx : ∀ x ∈ l, x.few) : LinesV h l v := by
  obtain ⟨m, rfl, h2, h3⟩ := o
  rw [List.length_map] at hb
  have := OwnF.view (k := 8) (R := LineC) h2 (m.map fun p => (p.1, lineCells p.1 p.2)) (by simp) (by rw [List.flatMap_map]; rfl) (by
    intro q hq
    obtain ⟨a, ha, rfl⟩ := List.mem_map.1 hq
    exact ⟨rfl, a.2, rfl, (h3 a ha).view (hx a.1 (List.mem_map_of_mem ha))⟩) hb
  rw [List.map_map] at this
  exact this
theorem BlocksM.view {lo : Nat} {h : Heap} {l : List BlockT} {v : Value} (o : BlocksM lo h l v) (hx : fewB l) : BlocksV h l v := by
  obtain ⟨m, rfl, h2, h3⟩ := o
  obtain ⟨hb, hx⟩ := hx
  rw [List.length_map] at hb
  have := OwnF.view (k := 2) (R := BlockC) h2 (m.map fun p => (p.1, [.string (bs p.1.name), p.2])) (by simp) (by rw [List.flatMap_map]; rfl) (by
    intro q hq
    obtain ⟨a, ha, rfl⟩ := List.mem_map.1 hq
    have := hx a.1 (List.mem_map_of_mem ha)
    exact ⟨rfl, a.2, rfl, (h3 a ha).view this.1 this.2⟩) hb
  rw [List.map_map] at this
  exact this
theorem sz54 : (Tryd.prog.info? 54).map (·.size) = some 3 := by kernel_rfl
theorem agg54 : Program.agg Tryd.prog 54 = some true := by kernel_rfl
theorem sz49' : (Tryd.prog.info? 49).map (·.size) = some 8 := by kernel_rfl
theorem agg49' : Program.agg Tryd.prog 49 = some true := by kernel_rfl
def ArmT.val (x : ArmT) : Value := .agg x.cells.toArray
section
variable {h : Heap}
theorem ArmsV.at {l : List ArmT} {v : Value} (s : ArmsV h l v) {j : Nat} {x : ArmT} (hj : l[j]? = some x) : ∃ b k, b < h.next ∧ aindexAddr Tryd.prog 47 v (.int .i64 (j : Nat)) = some (.pointer (some ⟨b, k, none⟩)) ∧ ∀ H, h.more H → aload Tryd.prog H 54 (.pointer (some ⟨b, k, none⟩)) = some x.val := by
  obtain ⟨b, k, cs, h1, h2, h3, h4, h5⟩ := SliceR.idx s hj Tryd.underlying47 sz54
  refine ⟨b, k, h2, h1, fun H hm => ?_⟩
  rw [aload_agg agg54 sz54, hm.lds h3, h5]
  rfl
theorem LinesV.at {l : List LineT} {v : Value} (s : LinesV h l v) {j : Nat} {x : LineT} (hj : l[j]? = some x) : ∃ b k av, b < h.next ∧ aindexAddr Tryd.prog 40 v (.int .i64 (j : Nat)) = some (.pointer (some ⟨b, k, none⟩)) ∧ ArmsV h x.arms av ∧ ∀ H, h.more H → aload Tryd.prog H 49 (.pointer (some ⟨b, k, none⟩)) = some (lineVal x av) := by
  obtain ⟨b, k, cs, h1, h2, h3, h4, av, rfl, h5⟩ := SliceR.idx s hj Tryd.underlying40 sz49'
  refine ⟨b, k, av, h2, h1, h5, fun H hm => ?_⟩
  rw [aload_agg agg49' sz49', hm.lds h3]
  rfl
theorem BlocksV.at {l : List BlockT} {v : Value} (s : BlocksV h l v) {j : Nat} {x : BlockT} (hj : l[j]? = some x) : ∃ b k lv, b < h.next ∧ aindexAddr Tryd.prog 22 v (.int .i64 (j : Nat)) = some (.pointer (some ⟨b, k, none⟩)) ∧ LinesV h x.lines lv ∧ (∀ H, h.more H → aload Tryd.prog H 42 (.pointer (some ⟨b, k, none⟩)) = some (.agg #[.string (bs x.name), lv])) ∧
    ∀ H, h.more H → aload Tryd.prog H 40 (.pointer (some ⟨b, k + 1, none⟩)) = some lv := by
  obtain ⟨b, k, cs, h1, h2, h3, h4, av, rfl, h5⟩ := SliceR.idx s hj Tryd.underlying22 sz42
  refine ⟨b, k, av, h2, h1, h5, fun H hm => ?_, fun H hm => ?_⟩
  · rw [aload_agg agg42 sz42, hm.lds h3]
    rfl
  · have h6 := hm.lds h3
    obtain ⟨r, hr, h7⟩ := Option.bind_eq_some_iff.1 h6
    rw [aload_cell agg40]
    split at h7
    case isFalse => cases h7
    have h8 := congrArg (fun l => l[1]?) (Option.some.inj h7)
    simp only [List.getElem?_take, List.getElem?_drop] at h8
    exact Heap.ld_of (Heap.row_some.1 hr) h8
theorem ArmsV.len {l : List ArmT} {v : Value} (s : ArmsV h l v) (H : Heap) : alen Tryd.prog H 47 v = some (.int .i64 (l.length : Nat)) := SliceR.len s Tryd.underlying47 H
theorem LinesV.len {l : List LineT} {v : Value} (s : LinesV h l v) (H : Heap) : alen Tryd.prog H 40 v = some (.int .i64 (l.length : Nat)) := SliceR.len s Tryd.underlying40 H
theorem BlocksV.len {l : List BlockT} {v : Value} (s : BlocksV h l v) (H : Heap) : alen Tryd.prog H 22 v = some (.int .i64 (l.length : Nat)) := SliceR.len s Tryd.underlying22 H
end
/-! ### SameLine -/
theorem neq_nat (a b : Nat) : ((a : Int) != (b : Int)) = decide (a ≠ b) := by
  by_cases h : a = b
  · subst h; simp
  · have : ¬ (a : Int) = b := by omega
    simp [bne, this, h]
theorem neq_int (a b : Int) : (a != b) = decide (a ≠ b) := by
  by_cases h : a = b
  · subst h; simp
  · simp [bne, h]
theorem neq_txt (a b : List UInt8) : abinS .neq (bs a) (bs b) = some (.bool (decide (a ≠ b))) := by
  rw [neq_bs]
  congr 2
  by_cases h : a = b <;> simp [h]
theorem arm_eq (x y : ArmT) : aeq Tryd.prog 10000 54 x.val y.val = some (decide (x = y)) := by
  have g54 : Tryd.prog.stoodInHeld 54 = false := by kernel_rfl
  have g52 : Tryd.prog.stoodInHeld 52 = false := by kernel_rfl
  have e3 : ∀ a b : Int, aeq Tryd.prog 9998 3 (.int .i64 a) (.int .i64 b) = some (decide (a = b)) := by
    intro a b; rw [show 9998 = 9997 + 1 from rfl, aeq]; simp only [Tryd.underlying3, aeq0, if_true]; rfl
  have e9 : ∀ a b : List UInt8, aeq Tryd.prog 9998 9 (.string (bs a)) (.string (bs b)) = some (decide (a = b)) := by
    intro a b; rw [show 9998 = 9997 + 1 from rfl, aeq]; simp only [Tryd.underlying9, aeq0, strEq_bs]
  have e9' : ∀ a b : List UInt8, aeq Tryd.prog 9999 9 (.string (bs a)) (.string (bs b)) = some (decide (a = b)) := by
    intro a b; rw [show 9999 = 9998 + 1 from rfl, aeq]; simp only [Tryd.underlying9, aeq0, strEq_bs]
  have ap : ∀ (ty : TypeId) (w : List Value) (k : Nat) (v : Value), Program.agg Tryd.prog ty = some false → (Tryd.prog.info? ty).isSome = true → w[k]? = some v → apart Tryd.prog ty w.toArray k = some v := by
    intro ty w k v h1 h2 h3
    obtain ⟨i, hi⟩ := Option.isSome_iff_exists.1 h2
    unfold apart
    rw [h1, hi]
    simpa using h3
  have i3 : (Tryd.prog.info? 3).isSome = true := by kernel_rfl
  have i9 : (Tryd.prog.info? 9).isSome = true := by kernel_rfl
  have a52 : ∀ w : ArmT, apart Tryd.prog 52 w.cells.toArray 0 = some (.agg #[.int .i64 w.kind, .string (bs w.text)]) := by
    intro w
    have h1 : Program.agg Tryd.prog 52 = some true := by kernel_rfl
    obtain ⟨i, hi, hs⟩ := info_some (show (Tryd.prog.info? 52).map (·.size) = some 2 by kernel_rfl)
    unfold apart
    rw [h1, hi]
    simp only [hs]
    rfl
  have e52 : aeq Tryd.prog 9999 52 (.agg #[.int .i64 x.kind, .string (bs x.text)]) (.agg #[.int .i64 y.kind, .string (bs y.text)]) = some (decide (x.kind = y.kind ∧ x.text = y.text)) := by
    rw [show 9999 = 9998 + 1 from rfl, aeq]
    simp only [Tryd.underlying52, g52, Bool.false_eq_true, if_false]
    simp only [aeqs, ap 3 [.int .i64 x.kind, .string (bs x.text)] 0 (.int .i64 x.kind) agg3 i3 rfl, ap 3 [.int .i64 y.kind, .string (bs y.text)] 0 (.int .i64 y.kind) agg3 i3 rfl, ap 9 [.int .i64 x.kind, .string (bs x.text)] 1 (.string (bs x.text)) agg9 i9 rfl, ap 9 [.int .i64 y.kind, .string (bs y.text)] 1 (.string (bs y.text)) agg9 i9 rfl, e3, e9]
    by_cases h1 : x.kind = y.kind <;> by_cases h2 : x.text = y.text <;> simp [h1, h2]
  rw [show 10000 = 9999 + 1 from rfl, aeq]
  unfold ArmT.val
  simp only [Tryd.underlying54, g54, Bool.false_eq_true, if_false]
  simp only [aeqs, a52, e52, ap 9 x.cells 2 (.string (bs x.to)) agg9 i9 rfl, ap 9 y.cells 2 (.string (bs y.to)) agg9 i9 rfl, e9']
  obtain ⟨xk, xt, xo⟩ := x
  obtain ⟨yk, yt, yo⟩ := y
  by_cases h1 : xk = yk <;> by_cases h2 : xt = yt <;> by_cases h3 : xo = yo <;> simp [h1, h2, h3]
theorem arm_neq (x y : ArmT) : abin Tryd.prog .neq 54 x.val y.val = some (.bool (decide (x ≠ y))) := by
  have g : Program.eqGuardType Tryd.prog Tryd.prog.depth 54 = false := by kernel_rfl
  have h := arm_eq x y
  unfold ArmT.val at h ⊢
  unfold abin
  simp only [g, Bool.false_eq_true, if_false, eqOp, h, Option.map_some]
  congr 2
  by_cases h : x = y <;> simp [h]
def LineT.heads (x : LineT) : Int × List UInt8 × List UInt8 × Int × List UInt8 × Int × List UInt8 × Nat := (x.op, x.text, x.name, x.n, x.to, x.wait, x.late, x.arms.length)
theorem line_eq (x y : LineT) : x = y ↔ x.heads = y.heads ∧ x.arms = y.arms := by
  constructor
  · rintro rfl; exact ⟨rfl, rfl⟩
  · rintro ⟨h1, h2⟩
    cases x; cases y
    simp only [LineT.heads, Prod.mk.injEq] at h1
    simp_all
theorem sameLine_spec {E : EXT} (G : Nat) (h : Heap) (x y : LineT) (av bv : Value) (ha : ArmsV h x.arms av) (hb : ArmsV h y.arms bv) :
    Does Tryd.prog G E 28 [lineVal x av, lineVal y bv] h fun r h' => r = .returned (.bool (decide (x = y))) ∧ h.more h' := by
  have hbox : ∀ (Hx : Heap) (z : LineT) (zv : Value), abox Hx 49 (lineVal z zv) = (Hx.new, Hx.alloc (lineRow z zv)) := fun _ _ _ => rfl
  refine Does.body Tryd.func28 rfl ?_
  have hn : enterF Tryd.f28 [lineVal x av, lineVal y bv] = ⟨80, [(0, lineVal x av), (1, lineVal y bv)], []⟩ := rfl
  rw [hn]; clear hn
  repeat refine Wp.seq ?_
  refine Wp.runS (by simp only [bsf, abuiltin, aextract, Nat.reduceLT, Nat.reduceEqDiff, reduceCtorEq, hbox, Heap.new, Heap.next_alloc] <;> exact rfl) ?_
  dsimp only [after, leaving]
  have m1 := (Heap.more_alloc h (lineRow x av)).trans (Heap.more_alloc (h.alloc (lineRow x av)) (lineRow y bv))
  have g2 : ((h.alloc (lineRow x av)).alloc (lineRow y bv)).get h.next = some (lineRow x av) := by rw [Heap.get_alloc_old _ _ (by simp)]; exact Heap.get_alloc_new h _
  have g3 : ((h.alloc (lineRow x av)).alloc (lineRow y bv)).get (h.next + 1) = some (lineRow y bv) := Heap.get_alloc_new (h.alloc (lineRow x av)) _
  generalize (h.alloc (lineRow x av)).alloc (lineRow y bv) = H at m1 g2 g3 ⊢
  replace ha := ha.more m1
  replace hb := hb.more m1
  by_cases h0 : x.op ≠ y.op
  · repeat refine Wp.seq ?_
    refine Wp.runS (by simp only [bsf, abuiltin, aextract, Nat.reduceLT, Nat.reduceEqDiff, reduceCtorEq, ln0, ln1, ln2, ln3, ln4, ln5, ln6, ln7, Nat.zero_add, abin_int, abin_str, ai_neq, neq_int, neq_txt, aload_cell agg3, Heap.ld_of g2 (k := 0) rfl, Heap.ld_of g3 (k := 0) rfl, decide_eq_true h0] <;> exact rfl) ?_
    dsimp only [after, leaving]
    repeat refine Wp.seq ?_
    refine Wp.condT (by simp only [bsf, abuiltin, aextract, Nat.reduceLT, Nat.reduceEqDiff, reduceCtorEq]) ?_
    repeat refine Wp.seq ?_
    refine Wp.runS (by simp only [bsf, abuiltin, aextract, Nat.reduceLT, Nat.reduceEqDiff, reduceCtorEq] <;> exact rfl) ?_
    dsimp only [after, leaving]
    repeat refine Wp.seq ?_
    refine Wp.ret ?_
    dsimp only [after, leaving]
    refine ⟨rfl, rfl, _, rfl, ?_, m1⟩
    rw [decide_eq_false (fun q => h0 (by rw [q]))]
  replace h0 := Classical.not_not.1 h0
  by_cases h1 : x.text ≠ y.text
  · repeat refine Wp.seq ?_
    refine Wp.runS (by simp only [bsf, abuiltin, aextract, Nat.reduceLT, Nat.reduceEqDiff, reduceCtorEq, ln0, ln1, ln2, ln3, ln4, ln5, ln6, ln7, Nat.zero_add, abin_int, abin_str, ai_neq, neq_int, neq_txt, aload_cell agg3, Heap.ld_of g2 (k := 0) rfl, Heap.ld_of g3 (k := 0) rfl, decide_eq_false (not_not_intro h0), aload_cell agg9, Heap.ld_of g2 (k := 1) rfl, Heap.ld_of g3 (k := 1) rfl, decide_eq_true h1] <;> exact rfl) ?_
    dsimp only [after, leaving]
    repeat refine Wp.seq ?_
    refine Wp.condT (by simp only [bsf, abuiltin, aextract, Nat.reduceLT, Nat.reduceEqDiff, reduceCtorEq]) ?_
    repeat refine Wp.seq ?_
    refine Wp.runS (by simp only [bsf, abuiltin, aextract, Nat.reduceLT, Nat.reduceEqDiff, reduceCtorEq] <;> exact rfl) ?_
    dsimp only [after, leaving]
    repeat refine Wp.seq ?_
    refine Wp.ret ?_
    dsimp only [after, leaving]
    refine ⟨rfl, rfl, _, rfl, ?_, m1⟩
    rw [decide_eq_false (fun q => h1 (by rw [q]))]
  replace h1 := Classical.not_not.1 h1
  by_cases h2 : x.name ≠ y.name
  · repeat refine Wp.seq ?_
    refine Wp.runS (by simp only [bsf, abuiltin, aextract, Nat.reduceLT, Nat.reduceEqDiff, reduceCtorEq, ln0, ln1, ln2, ln3, ln4, ln5, ln6, ln7, Nat.zero_add, abin_int, abin_str, ai_neq, neq_int, neq_txt, aload_cell agg3, Heap.ld_of g2 (k := 0) rfl, Heap.ld_of g3 (k := 0) rfl, decide_eq_false (not_not_intro h0), aload_cell agg9, Heap.ld_of g2 (k := 1) rfl, Heap.ld_of g3 (k := 1) rfl, decide_eq_false (not_not_intro h1), aload_cell agg9, Heap.ld_of g2 (k := 2) rfl, Heap.ld_of g3 (k := 2) rfl, decide_eq_true h2] <;> exact rfl) ?_
    dsimp only [after, leaving]
    repeat refine Wp.seq ?_
    refine Wp.condT (by simp only [bsf, abuiltin, aextract, Nat.reduceLT, Nat.reduceEqDiff, reduceCtorEq]) ?_
    repeat refine Wp.seq ?_
    refine Wp.runS (by simp only [bsf, abuiltin, aextract, Nat.reduceLT, Nat.reduceEqDiff, reduceCtorEq] <;> exact rfl) ?_
    dsimp only [after, leaving]
    repeat refine Wp.seq ?_
    refine Wp.ret ?_
    dsimp only [after, leaving]
    refine ⟨rfl, rfl, _, rfl, ?_, m1⟩
    rw [decide_eq_false (fun q => h2 (by rw [q]))]
  replace h2 := Classical.not_not.1 h2
  by_cases h3 : x.n ≠ y.n
  · repeat refine Wp.seq ?_
    refine Wp.runS (by simp only [bsf, abuiltin, aextract, Nat.reduceLT, Nat.reduceEqDiff, reduceCtorEq, ln0, ln1, ln2, ln3, ln4, ln5, ln6, ln7, Nat.zero_add, abin_int, abin_str, ai_neq, neq_int, neq_txt, aload_cell agg3, Heap.ld_of g2 (k := 0) rfl, Heap.ld_of g3 (k := 0) rfl, decide_eq_false (not_not_intro h0), aload_cell agg9, Heap.ld_of g2 (k := 1) rfl, Heap.ld_of g3 (k := 1) rfl, decide_eq_false (not_not_intro h1), aload_cell agg9, Heap.ld_of g2 (k := 2) rfl, Heap.ld_of g3 (k := 2) rfl, decide_eq_false (not_not_intro h2), aload_cell agg3, Heap.ld_of g2 (k := 3) rfl, Heap.ld_of g3 (k := 3) rfl, decide_eq_true h3] <;> exact rfl) ?_
    dsimp only [after, leaving]
    repeat refine Wp.seq ?_
    refine Wp.condT (by simp only [bsf, abuiltin, aextract, Nat.reduceLT, Nat.reduceEqDiff, reduceCtorEq]) ?_
    repeat refine Wp.seq ?_
    refine Wp.runS (by simp only [bsf, abuiltin, aextract, Nat.reduceLT, Nat.reduceEqDiff, reduceCtorEq] <;> exact rfl) ?_
    dsimp only [after, leaving]
    repeat refine Wp.seq ?_
    refine Wp.ret ?_
    dsimp only [after, leaving]
    refine ⟨rfl, rfl, _, rfl, ?_, m1⟩
    rw [decide_eq_false (fun q => h3 (by rw [q]))]
  replace h3 := Classical.not_not.1 h3
  by_cases h4 : x.to ≠ y.to
  · repeat refine Wp.seq ?_
    refine Wp.runS (by simp only [bsf, abuiltin, aextract, Nat.reduceLT, Nat.reduceEqDiff, reduceCtorEq, ln0, ln1, ln2, ln3, ln4, ln5, ln6, ln7, Nat.zero_add, abin_int, abin_str, ai_neq, neq_int, neq_txt, aload_cell agg3, Heap.ld_of g2 (k := 0) rfl, Heap.ld_of g3 (k := 0) rfl, decide_eq_false (not_not_intro h0), aload_cell agg9, Heap.ld_of g2 (k := 1) rfl, Heap.ld_of g3 (k := 1) rfl, decide_eq_false (not_not_intro h1), aload_cell agg9, Heap.ld_of g2 (k := 2) rfl, Heap.ld_of g3 (k := 2) rfl, decide_eq_false (not_not_intro h2), aload_cell agg3, Heap.ld_of g2 (k := 3) rfl, Heap.ld_of g3 (k := 3) rfl, decide_eq_false (not_not_intro h3), aload_cell agg9, Heap.ld_of g2 (k := 4) rfl, Heap.ld_of g3 (k := 4) rfl, decide_eq_true h4] <;> exact rfl) ?_
    dsimp only [after, leaving]
    repeat refine Wp.seq ?_
    refine Wp.condT (by simp only [bsf, abuiltin, aextract, Nat.reduceLT, Nat.reduceEqDiff, reduceCtorEq]) ?_
    repeat refine Wp.seq ?_
    refine Wp.runS (by simp only [bsf, abuiltin, aextract, Nat.reduceLT, Nat.reduceEqDiff, reduceCtorEq] <;> exact rfl) ?_
    dsimp only [after, leaving]
    repeat refine Wp.seq ?_
    refine Wp.ret ?_
    dsimp only [after, leaving]
    refine ⟨rfl, rfl, _, rfl, ?_, m1⟩
    rw [decide_eq_false (fun q => h4 (by rw [q]))]
  replace h4 := Classical.not_not.1 h4
  by_cases h5 : x.wait ≠ y.wait
  · repeat refine Wp.seq ?_
    refine Wp.runS (by simp only [bsf, abuiltin, aextract, Nat.reduceLT, Nat.reduceEqDiff, reduceCtorEq, ln0, ln1, ln2, ln3, ln4, ln5, ln6, ln7, Nat.zero_add, abin_int, abin_str, ai_neq, neq_int, neq_txt, aload_cell agg3, Heap.ld_of g2 (k := 0) rfl, Heap.ld_of g3 (k := 0) rfl, decide_eq_false (not_not_intro h0), aload_cell agg9, Heap.ld_of g2 (k := 1) rfl, Heap.ld_of g3 (k := 1) rfl, decide_eq_false (not_not_intro h1), aload_cell agg9, Heap.ld_of g2 (k := 2) rfl, Heap.ld_of g3 (k := 2) rfl, decide_eq_false (not_not_intro h2), aload_cell agg3, Heap.ld_of g2 (k := 3) rfl, Heap.ld_of g3 (k := 3) rfl, decide_eq_false (not_not_intro h3), aload_cell agg9, Heap.ld_of g2 (k := 4) rfl, Heap.ld_of g3 (k := 4) rfl, decide_eq_false (not_not_intro h4), aload_cell agg3, Heap.ld_of g2 (k := 6) rfl, Heap.ld_of g3 (k := 6) rfl, decide_eq_true h5] <;> exact rfl) ?_
    dsimp only [after, leaving]
    repeat refine Wp.seq ?_
    refine Wp.condT (by simp only [bsf, abuiltin, aextract, Nat.reduceLT, Nat.reduceEqDiff, reduceCtorEq]) ?_
    repeat refine Wp.seq ?_
    refine Wp.runS (by simp only [bsf, abuiltin, aextract, Nat.reduceLT, Nat.reduceEqDiff, reduceCtorEq] <;> exact rfl) ?_
    dsimp only [after, leaving]
    repeat refine Wp.seq ?_
    refine Wp.ret ?_
    dsimp only [after, leaving]
    refine ⟨rfl, rfl, _, rfl, ?_, m1⟩
    rw [decide_eq_false (fun q => h5 (by rw [q]))]
  replace h5 := Classical.not_not.1 h5
  by_cases h6 : x.late ≠ y.late
  · repeat refine Wp.seq ?_
    refine Wp.runS (by simp only [bsf, abuiltin, aextract, Nat.reduceLT, Nat.reduceEqDiff, reduceCtorEq, ln0, ln1, ln2, ln3, ln4, ln5, ln6, ln7, Nat.zero_add, abin_int, abin_str, ai_neq, neq_int, neq_txt, aload_cell agg3, Heap.ld_of g2 (k := 0) rfl, Heap.ld_of g3 (k := 0) rfl, decide_eq_false (not_not_intro h0), aload_cell agg9, Heap.ld_of g2 (k := 1) rfl, Heap.ld_of g3 (k := 1) rfl, decide_eq_false (not_not_intro h1), aload_cell agg9, Heap.ld_of g2 (k := 2) rfl, Heap.ld_of g3 (k := 2) rfl, decide_eq_false (not_not_intro h2), aload_cell agg3, Heap.ld_of g2 (k := 3) rfl, Heap.ld_of g3 (k := 3) rfl, decide_eq_false (not_not_intro h3), aload_cell agg9, Heap.ld_of g2 (k := 4) rfl, Heap.ld_of g3 (k := 4) rfl, decide_eq_false (not_not_intro h4), aload_cell agg3, Heap.ld_of g2 (k := 6) rfl, Heap.ld_of g3 (k := 6) rfl, decide_eq_false (not_not_intro h5), aload_cell agg9, Heap.ld_of g2 (k := 7) rfl, Heap.ld_of g3 (k := 7) rfl, decide_eq_true h6] <;> exact rfl) ?_
    dsimp only [after, leaving]
    repeat refine Wp.seq ?_
    refine Wp.condT (by simp only [bsf, abuiltin, aextract, Nat.reduceLT, Nat.reduceEqDiff, reduceCtorEq]) ?_
    repeat refine Wp.seq ?_
    refine Wp.runS (by simp only [bsf, abuiltin, aextract, Nat.reduceLT, Nat.reduceEqDiff, reduceCtorEq] <;> exact rfl) ?_
    dsimp only [after, leaving]
    repeat refine Wp.seq ?_
    refine Wp.ret ?_
    dsimp only [after, leaving]
    refine ⟨rfl, rfl, _, rfl, ?_, m1⟩
    rw [decide_eq_false (fun q => h6 (by rw [q]))]
  replace h6 := Classical.not_not.1 h6
  by_cases h7 : (x.arms.length : Int) ≠ (y.arms.length : Int)
  · repeat refine Wp.seq ?_
    refine Wp.runS (by simp only [bsf, abuiltin, aextract, Nat.reduceLT, Nat.reduceEqDiff, reduceCtorEq, ln0, ln1, ln2, ln3, ln4, ln5, ln6, ln7, Nat.zero_add, abin_int, abin_str, ai_neq, neq_int, neq_txt, aload_cell agg3, Heap.ld_of g2 (k := 0) rfl, Heap.ld_of g3 (k := 0) rfl, decide_eq_false (not_not_intro h0), aload_cell agg9, Heap.ld_of g2 (k := 1) rfl, Heap.ld_of g3 (k := 1) rfl, decide_eq_false (not_not_intro h1), aload_cell agg9, Heap.ld_of g2 (k := 2) rfl, Heap.ld_of g3 (k := 2) rfl, decide_eq_false (not_not_intro h2), aload_cell agg3, Heap.ld_of g2 (k := 3) rfl, Heap.ld_of g3 (k := 3) rfl, decide_eq_false (not_not_intro h3), aload_cell agg9, Heap.ld_of g2 (k := 4) rfl, Heap.ld_of g3 (k := 4) rfl, decide_eq_false (not_not_intro h4), aload_cell agg3, Heap.ld_of g2 (k := 6) rfl, Heap.ld_of g3 (k := 6) rfl, decide_eq_false (not_not_intro h5), aload_cell agg9, Heap.ld_of g2 (k := 7) rfl, Heap.ld_of g3 (k := 7) rfl, decide_eq_false (not_not_intro h6), aload_cell agg47, Heap.ld_of g2 (k := 5) rfl, Heap.ld_of g3 (k := 5) rfl, ha.len, hb.len, decide_eq_true h7] <;> exact rfl) ?_
    dsimp only [after, leaving]
    repeat refine Wp.seq ?_
    refine Wp.condT (by simp only [bsf, abuiltin, aextract, Nat.reduceLT, Nat.reduceEqDiff, reduceCtorEq]) ?_
    repeat refine Wp.seq ?_
    refine Wp.runS (by simp only [bsf, abuiltin, aextract, Nat.reduceLT, Nat.reduceEqDiff, reduceCtorEq] <;> exact rfl) ?_
    dsimp only [after, leaving]
    repeat refine Wp.seq ?_
    refine Wp.ret ?_
    dsimp only [after, leaving]
    refine ⟨rfl, rfl, _, rfl, ?_, m1⟩
    rw [decide_eq_false (fun q => h7 (by rw [q]))]
  replace h7 := Classical.not_not.1 h7
  repeat refine Wp.seq ?_
  refine Wp.runS (by simp only [bsf, abuiltin, aextract, Nat.reduceLT, Nat.reduceEqDiff, reduceCtorEq, ln0, ln1, ln2, ln3, ln4, ln5, ln6, ln7, Nat.zero_add, abin_int, abin_str, ai_neq, neq_int, neq_txt, aload_cell agg3, Heap.ld_of g2 (k := 0) rfl, Heap.ld_of g3 (k := 0) rfl, decide_eq_false (not_not_intro h0), aload_cell agg9, Heap.ld_of g2 (k := 1) rfl, Heap.ld_of g3 (k := 1) rfl, decide_eq_false (not_not_intro h1), aload_cell agg9, Heap.ld_of g2 (k := 2) rfl, Heap.ld_of g3 (k := 2) rfl, decide_eq_false (not_not_intro h2), aload_cell agg3, Heap.ld_of g2 (k := 3) rfl, Heap.ld_of g3 (k := 3) rfl, decide_eq_false (not_not_intro h3), aload_cell agg9, Heap.ld_of g2 (k := 4) rfl, Heap.ld_of g3 (k := 4) rfl, decide_eq_false (not_not_intro h4), aload_cell agg3, Heap.ld_of g2 (k := 6) rfl, Heap.ld_of g3 (k := 6) rfl, decide_eq_false (not_not_intro h5), aload_cell agg9, Heap.ld_of g2 (k := 7) rfl, Heap.ld_of g3 (k := 7) rfl, decide_eq_false (not_not_intro h6), aload_cell agg47, Heap.ld_of g2 (k := 5) rfl, Heap.ld_of g3 (k := 5) rfl, ha.len, hb.len, decide_eq_false (not_not_intro h7)] <;> exact rfl) ?_
  dsimp only [after, leaving]
  repeat refine Wp.seq ?_
  refine Wp.condF (by simp only [bsf, abuiltin, aextract, Nat.reduceLT, Nat.reduceEqDiff, reduceCtorEq]) ?_
  repeat refine Wp.seq ?_
  refine Wp.skip ?_
  dsimp only [after, leaving]
  replace h7 : x.arms.length = y.arms.length := by omega
  have hh : x.heads = y.heads := by unfold LineT.heads; rw [h0, h1, h2, h3, h4, h5, h6, h7]
  repeat refine Wp.seq ?_
  refine Wp.runS (by simp only [bsf, abuiltin, aextract, Nat.reduceLT, Nat.reduceEqDiff, reduceCtorEq] <;> exact rfl) ?_
  dsimp only [after, leaving]
  repeat refine Wp.seq ?_
  refine Wp.block ?_
  refine Wp.loopI (X := Nat) (fun i => [(2, .pointer (some ⟨h.next, 0, none⟩)), (3, .pointer (some ⟨h.next + 1, 0, none⟩)), (5, .int .i64 i)]) (fun _ => H)
    (fun i => i ≤ x.arms.length ∧ decide (x = y) = decide (x.arms.drop i = y.arms.drop i)) (fun i => x.arms.length - i) 0 ⟨Nat.zero_le _, by rw [List.drop_zero, List.drop_zero]; exact decide_eq_decide.2 ((line_eq x y).trans ⟨fun q => q.2, fun q => ⟨hh, q⟩⟩)⟩ ⟨rfl, rfl, rfl, trivial⟩ rfl ?_
  rintro i ⟨hle, hi⟩
  have hmax := SliceR.le ha
  by_cases hlt : (i : Int) < (x.arms.length : Int)
  · repeat refine Wp.seq ?_
    refine Wp.runS (by simp only [bsf, abuiltin, aextract, Nat.reduceLT, Nat.reduceEqDiff, reduceCtorEq, ln5, Nat.zero_add, aload_cell agg47, Heap.ld_of g2 (k := 5) rfl, ha.len, abin_int, ai_lss, decide_eq_true hlt] <;> exact rfl) ?_
    dsimp only [after, leaving]
    repeat refine Wp.seq ?_
    refine Wp.condT (by simp only [bsf, abuiltin, aextract, Nat.reduceLT, Nat.reduceEqDiff, reduceCtorEq]) ?_
    repeat refine Wp.seq ?_
    refine Wp.skip ?_
    dsimp only [after, leaving]
    repeat refine Wp.seq ?_
    refine Wp.block ?_
    obtain ⟨t, ht⟩ : ∃ t, x.arms[i]? = some t := ⟨_, List.getElem?_eq_getElem (by omega)⟩
    obtain ⟨u, hu⟩ : ∃ t, y.arms[i]? = some t := ⟨_, List.getElem?_eq_getElem (by omega)⟩
    obtain ⟨b, k, _, hp, ta⟩ := ha.at ht
    obtain ⟨c, j, _, hq, tb⟩ := hb.at hu
    have hd : x.arms.drop i = t :: x.arms.drop (i + 1) := by
      rw [List.drop_eq_getElem_cons (by omega)]
      congr 1
      rw [List.getElem?_eq_getElem (by omega)] at ht
      exact Option.some.inj ht
    have hd2 : y.arms.drop i = u :: y.arms.drop (i + 1) := by
      rw [List.drop_eq_getElem_cons (by omega)]
      congr 1
      rw [List.getElem?_eq_getElem (by omega)] at hu
      exact Option.some.inj hu
    rw [hd, hd2] at hi
    have hw1 : IntKind.i64.wrap ((i : Int) + 1) = ((i + 1 : Nat) : Int) := by rw [wrap_in (by omega) (by unfold maxLen at hmax; omega)]; omega
    by_cases htu : t = u
    · repeat refine Wp.seq ?_
      refine Wp.runSD mixed (by kernel_rfl) (by simp only [runSD, stepOD, stepWD, stepVD, isLoud, isPure, isReader, decide_true, bsb, bsf, abuiltin, aextract, Nat.reduceLT, Nat.reduceEqDiff, reduceCtorEq, ln5, Nat.zero_add, aload_cell agg47, Heap.ld_of g2 (k := 5) rfl, Heap.ld_of g3 (k := 5) rfl, hp, hq, ta H (Heap.more_refl H), tb H (Heap.more_refl H), arm_neq, decide_eq_false (not_not_intro htu)] <;> exact rfl) ?_
      dsimp only [after, leaving]
      repeat refine Wp.seq ?_
      refine Wp.condF (by simp only [bsf, abuiltin, aextract, Nat.reduceLT, Nat.reduceEqDiff, reduceCtorEq]) ?_
      repeat refine Wp.seq ?_
      refine Wp.skip ?_
      dsimp only [after, leaving]
      repeat refine Wp.seq ?_
      refine Wp.runS (by simp only [bsf, abuiltin, aextract, Nat.reduceLT, Nat.reduceEqDiff, reduceCtorEq, abin_int, ai_add, hw1] <;> exact rfl) ?_
      dsimp only [after, leaving]
      refine ⟨i + 1, _, ⟨by omega, ?_⟩, by omega, rfl, ⟨rfl, rfl, rfl, trivial⟩, rfl, rfl⟩
      rw [hi]
      exact decide_eq_decide.2 (by simp [htu])
    · repeat refine Wp.seq ?_
      refine Wp.runSD mixed (by kernel_rfl) (by simp only [runSD, stepOD, stepWD, stepVD, isLoud, isPure, isReader, decide_true, bsb, bsf, abuiltin, aextract, Nat.reduceLT, Nat.reduceEqDiff, reduceCtorEq, ln5, Nat.zero_add, aload_cell agg47, Heap.ld_of g2 (k := 5) rfl, Heap.ld_of g3 (k := 5) rfl, hp, hq, ta H (Heap.more_refl H), tb H (Heap.more_refl H), arm_neq, decide_eq_true (show t ≠ u from htu)] <;> exact rfl) ?_
      dsimp only [after, leaving]
      repeat refine Wp.seq ?_
      refine Wp.condT (by simp only [bsf, abuiltin, aextract, Nat.reduceLT, Nat.reduceEqDiff, reduceCtorEq]) ?_
      repeat refine Wp.seq ?_
      refine Wp.runS (by simp only [bsf, abuiltin, aextract, Nat.reduceLT, Nat.reduceEqDiff, reduceCtorEq] <;> exact rfl) ?_
      dsimp only [after, leaving]
      repeat refine Wp.seq ?_
      refine Wp.ret ?_
      dsimp only [after, leaving]
      refine ⟨rfl, rfl, _, rfl, ?_, m1⟩
      rw [hi, decide_eq_false (by simp [htu])]
  · repeat refine Wp.seq ?_
    refine Wp.runS (by simp only [bsf, abuiltin, aextract, Nat.reduceLT, Nat.reduceEqDiff, reduceCtorEq, ln5, Nat.zero_add, aload_cell agg47, Heap.ld_of g2 (k := 5) rfl, ha.len, abin_int, ai_lss, decide_eq_false hlt] <;> exact rfl) ?_
    dsimp only [after, leaving]
    repeat refine Wp.seq ?_
    refine Wp.condF (by simp only [bsf, abuiltin, aextract, Nat.reduceLT, Nat.reduceEqDiff, reduceCtorEq]) ?_
    repeat refine Wp.seq ?_
    refine Wp.exit ?_
    simp only [after, leaving, blockExit, if_true, if_false, Nat.reduceEqDiff]
    repeat refine Wp.seq ?_
    refine Wp.runS (by simp only [bsf, abuiltin, aextract, Nat.reduceLT, Nat.reduceEqDiff, reduceCtorEq] <;> exact rfl) ?_
    dsimp only [after, leaving]
    repeat refine Wp.seq ?_
    refine Wp.ret ?_
    dsimp only [after, leaving]
    refine ⟨rfl, rfl, _, rfl, ?_, m1⟩
    rw [hi, List.drop_eq_nil_of_le (by omega), List.drop_eq_nil_of_le (by omega)]
    rfl
end Go.Mini
