import Derived.Test.YtjgmccbjffncaaaDoorPLexZc
import Derived.Test.YtjgmccbjffncaaaDoorMiniYOtoYS
import Derived.Test.YtjgmccbjffncaaaDoorPaNtoPaO
import Derived.Test.YtjgmccbjffncaaaDoorMiniSQ
import Derived.Test.YtjgmccbjffncaaaDoorPaFtoPaG
import Derived.Test.YtjgmccbjffncaaaDoorPLexJtoPLexN
set_option maxHeartbeats 8000000
set_option maxRecDepth 100000
set_option linter.unusedSimpArgs false
namespace Go.Mini
section
open Nat (reduceLT reduceEqDiff)
open Go.Proofs
def ArmC (_ : Heap) (x : ArmT) (cs : List Value) : Prop := cs = x.cells
def ArmsV (h : Heap) (l : List ArmT) (v : Value) : Prop := SliceR 3 ArmC h l v
def LineC (h : Heap) (x : LineT) (cs : List Value) : Prop := ∃ av, cs = lineCells x av ∧ ArmsV h x.arms av
def LinesV (h : Heap) (l : List LineT) (v : Value) : Prop := SliceR 8 LineC h l v
def BlockC (h : Heap) (x : BlockT) (cs : List Value) : Prop := ∃ lv, cs = [.string (bs x.name), lv] ∧ LinesV h x.lines lv
def BlocksV (h : Heap) (l : List BlockT) (v : Value) : Prop := SliceR 2 BlockC h l v
theorem grows_arm : Grows ArmC := fun _ _ _ _ _ q => q
theorem ArmsV.more {h h' : Heap} {l : List ArmT} {v : Value} (s : ArmsV h l v) (hm : h.more h') : ArmsV h' l v := SliceR.more grows_arm s hm
theorem grows_line : Grows LineC := fun _ _ _ _ hm ⟨av, q1, q2⟩ => ⟨av, q1, q2.more hm⟩
theorem LinesV.more {h h' : Heap} {l : List LineT} {v : Value} (s : LinesV h l v) (hm : h.more h') : LinesV h' l v := SliceR.more grows_line s hm
theorem grows_block : Grows BlockC := fun _ _ _ _ hm ⟨av, q1, q2⟩ => ⟨av, q1, q2.more hm⟩
theorem BlocksV.more {h h' : Heap} {l : List BlockT} {v : Value} (s : BlocksV h l v) (hm : h.more h') : BlocksV h' l v := SliceR.more grows_block s hm
theorem OwnF.view {α : Type} {k : Nat} {R : Heap → α → List Value → Prop} {lo : Nat} {h : Heap} {v : Value} {e n : Nat} {cs : List Value} (o : OwnF lo h v e n cs) (l : List (α × List Value)) (hn : n = l.length) (hcs : cs = l.flatMap (·.2)) (hl : ∀ p ∈ l, p.2.length = k ∧ R h p.1 p.2) (hb : n ≤ maxLen) : SliceR k R h (l.map (·.1)) v := by
 refine ⟨l, rfl, hl, by omega, ?_⟩
 rcases o with ⟨rfl, h2, h3⟩ | ⟨b, _, h2, rfl, h4⟩
 ·left
  refine ⟨?_, .inl ⟨none, 0, rfl⟩⟩
  rw [h2] at hn
  exact List.length_eq_zero_iff.1 hn.symm
 ·right
  have hlen := elems_len l fun p hp => (hl p hp).1
  refine ⟨b, 0, none, n, ?_, by rw [hn], ?_⟩
  ·rintro rfl; simp at hn; omega
  ·rw [Heap.lds_of h4 (by simp only [grownRow, hcs]; omega)]
   simp only [grownRow, List.drop_zero, hcs]
   rw [← hlen, List.take_length]
theorem armsM.view {lo : Nat} {h : Heap} {p : LineT × Value} (o : armsM lo h p) (hb : p.1.arms.length ≤ maxLen) : ArmsV h p.1.arms p.2 := by
 have := OwnF.view (k := 3) (R := ArmC) o (p.1.arms.map fun a => (a, a.cells)) (by simp) (by rw [List.flatMap_map]) (by
  intro q hq
  obtain ⟨a, _, rfl⟩ := List.mem_map.1 hq
  exact ⟨rfl, rfl⟩) hb
 rw [List.map_map] at this
 have e : ((fun p : ArmT × List Value => p.1) ∘ fun a => (a, a.cells)) = id := rfl
 rw [e, List.map_id] at this
 exact this
def LineT.few (x : LineT) : Prop := x.arms.length ≤ maxLen
def BlockT.few (b : BlockT) : Prop := b.lines.length ≤ maxLen ∧ ∀ x ∈ b.lines, x.few
def fewB (bl : List BlockT) : Prop := bl.length ≤ maxLen ∧ ∀ b ∈ bl, b.few
theorem LinesM.view {lo : Nat} {h : Heap} {l : List LineT} {v : Value} (o : LinesM lo h l v) (hb : l.length ≤ maxLen) (hx : ∀ x ∈ l, x.few) : LinesV h l v := by
 obtain ⟨m, rfl, h2, h3⟩ := o
 rw [List.length_map] at hb
 have := OwnF.view (k := 8) (R := LineC) h2 (m.map fun p => (p.1, lineCells p.1 p.2)) (by simp) (by rw [List.flatMap_map]; rfl) (by
  intro q hq
  obtain ⟨a, ha, rfl⟩ := List.mem_map.1 hq
  exact ⟨rfl, a.2, rfl, (h3 a ha).view (hx a.1 (List.mem_map_of_mem ha))⟩) hb
 rw [List.map_map] at this
 exact this
theorem BlocksM.view {lo : Nat} {h : Heap} {l : List BlockT} {v : Value} (o : BlocksM lo h l v) (hx : fewB l) : BlocksV h l v := by
 obtain ⟨m, rfl, h2, h3⟩ := o
 obtain ⟨hb, hx⟩ := hx
 rw [List.length_map] at hb
 have := OwnF.view (k := 2) (R := BlockC) h2 (m.map fun p => (p.1, [.string (bs p.1.name), p.2])) (by simp) (by rw [List.flatMap_map]; rfl) (by
  intro q hq
  obtain ⟨a, ha, rfl⟩ := List.mem_map.1 hq
  have := hx a.1 (List.mem_map_of_mem ha)
  exact ⟨rfl, a.2, rfl, (h3 a ha).view this.1 this.2⟩) hb
 rw [List.map_map] at this
 exact this
theorem sz54 : (Tryd.prog.info? 54).map (·.size) = some 3 := by kernel_rfl
theorem agg54 : Program.agg Tryd.prog 54 = some true := by kernel_rfl
theorem sz49' : (Tryd.prog.info? 49).map (·.size) = some 8 := by kernel_rfl
theorem agg49' : Program.agg Tryd.prog 49 = some true := by kernel_rfl
def ArmT.val (x : ArmT) : Value := .agg x.cells.toArray
section
variable {h : Heap}
theorem ArmsV.at {l : List ArmT} {v : Value} (s : ArmsV h l v) {j : Nat} {x : ArmT} (hj : l[j]? = some x) : ∃ b k, b < h.next ∧ aindexAddr Tryd.prog 47 v (.int .i64 (j : Nat)) = some (.pointer (some ⟨b, k, none⟩)) ∧ ∀ H, h.more H → aload Tryd.prog H 54 (.pointer (some ⟨b, k, none⟩)) = some x.val := by
 obtain ⟨b, k, cs, h1, h2, h3, h4, h5⟩ := SliceR.idx s hj Tryd.underlying47 sz54
 refine ⟨b, k, h2, h1, fun H hm => ?_⟩
 rw [aload_agg agg54 sz54, hm.lds h3, h5]
 rfl
theorem LinesV.at {l : List LineT} {v : Value} (s : LinesV h l v) {j : Nat} {x : LineT} (hj : l[j]? = some x) : ∃ b k av, b < h.next ∧ aindexAddr Tryd.prog 40 v (.int .i64 (j : Nat)) = some (.pointer (some ⟨b, k, none⟩)) ∧ ArmsV h x.arms av ∧ ∀ H, h.more H → aload Tryd.prog H 49 (.pointer (some ⟨b, k, none⟩)) = some (lineVal x av) := by
 obtain ⟨b, k, cs, h1, h2, h3, h4, av, rfl, h5⟩ := SliceR.idx s hj Tryd.underlying40 sz49'
 refine ⟨b, k, av, h2, h1, h5, fun H hm => ?_⟩
 rw [aload_agg agg49' sz49', hm.lds h3]
 rfl
theorem BlocksV.at {l : List BlockT} {v : Value} (s : BlocksV h l v) {j : Nat} {x : BlockT} (hj : l[j]? = some x) : ∃ b k lv, b < h.next ∧ aindexAddr Tryd.prog 22 v (.int .i64 (j : Nat)) = some (.pointer (some ⟨b, k, none⟩)) ∧ LinesV h x.lines lv ∧ (∀ H, h.more H → aload Tryd.prog H 42 (.pointer (some ⟨b, k, none⟩)) = some (.agg #[.string (bs x.name), lv])) ∧
  ∀ H, h.more H → aload Tryd.prog H 40 (.pointer (some ⟨b, k + 1, none⟩)) = some lv := by
 obtain ⟨b, k, cs, h1, h2, h3, h4, av, rfl, h5⟩ := SliceR.idx s hj Tryd.underlying22 sz42
 refine ⟨b, k, av, h2, h1, h5, fun H hm => ?_, fun H hm => ?_⟩
 ·rw [aload_agg agg42 sz42, hm.lds h3]
  rfl
 ·have h6 := hm.lds h3
  obtain ⟨r, hr, h7⟩ := ob h6
  rw [lc40]
  split at h7
  case isFalse => cases h7
  have h8 := congrArg (fun l => l[1]?) (Option.some.inj h7)
  simp only [List.getElem?_take, List.getElem?_drop] at h8
  exact Heap.lf (Heap.row_some.1 hr) h8
theorem ArmsV.len {l : List ArmT} {v : Value} (s : ArmsV h l v) (H : Heap) : alen Tryd.prog H 47 v = some (.int .i64 (l.length : Nat)) := SliceR.len s Tryd.underlying47 H
theorem LinesV.len {l : List LineT} {v : Value} (s : LinesV h l v) (H : Heap) : alen Tryd.prog H 40 v = some (.int .i64 (l.length : Nat)) := SliceR.len s Tryd.underlying40 H
theorem BlocksV.len {l : List BlockT} {v : Value} (s : BlocksV h l v) (H : Heap) : alen Tryd.prog H 22 v = some (.int .i64 (l.length : Nat)) := SliceR.len s Tryd.underlying22 H
end
theorem neq_nat (a b : Nat) : ((a : Int) != (b : Int)) = decide (a ≠ b) := by
 by_cases h : a = b
 ·subst h; simp
 ·have : ¬ (a : Int) = b := by omega
  simp [bne, this, h]
theorem neq_int (a b : Int) : (a != b) = decide (a ≠ b) := by
 by_cases h : a = b
 ·subst h; simp
 ·simp [bne, h]
theorem neq_txt (a b : List UInt8) : abinS .neq (bs a) (bs b) = some (.bool (decide (a ≠ b))) := by
 rw [neq_bs]
 congr 2
 by_cases h : a = b <;> simp [h]
theorem arm_eq (x y : ArmT) : aeq Tryd.prog 10000 54 x.val y.val = some (decide (x = y)) := by
 have g54 : Tryd.prog.stoodInHeld 54 = false := by kernel_rfl
 have g52 : Tryd.prog.stoodInHeld 52 = false := by kernel_rfl
 have e3 : ∀ a b : Int, aeq Tryd.prog 9998 3 (.int .i64 a) (.int .i64 b) = some (decide (a = b)) := by
  intro a b; rw [show 9998 = 9997 + 1 from rfl, aeq]; simp only [Tryd.underlying3, aeq0, if_true]; rfl
 have e9 : ∀ a b : List UInt8, aeq Tryd.prog 9998 9 (.string (bs a)) (.string (bs b)) = some (decide (a = b)) := by
  intro a b; rw [show 9998 = 9997 + 1 from rfl, aeq]; simp only [Tryd.underlying9, aeq0, strEq_bs]
 have e9' : ∀ a b : List UInt8, aeq Tryd.prog 9999 9 (.string (bs a)) (.string (bs b)) = some (decide (a = b)) := by
  intro a b; rw [show 9999 = 9998 + 1 from rfl, aeq]; simp only [Tryd.underlying9, aeq0, strEq_bs]
 have ap : ∀ (ty : TypeId) (w : List Value) (k : Nat) (v : Value), Program.agg Tryd.prog ty = some false → (Tryd.prog.info? ty).isSome = true → w[k]? = some v → apart Tryd.prog ty w.toArray k = some v := by
  intro ty w k v h1 h2 h3
  obtain ⟨i, hi⟩ := Option.isSome_iff_exists.1 h2
  unfold apart
  rw [h1, hi]
  simpa using h3
 have i3 : (Tryd.prog.info? 3).isSome = true := by kernel_rfl
 have i9 : (Tryd.prog.info? 9).isSome = true := by kernel_rfl
 have a52 : ∀ w : ArmT, apart Tryd.prog 52 w.cells.toArray 0 = some (.agg #[.int .i64 w.kind, .string (bs w.text)]) := by
  intro w
  have h1 : Program.agg Tryd.prog 52 = some true := by kernel_rfl
  obtain ⟨i, hi, hs⟩ := info_some (show (Tryd.prog.info? 52).map (·.size) = some 2 by kernel_rfl)
  unfold apart
  rw [h1, hi]
  simp only [hs]
  rfl
 have e52 : aeq Tryd.prog 9999 52 (.agg #[.int .i64 x.kind, .string (bs x.text)]) (.agg #[.int .i64 y.kind, .string (bs y.text)]) = some (decide (x.kind = y.kind ∧ x.text = y.text)) := by
  rw [show 9999 = 9998 + 1 from rfl, aeq]
  simp only [Tryd.underlying52, g52, Bool.false_eq_true, if_false]
  simp only [aeqs, ap 3 [.int .i64 x.kind, .string (bs x.text)] 0 (.int .i64 x.kind) agg3 i3 rfl, ap 3 [.int .i64 y.kind, .string (bs y.text)] 0 (.int .i64 y.kind) agg3 i3 rfl, ap 9 [.int .i64 x.kind, .string (bs x.text)] 1 (.string (bs x.text)) agg9 i9 rfl, ap 9 [.int .i64 y.kind, .string (bs y.text)] 1 (.string (bs y.text)) agg9 i9 rfl, e3, e9]
  by_cases h1 : x.kind = y.kind <;> by_cases h2 : x.text = y.text <;> simp [h1, h2]
 rw [show 10000 = 9999 + 1 from rfl, aeq]
 unfold ArmT.val
 simp only [Tryd.underlying54, g54, Bool.false_eq_true, if_false]
 simp only [aeqs, a52, e52, ap 9 x.cells 2 (.string (bs x.to)) agg9 i9 rfl, ap 9 y.cells 2 (.string (bs y.to)) agg9 i9 rfl, e9']
 obtain ⟨xk, xt, xo⟩ := x
 obtain ⟨yk, yt, yo⟩ := y
 by_cases h1 : xk = yk <;> by_cases h2 : xt = yt <;> by_cases h3 : xo = yo <;> simp [h1, h2, h3]
theorem arm_neq (x y : ArmT) : abin Tryd.prog .neq 54 x.val y.val = some (.bool (decide (x ≠ y))) := by
 have g : Program.eqGuardType Tryd.prog Tryd.prog.depth 54 = false := by kernel_rfl
 have h := arm_eq x y
 unfold ArmT.val at h ⊢
 unfold abin
 simp only [g, Bool.false_eq_true, if_false, eqOp, h, Option.map_some]
 congr 2
 by_cases h : x = y <;> simp [h]
def LineT.heads (x : LineT) : Int × List UInt8 × List UInt8 × Int × List UInt8 × Int × List UInt8 × Nat := (x.op, x.text, x.name, x.n, x.to, x.wait, x.late, x.arms.length)
theorem line_eq (x y : LineT) : x = y ↔ x.heads = y.heads ∧ x.arms = y.arms := by
 constructor
 ·rintro rfl; exact ⟨rfl, rfl⟩
 ·rintro ⟨h1, h2⟩
  cases x; cases y
  simp only [LineT.heads, Prod.mk.injEq] at h1
  simp_all
theorem sameLine_spec {E : EXT} (G : Nat) (h : Heap) (x y : LineT) (av bv : Value) (ha : ArmsV h x.arms av) (hb : ArmsV h y.arms bv) :
  Does Tryd.prog G E 28 [lineVal x av, lineVal y bv] h fun r h' => r = .returned (.bool (decide (x = y))) ∧ h.more h' := by
 have hbox : ∀ (Hx : Heap) (z : LineT) (zv : Value), abox Hx 49 (lineVal z zv) = (Hx.new, Hx.alloc (lineRow z zv)) := fun _ _ _ => rfl
 refine Does.body Tryd.func28 rfl ?_
 have hn : enterF Tryd.f28 [lineVal x av, lineVal y bv] = ⟨80, [(0, lineVal x av), (1, lineVal y bv)], []⟩ := rfl
 rw [hn]; clear hn
 repeat apply Wq
 refine Wp.r (Aq hbox @Heap.na) ?_
 have m1 := (Heap.ma h (lineRow x av)).trans (Heap.ma (h.alloc (lineRow x av)) (lineRow y bv))
 have g2 : ((h.alloc (lineRow x av)).alloc (lineRow y bv)).get h.next = some (lineRow x av) := by rw [Heap.go _ _ (by simp)]; exact Heap.gn h _
 have g3 : ((h.alloc (lineRow x av)).alloc (lineRow y bv)).get (h.next + 1) = some (lineRow y bv) := Heap.gn (h.alloc (lineRow x av)) _
 generalize (h.alloc (lineRow x av)).alloc (lineRow y bv) = H at m1 g2 g3 ⊢
 replace ha := ha.more m1
 replace hb := hb.more m1
 have lb := And.intro ln0 (And.intro ln1 (And.intro ln2 (And.intro ln3 (And.intro ln4 (And.intro ln5 (And.intro ln6 (And.intro ln7 (And.intro neq_int neq_txt))))))))
 have lz := And.intro (Heap.lf g2 (k := 0) rfl) (And.intro (Heap.lf g3 (k := 0) rfl) (And.intro (Heap.lf g2 (k := 1) rfl) (And.intro (Heap.lf g3 (k := 1) rfl) (And.intro (Heap.lf g2 (k := 2) rfl) (And.intro (Heap.lf g3 (k := 2) rfl) (And.intro (Heap.lf g2 (k := 3) rfl) (And.intro (Heap.lf g3 (k := 3) rfl) (And.intro (Heap.lf g2 (k := 4) rfl) (And.intro (Heap.lf g3 (k := 4) rfl) (And.intro (Heap.lf g2 (k := 5) rfl) (And.intro (Heap.lf g3 (k := 5) rfl) (And.intro (Heap.lf g2 (k := 6) rfl) (And.intro (Heap.lf g3 (k := 6) rfl) (And.intro (Heap.lf g2 (k := 7) rfl) (Heap.lf g3 (k := 7) rfl)))))))))))))))
 by_cases h0 : x.op ≠ y.op
 ·repeat apply Wq
  refine Wp.r (Aq lb (Aq lz (Aq @lc3 (Aq @lc9 (Aq @lc47 (decide_eq_true h0)))))) ?_
  repeat apply Wq
  refine Wp.cT ?_
  repeat apply Wq
  refine Wp.rS ?_
  repeat apply Wq
  refine Wp.ret ?_
  refine ⟨rfl, rfl, _, rfl, ?_, m1⟩
  rw [decide_eq_false (fun q => h0 (by rw [q]))]
 replace h0 := Classical.not_not.1 h0
 by_cases h1 : x.text ≠ y.text
 ·repeat apply Wq
  refine Wp.r (Aq lb (Aq lz (Aq @lc3 (Aq @lc9 (Aq @lc47 (Aq (decide_eq_false (not_not_intro h0)) (decide_eq_true h1))))))) ?_
  repeat apply Wq
  refine Wp.cT ?_
  repeat apply Wq
  refine Wp.rS ?_
  repeat apply Wq
  refine Wp.ret ?_
  refine ⟨rfl, rfl, _, rfl, ?_, m1⟩
  rw [decide_eq_false (fun q => h1 (by rw [q]))]
 replace h1 := Classical.not_not.1 h1
 by_cases h2 : x.name ≠ y.name
 ·repeat apply Wq
  refine Wp.r (Aq lb (Aq lz (Aq @lc3 (Aq @lc9 (Aq @lc47 (Aq (decide_eq_false (not_not_intro h0)) (Aq (decide_eq_false (not_not_intro h1)) (decide_eq_true h2)))))))) ?_
  repeat apply Wq
  refine Wp.cT ?_
  repeat apply Wq
  refine Wp.rS ?_
  repeat apply Wq
  refine Wp.ret ?_
  refine ⟨rfl, rfl, _, rfl, ?_, m1⟩
  rw [decide_eq_false (fun q => h2 (by rw [q]))]
 replace h2 := Classical.not_not.1 h2
 by_cases h3 : x.n ≠ y.n
 ·repeat apply Wq
  refine Wp.r (Aq lb (Aq lz (Aq @lc3 (Aq @lc9 (Aq @lc47 (Aq (decide_eq_false (not_not_intro h0)) (Aq (decide_eq_false (not_not_intro h1)) (Aq (decide_eq_false (not_not_intro h2)) (decide_eq_true h3))))))))) ?_
  repeat apply Wq
  refine Wp.cT ?_
  repeat apply Wq
  refine Wp.rS ?_
  repeat apply Wq
  refine Wp.ret ?_
  refine ⟨rfl, rfl, _, rfl, ?_, m1⟩
  rw [decide_eq_false (fun q => h3 (by rw [q]))]
 replace h3 := Classical.not_not.1 h3
 by_cases h4 : x.to ≠ y.to
 ·repeat apply Wq
  refine Wp.r (Aq lb (Aq lz (Aq @lc3 (Aq @lc9 (Aq @lc47 (Aq (decide_eq_false (not_not_intro h0)) (Aq (decide_eq_false (not_not_intro h1)) (Aq (decide_eq_false (not_not_intro h2)) (Aq (decide_eq_false (not_not_intro h3)) (decide_eq_true h4)))))))))) ?_
  repeat apply Wq
  refine Wp.cT ?_
  repeat apply Wq
  refine Wp.rS ?_
  repeat apply Wq
  refine Wp.ret ?_
  refine ⟨rfl, rfl, _, rfl, ?_, m1⟩
  rw [decide_eq_false (fun q => h4 (by rw [q]))]
 replace h4 := Classical.not_not.1 h4
 by_cases h5 : x.wait ≠ y.wait
 ·repeat apply Wq
  refine Wp.r (Aq lb (Aq lz (Aq @lc3 (Aq @lc9 (Aq @lc47 (Aq (decide_eq_false (not_not_intro h0)) (Aq (decide_eq_false (not_not_intro h1)) (Aq (decide_eq_false (not_not_intro h2)) (Aq (decide_eq_false (not_not_intro h3)) (Aq (decide_eq_false (not_not_intro h4)) (decide_eq_true h5))))))))))) ?_
  repeat apply Wq
  refine Wp.cT ?_
  repeat apply Wq
  refine Wp.rS ?_
  repeat apply Wq
  refine Wp.ret ?_
  refine ⟨rfl, rfl, _, rfl, ?_, m1⟩
  rw [decide_eq_false (fun q => h5 (by rw [q]))]
 replace h5 := Classical.not_not.1 h5
 by_cases h6 : x.late ≠ y.late
 ·repeat apply Wq
  refine Wp.r (Aq lb (Aq lz (Aq @lc3 (Aq @lc9 (Aq @lc47 (Aq (decide_eq_false (not_not_intro h0)) (Aq (decide_eq_false (not_not_intro h1)) (Aq (decide_eq_false (not_not_intro h2)) (Aq (decide_eq_false (not_not_intro h3)) (Aq (decide_eq_false (not_not_intro h4)) (Aq (decide_eq_false (not_not_intro h5)) (decide_eq_true h6)))))))))))) ?_
  repeat apply Wq
  refine Wp.cT ?_
  repeat apply Wq
  refine Wp.rS ?_
  repeat apply Wq
  refine Wp.ret ?_
  refine ⟨rfl, rfl, _, rfl, ?_, m1⟩
  rw [decide_eq_false (fun q => h6 (by rw [q]))]
 replace h6 := Classical.not_not.1 h6
 by_cases h7 : (x.arms.length : Int) ≠ (y.arms.length : Int)
 ·repeat apply Wq
  refine Wp.r (Aq lb (Aq lz (Aq @lc3 (Aq @lc9 (Aq @lc47 (Aq (decide_eq_false (not_not_intro h0)) (Aq (decide_eq_false (not_not_intro h1)) (Aq (decide_eq_false (not_not_intro h2)) (Aq (decide_eq_false (not_not_intro h3)) (Aq (decide_eq_false (not_not_intro h4)) (Aq (decide_eq_false (not_not_intro h5)) (Aq (decide_eq_false (not_not_intro h6)) (Aq ha.len (Aq hb.len (decide_eq_true h7))))))))))))))) ?_
  repeat apply Wq
  refine Wp.cT ?_
  repeat apply Wq
  refine Wp.rS ?_
  repeat apply Wq
  refine Wp.ret ?_
  refine ⟨rfl, rfl, _, rfl, ?_, m1⟩
  rw [decide_eq_false (fun q => h7 (by rw [q]))]
 replace h7 := Classical.not_not.1 h7
 repeat apply Wq
 refine Wp.r (Aq lb (Aq lz (Aq @lc3 (Aq @lc9 (Aq @lc47 (Aq (decide_eq_false (not_not_intro h0)) (Aq (decide_eq_false (not_not_intro h1)) (Aq (decide_eq_false (not_not_intro h2)) (Aq (decide_eq_false (not_not_intro h3)) (Aq (decide_eq_false (not_not_intro h4)) (Aq (decide_eq_false (not_not_intro h5)) (Aq (decide_eq_false (not_not_intro h6)) (Aq ha.len (Aq hb.len (decide_eq_false (not_not_intro h7)))))))))))))))) ?_
 repeat apply Wq
 refine Wp.cF ?_
 repeat apply Wq
 refine Wp.skip ?_
 replace h7 : x.arms.length = y.arms.length := by omega
 have hh : x.heads = y.heads := by unfold LineT.heads; rw [h0, h1, h2, h3, h4, h5, h6, h7]
 repeat apply Wq
 refine Wp.rS ?_
 repeat apply Wq
 refine Wp.block ?_
 refine Wp.loopI (X := Nat) (fun i => [(2, .pointer (some ⟨h.next, 0, none⟩)), (3, .pointer (some ⟨h.next + 1, 0, none⟩)), (5, .int .i64 i)]) (fun _ => H)
  (fun i => i ≤ x.arms.length ∧ decide (x = y) = decide (x.arms.drop i = y.arms.drop i)) (fun i => x.arms.length - i) 0 ⟨Nat.zero_le _, by rw [List.drop_zero, List.drop_zero]; exact decide_eq_decide.2 ((line_eq x y).trans ⟨fun q => q.2, fun q => ⟨hh, q⟩⟩)⟩ ⟨rfl, rfl, rfl, trivial⟩ rfl ?_
 rintro i ⟨hle, hi⟩
 have hmax := SliceR.le ha
 by_cases hlt : (i : Int) < (x.arms.length : Int)
 ·repeat apply Wq
  refine Wp.r (Aq @ln5 (Aq @lc47 (Aq (Heap.lf g2 (k := 5) rfl) (Aq ha.len (decide_eq_true hlt))))) ?_
  repeat apply Wq
  refine Wp.cT ?_
  repeat apply Wq
  refine Wp.skip ?_
  repeat apply Wq
  refine Wp.block ?_
  obtain ⟨t, ht⟩ : ∃ t, x.arms[i]? = some t := ⟨_, List.getElem?_eq_getElem (by omega)⟩
  obtain ⟨u, hu⟩ : ∃ t, y.arms[i]? = some t := ⟨_, List.getElem?_eq_getElem (by omega)⟩
  obtain ⟨b, k, _, hp, ta⟩ := ha.at ht
  obtain ⟨c, j, _, hq, tb⟩ := hb.at hu
  have hd : x.arms.drop i = t :: x.arms.drop (i + 1) := by
   rw [List.drop_eq_getElem_cons (by omega)]
   congr 1
   rw [List.getElem?_eq_getElem (by omega)] at ht
   exact Option.some.inj ht
  have hd2 : y.arms.drop i = u :: y.arms.drop (i + 1) := by
   rw [List.drop_eq_getElem_cons (by omega)]
   congr 1
   rw [List.getElem?_eq_getElem (by omega)] at hu
   exact Option.some.inj hu
  rw [hd, hd2] at hi
  have hw1 : IntKind.i64.wrap ((i : Int) + 1) = ((i + 1 : Nat) : Int) := by rw [wrap_in (by omega) (by unfold maxLen at hmax; omega)]; omega
  by_cases htu : t = u
  ·repeat apply Wq
   refine Wp.runSD mixed (by kernel_rfl) (by simp only [runSD, stepOD, stepWD, stepVD, isLoud, isPure, isReader, decide_true, bsb, bsg, reduceLT, reduceEqDiff, reduceCtorEq, ln5, lc47, Heap.lf g2 (k := 5) rfl, Heap.lf g3 (k := 5) rfl, hp, hq, ta H (Heap.mr H), tb H (Heap.mr H), arm_neq, decide_eq_false (not_not_intro htu)] <;> exact rfl) ?_
   repeat apply Wq
   refine Wp.cF ?_
   repeat apply Wq
   refine Wp.skip ?_
   repeat apply Wq
   refine Wp.r hw1 ?_
   refine ⟨i + 1, _, ⟨by omega, ?_⟩, by omega, rfl, ⟨rfl, rfl, rfl, trivial⟩, rfl, rfl⟩
   rw [hi]
   exact decide_eq_decide.2 (by simp [htu])
  ·repeat apply Wq
   refine Wp.runSD mixed (by kernel_rfl) (by simp only [runSD, stepOD, stepWD, stepVD, isLoud, isPure, isReader, decide_true, bsb, bsg, reduceLT, reduceEqDiff, reduceCtorEq, ln5, lc47, Heap.lf g2 (k := 5) rfl, Heap.lf g3 (k := 5) rfl, hp, hq, ta H (Heap.mr H), tb H (Heap.mr H), arm_neq, decide_eq_true (show t ≠ u from htu)] <;> exact rfl) ?_
   repeat apply Wq
   refine Wp.cT ?_
   repeat apply Wq
   refine Wp.rS ?_
   repeat apply Wq
   refine Wp.ret ?_
   refine ⟨rfl, rfl, _, rfl, ?_, m1⟩
   rw [hi, decide_eq_false (by simp [htu])]
 ·repeat apply Wq
  refine Wp.r (Aq @ln5 (Aq @lc47 (Aq (Heap.lf g2 (k := 5) rfl) (Aq ha.len (decide_eq_false hlt))))) ?_
  repeat apply Wq
  refine Wp.cF ?_
  repeat apply Wq
  refine Wp.exit ?_
  simp only [bx, Nat.reduceEqDiff]
  repeat apply Wq
  refine Wp.rS ?_
  repeat apply Wq
  refine Wp.ret ?_
  refine ⟨rfl, rfl, _, rfl, ?_, m1⟩
  rw [hi, List.drop_eq_nil_of_le (by omega), List.drop_eq_nil_of_le (by omega)]
  rfl
end
section
def Alike (t t' : Tok) : Prop := t'.kind = t.kind ∧ t'.text = t.text ∧ t'.n = t.n
def Near (o o' : List Tok) (d : Nat) : Prop := ∀ a t, o[a]? = some t → ∃ t', o'[d + a]? = some t' ∧ Alike t t'
theorem opOf_lt {o : List Tok} {e a : Nat} (h : opOf (nextS o e a) ≠ 0) : a < o.length := by
 rcases Nat.lt_or_ge a o.length with q | q
 ·exact q
 ·exfalso
  have hn : nextS o e a = ⟨0, [], 0, e⟩ := by unfold nextS; rw [List.getElem?_eq_none q]; rfl
  rw [hn] at h
  exact h rfl
section
variable {o o' : List Tok} {d e e' : Nat} (nr : Near o o' d)
include nr
theorem Near.next {a : Nat} (ha : a < o.length) : Alike (nextS o e a) (nextS o' e' (d + a)) := by
 obtain ⟨t', h1, h2⟩ := nr a _ (List.getElem?_eq_getElem ha)
 unfold nextS
 rw [h1, List.getElem?_eq_getElem ha]
 exact h2
theorem Near.take {k a a' : Nat} {t : Tok} (hk : k ≠ 0) (h : takeS o e k a = .ok (t, a')) : ∃ t', takeS o' e' k (d + a) = .ok (t', d + a') ∧ Alike t t' := by
 obtain ⟨h1, h2⟩ := takeS_le h hk
 have hn := nr.next (e := e) (e' := e') h2
 unfold takeS at h ⊢
 split at h
 ·rename_i hq
  cases h
  rw [hn.1, if_pos hq]
  exact ⟨_, rfl, hn⟩
 ·cases h
theorem Near.is {k a : Nat} (w : List UInt8) (ha : a < o.length) : isS o' e' k w (d + a) = isS o e k w a := by
 have hn := nr.next (e := e) (e' := e') ha
 unfold isS
 rw [hn.1, hn.2.1]
theorem Near.must {k a a' : Nat} {w : List UInt8} {u : Unit} (hk : k ≠ 0) (h : mustS o e k w a = .ok (u, a')) : mustS o' e' k w (d + a) = .ok ((), d + a') := by
 obtain ⟨h1, h2⟩ := mustS_le h hk
 obtain ⟨h3, h4⟩ := mustS_ok h
 unfold mustS
 rw [nr.is (e := e) w h2, if_pos h4, h3]
 rfl
theorem Near.name {k a a' : Nat} {s : List UInt8} (hk : k ≠ 0) (h : nameRS o e k a = .ok (s, a')) : nameRS o' e' k (d + a) = .ok (s, d + a') := by
 unfold nameRS at h ⊢
 cases ht : takeS o e k a with
 | error x => rw [ht] at h; cases h
 | ok ta =>
  obtain ⟨t, b⟩ := ta
  rw [ht] at h
  obtain ⟨t', q1, _, q2, _⟩ := nr.take (e' := e') hk ht
  rw [q1]
  simp only [] at h ⊢
  rw [q2]
  split at h
  ·rename_i hq
   cases h
   rw [if_pos hq]
  ·cases h
theorem Near.number {lo hi a a' n : Nat} (h : numberS o e lo hi a = .ok (n, a')) : numberS o' e' lo hi (d + a) = .ok (n, d + a') := by
 unfold numberS at h ⊢
 cases ht : takeS o e 3 a with
 | error x => rw [ht] at h; cases h
 | ok ta =>
  obtain ⟨t, b⟩ := ta
  rw [ht] at h
  obtain ⟨t', q1, _, _, q2⟩ := nr.take (e' := e') (by decide) ht
  rw [q1]
  simp only [] at h ⊢
  rw [q2]
  split at h
  ·rename_i hq
   cases h
   rw [if_pos hq]
  ·cases h
theorem Near.leads {a a' : Nat} {s : List UInt8} (h : leadsS o e a = .ok (s, a')) : leadsS o' e' (d + a) = .ok (s, d + a') := by
 unfold leadsS at h ⊢
 cases ht : mustS o e 1 gotoB a with
 | error x => rw [ht] at h; cases h
 | ok ta =>
  obtain ⟨u, b⟩ := ta
  rw [ht] at h
  rw [nr.must (e' := e') (by decide) ht]
  exact nr.name (by decide) h
theorem Near.pattern {a a' : Nat} {x : Nat × List UInt8} (h : patternS o e a = .ok (x, a')) : patternS o' e' (d + a) = .ok (x, d + a') := by
 have ha : a < o.length := by have := patternS_le h; omega
 have hk : patKind o' e' (d + a) = ((patKind o e a).1, d + (patKind o e a).2) := by
  unfold patKind
  rw [nr.is (e := e) globB ha, nr.is (e := e) reB ha]
  split <;> (try split) <;> rfl
 unfold patternS at h ⊢
 rw [hk]
 cases ht : takeS o e 4 (patKind o e a).2 with
 | error x => rw [ht] at h; cases h
 | ok ta =>
  obtain ⟨t, b⟩ := ta
  rw [ht] at h
  obtain ⟨t', q1, _, q2, _⟩ := nr.take (e' := e') (by decide) ht
  simp only [] at h ⊢
  rw [q1]
  simp only []
  rw [q2]
  split at h
  ·rename_i hq
   cases h
   rw [if_pos hq]
  ·cases h
theorem Near.arms : ∀ (f : Nat) (x : LineT) (a : Nat) (y : LineT) (a' : Nat), armsL o e f x a = .ok (y, a') → armsL o' e' f x (d + a) = .ok (y, d + a')
 | 0, _, _, _, _, h => by cases h
 | f + 1, x, a, y, a', h => by
  have ha : a < o.length := by
   rcases Nat.lt_or_ge a o.length with q | q
   ·exact q
   ·exfalso
    have hn : nextS o e a = ⟨0, [], 0, e⟩ := by unfold nextS; rw [List.getElem?_eq_none q]; rfl
    have i1 : isS o e 1 timeoutB a = false := by unfold isS; rw [hn]; rfl
    have i2 : isS o e 5 [125] a = false := by unfold isS; rw [hn]; rfl
    rw [armsL, i1, i2, hn] at h
    simp only [Bool.false_eq_true, and_false, if_false] at h
    rw [if_pos (.inr rfl)] at h
    cases h
  have hn := nr.next (e := e) (e' := e') ha
  have hb : begins (nextS o' e' (d + a)) = begins (nextS o e a) := by unfold begins; rw [hn.1, hn.2.1]
  rw [armsL] at h ⊢
  rw [nr.is (e := e) timeoutB ha, nr.is (e := e) [125] ha, hb]
  split at h
  ·rename_i hq
   rw [if_pos hq]
   cases h1 : numberS o e 1 1000 (a + 1) with
   | error z => rw [h1] at h; cases h
   | ok na =>
    obtain ⟨n, a1⟩ := na
    rw [h1] at h
    simp only [] at h
    cases h2 : leadsS o e a1 with
    | error z => rw [h2] at h; cases h
    | ok la =>
     obtain ⟨l, a2⟩ := la
     rw [h2] at h
     simp only [] at h
     cases h3 : takeS o e 6 a2 with
     | error z => rw [h3] at h; cases h
     | ok ta =>
      obtain ⟨t, a3⟩ := ta
      rw [h3] at h
      simp only [] at h
      obtain ⟨t', q3, _⟩ := nr.take (e' := e') (by decide) h3
      have e1 : d + a + 1 = d + (a + 1) := by omega
      rw [e1, nr.number h1]
      simp only []
      rw [nr.leads h2]
      simp only []
      rw [q3]
      exact Near.arms f _ _ _ _ h
  ·rename_i hq
   rw [if_neg hq]
   split at h
   ·rename_i hq2
    rw [if_pos hq2]
    cases h
    rw [Nat.add_assoc]
   ·rename_i hq2
    rw [if_neg hq2]
    split at h
    ·cases h
    ·rename_i hq3
     rw [if_neg hq3]
     split at h
     ·cases h
     ·rename_i hq4
      rw [if_neg hq4]
      cases h1 : patternS o e a with
      | error z => rw [h1] at h; cases h
      | ok na =>
       obtain ⟨⟨k, s⟩, a1⟩ := na
       rw [h1] at h
       simp only [] at h
       cases h2 : leadsS o e a1 with
       | error z => rw [h2] at h; cases h
       | ok la =>
        obtain ⟨l, a2⟩ := la
        rw [h2] at h
        simp only [] at h
        cases h3 : takeS o e 6 a2 with
        | error z => rw [h3] at h; cases h
        | ok ta =>
         obtain ⟨t, a3⟩ := ta
         rw [h3] at h
         simp only [] at h
         obtain ⟨t', q3, _⟩ := nr.take (e' := e') (by decide) h3
         rw [nr.pattern h1]
         simp only []
         rw [nr.leads h2]
         simp only []
         rw [q3]
         exact Near.arms f _ _ _ _ h
theorem Near.expect {x y : LineT} {a a' : Nat} (h : armsS o e x a = .ok (y, a')) : armsS o' e' x (d + a) = .ok (y, d + a') := by
 unfold armsS at h ⊢
 cases h1 : mustS o e 5 [123] a with
 | error z => rw [h1] at h; cases h
 | ok ua =>
  obtain ⟨u, a1⟩ := ua
  rw [h1] at h
  simp only [] at h
  cases h2 : takeS o e 6 a1 with
  | error z => rw [h2] at h; cases h
  | ok ta =>
   obtain ⟨t, a2⟩ := ta
   rw [h2] at h
   obtain ⟨t', q2, _⟩ := nr.take (e' := e') (by decide) h2
   rw [nr.must (by decide) h1]
   simp only []
   rw [q2]
   exact nr.arms _ _ _ _ _ h
theorem Near.body {op : Nat} {y : LineT} {a a' : Nat} (h : bodyS o e op a = .ok (y, a')) : bodyS o' e' op (d + a) = .ok (y, d + a') := by
 unfold bodyS at h ⊢
 split at h
 ·cases h1 : takeS o e 4 a with
  | error z => rw [h1] at h; cases h
  | ok ta =>
   obtain ⟨t, a1⟩ := ta
   rw [h1] at h
   obtain ⟨t', q1, _, q2, _⟩ := nr.take (e' := e') (by decide) h1
   cases h
   simp only []
   rw [q1]
   simp only []
   rw [q2]
 ·cases h1 : nameRS o e 1 a with
  | error z => rw [h1] at h; cases h
  | ok na =>
   obtain ⟨m, a1⟩ := na
   rw [h1] at h
   simp only [] at h
   cases h2 : numberS o e 0 255 a1 with
   | error z => rw [h2] at h; cases h
   | ok nb =>
    obtain ⟨n, a2⟩ := nb
    rw [h2] at h
    cases h
    simp only []
    rw [nr.name (by decide) h1]
    simp only []
    rw [nr.number h2]
 ·cases h1 : nameRS o e 1 a with
  | error z => rw [h1] at h; cases h
  | ok na =>
   obtain ⟨m, a1⟩ := na
   rw [h1] at h
   cases h
   simp only []
   rw [nr.name (by decide) h1]
 ·cases h1 : nameRS o e 1 a with
  | error z => rw [h1] at h; cases h
  | ok na =>
   obtain ⟨m, a1⟩ := na
   rw [h1] at h
   simp only [] at h
   cases h2 : mustS o e 5 [60] a1 with
   | error z => rw [h2] at h; cases h
   | ok nb =>
    obtain ⟨u, a2⟩ := nb
    rw [h2] at h
    simp only [] at h
    cases h3 : numberS o e 0 255 a2 with
    | error z => rw [h3] at h; cases h
    | ok nb =>
     obtain ⟨n, a3⟩ := nb
     rw [h3] at h
     simp only [] at h
     cases h4 : leadsS o e a3 with
     | error z => rw [h4] at h; cases h
     | ok la =>
      obtain ⟨l, a4⟩ := la
      rw [h4] at h
      cases h
      simp only []
      rw [nr.name (by decide) h1]
      simp only []
      rw [nr.must (by decide) h2]
      simp only []
      rw [nr.number h3]
      simp only []
      rw [nr.leads h4]
 ·cases h1 : nameRS o e 1 a with
  | error z => rw [h1] at h; cases h
  | ok na =>
   obtain ⟨m, a1⟩ := na
   rw [h1] at h
   cases h
   simp only []
   rw [nr.name (by decide) h1]
 ·cases h1 : numberS o e 0 255 a with
  | error z => rw [h1] at h; cases h
  | ok nb =>
   obtain ⟨n, a1⟩ := nb
   rw [h1] at h
   cases h
   simp only []
   rw [nr.number h1]
 ·exact nr.expect h
theorem Near.line {r r' a a' : Nat} {y : LineT} (h : lineS o e r a = .ok (y, a')) (hr : r' + 1 ≤ 128) : lineS o' e' r' (d + a) = .ok (y, d + a') := by
 unfold lineS at h ⊢
 split at h
 ·cases h
 rename_i h0
 have ha := opOf_lt h0
 have hn := nr.next (e := e) (e' := e') ha
 have hop : opOf (nextS o' e' (d + a)) = opOf (nextS o e a) := by unfold opOf; rw [hn.1, hn.2.1]
 rw [hop, if_neg h0, if_neg (by omega)]
 split at h
 ·cases h
 cases h1 : bodyS o e (opOf (nextS o e a)) (a + 1) with
 | error z => rw [h1] at h; cases h
 | ok ya =>
  obtain ⟨x, a1⟩ := ya
  rw [h1] at h
  simp only [] at h
  cases h2 : takeS o e 6 a1 with
  | error z => rw [h2] at h; cases h
  | ok ta =>
   obtain ⟨t, a2⟩ := ta
   rw [h2] at h
   cases h
   obtain ⟨t', q2, _⟩ := nr.take (e' := e') (by decide) h2
   rw [Nat.add_assoc, nr.body h1]
   simp only []
   rw [q2]
end
theorem lineS_le {o : List Tok} {e r a a' : Nat} {y : LineT} (h : lineS o e r a = .ok (y, a')) : a' ≤ o.length := by
 unfold lineS at h
 split at h
 ·cases h
 split at h
 ·cases h
 cases h1 : bodyS o e (opOf (nextS o e a)) (a + 1) with
 | error z => rw [h1] at h; cases h
 | ok ya =>
  obtain ⟨x, a1⟩ := ya
  rw [h1] at h
  simp only [] at h
  cases h2 : takeS o e 6 a1 with
  | error z => rw [h2] at h; cases h
  | ok ta =>
   obtain ⟨t, a2⟩ := ta
   rw [h2] at h
   cases h
   have := takeS_le h2 (by decide)
   omega
theorem linesL_ok {o : List Tok} {e : Nat} : ∀ {f r a : Nat} {l l2 : List LineT} {r2 a2 : Nat}, linesL o e f r a l = .ok (l2, r2, a2) → a2 ≤ o.length ∧ r2 + l.length = r + l2.length ∧ r < r2
 | 0, _, _, _, _, _, _, h => by cases h
 | f + 1, r, a, l, l2, r2, a2, h => by
  rw [linesL] at h
  cases h1 : lineS o e r a with
  | error z => rw [h1] at h; cases h
  | ok ya =>
   obtain ⟨x, a1⟩ := ya
   rw [h1] at h
   simp only [] at h
   split at h
   ·cases h
    refine ⟨lineS_le h1, ?_, by omega⟩
    rw [List.length_append, List.length_singleton]; omega
   ·obtain ⟨q1, q2, q3⟩ := linesL_ok h
    rw [List.length_append, List.length_singleton] at q2
    exact ⟨q1, by omega, by omega⟩
theorem Near.lines {o o' : List Tok} {d e e' : Nat} (nr : Near o o' d) (r0 : Nat) : ∀ (f r a : Nat) (l l2 : List LineT) (r2 a2 : Nat), linesL o e f r a l = .ok (l2, r2, a2) → r0 + r2 ≤ 128 → linesL o' e' f (r0 + r) (d + a) l = .ok (l2, r0 + r2, d + a2)
 | 0, _, _, _, _, _, _, h, _ => by cases h
 | f + 1, r, a, l, l2, r2, a2, h, hr => by
  have hle := (linesL_ok h).2.2
  rw [linesL] at h ⊢
  cases h1 : lineS o e r a with
  | error z => rw [h1] at h; cases h
  | ok ya =>
   obtain ⟨x, a1⟩ := ya
   rw [h1] at h
   rw [nr.line (e' := e') (r' := r0 + r) h1 (by omega)]
   simp only [] at h ⊢
   split at h
   ·rename_i hq
    cases h
    rw [if_pos hq]
    rfl
   ·rename_i hq
    rw [if_neg hq, Nat.add_assoc]
    exact nr.lines r0 f _ _ _ _ _ _ h hr
def linesOf (bl : List BlockT) : Nat := (bl.map fun b => b.lines.length).sum
theorem linesOf_append (a b : List BlockT) : linesOf (a ++ b) = linesOf a + linesOf b := by unfold linesOf; rw [List.map_append, List.sum_append]
theorem linesOf_one (b : BlockT) : linesOf [b] = b.lines.length := by simp [linesOf]
theorem nameRS_lt {o : List Tok} {e a a' : Nat} {s : List UInt8} (h : nameRS o e 2 a = .ok (s, a')) : a < o.length := (nameRS_le h (by decide)).2
def blockS (o : List Tok) (e r a : Nat) : Except (Nat × Nat) (BlockT × Nat × Nat) := match nameRS o e 2 a with
 | .error z => .error z
 | .ok (m, a1) => match takeS o e 6 a1 with
  | .error z => .error z
  | .ok (_, a2) => match linesL o e 130 r a2 [] with
   | .error z => .error z
   | .ok (l, r', a3) => .ok (⟨m, l⟩, r', a3)
theorem blocksL_step {o : List Tok} {e f r a : Nat} {bl : List BlockT} {b : BlockT} {r' a' : Nat} (h : blockS o e r a = .ok (b, r', a')) (hl : bl.length ≠ 32) (ha : a < o.length ∨ bl = []) : blocksL o e (f + 1) r a bl = blocksL o e f r' a' (bl ++ [b]) := by
 unfold blockS at h
 rw [blocksL, if_pos ha]
 cases h1 : nameRS o e 2 a with
 | error z => rw [h1] at h; cases h
 | ok ma =>
  obtain ⟨m, a1⟩ := ma
  rw [h1] at h
  simp only [] at h ⊢
  rw [if_neg hl]
  cases h2 : takeS o e 6 a1 with
  | error z => rw [h2] at h; cases h
  | ok ta =>
   obtain ⟨t, a2⟩ := ta
   rw [h2] at h
   simp only [] at h ⊢
   cases h3 : linesL o e 130 r a2 [] with
   | error z => rw [h3] at h; cases h
   | ok la =>
    obtain ⟨l, r3, a3⟩ := la
    rw [h3] at h
    cases h
    rfl
theorem blocksL_inv {o : List Tok} {e f r a : Nat} {bl res : List BlockT} (h : blocksL o e f r a bl = .ok res) : (o.length ≤ a ∧ bl ≠ [] ∧ res = bl) ∨ ∃ b r' a' f', f = f' + 1 ∧ a < o.length ∧ bl.length ≠ 32 ∧ blockS o e r a = .ok (b, r', a') ∧ blocksL o e f' r' a' (bl ++ [b]) = .ok res := by
 cases f with
 | zero => cases h
 | succ f =>
  rw [blocksL] at h
  split at h
  ·right
   unfold blockS
   cases h1 : nameRS o e 2 a with
   | error z => rw [h1] at h; cases h
   | ok ma =>
    obtain ⟨m, a1⟩ := ma
    rw [h1] at h
    simp only [] at h ⊢
    split at h
    ·cases h
    rename_i h32
    cases h2 : takeS o e 6 a1 with
    | error z => rw [h2] at h; cases h
    | ok ta =>
     obtain ⟨t, a2⟩ := ta
     rw [h2] at h
     simp only [] at h ⊢
     cases h3 : linesL o e 130 r a2 [] with
     | error z => rw [h3] at h; cases h
     | ok la =>
      obtain ⟨l, r3, a3⟩ := la
      rw [h3] at h
      exact ⟨⟨m, l⟩, r3, a3, f, rfl, nameRS_lt h1, h32, rfl, h⟩
  ·rename_i hq
   cases h
   exact .inl ⟨by omega, fun q => hq (.inr q), rfl⟩
theorem blocksL_ne {o : List Tok} {e : Nat} : ∀ {f r a : Nat} {bl res : List BlockT}, blocksL o e f r a bl = .ok res → res ≠ []
 | 0, _, _, _, _, h => by cases h
 | f + 1, r, a, bl, res, h => by
  rcases blocksL_inv h with ⟨_, k2, rfl⟩ | ⟨b, r', a', f', hf, k1, k2, k3, k4⟩
  ·exact k2
  ·obtain rfl : f = f' := by omega
   exact blocksL_ne k4
theorem blockS_ok {o : List Tok} {e r a r' a' : Nat} {b : BlockT} (h : blockS o e r a = .ok (b, r', a')) : a' ≤ o.length ∧ r' = r + b.lines.length := by
 unfold blockS at h
 cases h1 : nameRS o e 2 a with
 | error z => rw [h1] at h; cases h
 | ok ma =>
  obtain ⟨m, a1⟩ := ma
  rw [h1] at h
  simp only [] at h
  cases h2 : takeS o e 6 a1 with
  | error z => rw [h2] at h; cases h
  | ok ta =>
   obtain ⟨t, a2⟩ := ta
   rw [h2] at h
   simp only [] at h
   cases h3 : linesL o e 130 r a2 [] with
   | error z => rw [h3] at h; cases h
   | ok la =>
    obtain ⟨l, r3, a3⟩ := la
    rw [h3] at h
    cases h
    obtain ⟨q1, q2, _⟩ := linesL_ok h3
    exact ⟨q1, by simpa using q2⟩
theorem Near.block {o o' : List Tok} {d e e' : Nat} (nr : Near o o' d) {r0 r a r' a' : Nat} {b : BlockT} (h : blockS o e r a = .ok (b, r', a')) (hr : r0 + r' ≤ 128) : blockS o' e' (r0 + r) (d + a) = .ok (b, r0 + r', d + a') := by
 unfold blockS at h ⊢
 cases h1 : nameRS o e 2 a with
 | error z => rw [h1] at h; cases h
 | ok ma =>
  obtain ⟨m, a1⟩ := ma
  rw [h1] at h
  simp only [] at h
  cases h2 : takeS o e 6 a1 with
  | error z => rw [h2] at h; cases h
  | ok ta =>
   obtain ⟨t, a2⟩ := ta
   rw [h2] at h
   simp only [] at h
   cases h3 : linesL o e 130 r a2 [] with
   | error z => rw [h3] at h; cases h
   | ok la =>
    obtain ⟨l, r3, a3⟩ := la
    rw [h3] at h
    cases h
    obtain ⟨t', q2, _⟩ := nr.take (e' := e') (by decide) h2
    rw [nr.name (by decide) h1]
    simp only []
    rw [q2]
    simp only []
    rw [nr.lines r0 _ _ _ _ _ _ _ h3 hr]
theorem Near.blocks {o o' : List Tok} {d e e' : Nat} (nr : Near o o' d) (hd : d + o.length ≤ o'.length) (pre : List BlockT) (r0 : Nat) : ∀ (f r a : Nat) (bl res : List BlockT), blocksL o e f r a bl = .ok res → a ≤ o.length → r0 + (r + linesOf res) ≤ 128 + linesOf bl → pre.length + res.length ≤ 32 →
  bl.length ≤ res.length ∧ linesOf bl ≤ linesOf res ∧ ∀ F, blocksL o' e' (F + (res.length - bl.length)) (r0 + r) (d + a) (pre ++ bl) = blocksL o' e' F (r0 + (r + linesOf res - linesOf bl)) (d + o.length) (pre ++ res) := by
 intro f
 induction f with
 | zero => intro r a bl res h; cases h
 | succ f ih =>
  intro r a bl res h ha hr hl
  rcases blocksL_inv h with ⟨h1, h2, rfl⟩ | ⟨b, r', a', f', hf, h1, h2, h3, h4⟩
  ·obtain rfl : a = o.length := by omega
   refine ⟨Nat.le_refl _, Nat.le_refl _, fun F => ?_⟩
   rw [Nat.sub_self, Nat.add_sub_cancel]
   rfl
  ·obtain rfl : f = f' := by omega
   obtain ⟨k1, k2⟩ := blockS_ok h3
   have hlo : linesOf (bl ++ [b]) = linesOf bl + b.lines.length := by rw [linesOf_append, linesOf_one]
   have hll : (bl ++ [b]).length = bl.length + 1 := by simp
   obtain ⟨q1, q2, q3⟩ := ih r' a' (bl ++ [b]) res h4 k1 (by omega) hl
   refine ⟨by omega, by omega, fun F => ?_⟩
   have e1 : F + (res.length - bl.length) = (F + (res.length - (bl ++ [b]).length)) + 1 := by omega
   rw [e1, blocksL_step (nr.block h3 (by omega)) (by rw [List.length_append]; omega) (.inl (by omega)), List.append_assoc, q3 F]
   congr 1
   omega
end
end Go.Mini
