import Derived.Test.YtjgmccbjffncaaaDoorPLexZc
import Derived.Test.YtjgmccbjffncaaaDoorMiniYOtoYS
import Derived.Test.YtjgmccbjffncaaaDoorPaNtoPaO
import Derived.Test.YtjgmccbjffncaaaDoorMiniSQ
import Derived.Test.YtjgmccbjffncaaaDoorPaFtoPaG
import Derived.Test.YtjgmccbjffncaaaDoorPLexJtoPLexN
import Derived.Test.YtjgmccbjffncaaaDoorPaKtoPaM
set_option maxHeartbeats 8000000
set_option maxRecDepth 100000
set_option linter.unusedSimpArgs false
namespace Go.Mini
section
open Nat (reduceLT reduceEqDiff)
open Go.Proofs Tryd
def ArmC (_ : Heap) (x : ArmT) (cs : List Value) : Prop := cs = x.cells
def ArmsV (h : Heap) (l : List ArmT) (v : Value) : Prop := SliceR 3 ArmC h l v
def LineC (h : Heap) (x : LineT) (cs : List Value) : Prop := ∃ av, cs = lineCells x av ∧ ArmsV h x.arms av
def LinesV (h : Heap) (l : List LineT) (v : Value) : Prop := SliceR 8 LineC h l v
def BlockC (h : Heap) (x : BlockT) (cs : List Value) : Prop := ∃ lv, cs = [.string (bs x.name), lv] ∧ LinesV h x.lines lv
def BlocksV (h : Heap) (l : List BlockT) (v : Value) : Prop := SliceR 2 BlockC h l v
theorem grows_arm : Grows ArmC := fun _ _ _ _ _ q => q
theorem ArmsV.more {h h' : Heap} {l : List ArmT} {v : Value} (s : ArmsV h l v) (hm : h.more h') : ArmsV h' l v := SliceR.more grows_arm s hm
theorem grows_line : Grows LineC := fun _ _ _ _ hm ⟨av, q1, q2⟩ => ⟨av, q1, q2.more hm⟩
theorem LinesV.more {h h' : Heap} {l : List LineT} {v : Value} (s : LinesV h l v) (hm : h.more h') : LinesV h' l v := SliceR.more grows_line s hm
theorem grows_block : Grows BlockC := fun _ _ _ _ hm ⟨av, q1, q2⟩ => ⟨av, q1, q2.more hm⟩
theorem BlocksV.more {h h' : Heap} {l : List BlockT} {v : Value} (s : BlocksV h l v) (hm : h.more h') : BlocksV h' l v := SliceR.more grows_block s hm
theorem OwnF.view {α : Type} {k : Nat} {R : Heap → α → List Value → Prop} {lo : Nat} {h : Heap} {v : Value} {e n : Nat} {cs : List Value} (o : OwnF lo h v e n cs) (l : List (α × List Value)) (hn : n = l.length) (hcs : cs = l.flatMap (·.2)) (hl : ∀ p ∈ l, p.2.length = k ∧ R h p.1 p.2) (hb : n ≤ maxLen) : SliceR k R h (l.map (·.1)) v := by
 refine ⟨l, rfl, hl, by omega, ?_⟩
 rcases o with ⟨rfl, h2, h3⟩ | ⟨b, _, h2, rfl, h4⟩
 ·left
  refine ⟨?_, .inl ⟨none, 0, rfl, fun b k sp e => by cases e⟩⟩
  rw [h2] at hn
  exact List.length_eq_zero_iff.1 hn.symm
 ·right
  have hlen := elems_len l fun p hp => (hl p hp).1
  refine ⟨b, 0, none, n, ?_, by rw [hn], ?_⟩
  ·rintro rfl; simp at hn; omega
  ·rw [Heap.lds_of h4 (by simp only [grownRow, hcs]; omega)]
   simp only [grownRow, List.drop_zero, hcs]
   rw [← hlen, List.take_length]
theorem armsM.view {lo : Nat} {h : Heap} {p : LineT × Value} (o : armsM lo h p) (hb : p.1.arms.length ≤ maxLen) : ArmsV h p.1.arms p.2 := by
 have := OwnF.view (k := 3) (R := ArmC) o (p.1.arms.map fun a => (a, a.cells)) (by simp) (by rw [List.flatMap_map]) (by
  intro q hq
  obtain ⟨a, _, rfl⟩ := List.mem_map.1 hq
  exact ⟨rfl, rfl⟩) hb
 rw [List.map_map] at this
 have e : ((fun p : ArmT × List Value => p.1) ∘ fun a => (a, a.cells)) = id := rfl
 rw [e, List.map_id] at this
 exact this
def LineT.few (x : LineT) : Prop := x.arms.length ≤ maxLen
def BlockT.few (b : BlockT) : Prop := b.lines.length ≤ maxLen ∧ ∀ x ∈ b.lines, x.few
def fewB (bl : List BlockT) : Prop := bl.length ≤ maxLen ∧ ∀ b ∈ bl, b.few
theorem LinesM.view {lo : Nat} {h : Heap} {l : List LineT} {v : Value} (o : LinesM lo h l v) (hb : l.length ≤ maxLen) (hx : ∀ x ∈ l, x.few) : LinesV h l v := by
 obtain ⟨m, rfl, h2, h3⟩ := o
 rw [List.length_map] at hb
 have := OwnF.view (k := 8) (R := LineC) h2 (m.map fun p => (p.1, lineCells p.1 p.2)) (by simp) (by rw [List.flatMap_map]; rfl) (by
  intro q hq
  obtain ⟨a, ha, rfl⟩ := List.mem_map.1 hq
  exact ⟨rfl, a.2, rfl, (h3 a ha).view (hx a.1 (List.mem_map_of_mem ha))⟩) hb
 rw [List.map_map] at this
 exact this
theorem BlocksM.view {lo : Nat} {h : Heap} {l : List BlockT} {v : Value} (o : BlocksM lo h l v) (hx : fewB l) : BlocksV h l v := by
 obtain ⟨m, rfl, h2, h3⟩ := o
 obtain ⟨hb, hx⟩ := hx
 rw [List.length_map] at hb
 have := OwnF.view (k := 2) (R := BlockC) h2 (m.map fun p => (p.1, [.string (bs p.1.name), p.2])) (by simp) (by rw [List.flatMap_map]; rfl) (by
  intro q hq
  obtain ⟨a, ha, rfl⟩ := List.mem_map.1 hq
  have := hx a.1 (List.mem_map_of_mem ha)
  exact ⟨rfl, a.2, rfl, (h3 a ha).view this.1 this.2⟩) hb
 rw [List.map_map] at this
 exact this
theorem sz54 : (prog.info? 54).map (·.size) = some 3 := by kernel_rfl
theorem agg54 : Program.agg prog 54 = some true := by kernel_rfl
theorem sz49' : (prog.info? 49).map (·.size) = some 8 := by kernel_rfl
theorem agg49' : Program.agg prog 49 = some true := by kernel_rfl
def ArmT.val (x : ArmT) : Value := .agg x.cells.toArray
section
variable {h : Heap}
theorem ArmsV.at {l : List ArmT} {v : Value} (s : ArmsV h l v) {j : Nat} {x : ArmT} (hj : l[j]? = some x) : ∃ b k, b < h.next ∧ aindexAddr prog 47 v (.int .i64 (j : Nat)) = some (.pointer (some ⟨b, k, none⟩)) ∧ ∀ H, h.more H → aload prog H 54 (.pointer (some ⟨b, k, none⟩)) = some x.val := by
 obtain ⟨b, k, cs, h1, h2, h3, h4, h5⟩ := SliceR.idx s hj underlying47 sz54
 refine ⟨b, k, h2, h1, fun H hm => ?_⟩
 rw [aload_agg agg54 sz54, hm.lds h3, h5]
 rfl
theorem LinesV.at {l : List LineT} {v : Value} (s : LinesV h l v) {j : Nat} {x : LineT} (hj : l[j]? = some x) : ∃ b k av, b < h.next ∧ aindexAddr prog 40 v (.int .i64 (j : Nat)) = some (.pointer (some ⟨b, k, none⟩)) ∧ ArmsV h x.arms av ∧ ∀ H, h.more H → aload prog H 49 (.pointer (some ⟨b, k, none⟩)) = some (lineVal x av) := by
 obtain ⟨b, k, cs, h1, h2, h3, h4, av, rfl, h5⟩ := SliceR.idx s hj underlying40 sz49'
 refine ⟨b, k, av, h2, h1, h5, fun H hm => ?_⟩
 rw [aload_agg agg49' sz49', hm.lds h3]
 rfl
theorem BlocksV.at {l : List BlockT} {v : Value} (s : BlocksV h l v) {j : Nat} {x : BlockT} (hj : l[j]? = some x) : ∃ b k lv, b < h.next ∧ aindexAddr prog 22 v (.int .i64 (j : Nat)) = some (.pointer (some ⟨b, k, none⟩)) ∧ LinesV h x.lines lv ∧ (∀ H, h.more H → aload prog H 42 (.pointer (some ⟨b, k, none⟩)) = some (.agg #[.string (bs x.name), lv])) ∧
  ∀ H, h.more H → aload prog H 40 (.pointer (some ⟨b, k + 1, none⟩)) = some lv := by
 obtain ⟨b, k, cs, h1, h2, h3, h4, av, rfl, h5⟩ := SliceR.idx s hj underlying22 sz42
 refine ⟨b, k, av, h2, h1, h5, fun H hm => ?_, fun H hm => ?_⟩
 ·rw [aload_agg agg42 sz42, hm.lds h3]
  rfl
 ·have h6 := hm.lds h3
  obtain ⟨r, hr, h7⟩ := ob h6
  rw [lc40]
  split at h7
  case isFalse => cases h7
  have h8 := congrArg (fun l => l[1]?) (Option.some.inj h7)
  simp only [List.getElem?_take, List.getElem?_drop] at h8
  exact Heap.lf (Heap.row_some.1 hr) h8
theorem ArmsV.len {l : List ArmT} {v : Value} (s : ArmsV h l v) (H : Heap) : alen prog H 47 v = some (.int .i64 (l.length : Nat)) := SliceR.len s underlying47 H
theorem LinesV.len {l : List LineT} {v : Value} (s : LinesV h l v) (H : Heap) : alen prog H 40 v = some (.int .i64 (l.length : Nat)) := SliceR.len s underlying40 H
theorem BlocksV.len {l : List BlockT} {v : Value} (s : BlocksV h l v) (H : Heap) : alen prog H 22 v = some (.int .i64 (l.length : Nat)) := SliceR.len s underlying22 H
end
theorem neq_nat (a b : Nat) : ((a : Int) != (b : Int)) = decide (a ≠ b) := by
 by_cases h : a = b
 ·subst h; simp
 ·have : ¬ (a : Int) = b := by omega
  simp [bne, this, h]
theorem neq_int (a b : Int) : (a != b) = decide (a ≠ b) := by
 by_cases h : a = b
 ·subst h; simp
 ·simp [bne, h]
theorem neq_txt (a b : List UInt8) : abinS .neq (bs a) (bs b) = some (.bool (decide (a ≠ b))) := by
 rw [neq_bs]
 congr 2
 by_cases h : a = b <;> simp [h]
theorem arm_eq (x y : ArmT) : aeq prog 10000 54 x.val y.val = some (decide (x = y)) := by
 have g54 : prog.stoodInHeld 54 = false := by kernel_rfl
 have g52 : prog.stoodInHeld 52 = false := by kernel_rfl
 have e3 : ∀ a b : Int, aeq prog 9998 3 (.int .i64 a) (.int .i64 b) = some (decide (a = b)) := by
  intro a b; rw [show 9998 = 9997 + 1 from rfl, aeq]; simp only [underlying3, aeq0, if_true]; rfl
 have e9 : ∀ a b : List UInt8, aeq prog 9998 9 (.string (bs a)) (.string (bs b)) = some (decide (a = b)) := by
  intro a b; rw [show 9998 = 9997 + 1 from rfl, aeq]; simp only [underlying9, aeq0, strEq_bs]
 have e9' : ∀ a b : List UInt8, aeq prog 9999 9 (.string (bs a)) (.string (bs b)) = some (decide (a = b)) := by
  intro a b; rw [show 9999 = 9998 + 1 from rfl, aeq]; simp only [underlying9, aeq0, strEq_bs]
 have ap : ∀ (ty : TypeId) (w : List Value) (k : Nat) (v : Value), Program.agg prog ty = some false → (prog.info? ty).isSome = true → w[k]? = some v → apart prog ty w.toArray k = some v := by
  intro ty w k v h1 h2 h3
  obtain ⟨i, hi⟩ := Option.isSome_iff_exists.1 h2
  unfold apart
  rw [h1, hi]
  simpa using h3
 have i3 : (prog.info? 3).isSome = true := by kernel_rfl
 have i9 : (prog.info? 9).isSome = true := by kernel_rfl
 have a52 : ∀ w : ArmT, apart prog 52 w.cells.toArray 0 = some (.agg #[.int .i64 w.kind, .string (bs w.text)]) := by
  intro w
  have h1 : Program.agg prog 52 = some true := by kernel_rfl
  obtain ⟨i, hi, hs⟩ := info_some (show (prog.info? 52).map (·.size) = some 2 by kernel_rfl)
  unfold apart
  rw [h1, hi]
  simp only [hs]
  rfl
 have e52 : aeq prog 9999 52 (.agg #[.int .i64 x.kind, .string (bs x.text)]) (.agg #[.int .i64 y.kind, .string (bs y.text)]) = some (decide (x.kind = y.kind ∧ x.text = y.text)) := by
  rw [show 9999 = 9998 + 1 from rfl, aeq]
  simp only [underlying52, g52, Bool.false_eq_true, if_false]
  simp only [aeqs, ap 3 [.int .i64 x.kind, .string (bs x.text)] 0 (.int .i64 x.kind) agg3 i3 rfl, ap 3 [.int .i64 y.kind, .string (bs y.text)] 0 (.int .i64 y.kind) agg3 i3 rfl, ap 9 [.int .i64 x.kind, .string (bs x.text)] 1 (.string (bs x.text)) agg9 i9 rfl, ap 9 [.int .i64 y.kind, .string (bs y.text)] 1 (.string (bs y.text)) agg9 i9 rfl, e3, e9]
  by_cases h1 : x.kind = y.kind <;> by_cases h2 : x.text = y.text <;> simp [h1, h2]
 rw [show 10000 = 9999 + 1 from rfl, aeq]
 unfold ArmT.val
 simp only [underlying54, g54, Bool.false_eq_true, if_false]
 simp only [aeqs, a52, e52, ap 9 x.cells 2 (.string (bs x.to)) agg9 i9 rfl, ap 9 y.cells 2 (.string (bs y.to)) agg9 i9 rfl, e9']
 obtain ⟨xk, xt, xo⟩ := x
 obtain ⟨yk, yt, yo⟩ := y
 by_cases h1 : xk = yk <;> by_cases h2 : xt = yt <;> by_cases h3 : xo = yo <;> simp [h1, h2, h3]
theorem arm_neq (x y : ArmT) : abin prog .neq 54 x.val y.val = some (.bool (decide (x ≠ y))) := by
 have g : Program.eqGuardType prog prog.depth 54 = false := by kernel_rfl
 have h := arm_eq x y
 unfold ArmT.val at h ⊢
 unfold abin
 simp only [g, Bool.false_eq_true, if_false, eqOp, h, Option.map_some]
 congr 2
 by_cases h : x = y <;> simp [h]
def LineT.heads (x : LineT) : Int × List UInt8 × List UInt8 × Int × List UInt8 × Int × List UInt8 × Nat := (x.op, x.text, x.name, x.n, x.to, x.wait, x.late, x.arms.length)
theorem line_eq (x y : LineT) : x = y ↔ x.heads = y.heads ∧ x.arms = y.arms := by
 constructor
 ·rintro rfl; exact ⟨rfl, rfl⟩
 ·rintro ⟨h1, h2⟩
  cases x; cases y
  simp only [LineT.heads, Prod.mk.injEq] at h1
  simp_all
end
section
def Alike (t t' : Tok) : Prop := t'.kind = t.kind ∧ t'.text = t.text ∧ t'.n = t.n
def Near (o o' : List Tok) (d : Nat) : Prop := ∀ a t, o[a]? = some t → ∃ t', o'[d + a]? = some t' ∧ Alike t t'
theorem opOf_lt {o : List Tok} {e a : Nat} (h : opOf (nextS o e a) ≠ 0) : a < o.length := by
 rcases Nat.lt_or_ge a o.length with q | q
 ·exact q
 ·exfalso
  have hn : nextS o e a = ⟨0, [], 0, e⟩ := by unfold nextS; rw [List.getElem?_eq_none q]; rfl
  rw [hn] at h
  exact h rfl
section
variable {o o' : List Tok} {d e e' : Nat} (nr : Near o o' d)
include nr
end
theorem lineS_le {o : List Tok} {e r a a' : Nat} {y : LineT} (h : lineS o e r a = .ok (y, a')) : a' ≤ o.length := by
 unfold lineS at h
 split at h
 ·cases h
 split at h
 ·cases h
 cases h1 : bodyS o e (opOf (nextS o e a)) (a + 1) with
 | error z => rw [h1] at h; cases h
 | ok ya =>
  obtain ⟨x, a1⟩ := ya
  rw [h1] at h
  simp only [] at h
  cases h2 : takeS o e 6 a1 with
  | error z => rw [h2] at h; cases h
  | ok ta =>
   obtain ⟨t, a2⟩ := ta
   rw [h2] at h
   cases h
   have := takeS_le h2 (by decide)
   omega
theorem linesL_ok {o : List Tok} {e : Nat} : ∀ {f r a : Nat} {l l2 : List LineT} {r2 a2 : Nat}, linesL o e f r a l = .ok (l2, r2, a2) → a2 ≤ o.length ∧ r2 + l.length = r + l2.length ∧ r < r2
 | 0, _, _, _, _, _, _, h => by cases h
 | f + 1, r, a, l, l2, r2, a2, h => by
  rw [linesL] at h
  cases h1 : lineS o e r a with
  | error z => rw [h1] at h; cases h
  | ok ya =>
   obtain ⟨x, a1⟩ := ya
   rw [h1] at h
   simp only [] at h
   split at h
   ·cases h
    refine ⟨lineS_le h1, ?_, by omega⟩
    rw [List.length_append, List.length_singleton]; omega
   ·obtain ⟨q1, q2, q3⟩ := linesL_ok h
    rw [List.length_append, List.length_singleton] at q2
    exact ⟨q1, by omega, by omega⟩
def linesOf (bl : List BlockT) : Nat := (bl.map fun b => b.lines.length).sum
theorem linesOf_append (a b : List BlockT) : linesOf (a ++ b) = linesOf a + linesOf b := by unfold linesOf; rw [List.map_append, List.sum_append]
theorem linesOf_one (b : BlockT) : linesOf [b] = b.lines.length := by simp [linesOf]
theorem nameRS_lt {o : List Tok} {e a a' : Nat} {s : List UInt8} (h : nameRS o e 2 a = .ok (s, a')) : a < o.length := (nameRS_le h (by decide)).2
def blockS (o : List Tok) (e r a : Nat) : Except (Nat × Nat) (BlockT × Nat × Nat) := match nameRS o e 2 a with
 | .error z => .error z
 | .ok (m, a1) => match takeS o e 6 a1 with
  | .error z => .error z
  | .ok (_, a2) => match linesL o e 130 r a2 [] with
   | .error z => .error z
   | .ok (l, r', a3) => .ok (⟨m, l⟩, r', a3)
theorem blocksL_step {o : List Tok} {e f r a : Nat} {bl : List BlockT} {b : BlockT} {r' a' : Nat} (h : blockS o e r a = .ok (b, r', a')) (hl : bl.length ≠ 32) (ha : a < o.length ∨ bl = []) : blocksL o e (f + 1) r a bl = blocksL o e f r' a' (bl ++ [b]) := by
 unfold blockS at h
 rw [blocksL, if_pos ha]
 cases h1 : nameRS o e 2 a with
 | error z => rw [h1] at h; cases h
 | ok ma =>
  obtain ⟨m, a1⟩ := ma
  rw [h1] at h
  simp only [] at h ⊢
  rw [if_neg hl]
  cases h2 : takeS o e 6 a1 with
  | error z => rw [h2] at h; cases h
  | ok ta =>
   obtain ⟨t, a2⟩ := ta
   rw [h2] at h
   simp only [] at h ⊢
   cases h3 : linesL o e 130 r a2 [] with
   | error z => rw [h3] at h; cases h
   | ok la =>
    obtain ⟨l, r3, a3⟩ := la
    rw [h3] at h
    cases h
    rfl
theorem blocksL_inv {o : List Tok} {e f r a : Nat} {bl res : List BlockT} (h : blocksL o e f r a bl = .ok res) : (o.length ≤ a ∧ bl ≠ [] ∧ res = bl) ∨ ∃ b r' a' f', f = f' + 1 ∧ a < o.length ∧ bl.length ≠ 32 ∧ blockS o e r a = .ok (b, r', a') ∧ blocksL o e f' r' a' (bl ++ [b]) = .ok res := by
 cases f with
 | zero => cases h
 | succ f =>
  rw [blocksL] at h
  split at h
  ·right
   unfold blockS
   cases h1 : nameRS o e 2 a with
   | error z => rw [h1] at h; cases h
   | ok ma =>
    obtain ⟨m, a1⟩ := ma
    rw [h1] at h
    simp only [] at h ⊢
    split at h
    ·cases h
    rename_i h32
    cases h2 : takeS o e 6 a1 with
    | error z => rw [h2] at h; cases h
    | ok ta =>
     obtain ⟨t, a2⟩ := ta
     rw [h2] at h
     simp only [] at h ⊢
     cases h3 : linesL o e 130 r a2 [] with
     | error z => rw [h3] at h; cases h
     | ok la =>
      obtain ⟨l, r3, a3⟩ := la
      rw [h3] at h
      exact ⟨⟨m, l⟩, r3, a3, f, rfl, nameRS_lt h1, h32, rfl, h⟩
  ·rename_i hq
   cases h
   exact .inl ⟨by omega, fun q => hq (.inr q), rfl⟩
theorem blocksL_ne {o : List Tok} {e : Nat} : ∀ {f r a : Nat} {bl res : List BlockT}, blocksL o e f r a bl = .ok res → res ≠ []
 | 0, _, _, _, _, h => by cases h
 | f + 1, r, a, bl, res, h => by
  rcases blocksL_inv h with ⟨_, k2, rfl⟩ | ⟨b, r', a', f', hf, k1, k2, k3, k4⟩
  ·exact k2
  ·obtain rfl : f = f' := by omega
   exact blocksL_ne k4
theorem blockS_ok {o : List Tok} {e r a r' a' : Nat} {b : BlockT} (h : blockS o e r a = .ok (b, r', a')) : a' ≤ o.length ∧ r' = r + b.lines.length := by
 unfold blockS at h
 cases h1 : nameRS o e 2 a with
 | error z => rw [h1] at h; cases h
 | ok ma =>
  obtain ⟨m, a1⟩ := ma
  rw [h1] at h
  simp only [] at h
  cases h2 : takeS o e 6 a1 with
  | error z => rw [h2] at h; cases h
  | ok ta =>
   obtain ⟨t, a2⟩ := ta
   rw [h2] at h
   simp only [] at h
   cases h3 : linesL o e 130 r a2 [] with
   | error z => rw [h3] at h; cases h
   | ok la =>
    obtain ⟨l, r3, a3⟩ := la
    rw [h3] at h
    cases h
    obtain ⟨q1, q2, _⟩ := linesL_ok h3
    exact ⟨q1, by simpa using q2⟩
end
section
def okR {α : Type} (K : α → Prop) : Except (Nat × Nat) α → Prop
 | .error (c, _) => c ≠ 0
 | .ok x => K x
theorem okR.mono {α : Type} {K L : α → Prop} {r : Except (Nat × Nat) α} (h : okR K r) (hk : ∀ x, K x → L x) : okR L r := by
 cases r with
 | error e => exact h
 | ok x => exact hk x h
section
variable {o : List Tok} {e : Nat}
theorem take_err (k a : Nat) : okR (fun _ => True) (takeS o e k a) := by
 unfold takeS
 split
 ·trivial
 ·exact (by decide : (6 : Nat) ≠ 0)
theorem must_err (k : Nat) (w : List UInt8) (a : Nat) : okR (fun _ => True) (mustS o e k w a) := by
 unfold mustS
 split
 ·trivial
 ·exact (by decide : (6 : Nat) ≠ 0)
theorem name_nil : nameS [] = false := by unfold nameS; rfl
theorem name_err (k a : Nat) : okR (fun x : List UInt8 × Nat => x.1 ≠ []) (nameRS o e k a) := by
 unfold nameRS
 have h := take_err (o := o) (e := e) k a
 cases ht : takeS o e k a with
 | error z => rw [ht] at h; exact h
 | ok ta =>
  obtain ⟨t, b⟩ := ta
  simp only []
  split
  ·rename_i hq
   intro q
   simp only at q
   rw [q, name_nil] at hq
   cases hq
  ·exact (by decide : (6 : Nat) ≠ 0)
theorem number_err (lo hi a : Nat) : okR (fun _ => True) (numberS o e lo hi a) := by
 unfold numberS
 have h := take_err (o := o) (e := e) 3 a
 cases ht : takeS o e 3 a with
 | error z => rw [ht] at h; exact h
 | ok ta =>
  obtain ⟨t, b⟩ := ta
  simp only []
  split
  ·trivial
  ·exact (by decide : (5 : Nat) ≠ 0)
theorem leads_err (a : Nat) : okR (fun x : List UInt8 × Nat => x.1 ≠ []) (leadsS o e a) := by
 unfold leadsS
 have h := must_err (o := o) (e := e) 1 gotoB a
 cases ht : mustS o e 1 gotoB a with
 | error z => rw [ht] at h; exact h
 | ok ta => exact name_err _ _
theorem pattern_err (a : Nat) : okR (fun _ => True) (patternS o e a) := by
 unfold patternS
 have h := take_err (o := o) (e := e) 4 (patKind o e a).2
 cases ht : takeS o e 4 (patKind o e a).2 with
 | error z => rw [ht] at h; exact h
 | ok ta =>
  obtain ⟨t, b⟩ := ta
  simp only []
  split
  ·trivial
  ·rename_i hq; exact hq
theorem arms_err : ∀ (f : Nat) (x : LineT) (a : Nat), x.arms.length ≤ 8 → 10 ≤ f + x.arms.length + (if x.late = [] then 0 else 1) → okR (fun y : LineT × Nat => y.1.arms.length ≤ 8 ∧ y.1.op = x.op) (armsL o e f x a)
 | 0, x, a, h8, h => by
  exfalso
  split at h <;> omega
 | f + 1, x, a, h8, h => by
  rw [armsL]
  split
  ·rename_i hq
   have h1 := number_err (o := o) (e := e) 1 1000 (a + 1)
   cases e1 : numberS o e 1 1000 (a + 1) with
   | error z => rw [e1] at h1; exact h1
   | ok na =>
    obtain ⟨n, a1⟩ := na
    simp only []
    have h2 := leads_err (o := o) (e := e) a1
    cases e2 : leadsS o e a1 with
    | error z => rw [e2] at h2; exact h2
    | ok la =>
     obtain ⟨l, a2⟩ := la
     rw [e2] at h2
     simp only []
     have h3 := take_err (o := o) (e := e) 6 a2
     cases e3 : takeS o e 6 a2 with
     | error z => rw [e3] at h3; exact h3
     | ok ta =>
      obtain ⟨t, a3⟩ := ta
      simp only []
      refine arms_err f _ _ h8 ?_
      simp only
      rw [if_pos hq.1] at h
      rw [if_neg h2]
      omega
  ·split
   ·exact ⟨h8, rfl⟩
   ·split
    ·exact (by decide : (6 : Nat) ≠ 0)
    ·rename_i hl
     split
     ·exact (by decide : (8 : Nat) ≠ 0)
     ·rename_i h9
      have h1 := pattern_err (o := o) (e := e) a
      cases e1 : patternS o e a with
      | error z => rw [e1] at h1; exact h1
      | ok na =>
       obtain ⟨⟨k, s⟩, a1⟩ := na
       simp only []
       have h2 := leads_err (o := o) (e := e) a1
       cases e2 : leadsS o e a1 with
       | error z => rw [e2] at h2; exact h2
       | ok la =>
        obtain ⟨l, a2⟩ := la
        simp only []
        have h3 := take_err (o := o) (e := e) 6 a2
        cases e3 : takeS o e 6 a2 with
        | error z => rw [e3] at h3; exact h3
        | ok ta =>
         obtain ⟨t, a3⟩ := ta
         simp only []
         refine arms_err f _ _ (by simp only [List.length_append, List.length_singleton]; omega) ?_
         simp only [List.length_append, List.length_singleton]
         split at h <;> rename_i hlz
         ·rw [if_pos hlz]; omega
         ·rw [if_neg hlz]; omega
theorem body_err (op a : Nat) : okR (fun y : LineT × Nat => y.1.arms.length ≤ 8 ∧ (1 ≤ op → op ≤ 7 → y.1.op = op)) (bodyS o e op a) := by
 unfold bodyS
 split
 ·have h1 := take_err (o := o) (e := e) 4 a
  cases e1 : takeS o e 4 a with
  | error z => rw [e1] at h1; exact h1
  | ok ta => exact ⟨Nat.zero_le _, fun _ _ => rfl⟩
 ·have h1 := name_err (o := o) (e := e) 1 a
  cases e1 : nameRS o e 1 a with
  | error z => rw [e1] at h1; exact h1
  | ok na =>
   obtain ⟨m, a1⟩ := na
   simp only []
   have h2 := number_err (o := o) (e := e) 0 255 a1
   cases e2 : numberS o e 0 255 a1 with
   | error z => rw [e2] at h2; exact h2
   | ok nb => exact ⟨Nat.zero_le _, fun _ _ => rfl⟩
 ·have h1 := name_err (o := o) (e := e) 1 a
  cases e1 : nameRS o e 1 a with
  | error z => rw [e1] at h1; exact h1
  | ok na => exact ⟨Nat.zero_le _, fun _ _ => rfl⟩
 ·have h1 := name_err (o := o) (e := e) 1 a
  cases e1 : nameRS o e 1 a with
  | error z => rw [e1] at h1; exact h1
  | ok na =>
   obtain ⟨m, a1⟩ := na
   simp only []
   have h2 := must_err (o := o) (e := e) 5 [60] a1
   cases e2 : mustS o e 5 [60] a1 with
   | error z => rw [e2] at h2; exact h2
   | ok ua =>
    obtain ⟨u, a2⟩ := ua
    simp only []
    have h3 := number_err (o := o) (e := e) 0 255 a2
    cases e3 : numberS o e 0 255 a2 with
    | error z => rw [e3] at h3; exact h3
    | ok nb =>
     obtain ⟨n, a3⟩ := nb
     simp only []
     have h4 := leads_err (o := o) (e := e) a3
     cases e4 : leadsS o e a3 with
     | error z => rw [e4] at h4; exact h4
     | ok la => exact ⟨Nat.zero_le _, fun _ _ => rfl⟩
 ·have h1 := name_err (o := o) (e := e) 1 a
  cases e1 : nameRS o e 1 a with
  | error z => rw [e1] at h1; exact h1
  | ok na => exact ⟨Nat.zero_le _, fun _ _ => rfl⟩
 ·have h1 := number_err (o := o) (e := e) 0 255 a
  cases e1 : numberS o e 0 255 a with
  | error z => rw [e1] at h1; exact h1
  | ok na => exact ⟨Nat.zero_le _, fun _ _ => rfl⟩
 ·rename_i n1 n2 n3 n4 n5 n6
  unfold armsS
  have h1 := must_err (o := o) (e := e) 5 [123] a
  cases e1 : mustS o e 5 [123] a with
  | error z => rw [e1] at h1; exact h1
  | ok ua =>
   obtain ⟨u, a1⟩ := ua
   simp only []
   have h2 := take_err (o := o) (e := e) 6 a1
   cases e2 : takeS o e 6 a1 with
   | error z => rw [e2] at h2; exact h2
   | ok ta =>
    obtain ⟨t, a2⟩ := ta
    simp only []
    refine (arms_err 11 (line0 7) a2 (Nat.zero_le _) (by decide)).mono fun y hy => ⟨hy.1, fun q1 q2 => ?_⟩
    rw [hy.2]
    have : op = 7 := by
     have m1 : op ≠ 1 := n1
     have m2 : op ≠ 2 := n2
     have m3 : op ≠ 3 := n3
     have m4 : op ≠ 4 := n4
     have m5 : op ≠ 5 := n5
     have m6 : op ≠ 6 := n6
     omega
    rw [this]
    rfl
theorem line_err (r a : Nat) : okR (fun y : LineT × Nat => y.1.arms.length ≤ 8 ∧ r + 1 ≤ 128 ∧ 1 ≤ y.1.op ∧ y.1.op ≤ 7) (lineS o e r a) := by
 unfold lineS
 split
 ·exact (by decide : (6 : Nat) ≠ 0)
 rename_i h0
 split
 ·exact (by decide : (8 : Nat) ≠ 0)
 have h1 := body_err (o := o) (e := e) (opOf (nextS o e a)) (a + 1)
 cases e1 : bodyS o e (opOf (nextS o e a)) (a + 1) with
 | error z => rw [e1] at h1; exact h1
 | ok ya =>
  obtain ⟨x, a1⟩ := ya
  rw [e1] at h1
  simp only []
  have h2 := take_err (o := o) (e := e) 6 a1
  cases e2 : takeS o e 6 a1 with
  | error z => rw [e2] at h2; exact h2
  | ok ta =>
   have h7 := opOf_le (nextS o e a)
   have := h1.2 (by omega) h7
   exact ⟨h1.1, by omega, by rw [this]; omega, by rw [this]; omega⟩
def ends (l : List LineT) : Prop := ∃ b x, l = b ++ [x] ∧ 5 ≤ x.op ∧ ∀ y ∈ b, y.op < 5
theorem lines_err : ∀ (f r a : Nat) (l : List LineT), r ≤ 128 → 130 ≤ f + r → (∀ x ∈ l, x.arms.length ≤ 8 ∧ 1 ≤ x.op ∧ x.op < 5) → okR (fun y : List LineT × Nat × Nat => y.2.1 ≤ 128 ∧ (∀ x ∈ y.1, x.arms.length ≤ 8 ∧ 1 ≤ x.op ∧ x.op ≤ 7) ∧ ends y.1) (linesL o e f r a l)
 | 0, _, _, _, h, h2, _ => by omega
 | f + 1, r, a, l, h, h2, hl => by
  rw [linesL]
  have h1 := line_err (o := o) (e := e) r a
  cases e1 : lineS o e r a with
  | error z => rw [e1] at h1; exact h1
  | ok ya =>
   obtain ⟨x, a1⟩ := ya
   rw [e1] at h1
   obtain ⟨k1, k2, k3, k4⟩ := h1
   simp only [] at k1 k3 k4 ⊢
   split
   ·rename_i h5
    refine ⟨k2, fun y hy => ?_, l, x, rfl, h5, fun y hy => (hl y hy).2.2⟩
    rcases List.mem_append.1 hy with q | q
    ·have := hl y q; exact ⟨this.1, this.2.1, by omega⟩
    ·simp only [List.mem_singleton] at q; subst q; exact ⟨k1, k3, k4⟩
   ·rename_i h5
    refine lines_err f _ _ _ k2 (by omega) fun y hy => ?_
    rcases List.mem_append.1 hy with q | q
    ·exact hl y q
    ·simp only [List.mem_singleton] at q; subst q; exact ⟨k1, k3, by omega⟩
def fewS (bl : List BlockT) : Prop := bl.length ≤ 32 ∧ linesOf bl ≤ 128 ∧ ∀ b ∈ bl, (∀ x ∈ b.lines, x.arms.length ≤ 8 ∧ 1 ≤ x.op ∧ x.op ≤ 7) ∧ ends b.lines
theorem blocks_err : ∀ (f a : Nat) (bl : List BlockT), fewS bl → 33 ≤ f + bl.length → okR fewS (blocksL o e f (linesOf bl) a bl)
 | 0, _, bl, h, h2 => by have := h.1; omega
 | f + 1, a, bl, h, h2 => by
  rw [blocksL]
  split
  ·have h1 := name_err (o := o) (e := e) 2 a
   cases e1 : nameRS o e 2 a with
   | error z => rw [e1] at h1; exact h1
   | ok ma =>
    obtain ⟨m, a1⟩ := ma
    simp only []
    split
    ·exact (by decide : (8 : Nat) ≠ 0)
    rename_i h32
    have h2' := take_err (o := o) (e := e) 6 a1
    cases e2 : takeS o e 6 a1 with
    | error z => rw [e2] at h2'; exact h2'
    | ok ta =>
     obtain ⟨t, a2⟩ := ta
     simp only []
     have h3 := lines_err (o := o) (e := e) 130 (linesOf bl) a2 [] h.2.1 (by omega) (by simp)
     cases e3 : linesL o e 130 (linesOf bl) a2 [] with
     | error z => rw [e3] at h3; exact h3
     | ok la =>
      obtain ⟨l, r', a3⟩ := la
      rw [e3] at h3
      obtain ⟨k1, k2, k3⟩ := h3
      obtain ⟨_, q2, _⟩ := linesL_ok e3
      simp only [] at k1 k2 k3 ⊢
      have hr : r' = linesOf (bl ++ [⟨m, l⟩]) := by
       rw [linesOf_append, linesOf_one]
       simpa using q2
      rw [hr]
      refine blocks_err f _ _ ⟨by rw [List.length_append, List.length_singleton]; have := h.1; omega, by omega, fun b hb => ?_⟩ (by rw [List.length_append, List.length_singleton]; omega)
      rcases List.mem_append.1 hb with q | q
      ·exact h.2.2 b q
      ·simp only [List.mem_singleton] at q; subst q; exact ⟨k2, k3⟩
  ·exact h
end
theorem prog_err (T : List UInt8) : okR fewS (progS T) := by
 unfold progS
 have h := (lexS_bound T).1
 cases e1 : lexS T with
 | error z => rw [e1] at h; obtain ⟨c, p⟩ := z; exact h
 | ok o => exact blocks_err 34 0 [] ⟨by decide, by decide, by simp⟩ (by decide)
theorem progS_ne {T : List UInt8} {bl : List BlockT} (h : progS T = .ok bl) : bl ≠ [] := by
 unfold progS at h
 cases e1 : lexS T with
 | error z => rw [e1] at h; cases h
 | ok o => rw [e1] at h; exact blocksL_ne h
theorem progS_few {T : List UInt8} {bl : List BlockT} (h : progS T = .ok bl) : fewS bl := by
 have := prog_err T
 rw [h] at this
 exact this
theorem progS_bad {T : List UInt8} {c p : Nat} (h : progS T = .error (c, p)) : c ≠ 0 := by
 have := prog_err T
 rw [h] at this
 exact this
end
end Go.Mini
