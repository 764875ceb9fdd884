import Derived.Test.YtjgmccbjffncaaaDoorPLexZc
import Derived.Test.YtjgmccbjffncaaaDoorMiniYOtoYS
import Derived.Test.YtjgmccbjffncaaaDoorPjBtoPjC
set_option maxHeartbeats 8000000
set_option maxRecDepth 100000
set_option linter.unusedSimpArgs false
namespace Go.Mini
open Nat (reduceLT reduceEqDiff)
open Go.Proofs Tryd
theorem block_put {H : Heap} {j : Nat} {m0 : List UInt8} {lv0 : Value} (g : H.get j = some (blockRow m0 lv0)) (m : List UInt8) {lv : Value} (hv : one lv = true) : astore prog H 42 (.pointer (some ⟨j, 0, none⟩)) (.agg #[.string (bs m), lv]) = some (H.set j (blockRow m lv)) := by
 have := astore_agg (P := prog) (h := H) (i := j) (k := 0) (cs := [.string (bs m), lv]) sz42 rfl (by simp [hv]; rfl)
 rw [this, Heap.sts_of g (by simp) rfl rfl]; rfl
def blockRow0 : AObj := blockRow [] (.slice none 0 0)
theorem alloc42' (h : Heap) : aalloc prog h 42 = some (h.new, h.alloc blockRow0) := alloc42 h
theorem SliceR.one {α : Type} {n : Nat} {R : Heap → α → List Value → Prop} {h : Heap} {xs : List α} {v : Value} (s : SliceR n R h xs v) : Mini.one v = true := by
 obtain ⟨l, _, _, _, h3⟩ := s
 rcases h3 with ⟨_, ⟨a, c, rfl, _⟩ | ⟨r, rfl⟩⟩ | ⟨b, k, sp, c, _, rfl, _⟩ <;> rfl
theorem drop_at {α : Type} {l : List α} {i : Nat} {t : α} (ht : l[i]? = some t) : l.drop i = t :: l.drop (i + 1) := by
 have hi := (List.getElem?_eq_some_iff.1 ht).1
 rw [List.drop_eq_getElem_cons hi]
 congr 1
 rw [List.getElem?_eq_getElem hi] at ht
 exact Option.some.inj ht
theorem succ_in {i n : Nat} (h : i < n) (hm : n ≤ maxLen) : IntKind.i64.wrap ((i : Int) + 1) = ((i + 1 : Nat) : Int) := by
 unfold maxLen at hm
 rw [wrap_in (by omega) (by omega)]; omega
theorem block_eq (x y : BlockT) : x = y ↔ x.name = y.name ∧ x.lines = y.lines := by
 cases x; cases y; simp
theorem neq_len (a b : Nat) : ((a : Int) != (b : Int)) = decide (a ≠ b) := neq_nat a b
theorem hbox24 (Hx : Heap) (v : Value) : abox Hx 24 (.agg #[v]) = (Hx.new, Hx.alloc (scriptRow v)) := rfl
theorem linesOf_take {bl : List BlockT} {i : Nat} {t : BlockT} (ht : bl[i]? = some t) : linesOf (bl.take (i + 1)) = linesOf (bl.take i) + t.lines.length := by
 rw [List.take_add_one, ht, linesOf_append]
 exact congrArg _ (linesOf_one t)
theorem linesOf_take_le (bl : List BlockT) (i : Nat) : linesOf (bl.take i) ≤ linesOf bl := by
 have := linesOf_append (bl.take i) (bl.drop i)
 rw [List.take_append_drop] at this
 omega
end Go.Mini
