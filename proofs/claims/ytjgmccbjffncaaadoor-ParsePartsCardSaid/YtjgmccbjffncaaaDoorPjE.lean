import Derived.Test.YtjgmccbjffncaaaDoorPLexZc
import Derived.Test.YtjgmccbjffncaaaDoorMiniYOtoYS
import Derived.Test.YtjgmccbjffncaaaDoorPjD
import Derived.Test.YtjgmccbjffncaaaDoorPlW
set_option maxHeartbeats 8000000
set_option maxRecDepth 100000
set_option linter.unusedSimpArgs false
namespace Go.Mini
open Nat (reduceLT reduceEqDiff)
open Go.Proofs Tryd
def ProgAny (h : Heap) (T : List UInt8) (x : Ending) (h' : Heap) : Prop := ∃ (bv : Value) (c p : Nat), x = .returned (.tuple #[.agg #[bv], .agg #[.int .i64 c, .int .i64 p]]) ∧ one bv = true ∧ h.more h' ∧
 match progS T with
 | .ok bl => c = 0 ∧ p = 0 ∧ BlocksV h' bl bv
 | .error z => c ≠ 0 ∧ c = z.1 ∧ p = z.2 ∧ bv = .slice none 0 0
theorem fewS.few {bl : List BlockT} (h : fewS bl) : fewB bl := by
 obtain ⟨h1, h2, h3⟩ := h
 refine ⟨by unfold maxLen; omega, fun b hb => ⟨?_, fun x hx => ?_⟩⟩
 ·have : b.lines.length ≤ linesOf bl := by
   unfold linesOf
   have hm : b.lines.length ∈ bl.map fun b => b.lines.length := List.mem_map_of_mem hb
   generalize (bl.map fun b => b.lines.length) = l at hm
   induction l with
   | nil => cases hm
   | cons a l ih =>
    rw [List.sum_cons]
    rcases List.mem_cons.1 hm with q | q
    ·omega
    ·have := ih q; omega
  unfold maxLen; omega
 ·have := ((h3 b hb).1 x hx).1
  unfold LineT.few maxLen; omega
theorem prog_any (h : Heap) (T : List UInt8) (hT : T.length ≤ 281474976710656) : Does prog 0 (GoodE prog (baseM 0)) 13 [.string (bs T)] h (ProgAny h T) := by
 refine (program_does 0 h T hT).mono ?_
 intro x h' hr
 unfold ProgR at hr
 unfold ProgAny
 cases hR : progS T with
 | ok bl =>
  rw [hR] at hr
  obtain ⟨bv, rfl, h1, h2, h3⟩ := hr
  exact ⟨bv, 0, 0, rfl, by obtain ⟨q, hq⟩ := h1.form; rw [hq]; rfl, ⟨h2, h3⟩, rfl, rfl, h1.view (progS_few hR).few⟩
 | error z =>
  obtain ⟨c', p'⟩ := z
  rw [hR] at hr
  obtain ⟨rfl, h2, h3⟩ := hr
  exact ⟨_, c', p', rfl, rfl, ⟨h2, h3⟩, progS_bad hR, rfl, rfl, rfl⟩
theorem jcells1 (H : Heap) {bv : Value} (hb : one bv = true) : astore prog ((H.alloc (scriptRow (.slice none 0 0))).alloc (spotRow 0 0)) 24 (.pointer (some ⟨H.next, 0, none⟩)) (.agg #[bv]) = some ((H.alloc (scriptRow bv)).alloc (spotRow 0 0)) := by
 have g : ((H.alloc (scriptRow (.slice none 0 0))).alloc (spotRow 0 0)).get H.next = some (scriptRow (.slice none 0 0)) := by rw [Heap.go _ _ (by simp)]; exact Heap.gn H _
 rw [script_put g hb, Heap.as _ _ _ (by simp), Heap.set_alloc]
theorem jcells2 (H : Heap) (bv : Value) (c p : Int) : astore prog ((H.alloc (scriptRow bv)).alloc (spotRow 0 0)) 31 (.pointer (some ⟨H.next + 1, 0, none⟩)) (.agg #[.int .i64 c, .int .i64 p]) = some ((H.alloc (scriptRow bv)).alloc (spotRow c p)) :=
 spot_put (H.alloc (scriptRow bv)) c p
end Go.Mini
