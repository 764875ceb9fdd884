/-
  LEX, part A: bytes.
-/
import Derived.Test.YtjgmccbjffncaaaDoorMiniYQtoZ
import Derived.Test.YtjgmccbjffncaaaDoorMiniYQtoZ
import Derived.Test.YtjgmccbjffncaaaDoorMiniZAtoZB
import Derived.Test.YtjgmccbjffncaaaDoorProg
set_option linter.unusedSimpArgs false
set_option maxHeartbeats 1000000
set_option maxRecDepth 100000
set_option maxRecDepth 100000
namespace Go.Mini
open Go.Proofs
open Go.Lib (strCells strCells_length strCells_oneCell)

theorem mixed : Tryd.prog.follows .mixedOrders = true := by kernel_rfl



theorem ext30 (ρg : Nat → Option Value) (h : Heap) (s : ByteArray) (c : Int) : aext Tryd.prog ρg h 68 [.string s, .int .u8 c] = some (.int .i64 (firstIdx s c.toNat.toUInt8)) := by
  unfold aext
  simp only [Tryd.func68]
  rw [if_pos ⟨by kernel_rfl, by kernel_rfl, by kernel_rfl⟩, if_pos (by kernel_rfl)]
theorem no30 : canEnter Tryd.prog 68 = false := by kernel_rfl
theorem ne30 : aNoEsc Tryd.prog 68 = false := by kernel_rfl
theorem index22_spec {E : EXT} (G : Nat) (h : Heap) (s : ByteArray) (c : Int) :
    Does Tryd.prog G E 49 [.string s, .int .u8 c] h (fun r h' => r = .returned (.int .i64 (firstIdx s c.toNat.toUInt8)) ∧ h' = h) := by
  refine Does.body Tryd.func49 rfl ?_
  have hn : enterF Tryd.f49 [.string s, .int .u8 c] = ⟨8, [(0, .string s), (1, .int .u8 c)], []⟩ := rfl
  rw [hn]; clear hn
  repeat refine Wp.seq ?_
  refine Wp.runS (by simp only [bsf, abuiltin, aextract, Nat.reduceLT, Nat.reduceEqDiff, reduceCtorEq] <;> exact rfl) ?_
  dsimp only [after, leaving]
  repeat refine Wp.seq ?_
  refine Wp.runS (by simp only [bsf, abuiltin, aextract, Nat.reduceLT, Nat.reduceEqDiff, reduceCtorEq, no30, ne30, calleeOf, fnOf, List.append_nil, List.nil_append, ext30] <;> exact rfl) ?_
  dsimp only [after, leaving]
  repeat refine Wp.seq ?_
  refine Wp.ret ?_
  dsimp only [after, leaving]
  exact ⟨rfl, rfl, _, rfl, rfl, rfl⟩
theorem indexByte_spec {E : EXT} (G : Nat) (h : Heap) (s : ByteArray) (c : Int) :
    Does Tryd.prog G E 35 [.string s, .int .u8 c] h (fun r h' => r = .returned (.int .i64 (firstIdx s c.toNat.toUInt8)) ∧ h' = h) := by
  refine Does.body Tryd.func35 rfl ?_
  have hn : enterF Tryd.f35 [.string s, .int .u8 c] = ⟨8, [(0, .string s), (1, .int .u8 c)], []⟩ := rfl
  rw [hn]; clear hn
  repeat refine Wp.seq ?_
  refine Wp.runS (by simp only [bsf, abuiltin, aextract, Nat.reduceLT, Nat.reduceEqDiff, reduceCtorEq] <;> exact rfl) ?_
  dsimp only [after, leaving]
  have c22 : canEnter Tryd.prog 49 = true := by kernel_rfl
  repeat refine Wp.seq ?_
  refine Wp.regionAs (is := List.range' 0 2 ++ (2 :: (List.range' 3 1 ++ []))) rfl ?_
  refine WpO.runS 2 (by simp only [bsd, bsf, abuiltin, aextract, Nat.reduceLT, Nat.reduceEqDiff, reduceCtorEq] <;> exact rfl) (by decide) ?_
  refine WpO.callR (index22_spec G h s c) rfl (by simp only [bsf, abuiltin, aextract, Nat.reduceLT, Nat.reduceEqDiff, reduceCtorEq, c22]) (by simp only [calleeOf, fnOf, List.append_nil, List.nil_append, bsf, abuiltin, aextract, Nat.reduceLT, Nat.reduceEqDiff, reduceCtorEq, c22] <;> exact rfl) ?_
  rintro _ h9 ⟨rfl, hh9⟩
  obtain rfl := hh9.symm
  clear hh9
  refine ⟨_, _, rfl, by simp only [bsf, abuiltin, aextract, Nat.reduceLT, Nat.reduceEqDiff, reduceCtorEq]; exact rfl, ?_⟩
  refine WpO.runS 1 (by simp only [bsd, bsf, abuiltin, aextract, Nat.reduceLT, Nat.reduceEqDiff, reduceCtorEq] <;> exact rfl) (by decide) ?_
  refine WpO.nil ?_
  dsimp only [after, leaving]
  repeat refine Wp.seq ?_
  refine Wp.ret ?_
  dsimp only [after, leaving]
  exact ⟨rfl, rfl, _, rfl, rfl, rfl⟩
end Go.Mini
