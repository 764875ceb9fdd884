import Derived.Test.YtjgmccbjffncaaaDoorPLexZc
import Derived.Test.YtjgmccbjffncaaaDoorMiniYOtoYS
import Derived.Test.YtjgmccbjffncaaaDoorMiniVtoZB
import Derived.Test.YtjgmccbjffncaaaDoorProg
import Derived.Test.YtjgmccbjffncaaaDoorMiniStoYN
set_option maxHeartbeats 4000000
set_option maxRecDepth 100000
set_option linter.unusedSimpArgs false
namespace Go.Mini
section
open Nat (reduceLT reduceEqDiff)
open Go.Proofs Tryd
open Go.Lib (strCells strCells_length strCells_oneCell)
theorem mixed : prog.follows .mixedOrders = true := by kernel_rfl
theorem ext30 (ρg : Nat → Option Value) (h : Heap) (s : ByteArray) (c : Int) : aext prog ρg h 68 [.string s, .int .u8 c] = some (.int .i64 (firstIdx s c.toNat.toUInt8)) := by
 unfold aext
 simp only [func68]
 rw [if_pos ⟨by kernel_rfl, by kernel_rfl, by kernel_rfl⟩, if_pos (by kernel_rfl)]
theorem no30 : canEnter prog 68 = false := by kernel_rfl
theorem ne30 : aNoEsc prog 68 = false := by kernel_rfl
theorem index22_spec {E : EXT} (G : Nat) (h : Heap) (s : ByteArray) (c : Int) :
  Does prog G E 49 [.string s, .int .u8 c] h (fun r h' => r = .returned (.int .i64 (firstIdx s c.toNat.toUInt8)) ∧ h' = h) := by
 refine Does.body func49 rfl ?_
 have hn : enterF Tryd.f49 [.string s, .int .u8 c] = ⟨8, [(0, .string s), (1, .int .u8 c)], []⟩ := rfl
 rw [hn]; clear hn
 repeat apply Wq
 refine Wp.rS ?_
 repeat apply Wq
 refine Wp.runS (by simp only [bsg, reduceLT, reduceEqDiff, reduceCtorEq, no30, ne30, calleeOf, fnOf, List.append_nil, List.nil_append, ext30] <;> exact rfl) ?_
 repeat apply Wq
 refine Wp.ret ?_
 exact ⟨rfl, rfl, _, rfl, rfl, rfl⟩
theorem indexByte_spec {E : EXT} (G : Nat) (h : Heap) (s : ByteArray) (c : Int) :
  Does prog G E 35 [.string s, .int .u8 c] h (fun r h' => r = .returned (.int .i64 (firstIdx s c.toNat.toUInt8)) ∧ h' = h) := by
 refine Does.body func35 rfl ?_
 have hn : enterF Tryd.f35 [.string s, .int .u8 c] = ⟨8, [(0, .string s), (1, .int .u8 c)], []⟩ := rfl
 rw [hn]; clear hn
 repeat apply Wq
 refine Wp.rS ?_
 have c22 : canEnter prog 49 = true := by kernel_rfl
 repeat apply Wq
 refine Wp.regionAs (is := List.range' 0 2 ++ (2 :: (List.range' 3 1 ++ []))) rfl ?_
 refine WpO.rS 2 ?_
 refine WpO.cR (index22_spec G h s c) c22 ?_
 rintro _ h9 ⟨rfl, hh9⟩
 obtain rfl := hh9.symm
 clear hh9
 refine pu ?_
 refine WpO.rS 1 ?_
 refine WpO.nil ?_
 repeat apply Wq
 refine Wp.ret ?_
 exact ⟨rfl, rfl, _, rfl, rfl, rfl⟩
end
section
open Nat (reduceLT reduceEqDiff)
open Go.Proofs Tryd
theorem agg3 : Program.agg prog 3 = some false := by kernel_rfl
theorem agg9 : Program.agg prog 9 = some false := by kernel_rfl
theorem agg24 : Program.agg prog 56 = some false := by kernel_rfl
theorem sz3 : (prog.info? 3).map (·.size) = some 1 := by kernel_rfl
theorem sz9 : (prog.info? 9).map (·.size) = some 1 := by kernel_rfl
theorem r0 (i k : Nat) : afieldAddr prog 85 (.pointer (some ⟨i, k, none⟩)) 0 = some (.pointer (some ⟨i, k, none⟩)) :=
 afieldAddr_eq (f := 0) (o := 0) underlying85 (by rfl) (s := 0) (by kernel_rfl) i k
theorem r1 (i k : Nat) : afieldAddr prog 85 (.pointer (some ⟨i, k, none⟩)) 1 = some (.pointer (some ⟨i, k + 1, none⟩)) :=
 afieldAddr_eq underlying85 (by rfl) (s := 0) (by kernel_rfl) i k
theorem r2 (i k : Nat) : afieldAddr prog 85 (.pointer (some ⟨i, k, none⟩)) 2 = some (.pointer (some ⟨i, k + 2, none⟩)) :=
 afieldAddr_eq underlying85 (by rfl) (s := 0) (by kernel_rfl) i k
def readerRow (T : List UInt8) (at' : Nat) (out : Value) : AObj := .row { vs := [.string (bs T), .int .i64 at', out, .int .i64 0, .int .i64 0], elem := 85 }
def peekB (T : List UInt8) (at' : Nat) : UInt8 := (T[at']?).getD 10
theorem aindexS_bs {T : List UInt8} {j : Nat} {b : UInt8} (h : T[j]? = some b) : aindexS (bs T) (j : Int) = some (byteV b) := by
 unfold aindexS
 rw [if_pos (by omega), Int.toNat_natCast]
 have : (bs T)[j]? = some b := by
  have hj := (List.getElem?_eq_some_iff.1 h).1
  rw [getElem?_pos (bs T) j (by simpa using hj)]
  have := (List.getElem?_eq_some_iff.1 h).2
  simp [bs, ByteArray.getElem_eq_getElem_data, this]
 rw [this]; rfl
theorem aindex_bs {P : Program} {t : TypeId} (hu : P.underlying t = some .string) {T : List UInt8} {j : Nat} {b : UInt8} {kd : IntKind} (h : T[j]? = some b) : aindex P t (.string (bs T)) (.int kd (j : Int)) = some (byteV b) := by
 unfold aindex
 simp only [hu, aindexS_bs h]
theorem peek_spec {E : EXT} (G : Nat) (h : Heap) (i : Nat) (T : List UInt8) (at' : Nat) (out : Value) (hg : h.get i = some (readerRow T at' out)) :
  Does prog G E 34 [.pointer (some ⟨i, 0, none⟩)] h (fun r h' => r = .returned (byteV (peekB T at')) ∧ h' = h) := by
 refine Does.body func34 rfl ?_
 have hn : enterF Tryd.f34 [.pointer (some ⟨i, 0, none⟩)] = ⟨22, [(0, .pointer (some ⟨i, 0, none⟩))], []⟩ := rfl
 rw [hn]; clear hn
 repeat apply Wq
 refine Wp.rS ?_
 by_cases hlt : (at' : Int) < (T.length : Int)
 ·repeat apply Wq
  refine Wp.runSD mixed (by kernel_rfl) (by simp only [runSD, stepOD, stepWD, stepVD, isLoud, isPure, isReader, decide_true, bsb, bsg, reduceLT, reduceEqDiff, reduceCtorEq, r0, r1, lc3, lc9, Heap.lf hg (k := 0) rfl, Heap.lf hg (k := 1) rfl, ls9, decide_eq_true hlt] <;> exact rfl) ?_
  repeat apply Wq
  refine Wp.cT ?_
  obtain ⟨b, hb⟩ : ∃ b, T[at']? = some b := ⟨_, List.getElem?_eq_getElem (by omega)⟩
  repeat apply Wq
  refine Wp.runSD mixed (by kernel_rfl) (by simp only [runSD, stepOD, stepWD, stepVD, isLoud, isPure, isReader, decide_true, bsb, bsg, reduceLT, reduceEqDiff, reduceCtorEq, r0, r1, lc3, lc9, Heap.lf hg (k := 0) rfl, Heap.lf hg (k := 1) rfl, aindex_bs underlying9 hb] <;> exact rfl) ?_
  repeat apply Wq
  refine Wp.ret ?_
  refine ⟨rfl, rfl, _, rfl, ?_, rfl⟩
  unfold peekB; rw [hb]; rfl
 ·repeat apply Wq
  refine Wp.runSD mixed (by kernel_rfl) (by simp only [runSD, stepOD, stepWD, stepVD, isLoud, isPure, isReader, decide_true, bsb, bsg, reduceLT, reduceEqDiff, reduceCtorEq, r0, r1, lc3, lc9, Heap.lf hg (k := 0) rfl, Heap.lf hg (k := 1) rfl, ls9, decide_eq_false hlt] <;> exact rfl) ?_
  repeat apply Wq
  refine Wp.cF ?_
  repeat apply Wq
  refine Wp.skip ?_
  repeat apply Wq
  refine Wp.rS ?_
  repeat apply Wq
  refine Wp.ret ?_
  refine ⟨rfl, rfl, _, rfl, ?_, rfl⟩
  unfold peekB; rw [List.getElem?_eq_none (by omega)]; rfl
end
section
open Go.Proofs Tryd
def smallB (b : UInt8) : Bool := 97 ≤ b.toNat && b.toNat ≤ 122 || 48 ≤ b.toNat && b.toNat ≤ 57 || b.toNat == 95 || b.toNat == 45
def digitB (b : UInt8) : Bool := 48 ≤ b.toNat && b.toNat ≤ 57
def plainB (b : UInt8) : Bool := 32 ≤ b.toNat && b.toNat ≤ 126 && b.toNat != 34 && b.toNat != 92
def shortB (b : UInt8) : Option UInt8 := if b = 34 ∨ b = 92 then some b else if b = 10 then some 110 else if b = 13 then some 114 else if b = 9 then some 116 else none
def highB (b : UInt8) : Bool := b.toNat == 48 || b.toNat == 49 || 55 ≤ b.toNat && b.toNat ≤ 57 || 97 ≤ b.toNat && b.toNat ≤ 102
set_option maxRecDepth 100000 in
theorem small_ok : byteOk prog (fun _ _ _ => none) 51 (fun b => .bool (smallB b)) 256 = true := by kernel_rfl
set_option maxRecDepth 100000 in
theorem digit_ok : byteOk prog (fun _ _ _ => none) 52 (fun b => .bool (digitB b)) 256 = true := by kernel_rfl
set_option maxRecDepth 100000 in
theorem plain_ok : byteOk prog (fun _ _ _ => none) 59 (fun b => .bool (plainB b)) 256 = true := by kernel_rfl
set_option maxRecDepth 100000 in
theorem short_ok : byteOk prog (fun _ _ _ => none) 60 (fun b => .tuple #[byteV ((shortB b).getD 0), .bool (shortB b).isSome]) 256 = true := by kernel_rfl
set_option maxRecDepth 100000 in
theorem quote_ok : byteOk prog (fun _ _ _ => none) 81 (fun b => .bool (b.toNat == 34)) 256 = true := by kernel_rfl
set_option maxRecDepth 100000 in
theorem mid_ok : byteOk prog (fun _ _ _ => none) 82 (fun b => .bool (plainB b || b.toNat == 34 || b.toNat == 92)) 256 = true := by kernel_rfl
set_option maxRecDepth 100000 in
theorem high_ok : byteOk prog (fun _ _ _ => none) 84 (fun b => .bool (highB b)) 256 = true := by kernel_rfl
end
end Go.Mini
