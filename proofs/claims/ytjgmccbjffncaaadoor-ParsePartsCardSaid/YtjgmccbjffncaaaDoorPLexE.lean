import Derived.Test.YtjgmccbjffncaaaDoorPLexZc
import Derived.Test.YtjgmccbjffncaaaDoorMiniYOtoYS
import Derived.Test.YtjgmccbjffncaaaDoorPLexAtoPLexC
import Derived.Test.YtjgmccbjffncaaaDoorMiniZC
set_option maxHeartbeats 4000000
set_option maxRecDepth 100000
set_option linter.unusedSimpArgs false
namespace Go.Mini
open Nat (reduceLT reduceEqDiff)
open Go.Proofs Tryd
def digitsL : List UInt8 := [48, 49, 50, 51, 52, 53, 54, 55, 56, 57, 97, 98, 99, 100, 101, 102]
def hexV (b : UInt8) : Int := Lib.indexByte digitsL b
def hexB (hi lo : UInt8) : UInt8 := (hexV hi * 16 + hexV lo).toNat.toUInt8
def lowB (hi lo : UInt8) : Bool := decide (0 ≤ hexV lo) && !plainB (hexB hi lo) && !(shortB (hexB hi lo)).isSome
def intRow (k : Int) : AObj := .row { vs := [.int .i64 k], elem := 3 }
def strRow (T : List UInt8) : AObj := .row { vs := [.string (bs T)], elem := 9 }
def wrongP (t : TypeId) (k : Nat) : List PanicEntry := [{ v := .iface t (.int .i64 k), recovered := false }]
def needP (p : UInt8 → Bool) (T : List UInt8) (k : Nat) : Option UInt8 := match T[k]? with | some c => if p c then some c else none | none => none
theorem need_spec {E : EXT} (G : Nat) (h : Heap) (a b k : Nat) (T : List UInt8) (g : FuncId) (caps : List Value) (p : UInt8 → Bool) (hk : k ≤ 1000010) (ga : h.get a = some (intRow k)) (gb : h.get b = some (strRow T)) (hab : b ≠ a)
  (hc : canEnter prog g = true) (hp : ∀ c, Does prog G E g (byteV c :: caps) h (fun r h' => r = .returned (.bool (p c)) ∧ h' = h)) :
  Does prog G E 80 [.func (.func g) #[] caps.toArray, .pointer (some ⟨a, 0, none⟩), .pointer (some ⟨b, 0, none⟩)] h (fun r h' => match needP p T k with
   | some c => r = .returned (byteV c) ∧ h' = h.set a (intRow (k + 1 : Nat))
   | none => r = .panicked (wrongP 125 k) ∧ h' = h) := by
 refine Does.body func80 rfl ?_
 have hn : enterF Tryd.f80 [.func (.func g) #[] caps.toArray, .pointer (some ⟨a, 0, none⟩), .pointer (some ⟨b, 0, none⟩)] = ⟨25, [(0, .func (.func g) #[] caps.toArray), (1, .pointer (some ⟨a, 0, none⟩)), (2, .pointer (some ⟨b, 0, none⟩))], []⟩ := rfl
 rw [hn]; clear hn
 repeat apply Wq
 refine Wp.rS ?_
 have l1 : h.ld a 0 = some (.int .i64 k) := Heap.lf ga rfl
 have l2 : h.ld b 0 = some (.string (bs T)) := Heap.lf gb rfl
 by_cases hlt : (T.length : Int) ≤ (k : Int)
 ·have hn : needP p T k = none := by unfold needP; rw [List.getElem?_eq_none (by omega)]
  rw [hn]
  repeat apply Wq
  refine Wp.r (Aq @lc3 (Aq @lc9 (Aq l1 (Aq l2 (Aq @ls9 (decide_eq_true hlt)))))) ?_
  repeat apply Wq
  refine Wp.cT ?_
  repeat apply Wq
  refine Wp.regionAs (is := List.range' 0 2 ++ (2 :: [])) rfl ?_
  refine WpO.runS 2 (by simp only [bsd, bsg, reduceLT, reduceEqDiff, reduceCtorEq, lc3, l1, underlying3] <;> exact rfl) (by decide) ?_
  refine WpO.panicS (by simp only [bsg, reduceLT, reduceEqDiff, reduceCtorEq] <;> exact rfl) rfl (by simp only [bsg, reduceLT, reduceEqDiff, reduceCtorEq]) ?_
  exact ⟨rfl, rfl, rfl, rfl⟩
 ·obtain ⟨c, hcc⟩ : ∃ c, T[k]? = some c := ⟨_, List.getElem?_eq_getElem (by omega)⟩
  repeat apply Wq
  refine Wp.regionAs (is := List.range' 0 9 ++ (9 :: (List.range' 10 2 ++ []))) rfl ?_
  refine WpO.runS 9 (by simp only [bsd, bsg, reduceLT, reduceEqDiff, reduceCtorEq, lc3, lc9, l1, l2, ls9, decide_eq_false hlt, aindex_bs underlying9 hcc] <;> exact rfl) (by decide) ?_
  refine WpO.cR (hp c) hc ?_
  rintro _ h9 ⟨rfl, hh9⟩
  obtain rfl := hh9.symm
  clear hh9
  refine pu ?_
  cases hpc : p c with
  | false =>
   have hn : needP p T k = none := by unfold needP; rw [hcc]; simp [hpc]
   rw [hn]
   refine WpO.rS 2 ?_
   refine WpO.nil ?_
   repeat apply Wq
   refine Wp.cT ?_
   repeat apply Wq
   refine Wp.regionAs (is := List.range' 0 2 ++ (2 :: [])) rfl ?_
   refine WpO.runS 2 (by simp only [bsd, bsg, reduceLT, reduceEqDiff, reduceCtorEq, lc3, l1, underlying3] <;> exact rfl) (by decide) ?_
   refine WpO.panicS (by simp only [bsg, reduceLT, reduceEqDiff, reduceCtorEq] <;> exact rfl) rfl (by simp only [bsg, reduceLT, reduceEqDiff, reduceCtorEq]) ?_
   exact ⟨rfl, rfl, rfl, rfl⟩
  | true =>
   have hn : needP p T k = some c := by unfold needP; rw [hcc]; simp [hpc]
   rw [hn]
   refine WpO.rS 2 ?_
   refine WpO.nil ?_
   repeat apply Wq
   refine Wp.cF ?_
   repeat apply Wq
   refine Wp.skip ?_
   have hw1 : IntKind.i64.wrap ((k : Int) + 1) = ((k + 1 : Nat) : Int) := by rw [wrap_in (by omega) (by omega)]; omega
   have hst : astore prog h 3 (.pointer (some ⟨a, 0, none⟩)) (.int .i64 (k + 1 : Nat)) = some (h.set a (intRow (k + 1 : Nat))) := by
    rw [astore_cell sz3 rfl, Heap.sts_of ga (by simp) rfl rfl]; rfl
   repeat apply Wq
   refine Wp.r (Aq @lc3 (Aq l1 (Aq hw1 hst))) ?_
   have m1 : (h.set a (intRow (k + 1 : Nat))).ld a 0 = some (.int .i64 (k + 1 : Nat)) := Heap.lf (Heap.gf ga) rfl
   have m2 : (h.set a (intRow (k + 1 : Nat))).ld b 0 = some (.string (bs T)) := Heap.lf (by rw [Heap.gs hab]; exact gb) rfl
   have hw2 : IntKind.i64.wrap (((k + 1 : Nat) : Int) - 1) = ((k : Nat) : Int) := by rw [wrap_in (by omega) (by omega)]; omega
   repeat apply Wq
   refine Wp.runS (by simp only [bsg, reduceLT, reduceEqDiff, reduceCtorEq, lc3, lc9, m1, m2, hw2, aindex_bs underlying9 hcc] <;> exact rfl) ?_
   repeat apply Wq
   refine Wp.ret ?_
   exact ⟨rfl, rfl, _, rfl, rfl, rfl⟩
def escB (b : UInt8) : Bool := decide (0 ≤ Lib.indexByte [34, 92, 110, 114, 116, 120] b)
theorem byte_back (b : UInt8) : ((b.toNat : Int)).toNat.toUInt8 = b := by simp
theorem esc_spec {E : EXT} (G : Nat) (h : Heap) (c : UInt8) : Does prog G E 83 [byteV c] h (fun r h' => r = .returned (.bool (escB c)) ∧ h' = h) := by
 have c14 : canEnter prog 35 = true := by kernel_rfl
 refine Does.body func83 rfl ?_
 have hn : enterF Tryd.f83 [byteV c] = ⟨6, [(0, byteV c)], []⟩ := rfl
 rw [hn]; clear hn
 repeat apply Wq
 refine Wp.rS ?_
 repeat apply Wq
 refine Wp.regionAs (is := List.range' 0 1 ++ (1 :: (List.range' 2 2 ++ []))) rfl ?_
 refine WpO.rS 1 ?_
 refine WpO.cR (indexByte_spec G h ⟨#[34, 92, 110, 114, 116, 120]⟩ c.toNat) c14 ?_
 rintro _ h9 ⟨rfl, hh9⟩
 obtain rfl := hh9.symm
 clear hh9
 refine pu ?_
 refine WpO.rS 2 ?_
 refine WpO.nil ?_
 repeat apply Wq
 refine Wp.ret ?_
 refine ⟨rfl, rfl, _, rfl, ?_, rfl⟩
 rw [byte_back, Lib.firstIdx_eq]; rfl
theorem shl4 : ∀ x : Nat, x < 16 → ∀ y : Nat, y < 16 → IntKind.u8.wrap (IntKind.i64.wrap ((BitVec.ofInt IntKind.i64.bits (IntKind.i64.wrap ((x : Int) * 2 ^ min (4 : Int).toNat IntKind.i64.bits)) ||| BitVec.ofInt IntKind.i64.bits (y : Int)).toNat)) = (((x : Int) * 16 + (y : Int)).toNat.toUInt8.toNat : Int) := by
 decide +kernel
theorem hexV_lt (b : UInt8) : hexV b < 16 := by
 have h : ∀ b : Fin 256, hexV (UInt8.ofNat b.val) < 16 := by decide +kernel
 have := h ⟨b.toNat, b.toNat_lt⟩
 simpa using this
theorem hex_or (hi lo : UInt8) (h1 : 0 ≤ hexV hi) (h2 : 0 ≤ hexV lo) : IntKind.u8.wrap (IntKind.i64.wrap ((BitVec.ofInt IntKind.i64.bits (IntKind.i64.wrap (hexV hi * 2 ^ min (4 : Int).toNat IntKind.i64.bits)) ||| BitVec.ofInt IntKind.i64.bits (hexV lo)).toNat)) = ((hexB hi lo).toNat : Int) := by
 have a := hexV_lt hi
 have b := hexV_lt lo
 have := shl4 (hexV hi).toNat (by omega) (hexV lo).toNat (by omega)
 rw [Int.toNat_of_nonneg h1, Int.toNat_of_nonneg h2] at this
 exact this
theorem ai_shl {k k' : IntKind} {a b : Int} (h : 0 ≤ b) : abinI .shl k a k' b = some (.int k (k.wrap (a * 2 ^ min b.toNat k.bits))) := by simp [abinI, h]
theorem ai_or {k : IntKind} {a b : Int} : abinI .or k a k b = some (.int k (k.wrap (BitVec.ofInt k.bits a ||| BitVec.ofInt k.bits b).toNat)) := by simp [abinI]
theorem conv35 (n : Int) : aconv prog 3 5 (.int .i64 n) = some (.int .u8 (IntKind.u8.wrap n)) := by unfold aconv; rw [underlying3, underlying5]
theorem low_spec (G : Nat) (B : Base prog G) (h : Heap) (a : Nat) (hi c : UInt8) (h0 : 0 ≤ hexV hi) (ga : h.get a = some (intRow (hexV hi))) :
  Does prog G (GoodE prog B) 85 [byteV c, .pointer (some ⟨a, 0, none⟩)] h (fun r h' => r = .returned (.bool (lowB hi c)) ∧ h' = h) := by
 have c14 : canEnter prog 35 = true := by kernel_rfl
 have c44 : canEnter prog 60 = true := by kernel_rfl
 have c40 : canEnter prog 59 = true := by kernel_rfl
 have l1 : h.ld a 0 = some (.int .i64 (hexV hi)) := Heap.lf ga rfl
 have hix : firstIdx ⟨#[48, 49, 50, 51, 52, 53, 54, 55, 56, 57, 97, 98, 99, 100, 101, 102]⟩ ((c.toNat : Int)).toNat.toUInt8 = hexV c := by rw [byte_back, Lib.firstIdx_eq]; rfl
 refine Does.body func85 rfl ?_
 have hn : enterF Tryd.f85 [byteV c, .pointer (some ⟨a, 0, none⟩)] = ⟨29, [(0, byteV c), (1, .pointer (some ⟨a, 0, none⟩))], []⟩ := rfl
 rw [hn]; clear hn
 repeat apply Wq
 refine Wp.rS ?_
 repeat apply Wq
 refine Wp.regionAs (is := List.range' 0 1 ++ (1 :: (List.range' 2 1 ++ []))) rfl ?_
 refine WpO.rS 1 ?_
 refine WpO.cR (indexByte_spec G h ⟨#[48, 49, 50, 51, 52, 53, 54, 55, 56, 57, 97, 98, 99, 100, 101, 102]⟩ c.toNat) c14 ?_
 rintro _ h9 ⟨rfl, hh9⟩
 obtain rfl := hh9.symm
 clear hh9
 refine pu ?_
 refine WpO.rS 1 ?_
 refine WpO.nil ?_
 by_cases hneg : hexV c < 0
 ·repeat apply Wq
  refine Wp.r (Aq hix (decide_eq_true hneg)) ?_
  repeat apply Wq
  refine Wp.cT ?_
  repeat apply Wq
  refine Wp.rS ?_
  repeat apply Wq
  refine Wp.ret ?_
  refine ⟨rfl, rfl, _, rfl, ?_, rfl⟩
  unfold lowB; rw [decide_eq_false (by omega)]; rfl
 ·repeat apply Wq
  refine Wp.r (Aq hix (decide_eq_false hneg)) ?_
  repeat apply Wq
  refine Wp.cF ?_
  repeat apply Wq
  refine Wp.skip ?_
  repeat apply Wq
  refine Wp.r (Aq @ai_shl (Aq @ai_or (Aq @lc3 (Aq l1 (Aq @conv35 hix))))) ?_
  rw [hex_or hi c h0 (by omega)]
  simp only [setk, Nat.reduceEqDiff, if_true, if_false]
  repeat apply Wq
  refine Wp.regionAs (is := List.range' 0 1 ++ (1 :: (List.range' 2 5 ++ []))) rfl ?_
  refine WpO.rS 1 ?_
  refine WpO.cR (byteFn (noKnown _ _ _) short_ok (B := B) (hexB hi c) h) c44 ?_
  rintro _ h9 ⟨rfl, hh9⟩
  obtain rfl := hh9.symm
  clear hh9
  refine pu ?_
  refine WpO.rS 5 ?_
  refine WpO.nil ?_
  repeat apply Wq
  refine Wp.regionAs (is := List.range' 0 1 ++ (1 :: (List.range' 2 6 ++ []))) rfl ?_
  refine WpO.rS 1 ?_
  refine WpO.cR (byteFn (noKnown _ _ _) plain_ok (B := B) (hexB hi c) h) c40 ?_
  rintro _ h9 ⟨rfl, hh9⟩
  obtain rfl := hh9.symm
  clear hh9
  refine pu ?_
  cases hp : plainB (hexB hi c)
  ·refine WpO.rS 6 ?_
   refine WpO.nil ?_
   repeat apply Wq
   refine Wp.ret ?_
   refine ⟨rfl, rfl, _, rfl, ?_, rfl⟩
   unfold lowB; rw [decide_eq_true (by omega), hp]; rfl
  ·refine WpO.rS 6 ?_
   refine WpO.nil ?_
   repeat apply Wq
   refine Wp.ret ?_
   refine ⟨rfl, rfl, _, rfl, ?_, rfl⟩
   unfold lowB; rw [decide_eq_true (by omega), hp]; rfl
end Go.Mini
