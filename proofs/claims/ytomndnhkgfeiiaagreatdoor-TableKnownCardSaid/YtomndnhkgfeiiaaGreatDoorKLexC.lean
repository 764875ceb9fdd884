/-
  LEX, part C: functions of one byte.
-/
import Derived.Test.YtomndnhkgfeiiaaGreatDoorKLexB
set_option linter.unusedSimpArgs false
set_option maxHeartbeats 4000000
set_option maxRecDepth 100000
namespace Go.Mini
open Go.Proofs

def smallB (b : UInt8) : Bool := 97 ≤ b.toNat && b.toNat ≤ 122 || 48 ≤ b.toNat && b.toNat ≤ 57 || b.toNat == 95 || b.toNat == 45
def digitB (b : UInt8) : Bool := 48 ≤ b.toNat && b.toNat ≤ 57
def plainB (b : UInt8) : Bool := 32 ≤ b.toNat && b.toNat ≤ 126 && b.toNat != 34 && b.toNat != 92
def shortB (b : UInt8) : Option UInt8 := if b = 34 ∨ b = 92 then some b else if b = 10 then some 110 else if b = 13 then some 114 else if b = 9 then some 116 else none
def highB (b : UInt8) : Bool := b.toNat == 48 || b.toNat == 49 || 55 ≤ b.toNat && b.toNat ≤ 57 || 97 ≤ b.toNat && b.toNat ≤ 102
def escs : List UInt8 := [34, 92, 110, 114, 116, 120]
set_option maxRecDepth 100000 in
theorem small_ok : byteOk Tryz.prog (fun _ _ _ => none) 156 (fun b => .bool (smallB b)) 256 = true := by kernel_rfl
set_option maxRecDepth 100000 in
theorem digit_ok : byteOk Tryz.prog (fun _ _ _ => none) 157 (fun b => .bool (digitB b)) 256 = true := by kernel_rfl
set_option maxRecDepth 100000 in
theorem plain_ok : byteOk Tryz.prog (fun _ _ _ => none) 192 (fun b => .bool (plainB b)) 256 = true := by kernel_rfl
set_option maxRecDepth 100000 in
theorem short_ok : byteOk Tryz.prog (fun _ _ _ => none) 196 (fun b => .tuple #[byteV ((shortB b).getD 0), .bool (shortB b).isSome]) 256 = true := by kernel_rfl
set_option maxRecDepth 100000 in
theorem quote_ok : byteOk Tryz.prog (fun _ _ _ => none) 190 (fun b => .bool (b.toNat == 34)) 256 = true := by kernel_rfl
set_option maxRecDepth 100000 in
theorem mid_ok : byteOk Tryz.prog (fun _ _ _ => none) 191 (fun b => .bool (plainB b || b.toNat == 34 || b.toNat == 92)) 256 = true := by kernel_rfl
set_option maxRecDepth 100000 in
theorem high_ok : byteOk Tryz.prog (fun _ _ _ => none) 194 (fun b => .bool (highB b)) 256 = true := by kernel_rfl
end Go.Mini
