/-
  DriverKnown: reckoned.
-/
import Derived.Test.YtomndnhkgfeiiaaGreatDoorKP
namespace Go.Mini
open Go.Proofs
def keptb1 : Kept := ⟨27, [], .pointer (some ⟨0, 0, none⟩), [.row { vs := [.slice (some ⟨6, 0, none⟩) 1 1, .int .i64 0, .int .i64 1, .int .u8 1, .int .i64 0, .int .i64 1, .int .i64 0, .int .i64 0, .int .i64 0, .int .u8 0, .int .i64 0, .int .i64 0, .int .i64 0, .int .i64 0, .int .i64 0, .int .u8 0, .int .i64 0, .int .i64 0, .int .i64 0, .int .i64 0, .int .i64 0, .int .u8 0, .int .i64 0, .int .i64 0, .int .i64 0, .int .i64 0, .int .i64 0, .int .u8 0, .int .i64 0, .int .i64 0, .int .i64 0, .int .i64 0, .int .i64 0, .int .u8 0, .int .i64 0, .int .i64 0, .int .i64 0, .int .i64 0, .int .i64 0, .int .u8 0, .int .i64 0, .int .i64 0, .int .i64 0, .int .i64 0, .int .i64 0, .int .u8 0, .int .i64 0, .int .i64 0, .int .i64 0], elem := 149, grown := false, outer := false, ro := false, str := false }, .row { vs := [.int .i64 1, .string ⟨#[111, 107]⟩, .int .i64 2], elem := 133, grown := true, outer := false, ro := false, str := false }, .row { vs := [.int .i64 1, .string ⟨#[120]⟩, .int .i64 0, .int .i64 0, .int .i64 0, .slice none 0 0, .int .i64 0, .int .i64 (-1), .int .i64 7, .string ⟨#[]⟩, .int .i64 0, .int .i64 0, .int .i64 0, .slice (some ⟨1, 0, none⟩) 1 1, .int .i64 5, .int .i64 2, .int .i64 6, .string ⟨#[]⟩, .int .i64 0, .int .i64 7, .int .i64 0, .slice none 0 0, .int .i64 0, .int .i64 (-1)], elem := 126, grown := true, outer := false, ro := false, str := false }, .row { vs := [], elem := 3, grown := false, outer := false, ro := false, str := false }, .row { vs := [.int .i64 1, .string ⟨#[120]⟩, .int .i64 1], elem := 40, grown := true, outer := false, ro := false, str := false }, .row { vs := [.string ⟨#[120]⟩], elem := 9, grown := true, outer := false, ro := false, str := false }, .row { vs := [.int .i64 1, .int .i64 0, .string ⟨#[97, 58, 10, 115, 101, 110, 100, 32, 34, 120, 34, 10, 101, 120, 112, 101, 99, 116, 32, 123, 10, 34, 111, 107, 34, 32, 103, 111, 116, 111, 32, 98, 10, 116, 105, 109, 101, 111, 117, 116, 32, 53, 32, 103, 111, 116, 111, 32, 98, 10, 125, 10, 98, 58, 10, 101, 120, 105, 116, 32, 55, 10]⟩, .int .u8 1, .int .i64 1, .slice (some ⟨3, 0, none⟩) 0 0, .string ⟨#[]⟩, .int .i64 1, .int .i64 0, .bool false, .int .i64 0, .slice (some ⟨5, 0, none⟩) 1 1, .int .i64 0, .int .i64 0, .slice (some ⟨4, 0, none⟩) 1 1, .slice (some ⟨2, 0, none⟩) 3 3, .int .i64 0], elem := 152, grown := true, outer := false, ro := false, str := false }]⟩
set_option maxRecDepth 1000000 in
theorem keptb1_ev : keptB Tryz.prog zX3 zFl 3000 (heap0 0) keptb1 = true := by kernel_rfl
theorem keptb1_ok : KeptSays Tryz.prog (baseM 0) keptb1 := keptB_ok zX3_ok keptb1_ev
def zKb4 : List Kept := [keptb1]
def zXb4 : Known := keptX zX3 zKb4
theorem zXb4_ok : KnownOk Tryz.prog 0 (GoodE Tryz.prog (baseM 0)) zXb4 := keptX_ok zX3_ok (by
  intro k hk
  simp only [zKb4, List.mem_cons, List.not_mem_nil, or_false] at hk
  subst hk
  exact keptb1_ok)
def keptb2 : Kept := ⟨25, [], .bool true, []⟩
set_option maxRecDepth 1000000 in
theorem keptb2_ev : keptB Tryz.prog zXb4 zFl 3000 (heap0 0) keptb2 = true := by kernel_rfl
theorem keptb2_ok : KeptSays Tryz.prog (baseM 0) keptb2 := keptB_ok zXb4_ok keptb2_ev
def zKb5 : List Kept := [keptb2]
def zXb5 : Known := keptX zXb4 zKb5
theorem zXb5_ok : KnownOk Tryz.prog 0 (GoodE Tryz.prog (baseM 0)) zXb5 := keptX_ok zXb4_ok (by
  intro k hk
  simp only [zKb5, List.mem_cons, List.not_mem_nil, or_false] at hk
  subst hk
  exact keptb2_ok)
set_option maxRecDepth 1000000 in
theorem driverKnown_ev : gives Tryz.prog 0 (heap0 0) zXb5 zFl 3000 5 [] (.bool true) = true := by kernel_rfl
theorem driverKnown_does : Does Tryz.prog 0 (GoodE Tryz.prog (baseM 0)) 5 [] (heap0 0) fun e _ => e = .returned (.bool true) := gives_does (B := baseM 0) zXb5_ok driverKnown_ev
end Go.Mini
