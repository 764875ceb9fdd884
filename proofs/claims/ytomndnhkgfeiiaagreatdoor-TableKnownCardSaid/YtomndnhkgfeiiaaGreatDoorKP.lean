/-
  The closed laws: calls that are kept.
-/
import Derived.Test.YtomndnhkgfeiiaaGreatDoorKX
namespace Go.Mini
open Go.Proofs
def kept1 : Kept := ⟨55, [.string ⟨#[1, 0, 0, 0, 0, 0, 0, 0, 0, 0, 0, 0, 0, 0, 0, 0, 1, 0, 0, 0, 0, 0, 0, 0, 0, 0, 0, 0, 0, 0, 0, 0, 0, 97, 58, 10, 115, 101, 110, 100, 32, 34, 120, 34, 10, 101, 120, 112, 101, 99, 116, 32, 123, 10, 34, 111, 107, 34, 32, 103, 111, 116, 111, 32, 98, 10, 116, 105, 109, 101, 111, 117, 116, 32, 53, 32, 103, 111, 116, 111, 32, 98, 10, 125, 10, 98, 58, 10, 101, 120, 105, 116, 32, 55, 10]⟩], .tuple #[.agg #[.int .u8 1, .int .i64 0, .int .i64 1, .int .i64 0, .int .i64 0, .string ⟨#[97, 58, 10, 115, 101, 110, 100, 32, 34, 120, 34, 10, 101, 120, 112, 101, 99, 116, 32, 123, 10, 34, 111, 107, 34, 32, 103, 111, 116, 111, 32, 98, 10, 116, 105, 109, 101, 111, 117, 116, 32, 53, 32, 103, 111, 116, 111, 32, 98, 10, 125, 10, 98, 58, 10, 101, 120, 105, 116, 32, 55, 10]⟩], .int .i64 0], []⟩
set_option maxRecDepth 1000000 in
theorem kept1_ev : keptB Tryz.prog zX zFl 3000 (heap0 0) kept1 = true := by kernel_rfl
theorem kept1_ok : KeptSays Tryz.prog (baseM 0) kept1 := keptB_ok (zX_ok 0) kept1_ev
def kept2 : Kept := ⟨143, [.agg #[.int .i64 1, .string ⟨#[111, 107]⟩]], .tuple #[.agg #[.int .i64 3, .int .u64 0, .int .u64 0, .int .u64 0, .int .u64 0, .slice (some ⟨0, 0, none⟩) 2 2], .agg #[.int .i64 0, .int .i64 0]], [.row { vs := [.int .i64 2, .int .u64 0, .int .u64 140737488355328, .int .u64 0, .int .u64 0, .slice none 0 0, .int .i64 2, .int .u64 0, .int .u64 8796093022208, .int .u64 0, .int .u64 0, .slice none 0 0], elem := 289, grown := true, outer := false, ro := false, str := false }]⟩
set_option maxRecDepth 1000000 in
theorem kept2_ev : keptB Tryz.prog zX zFl 3000 (heap0 0) kept2 = true := by kernel_rfl
theorem kept2_ok : KeptSays Tryz.prog (baseM 0) kept2 := keptB_ok (zX_ok 0) kept2_ev
def zK1 : List Kept := [kept1, kept2]
def zX1 : Known := keptX zX zK1
theorem zX1_ok : KnownOk Tryz.prog 0 (GoodE Tryz.prog (baseM 0)) zX1 := keptX_ok (zX_ok 0) (by
  intro k hk
  simp only [zK1, List.mem_cons, List.not_mem_nil, or_false] at hk
  rcases hk with rfl | rfl
  · exact kept1_ok
  · exact kept2_ok)
def kept3 : Kept := ⟨44, [.string ⟨#[97, 58, 10, 115, 101, 110, 100, 32, 34, 120, 34, 10, 101, 120, 112, 101, 99, 116, 32, 123, 10, 34, 111, 107, 34, 32, 103, 111, 116, 111, 32, 98, 10, 116, 105, 109, 101, 111, 117, 116, 32, 53, 32, 103, 111, 116, 111, 32, 98, 10, 125, 10, 98, 58, 10, 101, 120, 105, 116, 32, 55, 10]⟩], .tuple #[.agg #[.slice (some ⟨3, 0, none⟩) 2 2], .agg #[.int .i64 0, .int .i64 0]], [.row { vs := [.int .i64 1, .string ⟨#[111, 107]⟩, .string ⟨#[98]⟩], elem := 131, grown := true, outer := false, ro := false, str := false }, .row { vs := [.int .i64 1, .string ⟨#[120]⟩, .string ⟨#[]⟩, .int .i64 0, .string ⟨#[]⟩, .slice none 0 0, .int .i64 0, .string ⟨#[]⟩, .int .i64 7, .string ⟨#[]⟩, .string ⟨#[]⟩, .int .i64 0, .string ⟨#[]⟩, .slice (some ⟨0, 0, none⟩) 1 1, .int .i64 5, .string ⟨#[98]⟩], elem := 123, grown := true, outer := false, ro := false, str := false }, .row { vs := [.int .i64 6, .string ⟨#[]⟩, .string ⟨#[]⟩, .int .i64 7, .string ⟨#[]⟩, .slice none 0 0, .int .i64 0, .string ⟨#[]⟩], elem := 123, grown := true, outer := false, ro := false, str := false }, .row { vs := [.string ⟨#[97]⟩, .slice (some ⟨1, 0, none⟩) 2 2, .string ⟨#[98]⟩, .slice (some ⟨2, 0, none⟩) 1 1], elem := 120, grown := true, outer := false, ro := false, str := false }]⟩
set_option maxRecDepth 1000000 in
theorem kept3_ev : keptB Tryz.prog zX1 zFl 3000 (heap0 0) kept3 = true := by kernel_rfl
theorem kept3_ok : KeptSays Tryz.prog (baseM 0) kept3 := keptB_ok zX1_ok kept3_ev
def kept4 : Kept := ⟨44, [.string ⟨#[97, 58, 10, 115, 101, 110, 100, 32, 34, 120, 34, 10, 101, 120, 112, 101, 99, 116, 32, 123, 10, 34, 111, 107, 34, 32, 103, 111, 116, 111, 32, 98, 10, 116, 105, 109, 101, 111, 117, 116, 32, 53, 32, 103, 111, 116, 111, 32, 98, 10, 125, 10, 98, 58, 10, 101, 120, 105, 116, 32, 55]⟩], .tuple #[.agg #[.slice (some ⟨3, 0, none⟩) 2 2], .agg #[.int .i64 0, .int .i64 0]], [.row { vs := [.int .i64 1, .string ⟨#[111, 107]⟩, .string ⟨#[98]⟩], elem := 131, grown := true, outer := false, ro := false, str := false }, .row { vs := [.int .i64 1, .string ⟨#[120]⟩, .string ⟨#[]⟩, .int .i64 0, .string ⟨#[]⟩, .slice none 0 0, .int .i64 0, .string ⟨#[]⟩, .int .i64 7, .string ⟨#[]⟩, .string ⟨#[]⟩, .int .i64 0, .string ⟨#[]⟩, .slice (some ⟨0, 0, none⟩) 1 1, .int .i64 5, .string ⟨#[98]⟩], elem := 123, grown := true, outer := false, ro := false, str := false }, .row { vs := [.int .i64 6, .string ⟨#[]⟩, .string ⟨#[]⟩, .int .i64 7, .string ⟨#[]⟩, .slice none 0 0, .int .i64 0, .string ⟨#[]⟩], elem := 123, grown := true, outer := false, ro := false, str := false }, .row { vs := [.string ⟨#[97]⟩, .slice (some ⟨1, 0, none⟩) 2 2, .string ⟨#[98]⟩, .slice (some ⟨2, 0, none⟩) 1 1], elem := 120, grown := true, outer := false, ro := false, str := false }]⟩
set_option maxRecDepth 1000000 in
theorem kept4_ev : keptB Tryz.prog zX1 zFl 3000 (heap0 0) kept4 = true := by kernel_rfl
theorem kept4_ok : KeptSays Tryz.prog (baseM 0) kept4 := keptB_ok zX1_ok kept4_ev
def kept5 : Kept := ⟨101, [.agg #[.int .i64 1, .string ⟨#[111, 107]⟩]], .bool false, []⟩
set_option maxRecDepth 1000000 in
theorem kept5_ev : keptB Tryz.prog zX1 zFl 3000 (heap0 0) kept5 = true := by kernel_rfl
theorem kept5_ok : KeptSays Tryz.prog (baseM 0) kept5 := keptB_ok zX1_ok kept5_ev
def kept6 : Kept := ⟨145, [.agg #[.int .i64 1, .string ⟨#[111, 107]⟩]], .tuple #[.pointer (some ⟨0, 0, none⟩), .int .i64 0], [.row { vs := [.int .u64 0, .int .u64 0, .int .u64 0, .int .u64 0, .int .u64 0, .int .u64 0, .int .u64 0, .int .u64 0, .int .u64 0, .int .u64 0, .int .u64 0, .int .u64 0, .int .u64 0, .int .u64 0, .int .u64 0, .int .u64 0, .int .u64 0, .int .u64 0, .int .u64 0, .int .u64 0, .int .u64 0, .int .u64 0, .int .u64 0, .int .u64 0, .int .u64 0, .int .u64 0, .int .u64 0, .int .u64 0, .int .u64 0, .int .u64 0, .int .u64 0, .int .u64 0, .int .u64 0, .int .u64 0, .int .u64 0, .int .u64 0, .int .u64 0, .int .u64 0, .int .u64 0, .int .u64 0, .int .u64 0, .int .u64 0, .int .u64 0, .int .u64 0, .int .u64 0, .int .u64 0, .int .u64 0, .int .u64 0, .int .u64 0, .int .u64 0, .int .u64 0, .int .u64 0, .int .u64 0, .int .u64 0, .int .u64 0, .int .u64 0, .int .u64 0, .int .u64 0, .int .u64 0, .int .u64 0, .int .u64 0, .int .u64 0, .int .u64 0, .int .u64 0, .int .u64 0, .int .u64 0, .int .u64 0, .int .u64 0, .int .u64 0, .int .u64 0, .int .u64 0, .int .u64 0, .int .u64 0, .int .u64 0, .int .u64 0, .int .u64 0, .int .u64 0, .int .u64 0, .int .u64 0, .int .u64 0, .int .u64 0, .int .u64 0, .int .u64 0, .int .u64 0, .int .u64 0, .int .u64 0, .int .u64 0, .int .u64 0, .int .u64 0, .int .u64 0, .int .u64 0, .int .u64 0, .int .u64 0, .int .u64 0, .int .u64 0, .int .u64 0, .int .u64 0, .int .u64 0, .int .u64 0, .int .u64 0, .int .u64 0, .int .u64 0, .int .u64 0, .int .u64 0, .int .u64 0, .int .u64 0, .int .u64 0, .int .u64 2, .int .u64 0, .int .u64 0, .int .u64 0, .int .u64 1, .int .u64 0, .int .u64 0, .int .u64 0, .int .u64 0, .int .u64 0, .int .u64 0, .int .u64 0, .int .u64 0, .int .u64 0, .int .u64 0, .int .u64 0, .int .u64 0, .int .u64 0, .int .u64 0, .int .u64 0, .int .u64 0, .int .u64 0, .int .u64 0, .int .u64 0, .int .u64 0, .int .u64 0, .int .u64 0, .int .u64 0, .int .u64 0, .int .u64 0, .int .u64 0, .int .u64 0, .int .u64 0, .int .u64 0, .int .u64 0, .int .u64 0, .int .u64 0, .int .u64 0, .int .u64 0, .int .u64 0, .int .u64 0, .int .u64 0, .int .u64 0, .int .u64 0, .int .u64 0, .int .u64 0, .int .u64 0, .int .u64 0, .int .u64 0, .int .u64 0, .int .u64 0, .int .u64 0, .int .u64 0, .int .u64 0, .int .u64 0, .int .u64 0, .int .u64 0, .int .u64 0, .int .u64 0, .int .u64 0, .int .u64 0, .int .u64 0, .int .u64 0, .int .u64 0, .int .u64 0, .int .u64 0, .int .u64 0, .int .u64 0, .int .u64 0, .int .u64 0, .int .u64 0, .int .u64 0, .int .u64 0, .int .u64 0, .int .u64 0, .int .u64 0, .int .u64 0, .int .u64 0, .int .u64 0, .int .u64 0, .int .u64 0, .int .u64 0, .int .u64 0, .int .u64 0, .int .u64 0, .int .u64 0, .int .u64 0, .int .u64 0, .int .u64 0, .int .u64 0, .int .u64 0, .int .u64 0, .int .u64 0, .int .u64 0, .int .u64 0, .int .u64 0, .int .u64 0, .int .u64 0, .int .u64 0, .int .u64 0, .int .u64 0, .int .u64 0, .int .u64 0, .int .u64 0, .int .u64 0, .int .u64 0, .int .u64 0, .int .u64 0, .int .u64 0, .int .u64 0, .int .u64 0, .int .u64 0, .int .u64 0, .int .u64 0, .int .u64 0, .int .u64 0, .int .u64 0, .int .u64 0, .int .u64 0, .int .u64 0, .int .u64 0, .int .u64 0, .int .u64 0, .int .u64 0, .int .u64 0, .int .u64 0, .int .u64 0, .int .u64 0, .int .u64 0, .int .u64 0, .int .u64 0, .int .u64 0, .int .u64 0, .int .u64 0, .int .u64 0, .int .u64 0, .int .u64 0, .int .u64 0, .int .u64 0, .int .u64 0, .int .u64 0, .int .u64 0, .int .u64 0, .int .u64 0, .int .u64 0, .int .u64 0, .int .u64 0, .int .u64 0, .int .u64 0, .int .u64 2, .int .u64 0, .int .u64 0, .int .u64 0, .int .u64 0, .int .u64 0, .int .u64 0, .int .u64 0, .int .u64 0, .int .u64 0, .int .u64 0, .int .u64 0, .int .u64 0, .int .u64 0, .int .u64 0, .int .u64 0, .int .u64 0, .int .u64 0, .int .u64 0, .int .u64 0, .int .u64 0, .int .u64 0, .int .u64 0, .int .u64 0, .int .u64 0, .int .u64 0, .int .u64 0, .int .u64 0, .int .u64 0, .int .u64 0, .int .u64 0, .int .u64 0, .int .u64 0, .int .u64 0, .int .u64 0, .int .u64 0, .int .u64 0, .int .u64 0, .int .u64 0, .int .u64 0, .int .u64 0, .int .u64 0, .int .u64 0, .int .u64 0, .int .u64 0, .int .u64 0, .int .u64 0, .int .u64 0, .int .u64 0, .int .u64 0, .int .u64 0, .int .u64 0, .int .u64 0, .int .u64 0, .int .u64 0, .int .u64 0, .int .u64 0, .int .u64 0, .int .u64 0, .int .u64 0, .int .u64 0, .int .u64 0, .int .u64 0, .int .u64 0, .int .u64 1, .int .u64 2, .bool false, .int .u64 3, .bool true, .int .i64 2], elem := 341, grown := false, outer := false, ro := false, str := false }]⟩
set_option maxRecDepth 1000000 in
theorem kept6_ev : keptB Tryz.prog zX1 zFl 3000 (heap0 0) kept6 = true := by kernel_rfl
theorem kept6_ok : KeptSays Tryz.prog (baseM 0) kept6 := keptB_ok zX1_ok kept6_ev
def zK2 : List Kept := [kept3, kept4, kept5, kept6]
def zX2 : Known := keptX zX1 zK2
theorem zX2_ok : KnownOk Tryz.prog 0 (GoodE Tryz.prog (baseM 0)) zX2 := keptX_ok zX1_ok (by
  intro k hk
  simp only [zK2, List.mem_cons, List.not_mem_nil, or_false] at hk
  rcases hk with rfl | rfl | rfl | rfl
  · exact kept3_ok
  · exact kept4_ok
  · exact kept5_ok
  · exact kept6_ok)
def kept7 : Kept := ⟨8, [.string ⟨#[97, 58, 10, 115, 101, 110, 100, 32, 34, 120, 34, 10, 101, 120, 112, 101, 99, 116, 32, 123, 10, 34, 111, 107, 34, 32, 103, 111, 116, 111, 32, 98, 10, 116, 105, 109, 101, 111, 117, 116, 32, 53, 32, 103, 111, 116, 111, 32, 98, 10, 125, 10, 98, 58, 10, 101, 120, 105, 116, 32, 55, 10]⟩], .tuple #[.agg #[.slice (some ⟨1, 0, none⟩) 3 3, .int .i64 0], .agg #[.int .i64 0, .int .i64 0]], [.row { vs := [.int .i64 1, .string ⟨#[111, 107]⟩, .int .i64 2], elem := 133, grown := true, outer := false, ro := false, str := false }, .row { vs := [.int .i64 1, .string ⟨#[120]⟩, .int .i64 0, .int .i64 0, .int .i64 0, .slice none 0 0, .int .i64 0, .int .i64 (-1), .int .i64 7, .string ⟨#[]⟩, .int .i64 0, .int .i64 0, .int .i64 0, .slice (some ⟨0, 0, none⟩) 1 1, .int .i64 5, .int .i64 2, .int .i64 6, .string ⟨#[]⟩, .int .i64 0, .int .i64 7, .int .i64 0, .slice none 0 0, .int .i64 0, .int .i64 (-1)], elem := 126, grown := true, outer := false, ro := false, str := false }]⟩
set_option maxRecDepth 1000000 in
theorem kept7_ev : keptB Tryz.prog zX2 zFl 3000 (heap0 0) kept7 = true := by kernel_rfl
theorem kept7_ok : KeptSays Tryz.prog (baseM 0) kept7 := keptB_ok zX2_ok kept7_ev
def zK3 : List Kept := [kept7]
def zX3 : Known := keptX zX2 zK3
theorem zX3_ok : KnownOk Tryz.prog 0 (GoodE Tryz.prog (baseM 0)) zX3 := keptX_ok zX2_ok (by
  intro k hk
  simp only [zK3, List.mem_cons, List.not_mem_nil, or_false] at hk
  subst hk
  exact kept7_ok)
end Go.Mini
