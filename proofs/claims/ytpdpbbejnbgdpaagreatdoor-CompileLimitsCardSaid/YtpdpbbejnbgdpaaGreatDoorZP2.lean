/-
  CompileLimits: reckoned.
-/
import Derived.Test.YtpdpbbejnbgdpaaGreatDoorZX
namespace Go.Mini
open Go.Proofs
def kept1 : Kept := ⟨48, [.string ⟨#[116, 111, 112, 58, 10, 105, 110, 99, 32, 116, 114, 105, 101, 115, 10, 103, 111, 116, 111, 32, 101, 110, 100, 10, 101, 110, 100, 58, 10, 101, 120, 105, 116, 32, 51]⟩], .tuple #[.agg #[.slice (some ⟨2, 0, none⟩) 2 2], .agg #[.int .i64 0, .int .i64 0]], [.row { vs := [.int .i64 3, .string ⟨#[]⟩, .string ⟨#[116, 114, 105, 101, 115]⟩, .int .i64 0, .string ⟨#[]⟩, .slice none 0 0, .int .i64 0, .string ⟨#[]⟩, .int .i64 5, .string ⟨#[]⟩, .string ⟨#[]⟩, .int .i64 0, .string ⟨#[101, 110, 100]⟩, .slice none 0 0, .int .i64 0, .string ⟨#[]⟩], elem := 132, grown := true, outer := false, ro := false, str := false }, .row { vs := [.int .i64 6, .string ⟨#[]⟩, .string ⟨#[]⟩, .int .i64 3, .string ⟨#[]⟩, .slice none 0 0, .int .i64 0, .string ⟨#[]⟩], elem := 132, grown := true, outer := false, ro := false, str := false }, .row { vs := [.string ⟨#[116, 111, 112]⟩, .slice (some ⟨0, 0, none⟩) 2 2, .string ⟨#[101, 110, 100]⟩, .slice (some ⟨1, 0, none⟩) 1 1], elem := 129, grown := true, outer := false, ro := false, str := false }]⟩
set_option maxRecDepth 1000000 in
theorem kept1_ev : keptB Tryz.prog zX zFl 3000 (heap0 0) kept1 = true := by kernel_rfl
theorem kept1_ok : KeptSays Tryz.prog (baseM 0) kept1 := keptB_ok (zX_ok 0) kept1_ev
def kept2 : Kept := ⟨48, [.string ⟨#[97, 58, 10, 105, 110, 99, 32, 97, 10, 103, 111, 116, 111, 32, 98, 10, 98, 58, 10, 101, 120, 105, 116, 32, 51]⟩], .tuple #[.agg #[.slice (some ⟨2, 0, none⟩) 2 2], .agg #[.int .i64 0, .int .i64 0]], [.row { vs := [.int .i64 3, .string ⟨#[]⟩, .string ⟨#[97]⟩, .int .i64 0, .string ⟨#[]⟩, .slice none 0 0, .int .i64 0, .string ⟨#[]⟩, .int .i64 5, .string ⟨#[]⟩, .string ⟨#[]⟩, .int .i64 0, .string ⟨#[98]⟩, .slice none 0 0, .int .i64 0, .string ⟨#[]⟩], elem := 132, grown := true, outer := false, ro := false, str := false }, .row { vs := [.int .i64 6, .string ⟨#[]⟩, .string ⟨#[]⟩, .int .i64 3, .string ⟨#[]⟩, .slice none 0 0, .int .i64 0, .string ⟨#[]⟩], elem := 132, grown := true, outer := false, ro := false, str := false }, .row { vs := [.string ⟨#[97]⟩, .slice (some ⟨0, 0, none⟩) 2 2, .string ⟨#[98]⟩, .slice (some ⟨1, 0, none⟩) 1 1], elem := 129, grown := true, outer := false, ro := false, str := false }]⟩
set_option maxRecDepth 1000000 in
theorem kept2_ev : keptB Tryz.prog zX zFl 3000 (heap0 0) kept2 = true := by kernel_rfl
theorem kept2_ok : KeptSays Tryz.prog (baseM 0) kept2 := keptB_ok (zX_ok 0) kept2_ev
def kept3 : Kept := ⟨48, [.string ⟨#[97, 58, 10, 103, 111, 116, 111, 32, 98]⟩], .tuple #[.agg #[.slice (some ⟨1, 0, none⟩) 1 1], .agg #[.int .i64 0, .int .i64 0]], [.row { vs := [.int .i64 5, .string ⟨#[]⟩, .string ⟨#[]⟩, .int .i64 0, .string ⟨#[98]⟩, .slice none 0 0, .int .i64 0, .string ⟨#[]⟩], elem := 132, grown := true, outer := false, ro := false, str := false }, .row { vs := [.string ⟨#[97]⟩, .slice (some ⟨0, 0, none⟩) 1 1], elem := 129, grown := true, outer := false, ro := false, str := false }]⟩
set_option maxRecDepth 1000000 in
theorem kept3_ev : keptB Tryz.prog zX zFl 3000 (heap0 0) kept3 = true := by kernel_rfl
theorem kept3_ok : KeptSays Tryz.prog (baseM 0) kept3 := keptB_ok (zX_ok 0) kept3_ev
def kept4 : Kept := ⟨48, [.string ⟨#[97, 58, 10, 101, 120, 105, 116, 32, 48, 10, 98, 58, 10, 103, 111, 116, 111, 32, 98]⟩], .tuple #[.agg #[.slice (some ⟨2, 0, none⟩) 2 2], .agg #[.int .i64 0, .int .i64 0]], [.row { vs := [.int .i64 6, .string ⟨#[]⟩, .string ⟨#[]⟩, .int .i64 0, .string ⟨#[]⟩, .slice none 0 0, .int .i64 0, .string ⟨#[]⟩], elem := 132, grown := true, outer := false, ro := false, str := false }, .row { vs := [.int .i64 5, .string ⟨#[]⟩, .string ⟨#[]⟩, .int .i64 0, .string ⟨#[98]⟩, .slice none 0 0, .int .i64 0, .string ⟨#[]⟩], elem := 132, grown := true, outer := false, ro := false, str := false }, .row { vs := [.string ⟨#[97]⟩, .slice (some ⟨0, 0, none⟩) 1 1, .string ⟨#[98]⟩, .slice (some ⟨1, 0, none⟩) 1 1], elem := 129, grown := true, outer := false, ro := false, str := false }]⟩
set_option maxRecDepth 1000000 in
theorem kept4_ev : keptB Tryz.prog zX zFl 3000 (heap0 0) kept4 = true := by kernel_rfl
theorem kept4_ok : KeptSays Tryz.prog (baseM 0) kept4 := keptB_ok (zX_ok 0) kept4_ev
def kept5 : Kept := ⟨48, [.string ⟨#[97, 58, 10, 101, 120, 105, 116]⟩], .tuple #[.agg #[.slice none 0 0], .agg #[.int .i64 6, .int .i64 7]], []⟩
set_option maxRecDepth 1000000 in
theorem kept5_ev : keptB Tryz.prog zX zFl 3000 (heap0 0) kept5 = true := by kernel_rfl
theorem kept5_ok : KeptSays Tryz.prog (baseM 0) kept5 := keptB_ok (zX_ok 0) kept5_ev
def kept6 : Kept := ⟨48, [.string ⟨#[97, 58, 10, 101, 120, 112, 101, 99, 116, 32, 123, 10, 103, 108, 111, 98, 32, 34, 120, 42, 34, 32, 103, 111, 116, 111, 32, 97, 10, 116, 105, 109, 101, 111, 117, 116, 32, 55, 32, 103, 111, 116, 111, 32, 97, 10, 125]⟩], .tuple #[.agg #[.slice (some ⟨2, 0, none⟩) 1 1], .agg #[.int .i64 0, .int .i64 0]], [.row { vs := [.int .i64 2, .string ⟨#[120, 42]⟩, .string ⟨#[97]⟩], elem := 135, grown := true, outer := false, ro := false, str := false }, .row { vs := [.int .i64 7, .string ⟨#[]⟩, .string ⟨#[]⟩, .int .i64 0, .string ⟨#[]⟩, .slice (some ⟨0, 0, none⟩) 1 1, .int .i64 7, .string ⟨#[97]⟩], elem := 132, grown := true, outer := false, ro := false, str := false }, .row { vs := [.string ⟨#[97]⟩, .slice (some ⟨1, 0, none⟩) 1 1], elem := 129, grown := true, outer := false, ro := false, str := false }]⟩
set_option maxRecDepth 1000000 in
theorem kept6_ev : keptB Tryz.prog zX zFl 3000 (heap0 0) kept6 = true := by kernel_rfl
theorem kept6_ok : KeptSays Tryz.prog (baseM 0) kept6 := keptB_ok (zX_ok 0) kept6_ev
def zK48 : List Kept := [kept1, kept2, kept3, kept4, kept5, kept6]
theorem zK48_ok : KnownOk Tryz.prog 0 (GoodE Tryz.prog (baseM 0)) (keptX zX zK48) := keptX_ok (zX_ok 0) (by
  intro k hk
  simp only [zK48, List.mem_cons, List.not_mem_nil, or_false] at hk
  rcases hk with rfl | rfl | rfl | rfl | rfl | rfl
  · exact kept1_ok
  · exact kept2_ok
  · exact kept3_ok
  · exact kept4_ok
  · exact kept5_ok
  · exact kept6_ok)
def gc3 (f : FuncId) : Bool := match f with
  | 49 => true
  | 107 => true
  | 115 => true
  | _ => false
noncomputable def zX3 : Known := gcX Tryz.prog 0 (heap0 0) zFl gc3 (keptX zX zK48) 3000 4
theorem zX3_ok : KnownOk Tryz.prog 0 (GoodE Tryz.prog (baseM 0)) zX3 := gcX_ok (B := baseM 0) zK48_ok 3000 4
def kept11 : Kept := ⟨9, [.string ⟨#[97, 58, 10, 103, 111, 116, 111, 32, 98]⟩], .tuple #[.agg #[.slice none 0 0, .int .i64 0], .agg #[.int .i64 141, .int .i64 0]], []⟩
set_option maxRecDepth 1000000 in
theorem kept11_ev : keptB Tryz.prog zX3 zFl 3000 (heap0 0) kept11 = true := by kernel_rfl
theorem kept11_ok : KeptSays Tryz.prog (baseM 0) kept11 := keptB_ok zX3_ok kept11_ev
def kept12 : Kept := ⟨9, [.string ⟨#[97, 58, 10, 101, 120, 105, 116, 32, 48, 10, 98, 58, 10, 103, 111, 116, 111, 32, 98]⟩], .tuple #[.agg #[.slice none 0 0, .int .i64 0], .agg #[.int .i64 144, .int .i64 1]], []⟩
set_option maxRecDepth 1000000 in
theorem kept12_ev : keptB Tryz.prog zX3 zFl 3000 (heap0 0) kept12 = true := by kernel_rfl
theorem kept12_ok : KeptSays Tryz.prog (baseM 0) kept12 := keptB_ok zX3_ok kept12_ev
def kept13 : Kept := ⟨9, [.string ⟨#[97, 58, 10, 101, 120, 105, 116]⟩], .tuple #[.agg #[.slice none 0 0, .int .i64 0], .agg #[.int .i64 6, .int .i64 7]], []⟩
set_option maxRecDepth 1000000 in
theorem kept13_ev : keptB Tryz.prog zX3 zFl 3000 (heap0 0) kept13 = true := by kernel_rfl
theorem kept13_ok : KeptSays Tryz.prog (baseM 0) kept13 := keptB_ok zX3_ok kept13_ev
def kept14 : Kept := ⟨9, [.string ⟨#[97, 58, 10, 101, 120, 112, 101, 99, 116, 32, 123, 10, 103, 108, 111, 98, 32, 34, 120, 42, 34, 32, 103, 111, 116, 111, 32, 97, 10, 116, 105, 109, 101, 111, 117, 116, 32, 55, 32, 103, 111, 116, 111, 32, 97, 10, 125]⟩], .tuple #[.agg #[.slice (some ⟨1, 0, none⟩) 1 1, .int .i64 0], .agg #[.int .i64 0, .int .i64 0]], [.row { vs := [.int .i64 2, .string ⟨#[120, 42]⟩, .int .i64 0], elem := 34, grown := true, outer := false, ro := false, str := false }, .row { vs := [.int .i64 7, .string ⟨#[]⟩, .int .i64 0, .int .i64 0, .int .i64 0, .slice (some ⟨0, 0, none⟩) 1 1, .int .i64 7, .int .i64 0], elem := 37, grown := true, outer := false, ro := false, str := false }]⟩
set_option maxRecDepth 1000000 in
theorem kept14_ev : keptB Tryz.prog zX3 zFl 3000 (heap0 0) kept14 = true := by kernel_rfl
theorem kept14_ok : KeptSays Tryz.prog (baseM 0) kept14 := keptB_ok zX3_ok kept14_ev
def keptW : Kept := ⟨8, [], .bool true, []⟩
set_option maxRecDepth 1000000 in
theorem keptW_ev : keptB Tryz.prog zX3 zFl 3000 (heap0 0) keptW = true := by kernel_rfl
theorem keptW_ok : KeptSays Tryz.prog (baseM 0) keptW := keptB_ok zX3_ok keptW_ev
def zK9 : List Kept := [kept11, kept12, kept13, kept14, keptW]
theorem zK9_ok : KnownOk Tryz.prog 0 (GoodE Tryz.prog (baseM 0)) (keptX (keptX zX zK48) zK9) := keptX_ok zK48_ok (by
  intro k hk
  simp only [zK9, List.mem_cons, List.not_mem_nil, or_false] at hk
  rcases hk with rfl | rfl | rfl | rfl | rfl
  · exact kept11_ok
  · exact kept12_ok
  · exact kept13_ok
  · exact kept14_ok
  · exact keptW_ok)
noncomputable def zX4 : Known := gcX Tryz.prog 0 (heap0 0) zFl gc3 (keptX (keptX zX zK48) zK9) 3000 4
theorem zX4_ok : KnownOk Tryz.prog 0 (GoodE Tryz.prog (baseM 0)) zX4 := gcX_ok (B := baseM 0) zK9_ok 3000 4
set_option maxRecDepth 1000000 in
theorem compileLimits_ev : gives Tryz.prog 0 (heap0 0) zX4 zFl 3000 3 [] (.bool true) = true := by kernel_rfl
theorem compileLimits_does : Does Tryz.prog 0 (GoodE Tryz.prog (baseM 0)) 3 [] (heap0 0) fun e _ => e = .returned (.bool true) := gives_does (B := baseM 0) zX4_ok compileLimits_ev
end Go.Mini
