/-
  AuditKnown: reckoned.
-/
import Derived.Test.YtomndnhkgfeiiaaGreatDoorKP
namespace Go.Mini
open Go.Proofs
def kepta1 : Kept := ⟨54, [.agg #[.int .u8 1, .int .i64 0, .int .i64 1, .int .i64 0, .int .i64 0, .string ⟨#[97, 58, 10, 115, 101, 110, 100, 32, 34, 120, 34, 10, 101, 120, 112, 101, 99, 116, 32, 123, 10, 34, 111, 107, 34, 32, 103, 111, 116, 111, 32, 98, 10, 116, 105, 109, 101, 111, 117, 116, 32, 53, 32, 103, 111, 116, 111, 32, 98, 10, 125, 10, 98, 58, 10, 101, 120, 105, 116, 32, 55, 10]⟩]], .string ⟨#[1, 0, 0, 0, 0, 0, 0, 0, 0, 0, 0, 0, 0, 0, 0, 0, 1, 0, 0, 0, 0, 0, 0, 0, 0, 0, 0, 0, 0, 0, 0, 0, 0, 97, 58, 10, 115, 101, 110, 100, 32, 34, 120, 34, 10, 101, 120, 112, 101, 99, 116, 32, 123, 10, 34, 111, 107, 34, 32, 103, 111, 116, 111, 32, 98, 10, 116, 105, 109, 101, 111, 117, 116, 32, 53, 32, 103, 111, 116, 111, 32, 98, 10, 125, 10, 98, 58, 10, 101, 120, 105, 116, 32, 55, 10]⟩, []⟩
set_option maxRecDepth 1000000 in
theorem kepta1_ev : keptB Tryz.prog zX3 zFl 3000 (heap0 0) kepta1 = true := by kernel_rfl
theorem kepta1_ok : KeptSays Tryz.prog (baseM 0) kepta1 := keptB_ok zX3_ok kepta1_ev
def kepta2 : Kept := ⟨54, [.agg #[.int .u8 4, .int .i64 0, .int .i64 0, .int .i64 1, .int .i64 1, .string ⟨#[107]⟩]], .string ⟨#[4, 0, 0, 0, 0, 0, 0, 0, 0, 0, 0, 0, 0, 0, 0, 0, 0, 0, 0, 0, 0, 0, 0, 0, 1, 0, 0, 0, 0, 0, 0, 0, 1, 107]⟩, []⟩
set_option maxRecDepth 1000000 in
theorem kepta2_ev : keptB Tryz.prog zX3 zFl 3000 (heap0 0) kepta2 = true := by kernel_rfl
theorem kepta2_ok : KeptSays Tryz.prog (baseM 0) kepta2 := keptB_ok zX3_ok kepta2_ev
def kepta3 : Kept := ⟨54, [.agg #[.int .u8 4, .int .i64 0, .int .i64 0, .int .i64 1, .int .i64 2, .string ⟨#[107]⟩]], .string ⟨#[4, 0, 0, 0, 0, 0, 0, 0, 0, 0, 0, 0, 0, 0, 0, 0, 0, 0, 0, 0, 0, 0, 0, 0, 1, 0, 0, 0, 0, 0, 0, 0, 2, 107]⟩, []⟩
set_option maxRecDepth 1000000 in
theorem kepta3_ev : keptB Tryz.prog zX3 zFl 3000 (heap0 0) kepta3 = true := by kernel_rfl
theorem kepta3_ok : KeptSays Tryz.prog (baseM 0) kepta3 := keptB_ok zX3_ok kepta3_ev
def kepta4 : Kept := ⟨55, [.string ⟨#[4, 0, 0, 0, 0, 0, 0, 0, 0, 0, 0, 0, 0, 0, 0, 0, 0, 0, 0, 0, 0, 0, 0, 0, 1, 0, 0, 0, 0, 0, 0, 0, 1, 107]⟩], .tuple #[.agg #[.int .u8 4, .int .i64 0, .int .i64 0, .int .i64 1, .int .i64 1, .string ⟨#[107]⟩], .int .i64 0], []⟩
set_option maxRecDepth 1000000 in
theorem kepta4_ev : keptB Tryz.prog zX3 zFl 3000 (heap0 0) kepta4 = true := by kernel_rfl
theorem kepta4_ok : KeptSays Tryz.prog (baseM 0) kepta4 := keptB_ok zX3_ok kepta4_ev
def kepta5 : Kept := ⟨55, [.string ⟨#[4, 0, 0, 0, 0, 0, 0, 0, 0, 0, 0, 0, 0, 0, 0, 0, 0, 0, 0, 0, 0, 0, 0, 0, 1, 0, 0, 0, 0, 0, 0, 0, 2, 107]⟩], .tuple #[.agg #[.int .u8 4, .int .i64 0, .int .i64 0, .int .i64 1, .int .i64 2, .string ⟨#[107]⟩], .int .i64 0], []⟩
set_option maxRecDepth 1000000 in
theorem kepta5_ev : keptB Tryz.prog zX3 zFl 3000 (heap0 0) kepta5 = true := by kernel_rfl
theorem kepta5_ok : KeptSays Tryz.prog (baseM 0) kepta5 := keptB_ok zX3_ok kepta5_ev
def zKa1 : List Kept := [kepta1, kepta2, kepta3, kepta4, kepta5]
def zXa1 : Known := keptX zX3 zKa1
theorem zXa1_ok : KnownOk Tryz.prog 0 (GoodE Tryz.prog (baseM 0)) zXa1 := keptX_ok zX3_ok (by
  intro k hk
  simp only [zKa1, List.mem_cons, List.not_mem_nil, or_false] at hk
  rcases hk with rfl | rfl | rfl | rfl | rfl
  · exact kepta1_ok
  · exact kepta2_ok
  · exact kepta3_ok
  · exact kepta4_ok
  · exact kepta5_ok)
def kepta6 : Kept := ⟨14, [], .slice (some ⟨0, 0, none⟩) 1 1, [.row { vs := [.int .i64 1, .string ⟨#[1, 0, 0, 0, 0, 0, 0, 0, 0, 0, 0, 0, 0, 0, 0, 0, 1, 0, 0, 0, 0, 0, 0, 0, 0, 0, 0, 0, 0, 0, 0, 0, 0, 97, 58, 10, 115, 101, 110, 100, 32, 34, 120, 34, 10, 101, 120, 112, 101, 99, 116, 32, 123, 10, 34, 111, 107, 34, 32, 103, 111, 116, 111, 32, 98, 10, 116, 105, 109, 101, 111, 117, 116, 32, 53, 32, 103, 111, 116, 111, 32, 98, 10, 125, 10, 98, 58, 10, 101, 120, 105, 116, 32, 55, 10]⟩], elem := 57, grown := false, outer := false, ro := false, str := false }]⟩
set_option maxRecDepth 1000000 in
theorem kepta6_ev : keptB Tryz.prog zXa1 zFl 3000 (heap0 0) kepta6 = true := by kernel_rfl
theorem kepta6_ok : KeptSays Tryz.prog (baseM 0) kepta6 := keptB_ok zXa1_ok kepta6_ev
def zKa2 : List Kept := [kepta6]
def zXa2 : Known := keptX zXa1 zKa2
theorem zXa2_ok : KnownOk Tryz.prog 0 (GoodE Tryz.prog (baseM 0)) zXa2 := keptX_ok zXa1_ok (by
  intro k hk
  simp only [zKa2, List.mem_cons, List.not_mem_nil, or_false] at hk
  subst hk
  exact kepta6_ok)
def kepta7 : Kept := ⟨12, [], .bool true, []⟩
set_option maxRecDepth 1000000 in
theorem kepta7_ev : keptB Tryz.prog zXa2 zFl 3000 (heap0 0) kepta7 = true := by kernel_rfl
theorem kepta7_ok : KeptSays Tryz.prog (baseM 0) kepta7 := keptB_ok zXa2_ok kepta7_ev
def zKa4 : List Kept := [kepta7]
def zXa4 : Known := keptX zXa2 zKa4
theorem zXa4_ok : KnownOk Tryz.prog 0 (GoodE Tryz.prog (baseM 0)) zXa4 := keptX_ok zXa2_ok (by
  intro k hk
  simp only [zKa4, List.mem_cons, List.not_mem_nil, or_false] at hk
  subst hk
  exact kepta7_ok)
set_option maxRecDepth 1000000 in
theorem auditKnown_ev : gives Tryz.prog 0 (heap0 0) zXa4 zFl 3000 4 [] (.bool true) = true := by kernel_rfl
theorem auditKnown_does : Does Tryz.prog 0 (GoodE Tryz.prog (baseM 0)) 4 [] (heap0 0) fun e _ => e = .returned (.bool true) := gives_does (B := baseM 0) zXa4_ok auditKnown_ev
end Go.Mini
