/-
  CheckLimits: reckoned.
-/
import Derived.Test.YtpdpbbejnbgdpaaDoorDK4
namespace Go.Mini
open Go.Proofs
def dK4 : List Kept := [kept1, kept2, kept3, kept4, kept5, kept6, kept7]
theorem dK4_ok : KnownOk Tryd.prog 0 (GoodE Tryd.prog (baseM 0)) (keptX dX dK4) := keptX_ok (dX_ok 0) (by
  intro k hk
  simp only [dK4, List.mem_cons, List.not_mem_nil, or_false] at hk
  rcases hk with rfl | rfl | rfl | rfl | rfl | rfl | rfl
  · exact kept1_ok
  · exact kept2_ok
  · exact kept3_ok
  · exact kept4_ok
  · exact kept5_ok
  · exact kept6_ok
  · exact kept7_ok)
def gc4 (f : FuncId) : Bool := match f with
  | 8 => true
  | 9 => true
  | 23 => true
  | _ => false
noncomputable def dX4 : Known := gcX Tryd.prog 0 (heap0 0) dFl gc4 (keptX dX dK4) 3000 4
theorem dX4_ok : KnownOk Tryd.prog 0 (GoodE Tryd.prog (baseM 0)) dX4 := gcX_ok (B := baseM 0) dK4_ok 3000 4
def kept8 : Kept := ⟨7, [], .bool true, []⟩
set_option maxRecDepth 1000000 in
theorem kept8_ev : keptB Tryd.prog dX4 dFl 3000 (heap0 0) kept8 = true := by kernel_rfl
theorem kept8_ok : KeptSays Tryd.prog (baseM 0) kept8 := keptB_ok dX4_ok kept8_ev
noncomputable def dX5 : Known := gcX Tryd.prog 0 (heap0 0) dFl gc4 (keptX (keptX dX dK4) [kept8]) 3000 4
theorem dX5_ok : KnownOk Tryd.prog 0 (GoodE Tryd.prog (baseM 0)) dX5 := gcX_ok (B := baseM 0) (keptX_ok dK4_ok (by
  intro k hk
  simp only [List.mem_singleton] at hk
  subst hk
  exact kept8_ok)) 3000 4
set_option maxRecDepth 1000000 in
theorem checkLimits_ev : gives Tryd.prog 0 (heap0 0) dX5 dFl 3000 4 [] (.bool true) = true := by kernel_rfl
theorem checkLimits_does : Does Tryd.prog 0 (GoodE Tryd.prog (baseM 0)) 4 [] (heap0 0) fun e _ => e = .returned (.bool true) := gives_does (B := baseM 0) dX5_ok checkLimits_ev
end Go.Mini
