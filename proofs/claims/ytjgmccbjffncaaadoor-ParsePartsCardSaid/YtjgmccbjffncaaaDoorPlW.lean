import Derived.Test.YtjgmccbjffncaaaDoorPLexMatoPLexO
import Derived.Test.YtjgmccbjffncaaaDoorTrydShelf
import Derived.Test.YtjgmccbjffncaaaDoorMiniZFtoZJ
set_option linter.unusedSimpArgs false
namespace Go.Mini
open Go.Proofs Tryd
theorem joinSays : JoinSays prog 45 := fun bk o c xs sep w h1 h2 h3 h4 h5 => Tryd.strings_Join bk o c xs sep w h1 h2 h3 h4 h5
theorem itoaSays : ItoaSays prog 31 := fun i hi w => Tryd.strconv_Itoa_small i hi w
def pX : Known := fun f args h => match f with
 | 45 => joinX args h
 | 31 => itoaX args h
 | f => lexX f args h
theorem pX_ok (G : Nat) : KnownOk prog G (GoodE prog (baseM G)) pX := by
 intro f args h v h' e
 unfold pX at e
 split at e
 ·exact .ext (joinX_ok joinSays e)
 ·exact .ext (itoaX_ok itoaSays e)
 ·exact lexX_ok G _ _ _ _ _ e
def pFl (f : FuncId) : Bool := match f with
 | 30 => true
 | 31 => true
 | 32 => true
 | 37 => true
 | _ => false
set_option maxRecDepth 1000000 in
theorem works_ev : gives prog 0 (heap0 0) pX pFl 3000 8 [] (.bool true) = true := by kernel_rfl
theorem works_does (h : Heap) : Does prog 0 (GoodE prog (baseM 0)) 8 [] h fun r h' => r = .returned (.bool true) ∧ h' = h :=
 Does.fromBare (by simp) rfl (gives_does (B := baseM 0) (pX_ok 0) works_ev) h
end Go.Mini
