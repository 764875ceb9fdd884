/-
  The closed laws of layers 13 and 14: what is known of calls.
-/
import Derived.Test.YtpdpbbejnbgdpaaDoorDLexMa
import Derived.Test.YtpdpbbejnbgdpaaDoorMiniZFtoZG
set_option linter.unusedSimpArgs false
namespace Go.Mini
open Go.Proofs

theorem joinSays : JoinSays Tryd.prog 59 := fun bk o c xs sep w h1 h2 h3 h4 h5 => Tryd.strings_Join bk o c xs sep w h1 h2 h3 h4 h5
theorem itoaSays : ItoaSays Tryd.prog 38 := fun i hi w => Tryd.strconv_Itoa_small i hi w
def dX : Known := fun f args h => match f with
  | 59 => joinX args h
  | 38 => itoaX args h
  | f => lexX f args h
theorem dX_ok (G : Nat) : KnownOk Tryd.prog G (GoodE Tryd.prog (baseM G)) dX := by
  intro f args h v h' e
  unfold dX at e
  split at e
  · exact .ext (joinX_ok joinSays e)
  · exact .ext (itoaX_ok itoaSays e)
  · exact lexX_ok G _ _ _ _ _ e
def dFl (f : FuncId) : Bool := match f with
  | 28 => true
  | 37 => true
  | 38 => true
  | _ => false
end Go.Mini
