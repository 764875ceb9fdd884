/-
  The closed laws of layers 15 and on: what is known of calls.
-/
import Derived.Test.YtpdpbbejnbgdpaaGreatDoorZLexMa
import Derived.Test.YtpdpbbejnbgdpaaGreatDoorMiniZFtoZI
set_option linter.unusedSimpArgs false
namespace Go.Mini
open Go.Proofs

theorem joinSays : JoinSays Tryz.prog 179 := fun bk o c xs sep w h1 h2 h3 h4 h5 => Tryz.strings_Join bk o c xs sep w h1 h2 h3 h4 h5
theorem itoaSays : ItoaSays Tryz.prog 161 := fun i hi w => Tryz.strconv_Itoa_small i hi w
def zX : Known := fun f args h => match f with
  | 179 => joinX args h
  | 161 => itoaX args h
  | f => lexX f args h
theorem zX_ok (G : Nat) : KnownOk Tryz.prog G (GoodE Tryz.prog (baseM G)) zX := by
  intro f args h v h' e
  unfold zX at e
  split at e
  · exact .ext (joinX_ok joinSays e)
  · exact .ext (itoaX_ok itoaSays e)
  · exact lexX_ok G _ _ _ _ _ e
def zFl (f : FuncId) : Bool := match f with
  | 145 => true
  | 160 => true
  | 161 => true
  | _ => false
end Go.Mini
