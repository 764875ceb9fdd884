/-
  The closed laws of layers 16, 24, 25, 28: what is known of calls.
-/
import Derived.Test.YtomndnhkgfeiiaaGreatDoorKLexMa
import Derived.Test.YtomndnhkgfeiiaaGreatDoorMiniZFtoZK
import Derived.Shelf.Spec.TrailingZeros
import Derived.Shelf.SlMaps.Clone
set_option linter.unusedSimpArgs false
namespace Go.Proofs
open Go.Shelf
def Tryz.tz_ren : Go.Shelf.Ren := ⟨fun | 29 => 175 | n => n, fun | 22 => 187 | 25 => 269 | 54 => 362 | n => n, fun | 1 => 0 | n => n⟩
theorem Tryz.tz_lays : Lays7.n29 Tryz.prog Tryz.tz_ren := {
  mixed := by kernel_rfl
  f29 := Tryz.func175.trans (congrArg some (by kernel_rfl))
  t0 := Tryz.underlying0
  a0 := Tryz.isAgg0
  z0 := Tryz.sizeOf0
  v0 := Tryz.zeroValue0
  i0 := by kernel_rfl
  t3 := Tryz.underlying3
  a3 := Tryz.isAgg3
  z3 := Tryz.sizeOf3
  v3 := Tryz.zeroValue3
  i3 := by kernel_rfl
  t4 := Tryz.underlying4
  a4 := Tryz.isAgg4
  z4 := Tryz.sizeOf4
  v4 := Tryz.zeroValue4
  i4 := by kernel_rfl
  t5 := Tryz.underlying5
  a5 := Tryz.isAgg5
  z5 := Tryz.sizeOf5
  v5 := Tryz.zeroValue5
  i5 := by kernel_rfl
  t22 := Tryz.underlying187
  a22 := Tryz.isAgg187
  z22 := Tryz.sizeOf187
  v22 := Tryz.zeroValue187
  i22 := by kernel_rfl
  t25 := Tryz.underlying269
  a25 := Tryz.isAgg269
  z25 := Tryz.sizeOf269
  v25 := Tryz.zeroValue269
  i25 := by kernel_rfl
  t54 := Tryz.underlying362
  a54 := Tryz.isAgg362
  z54 := Tryz.sizeOf362
  g1 := by kernel_rfl }
def Tryz.mc_ren : Go.Shelf.Ren := ⟨fun | 5 => 61 | 7 => 119 | n => n, fun | 23 => 162 | 25 => 3 | 3 => 167 | n => n, fun n => n⟩
theorem Tryz.mc_lays : SlLaysW.n5 Tryz.prog Tryz.mc_ren := {
  mixed := by kernel_rfl
  f5 := ⟨Tryz.f61.name, by kernel_rfl, Tryz.func61.trans (congrArg some (by kernel_rfl))⟩
  f7 := Tryz.func119.trans (congrArg some (by kernel_rfl))
  t4 := Tryz.underlying4
  a4 := Tryz.isAgg4
  z4 := Tryz.sizeOf4
  v4 := Tryz.zeroValue4
  t20 := Tryz.underlying20
  a20 := Tryz.isAgg20
  z20 := Tryz.sizeOf20
  v20 := Tryz.zeroValue20
  t23 := Tryz.underlying162
  a23 := Tryz.isAgg162
  z23 := Tryz.sizeOf162
  v23 := Tryz.zeroValue162 }
end Go.Proofs
namespace Go.Mini
open Go.Proofs

theorem joinSays : JoinSays Tryz.prog 183 := fun bk o c xs sep w h1 h2 h3 h4 h5 => Tryz.strings_Join bk o c xs sep w h1 h2 h3 h4 h5
theorem itoaSays : ItoaSays Tryz.prog 164 := fun i hi w => Tryz.strconv_Itoa_small i hi w
theorem cloneSays : CloneSays Tryz.prog 61 := fun b es clock w hb => AnyW.maps_Clone Tryz.mc_lays b es clock w hb
theorem tz64_at : ∀ j, j < 64 → tz64I.getD j 0 = ((Lib.deBruijn64tab.getD j 0 : Nat) : Int) := by decide
theorem tzSays (G : Nat) : ∀ x, x < 18446744073709551616 → ∀ w, (baseM G).W w → Calls Tryz.prog 175 #[.int .u64 (x : Nat)] w fun e w' => e = .returned (.int .i64 (Lib.ctz 64 x : Nat)) ∧ w' = w := fun x hx w hw =>
  Any7.bits_TrailingZeros64 Tryz.tz_lays x hx w fun _ j hj => by
    have := hw.2.cell (g := 0) (by kernel_rfl) j hj
    rw [tz64_at j hj] at this
    exact this
def zX : Known := fun f args h => match f with
  | 183 => joinX args h
  | 164 => itoaX args h
  | 175 => tzX args h
  | 61 => cloneX args h
  | f => lexX f args h
theorem zX_ok (G : Nat) : KnownOk Tryz.prog G (GoodE Tryz.prog (baseM G)) zX := by
  intro f args h v h' e
  unfold zX at e
  split at e
  · exact .ext (joinX_ok joinSays e)
  · exact .ext (itoaX_ok itoaSays e)
  · exact .ext (tzX_ok (tzSays G) e)
  · exact .ext (cloneX_ok cloneSays e)
  · exact lexX_ok G _ _ _ _ _ e
def zFl (f : FuncId) : Bool := match f with
  | 135 => true
  | 159 => true
  | 164 => true
  | 186 => true
  | _ => false
end Go.Mini
