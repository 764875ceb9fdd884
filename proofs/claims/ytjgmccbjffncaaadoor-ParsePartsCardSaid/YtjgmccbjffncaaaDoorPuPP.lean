/-
  ParseParts holds.
-/
import Derived.Test.YtjgmccbjffncaaaDoorRows
import Derived.Test.YtjgmccbjffncaaaDoorCards
import Derived.Test.YtjgmccbjffncaaaDoorTie
import Derived.Test.YtjgmccbjffncaaaDoorPuG
import Derived.Test.YtjgmccbjffncaaaDoorMiniZFtoZJ
import Derived.ProofKit
import Derived.OpenShut
import Derived.HandedShaped
import Derived.Shelf.Vars
import Derived.ChangeMaps5
import Derived.LaidMore
import Derived.Lib.LaidTab
import Derived.Stop.LaidErr
import Derived.Stop.Joined
import Derived.SevenTiedAt
namespace Go.Proofs.YtjgmccbjffncaaaDoor
open Go.ChangeShapes Go.WideShapes Go.ChangeAt Go.RowKit Go.ChangeMaps

theorem Tryd.own : ownKnob Tryd.prog.godebug = Option.none := by kernel_rfl
theorem Tryd.laidOut : laidOutB Tryd.prog = true := by kernel_rfl
theorem door_met (os : Os) (args : Array Value) : laidMetH Tryd.prog Rows.parsePartsRow.laid ((World.doorLaid Tryd.prog 24 os).forCall (fun _ _ => 0) ⟨#[], args, []⟩).memory :=
  laidMetH_of_parts3 (fuel := 8) (laidMet_of_run' 8 (by kernel_rfl) (by kernel_rfl)) (by kernel_rfl) (by kernel_rfl)
theorem tab_laid {W : World} (h : laidMetH Tryd.prog Rows.parsePartsRow.laid W) : Lib.TabIs Tryd.prog W "internal/strconv.uint64pow10" .u64 Lib.pow10Tab := by
  have h2 : laidMet Tryd.prog Rows.parsePartsRow.laid W := by
    unfold laidMetH at h
    have e : (Rows.parsePartsRow.laid.filter fun x => x.2.handleName?.isSome) = [] := by kernel_rfl
    rw [e] at h
    exact h
  exact Lib.tabIs_of_head (rest := []) (g := 1) (t := 150) (e := 103) (n := 20) (by kernel_rfl) (by kernel_rfl) Tryd.underlying150 Tryd.underlying103 (by kernel_rfl) (by kernel_rfl) h2.tail.tail

set_option maxRecDepth 100000 in
theorem parseParts_lifted (os : Os) (started : os.Started) (H : Type) (enc : TypeId × Value → H) :
    ReturnsInHanded {} Tryd.checked os 5 .any (fun w args => (Rows.parsePartsSpec.pre enc Tryd.prog Tryd.f5 [] false w args ∧ laidMetH Tryd.prog Rows.parsePartsRow.laid w) ∧ sizedMet enc Tryd.prog Tryd.f5 (OpenSpec.ofChange Rows.parsePartsSpec) false w args)
      (Rows.parsePartsSpec.post enc Tryd.prog Tryd.f5 false true false false) := by
  refine returnsInHanded_of_change_both (C := Tryd.checked) (X := fun w _ => laidMetH Tryd.prog Rows.parsePartsRow.laid w) (fun _ _ _ hh h => h.of_heap hh) Tryd.own started (by kernel_rfl) Tryd.func5
    (ChangeSpec.witness_shaped (enc := enc) (C := Tryd.checked) (os := os) (X := fun w _ => laidMetH Tryd.prog Rows.parsePartsRow.laid w) false (World.doorLaid Tryd.prog 24 os) #[.agg #[.slice Option.none 0 0], .slice Option.none 0 0] 8 rfl (World.shaped_of_RefB (by kernel_rfl) (by kernel_rfl)) (by kernel_rfl) (by kernel_rfl) (by kernel_rfl) (door_met os _)) ?_
  intro W base args ds gs before hval0 hW _ hsz0 hX hshape _
  have hsz : (DataW.weightsEach Tryd.prog (Tryd.f5.params.toList ++ Rows.parsePartsSpec.plain.varTypes Tryd.prog) (ds ++ gs)).all (· ≤ reachBytes) = true := hsz0
  clear hsz0
  have hval : ∀ (j : Nat) t v, Tryd.f5.params[j]? = some t → args[j]? = some v → Value.okWide Tryd.prog W .any base t v := hval0
  have hW' := hW
  obtain ⟨p, q, hA0, hV, rfl, _, _⟩ := hW
  have hA : DataW.TrodAll enc Tryd.prog W 0 (fun _ => true) true Tryd.f5.params.toList args.toList ds p := hA0
  rw [Tryd.params5] at hA hval hsz
  obtain ⟨v0, vs0, d0, ds0, p0, q0, hargs, rfl, rfl, h0, r0⟩ := trodAll_cons hA
  obtain ⟨v1, vs1, d1, ds1, p1, q1, rfl, rfl, rfl, h1, r1⟩ := trodAll_cons r0
  obtain ⟨rfl, rfl, rfl⟩ := trodAll_nil r1
  obtain rfl : args = #[v0, v1] := by cases args; simp_all
  obtain ⟨rfl, rfl⟩ := trodVars_none hV
  obtain ⟨m0, H0, u0, l0, R0, g0, mo0, e0, s0, L0, fi0⟩ := Go.Mini.open_script (hval 0 24 v0 rfl rfl) h0 (fun w hw => of_decide_eq_true (List.all_eq_true.1 hsz _ (DataW.weights_mem_each (j := 0) rfl rfl w hw))) (Go.Mini.heap0_rel Tryd.prog 0 W)
  obtain ⟨m1, H1, u1, l1, R1, g1, mo1, e1, s1, L1, wn1, b1⟩ := Go.Mini.open_nums Tryd.underlying38 Tryd.underlying3 (by kernel_rfl) (of_decide_eq_true (by kernel_rfl)) (hval 1 38 v1 rfl rfl) h1 R0
  replace e0 := (Go.Mini.ren_congr g1 (.agg #[u0]) s0).symm.trans e0
  replace s0 := Go.Mini.sc_mono mo1.1 (.agg #[u0]) s0
  replace L0 := L0.more mo1
  have ba1 := b1 _ _ 1 hsz rfl rfl
  clear hA0 hval0
  simp only [List.append_nil] at hW'
  have hM : ∃ m, W.cell? ⟨0, 0, Option.none⟩ = some (.int .i64 m) := cell_of_shapedOpen_int (zero := #[.int .i64 0]) (t := 3) hshape (of_decide_eq_true (by kernel_rfl)) (by kernel_rfl) rfl (by kernel_rfl) (by kernel_rfl) Tryd.underlying3
  have lt0 : ∀ x ∈ p0, x.block < W.heap.size := by obtain ⟨fu, hfu⟩ := h0; exact DataW.trod_lt fu _ _ _ hfu
  have lt1 : ∀ x ∈ p1, x.block < W.heap.size := by obtain ⟨fu, hfu⟩ := h1; exact DataW.trod_lt fu _ _ _ hfu
  have hd := Go.Mini.parseParts_law H1 l0 u0 u1 l1 L0 fi0 L1 wn1 (Nat.le_trans ba1 (by decide))
  have hc := Go.Mini.Does.calls (S := ⟨0, W.heap.size, W⟩) (Go.Mini.goodE_ok (Go.Mini.baseM 0) ⟨0, W.heap.size, W⟩ ⟨rfl, ⟨hM, tab_laid hX⟩, rfl⟩) hd R1 (by
    intro x hx
    simp only [List.mem_cons, List.not_mem_nil, or_false] at hx
    rcases hx with rfl | rfl
    · exact s0
    · exact s1) rfl
  simp only [List.map_cons, List.map_nil, e0, e1] at hc
  try simp only [Go.Mini.ren] at hc
  refine hc.mono ?_
  rintro e W' ⟨rfl, bel⟩
  exact ⟨_, rfl, _, _, _, [], _, [], hW', trodAll_mk1 (shut_bool Tryd.underlying4 true), (trodAll_cons_mk (Below.trod Tryd.laidOut (by kernel_rfl) (of_decide_eq_true (by kernel_rfl)) h0 bel lt0) (trodAll_cons_mk (Below.trod Tryd.laidOut (by kernel_rfl) (of_decide_eq_true (by kernel_rfl)) h1 bel lt1) trodAll_mk0)), rfl, bel.frame _, fun h => by cases h⟩

theorem parseParts_row : Rows.ParsePartsSaid :=
  OpenClaim.holds_of_wide 5 Tryd.f5 rfl rfl rfl rfl rfl rfl rfl ⟨rfl, rfl, rfl, rfl, rfl⟩ rfl rfl rfl rfl rfl (by kernel_rfl) Tryd.func5 (by kernel_rfl)
    (of_decide_eq_true (by kernel_rfl)) (by unfold Func.isWrapper; first | (rw [if_pos (by decide +kernel)]; kernel_rfl) | (rw [if_neg (by decide +kernel)]; exact ⟨rfl, rfl⟩))
    (fun os started H enc _ => parseParts_lifted os started H enc)

theorem parseParts_holds : Rows.ParsePartsCardSaid :=
  Claim7.holds_tied_plain_at .later [] [.data, .data, .data] true (true, "1d9853dba1f4196a7c6aec1a48161b707558f8c2413bf43ed0eb4e268d601ec7") true
    parseParts_row (fun _ h => by cases h) (by kernel_rfl) (fun _ h => by cases h) parseParts_row_tie rfl ⟨rfl, rfl⟩ (by kernel_rfl) rfl
    (fun f fn hf hfn => by
      obtain rfl : f = 5 := Option.some.inj ((show Tryd.prog.funcNamed "dragoman/dragomanlaw13.ParseParts" = some 5 by kernel_rfl).symm.trans hf) |>.symm
      obtain rfl : fn = Tryd.f5 := (Option.some.inj (Tryd.func5.symm.trans hfn)).symm
      exact ⟨by kernel_rfl, fun j t ht => by
        rw [Tryd.params5] at ht
        have hm : t ∈ [24, 38] := by have := Array.mem_of_getElem? ht; simpa using this
        have hall : ([24, 38].all fun u => !Tryd.prog.wantsStandIn u) = true := by kernel_rfl
        exact (show Tryd.prog.wantsStandIn t = false by simpa using List.all_eq_true.1 hall t hm)⟩)
    (by kernel_rfl)

end Go.Proofs.YtjgmccbjffncaaaDoor
