/-
  RingReads holds.
-/
import Derived.Test.YtcmijnchfejohaaRows
import Derived.Test.YtcmijnchfejohaaRingJ
import Derived.ProofKit
import Derived.OpenShut
namespace Go.Proofs.Ytcmijnchfejohaa
open Go.ChangeShapes Go.WideShapes Go.ChangeAt Go.RowKit

theorem Try.own : ownKnob Try.prog.godebug = Option.none := by kernel_rfl
theorem Try.laidOut : laidOutB Try.prog = true := by kernel_rfl
theorem Try.cellsE3 : Try.prog.cellsOf 3 = 1 := by kernel_rfl
theorem Try.bytesE3 : 1 ≤ Try.prog.bytesOf 3 := of_decide_eq_true (by kernel_rfl)
theorem Try.cellsE9 : Try.prog.cellsOf 9 = 1 := by kernel_rfl
theorem Try.bytesE9 : 1 ≤ Try.prog.bytesOf 9 := of_decide_eq_true (by kernel_rfl)

set_option maxRecDepth 100000 in
theorem ringReads_lifted (os : Os) (started : os.Started) (H : Type) (enc : TypeId × Value → H) :
    ReturnsInHanded {} Try.checked os 5 .any (Rows.ringReadsSpec.pre6 enc Try.prog Try.f5 Rows.ringReadsRow.domain false) (Rows.ringReadsSpec.post enc Try.prog Try.f5 false true false false) := by
  refine returnsInHanded_of_change_sized (C := Try.checked) Try.own started (by kernel_rfl) Try.func5
    (ChangeSpec.witness6 (enc := enc) (C := Try.checked) false ⟨#[], #[.int .i64 0, .slice Option.none 0 0, .slice Option.none 0 0], []⟩ 8 (by kernel_rfl) (by kernel_rfl) (by kernel_rfl) (by kernel_rfl)) ?_
  intro W base args ds gs before hval0 hW _ hsz0 _
  have hsz : (DataW.weightsEach Try.prog (Try.f5.params.toList ++ Rows.ringReadsSpec.plain.varTypes Try.prog) (ds ++ gs)).all (· ≤ reachBytes) = true := hsz0
  clear hsz0
  have hval : ∀ (j : Nat) t v, Try.f5.params[j]? = some t → args[j]? = some v → Value.okWide Try.prog W .any base t v := hval0
  have hW' := hW
  obtain ⟨p, q, hA0, hV, rfl, _, _⟩ := hW
  have hA : DataW.TrodAll enc Try.prog W 0 (fun _ => true) true Try.f5.params.toList args.toList ds p := hA0
  rw [Try.params5] at hA hval hsz
  obtain ⟨v0, vs0, d0, ds0, p0, q0, hargs, rfl, rfl, h0, r0⟩ := trodAll_cons hA
  obtain ⟨v1, vs1, d1, ds1, p1, q1, rfl, rfl, rfl, h1, r1⟩ := trodAll_cons r0
  obtain ⟨v2, vs2, d2, ds2, p2, q2, rfl, rfl, rfl, h2, r2⟩ := trodAll_cons r1
  obtain ⟨rfl, rfl, rfl⟩ := trodAll_nil r2
  obtain rfl : args = #[v0, v1, v2] := by cases args; simp_all
  obtain ⟨rfl, rfl⟩ := trodVars_none hV
  obtain ⟨a0, rfl, rfl, rfl, w0⟩ := open_int Try.underlying3 (hval 0 3 v0 rfl rfl) h0
  obtain ⟨m1, H1, u1, l1, R1, g1, mo1, e1, s1, L1, b1⟩ := Go.Mini.open_strs Try.underlying22 Try.underlying9 Try.cellsE9 Try.bytesE9 (hval 1 22 v1 rfl rfl) h1 (Go.Mini.heap0_rel Try.prog 0 W)
  obtain ⟨ba1, bb1⟩ := b1 _ _ 1 hsz rfl rfl
  obtain ⟨m2, H2, u2, l2, R2, g2, mo2, e2, s2, L2, wn2, b2⟩ := Go.Mini.open_nums Try.underlying39 Try.underlying3 Try.cellsE3 Try.bytesE3 (hval 2 39 v2 rfl rfl) h2 R1
  replace e1 := (Go.Mini.ren_congr g2 u1 s1).symm.trans e1
  replace s1 := Go.Mini.sc_mono mo2.1 u1 s1
  replace L1 := L1.more mo2
  have ba2 := b2 _ _ 2 hsz rfl rfl
  clear hA0 hval0
  simp only [List.append_nil] at hW'
  have lt1 : ∀ x ∈ p1, x.block < W.heap.size := by obtain ⟨fu, hfu⟩ := h1; exact DataW.trod_lt fu _ _ _ hfu
  have lt2 : ∀ x ∈ p2, x.block < W.heap.size := by obtain ⟨fu, hfu⟩ := h2; exact DataW.trod_lt fu _ _ _ hfu
  have hd := Go.Mini.reads_spec 0 H2 a0 u1 l1 u2 l2 L1 (fun l hl => Nat.le_trans (bb1 l hl) (by decide)) (Nat.le_trans ba1 (by decide)) L2 wn2 (Nat.le_trans ba2 (by decide))
  have hc := Go.Mini.Does.calls (S := ⟨0, W.heap.size, W⟩) (Go.Mini.noExt_ok _ _) hd R2 (by
    intro x hx
    simp only [List.mem_cons, List.not_mem_nil, or_false] at hx
    rcases hx with rfl | rfl | rfl
    · trivial
    · exact s1
    · exact s2) rfl
  simp only [List.map_cons, List.map_nil, Go.Mini.ren, e1, e2] at hc
  refine hc.mono ?_
  rintro e W' ⟨rfl, bel⟩
  exact ⟨_, rfl, _, _, _, [], _, [], hW', trodAll_mk1 (shut_bool Try.underlying4 true), (trodAll_cons_mk (shut_int Try.underlying3 w0) (trodAll_cons_mk (Below.trod Try.laidOut (by kernel_rfl) (of_decide_eq_true (by kernel_rfl)) h1 bel lt1) (trodAll_cons_mk (Below.trod Try.laidOut (by kernel_rfl) (of_decide_eq_true (by kernel_rfl)) h2 bel lt2) trodAll_mk0))), rfl, bel.frame _, fun h => by cases h⟩

theorem ringReads_holds : Rows.RingReadsSaid :=
  OpenClaim.holds_of_wide 5 Try.f5 rfl rfl rfl rfl rfl rfl rfl ⟨rfl, rfl, rfl, rfl, rfl⟩ rfl rfl rfl rfl rfl (by kernel_rfl) Try.func5 (by kernel_rfl)
    (of_decide_eq_true (by kernel_rfl)) (by unfold Func.isWrapper; first | (rw [if_pos (by decide +kernel)]; kernel_rfl) | (rw [if_neg (by decide +kernel)]; exact ⟨rfl, rfl⟩))
    (fun os started H enc _ => ringReads_lifted os started H enc)

end Go.Proofs.Ytcmijnchfejohaa
