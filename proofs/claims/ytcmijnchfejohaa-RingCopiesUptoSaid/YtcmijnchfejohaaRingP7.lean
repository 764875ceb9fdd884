/-
  RingCopies holds where what it reads is of bulk at most 1048576 (the second form).
-/
import Derived.Test.YtcmijnchfejohaaRows
import Derived.Test.YtcmijnchfejohaaRingL
import Derived.Test.YtcmijnchfejohaaMiniV
import Derived.ProofKit
import Derived.OpenShut
import Derived.JoinedCond
namespace Go.Proofs.Ytcmijnchfejohaa
open Go.ChangeShapes Go.WideShapes Go.ChangeAt Go.RowKit

theorem Try.own : ownKnob Try.prog.godebug = Option.none := by kernel_rfl
theorem Try.laidOut : laidOutB Try.prog = true := by kernel_rfl
theorem Try.cellsE9 : Try.prog.cellsOf 9 = 1 := by kernel_rfl

theorem bulk_strs {H : Type} : ∀ A : List ByteArray, (A.map fun s => s.data.toList).flatten.length + A.length ≤ Rows.uptoBulkAll (strs (H := H) A)
  | [] => by simp [strs, Rows.uptoBulkAll]
  | s :: A => by
    have := bulk_strs (H := H) A
    simp only [strs, List.map_cons, Rows.uptoBulkAll, Rows.uptoBulk, List.flatten_cons, List.length_append, List.length_cons] at this ⊢
    omega
theorem bulk_of {H : Type} {d : DataW H} {ls : List (List UInt8)} (h : (d = .nil ∧ ls = []) ∨ ∃ A B, d = .slice (strs A) (strs B) ∧ ls = A.map fun s => s.data.toList) : ls.flatten.length + ls.length ≤ Rows.uptoBulk d := by
  rcases h with ⟨rfl, rfl⟩ | ⟨A, B, rfl, rfl⟩
  · simp
  · have := bulk_strs (H := H) A
    simp only [Rows.uptoBulk, List.length_map]
    omega

set_option maxRecDepth 100000 in
theorem copies_lifted (os : Os) (started : os.Started) (H : Type) (enc : TypeId × Value → H) (F : Stop.Interp) :
    ReturnsInHanded {} Try.checked os 7 .any ((Rows.OpenSpec.upto Rows.ringCopiesSpec).pre6 enc Try.prog Try.f7 Rows.ringCopiesUptoRow.domain false) (((Rows.OpenSpec.upto Rows.ringCopiesSpec).at F).post enc Try.prog Try.f7 false true false false) := by
  refine returnsInHanded_of_cond (C := Try.checked) (s := Rows.OpenSpec.upto Rows.ringCopiesSpec) (k := Rows.uptoSmall) rfl Try.own started (by kernel_rfl) Try.func7
    (OpenSpec.witness (enc := enc) (C := Try.checked) (s := Rows.OpenSpec.upto Rows.ringCopiesSpec) (k := Rows.uptoSmall) rfl false ⟨#[], #[.int .i64 0, .slice Option.none 0 0, .slice Option.none 0 0, .slice Option.none 0 0], []⟩ 8 (by kernel_rfl) (by kernel_rfl) (by kernel_rfl)
      (x := ([.lit (.int .i64 0), .nil, .nil, .nil], [], [])) (by kernel_rfl) rfl (by kernel_rfl)) ?_
  intro W base args ds gs before hval0 hW _ hk _
  have hval : ∀ (j : Nat) t v, Try.f7.params[j]? = some t → args[j]? = some v → Value.okWide Try.prog W .any base t v := hval0
  have hW' := hW
  obtain ⟨p, q, hA0, hV, rfl, _, _⟩ := hW
  have hA : DataW.TrodAll enc Try.prog W 0 (fun _ => true) true Try.f7.params.toList args.toList ds p := hA0
  rw [Try.params7] at hA hval
  obtain ⟨v0, vs0, d0, ds0, p0, q0, hargs, rfl, rfl, h0, r0⟩ := trodAll_cons hA
  obtain ⟨v1, vs1, d1, ds1, p1, q1, rfl, rfl, rfl, h1, r1⟩ := trodAll_cons r0
  obtain ⟨v2, vs2, d2, ds2, p2, q2, rfl, rfl, rfl, h2, r2⟩ := trodAll_cons r1
  obtain ⟨v3, vs3, d3, ds3, p3, q3, rfl, rfl, rfl, h3, r3⟩ := trodAll_cons r2
  obtain ⟨rfl, rfl, rfl⟩ := trodAll_nil r3
  obtain rfl : args = #[v0, v1, v2, v3] := by cases args; simp_all
  obtain ⟨rfl, rfl⟩ := trodVars_none hV
  obtain ⟨a0, rfl, rfl, rfl, w0⟩ := open_int Try.underlying3 (hval 0 3 v0 rfl rfl) h0
  have hb := of_decide_eq_true hk
  simp only [List.append_nil, Rows.uptoBulkAll] at hb
  obtain ⟨m1, H1, u1, l1, R1, g1, mo1, e1, s1, L1, b1⟩ := Go.Mini.open_strsD Try.underlying22 Try.underlying9 Try.cellsE9 (hval 1 22 v1 rfl rfl) h1 (Go.Mini.heap0_rel Try.prog 0 W)
  obtain ⟨m2, H2, u2, l2, R2, g2, mo2, e2, s2, L2, b2⟩ := Go.Mini.open_strsD Try.underlying22 Try.underlying9 Try.cellsE9 (hval 2 22 v2 rfl rfl) h2 R1
  replace e1 := (Go.Mini.ren_congr g2 u1 s1).symm.trans e1
  replace s1 := Go.Mini.sc_mono mo2.1 u1 s1
  replace L1 := L1.more mo2
  obtain ⟨m3, H3, u3, l3, R3, g3, mo3, e3, s3, L3, b3⟩ := Go.Mini.open_strsD Try.underlying22 Try.underlying9 Try.cellsE9 (hval 3 22 v3 rfl rfl) h3 R2
  replace e1 := (Go.Mini.ren_congr g3 u1 s1).symm.trans e1
  replace s1 := Go.Mini.sc_mono mo3.1 u1 s1
  replace L1 := L1.more mo3
  replace e2 := (Go.Mini.ren_congr g3 u2 s2).symm.trans e2
  replace s2 := Go.Mini.sc_mono mo3.1 u2 s2
  replace L2 := L2.more mo3
  have k1 := bulk_of b1
  have k2 := bulk_of b2
  have k3 := bulk_of b3
  have hbig : (1048576 : Nat) ≤ 4611686018427387904 := by decide
  have t1 : l1.flatten.length + l1.length ≤ 1048576 := by omega
  have t2 : l2.flatten.length + l2.length ≤ 1048576 := by omega
  have t3 : l3.flatten.length + l3.length ≤ 1048576 := by omega
  clear hA0 hval0
  simp only [List.append_nil] at hW'
  have lt1 : ∀ x ∈ p1, x.block < W.heap.size := by obtain ⟨fu, hfu⟩ := h1; exact DataW.trod_lt fu _ _ _ hfu
  have lt2 : ∀ x ∈ p2, x.block < W.heap.size := by obtain ⟨fu, hfu⟩ := h2; exact DataW.trod_lt fu _ _ _ hfu
  have lt3 : ∀ x ∈ p3, x.block < W.heap.size := by obtain ⟨fu, hfu⟩ := h3; exact DataW.trod_lt fu _ _ _ hfu
  have each : ∀ ls : List (List UInt8), ls.flatten.length + ls.length ≤ 1048576 → ∀ l ∈ ls, l.length ≤ 4611686018427387904 := by
    intro ls hls l hl
    have := Go.Mini.mem_flat_le hl
    omega
  have hd := Go.Mini.copies_spec 0 H3 a0 u1 l1 u2 l2 u3 l3 L1 (each l1 t1) (by omega) L2 (each l2 t2) (by omega) L3 (each l3 t3) (by omega) (by omega)
  have hc := Go.Mini.Does.calls (S := ⟨0, W.heap.size, W⟩) (Go.Mini.noExt_ok _ _) hd R3 (by
    intro x hx
    simp only [List.mem_cons, List.not_mem_nil, or_false] at hx
    rcases hx with rfl | rfl | rfl | rfl
    · trivial
    · exact s1
    · exact s2
    · exact s3) rfl
  simp only [List.map_cons, List.map_nil, Go.Mini.ren, e1, e2, e3] at hc
  refine hc.mono ?_
  rintro e W' ⟨rfl, bel⟩
  exact ⟨_, rfl, _, _, _, [], _, [], hW', trodAll_mk1 (shut_bool Try.underlying4 true), (trodAll_cons_mk (shut_int Try.underlying3 w0) (trodAll_cons_mk (Below.trod Try.laidOut (by kernel_rfl) (of_decide_eq_true (by kernel_rfl)) h1 bel lt1) (trodAll_cons_mk (Below.trod Try.laidOut (by kernel_rfl) (of_decide_eq_true (by kernel_rfl)) h2 bel lt2) (trodAll_cons_mk (Below.trod Try.laidOut (by kernel_rfl) (of_decide_eq_true (by kernel_rfl)) h3 bel lt3) trodAll_mk0)))), rfl, bel.frame _, fun h => by cases h⟩

theorem ringCopies_holds : Rows.RingCopiesUptoSaid :=
  OpenClaim.holds_of_cond 7 Try.f7 rfl rfl rfl rfl rfl rfl rfl ⟨rfl, rfl, rfl, rfl, rfl⟩ rfl rfl rfl rfl rfl (by kernel_rfl) Try.func7 (by kernel_rfl)
    (of_decide_eq_true (by kernel_rfl)) (by unfold Func.isWrapper; first | (rw [if_pos (by decide +kernel)]; kernel_rfl) | (rw [if_neg (by decide +kernel)]; exact ⟨rfl, rfl⟩))
    (fun os started H enc _ F => copies_lifted os started H enc F)

end Go.Proofs.Ytcmijnchfejohaa
