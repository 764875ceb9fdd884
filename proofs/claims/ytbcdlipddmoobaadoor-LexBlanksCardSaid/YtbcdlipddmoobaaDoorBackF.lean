/-
  BACK, part F: tokens stand in their order, each where it says. Plain law.
-/
import Derived.Test.YtbcdlipddmoobaaDoorBackE
set_option linter.unusedSimpArgs false
set_option maxHeartbeats 8000000
set_option maxRecDepth 100000
namespace Go.Mini
open Go.Proofs

/-- From k on up to a place there is nothing but blanks and remarks (and lines' ends, where nl holds). -/
inductive Gap (T : List UInt8) (nl : Bool) (to : Nat) : Nat → Prop
  | done {k : Nat} (h : to ≤ k) : Gap T nl to k
  | blank {k : Nat} {c : UInt8} (h : k < to) (hc : T[k]? = some c) (hb : c = 32 ∨ c = 9 ∨ c = 10 ∧ nl = true) (hm : Gap T nl to (k + 1)) : Gap T nl to k
  | remark {k e : Nat} (h : k < to) (hc : T[k]? = some 35) (h1 : k ≤ e) (h2 : e ≤ to) (hn : ∀ j, k ≤ j → j < e → T[j]? ≠ some 10) (he : e = to ∨ T[e]? = some 10) (hm : Gap T nl to (e + 1)) : Gap T nl to k
/-- Each token where it says. -/
def Pl (T : List UInt8) : Bool → Nat → List Tok → Prop
  | _, _, [] => True
  | sm, a, t :: r => a ≤ t.at' ∧ t.at' ≤ T.length ∧ Gap T (!sm) t.at' a ∧
      (if t.kind = 6 then (t.at' = T.length ∨ T[t.at']? = some 10) ∧ sm = true ∧ Pl T false t.at' r else (∃ R, T.drop t.at' = t.word ++ R) ∧ Pl T true (t.at' + t.word.length) r)
theorem peek_some {T : List UInt8} {a : Nat} {c : UInt8} (h : peekB T a = c) (hc : c ≠ 10) : T[a]? = some c := by
  have hlt := peek_lt (T := T) (a := a) (by rw [h]; exact hc)
  unfold peekB at h
  rw [List.getElem?_eq_getElem hlt] at h ⊢
  simpa using h
theorem peek_some' {T : List UInt8} {a : Nat} {c : UInt8} (h : peekB T a = c) (hlt : a < T.length) : T[a]? = some c := by
  unfold peekB at h
  rw [List.getElem?_eq_getElem hlt] at h ⊢
  simpa using h
theorem indexByte_spec10 (X : List UInt8) : (Lib.indexByte X 10 = -1 ∧ ∀ j : Nat, X[j]? ≠ some 10) ∨ ∃ i : Nat, Lib.indexByte X 10 = i ∧ X[i]? = some 10 ∧ ∀ j : Nat, j < i → X[j]? ≠ some 10 := by
  have h1 := Lib.indexByte_ge X 10
  by_cases h : Lib.indexByte X 10 = -1
  · exact .inl ⟨h, Lib.indexByte_none h⟩
  · obtain ⟨i, hi⟩ : ∃ i : Nat, Lib.indexByte X 10 = i := ⟨(Lib.indexByte X 10).toNat, by omega⟩
    exact .inr ⟨i, hi, Lib.indexByte_some hi⟩
theorem skipR_spec {T : List UInt8} {a : Nat} : (∀ j, a ≤ j → j < skipR T a → T[j]? ≠ some 10) ∧ (skipR T a = T.length ∨ T[skipR T a]? = some 10) := by
  unfold skipR
  rcases indexByte_spec10 (T.drop a) with ⟨h1, h2⟩ | ⟨i, h1, h2, h3⟩
  · rw [h1, if_neg (by decide)]
    refine ⟨fun j h3 _ => ?_, .inl rfl⟩
    have := h2 (j - a)
    rwa [List.getElem?_drop, show a + (j - a) = j by omega] at this
  · rw [h1, if_pos (by omega), Int.toNat_natCast]
    rw [List.getElem?_drop] at h2
    refine ⟨fun j h4 h5 => ?_, .inr h2⟩
    have := h3 (j - a) (by omega)
    rwa [List.getElem?_drop, show a + (j - a) = j by omega] at this
theorem lx_places {T : List UInt8} {a : Nat} {sm : Bool} {m : List Tok} (h : Lx T a sm m) : a ≤ T.length → ∀ a0, a0 ≤ a → (∀ to, a ≤ to → to ≤ T.length → Gap T (!sm) to a → Gap T (!sm) to a0) → Pl T sm a0 m := by
  induction h with
  | @blank a sm m hb hl _ ih =>
    intro ha a0 h0 hcl
    refine ih (by omega) a0 (by omega) fun to h1 h2 hg => hcl to (by omega) h2 ?_
    have : ∃ c, T[a]? = some c ∧ (c = 32 ∨ c = 9 ∨ c = 10 ∧ (!sm) = true) := by
      rcases hb with q | q
      · exact ⟨32, peek_some q (by decide), .inl rfl⟩
      · exact ⟨9, peek_some q (by decide), .inr (.inl rfl)⟩
    obtain ⟨c, q1, q2⟩ := this
    exact .blank (by omega) q1 q2 hg
  | @remark a sm m hb h1 h2 _ ih =>
    intro ha a0 h0 hcl
    obtain ⟨q1, q2⟩ := skipR_spec (T := T) (a := a)
    refine ih h2 a0 (by omega) fun to h3 h4 hg => hcl to (by omega) h4 ?_
    refine .remark (e := skipR T a) (by omega) (peek_some hb (by decide)) (by omega) h3 q1 (by rcases q2 with q | q; exact .inl (by omega); exact .inr q) ?_
    cases hg with
    | done h => exact .done (by omega)
    | blank _ _ _ hm => exact hm
    | remark _ hc _ _ _ _ _ =>
      rcases q2 with q | q
      · have := (List.getElem?_eq_some_iff.1 hc).1; omega
      · rw [q] at hc; cases hc
  | @fin sm =>
    intro ha a0 h0 hcl
    cases sm with
    | false => exact trivial
    | true => exact ⟨h0, Nat.le_refl _, hcl _ (Nat.le_refl _) (Nat.le_refl _) (.done (Nat.le_refl _)), by rw [if_pos rfl]; exact ⟨.inl rfl, rfl, trivial⟩⟩
  | @line a sm m hb hl _ ih =>
    intro ha a0 h0 hcl
    have hc := peek_some' hb hl
    cases sm with
    | false => exact ih (by omega) a0 (by omega) fun to h1 h2 hg => hcl to (by omega) h2 (.blank (by omega) hc (.inr (.inr ⟨rfl, rfl⟩)) hg)
    | true =>
      refine ⟨h0, by simp only; omega, hcl _ (Nat.le_refl _) ha (.done (Nat.le_refl _)), ?_⟩
      rw [if_pos rfl]
      exact ⟨.inr hc, rfl, ih (by omega) a (by omega) fun to h1 h2 hg => .blank (by omega) hc (.inr (.inr ⟨rfl, rfl⟩)) hg⟩
  | @tok a sm m t to hb ht h2 _ ih =>
    intro ha a0 h0 hcl
    obtain ⟨q1, q2, q3, q4, q5⟩ := tokS_inv ht
    refine ⟨by omega, by omega, by rw [q2]; exact hcl _ (Nat.le_refl _) ha (.done (Nat.le_refl _)), ?_⟩
    rw [if_neg (okTok_kind q1), q2]
    exact ⟨⟨_, q3⟩, by rw [← q4]; exact ih h2 to (Nat.le_refl _) fun _ _ _ hg => hg⟩
end Go.Mini
