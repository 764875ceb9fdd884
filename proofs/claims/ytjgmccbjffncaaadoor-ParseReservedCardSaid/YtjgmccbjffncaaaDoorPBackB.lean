import Derived.Test.YtjgmccbjffncaaaDoorPBackA
set_option maxHeartbeats 4000000
set_option linter.unusedSimpArgs false
namespace Go.Mini
inductive Lx (T : List UInt8) : Nat → Bool → List Tok → Prop
 | blank {a : Nat} {sm : Bool} {m : List Tok} (hb : peekB T a = 32 ∨ peekB T a = 9) (hl : a < T.length) (hm : Lx T (a + 1) sm m) : Lx T a sm m
 | remark {a : Nat} {sm : Bool} {m : List Tok} (hb : peekB T a = 35) (h1 : a < skipR T a) (h2 : skipR T a ≤ T.length) (hm : Lx T (skipR T a) sm m) : Lx T a sm m
 | fin {sm : Bool} : Lx T T.length sm (if sm then [⟨6, [], 0, T.length⟩] else [])
 | line {a : Nat} {sm : Bool} {m : List Tok} (hb : peekB T a = 10) (hl : a < T.length) (hm : Lx T (a + 1) false m) : Lx T a sm ((if sm then [⟨6, [], 0, a⟩] else []) ++ m)
 | tok {a : Nat} {sm : Bool} {m : List Tok} {t : Tok} {to : Nat} (hb : peekB T a ≠ 32 ∧ peekB T a ≠ 9 ∧ peekB T a ≠ 35 ∧ peekB T a ≠ 10) (ht : tokS T a = .ok (t, to)) (h2 : to ≤ T.length) (hm : Lx T to true m) : Lx T a sm (t :: m)
theorem peek_end (T : List UInt8) : peekB T T.length = 10 := by unfold peekB; simp
theorem lexA_lx {T : List UInt8} : ∀ (n a : Nat) (sm : Bool) (o l : List Tok), T.length - a ≤ n → a ≤ T.length → lexA T a sm o = .ok l → ∃ m, l = o ++ m ∧ Lx T a sm m := by
 intro n
 induction n with
 | zero =>
  intro a sm o l h1 h2 h
  obtain rfl : a = T.length := by omega
  rw [lexA_eq h2, peek_end] at h
  simp only [if_neg (show ¬ ((10 : UInt8) = 32 ∨ (10 : UInt8) = 9) by decide), if_neg (show ¬ (10 : UInt8) = 35 by decide), if_true] at h
  cases h
  exact ⟨_, by cases sm <;> simp, .fin⟩
 | succ n ih =>
  intro a sm o l h1 h2 h
  have lt10 : peekB T a ≠ 10 → a < T.length := peek_lt
  rw [lexA_eq h2] at h
  split at h
  ·rename_i hb
   have := lt10 (by rcases hb with q | q <;> rw [q] <;> decide)
   obtain ⟨m, q1, q2⟩ := ih _ _ _ _ (by omega) (by omega) h
   exact ⟨m, q1, .blank hb this q2⟩
  ·rename_i hb1
   split at h
   ·rename_i hb
    obtain ⟨q1, q2⟩ := skipR_gt hb
    obtain ⟨m, q3, q4⟩ := ih _ _ _ _ (by omega) q2 h
    exact ⟨m, q3, .remark hb q1 q2 q4⟩
   ·rename_i hb2
    split at h
    ·rename_i hb
     split at h
     ·rename_i ha
      subst ha
      cases h
      exact ⟨_, by cases sm <;> simp, .fin⟩
     ·obtain ⟨m, q3, q4⟩ := ih _ _ _ _ (by omega) (by omega) h
      exact ⟨_, by rw [q3]; cases sm <;> simp, .line hb (by omega) q4⟩
    ·rename_i hb3
     cases ht : tokS T a with
     | error ep => rw [ht] at h; cases h
     | ok tt =>
      obtain ⟨t, to⟩ := tt
      rw [ht] at h
      have q1 := tokS_gt ht
      have q2 := tokS_le ht
      obtain ⟨m, q3, q4⟩ := ih _ _ _ _ (by omega) q2 h
      exact ⟨t :: m, by rw [q3]; simp, .tok ⟨fun q => hb1 (.inl q), fun q => hb1 (.inr q), hb2, hb3⟩ ht q2 q4⟩
theorem lexS_lx {T : List UInt8} {l : List Tok} (h : lexS T = .ok l) : T.length ≤ 2048 ∧ Lx T 0 false l := by
 rw [lexS_eq] at h
 split at h
 ·cases h
 ·obtain ⟨m, q1, q2⟩ := lexA_lx _ 0 false [] l (Nat.le_refl _) (Nat.zero_le _) h
  simp at q1
  subst q1
  exact ⟨by omega, q2⟩
def shaped : Bool → List Tok → Prop
 | sm, [] => sm = false
 | sm, t :: r => if t.kind = 6 then sm = true ∧ t.text = [] ∧ t.n = 0 ∧ shaped false r else okTok t.kind t.text t.n ∧ shaped true r
theorem lx_shaped {T : List UInt8} {a : Nat} {sm : Bool} {m : List Tok} (h : Lx T a sm m) : shaped sm m := by
 induction h with
 | blank _ _ _ ih => exact ih
 | remark _ _ _ _ ih => exact ih
 | @fin sm => cases sm <;> simp [shaped]
 | @line a sm m _ _ _ ih => cases sm <;> simp [shaped, ih]
 | tok _ ht _ _ ih =>
  obtain ⟨q1, _⟩ := tokS_inv ht
  simp only [shaped, if_neg (okTok_kind q1)]
  exact ⟨q1, ih⟩
def Tok.core (t : Tok) : Nat × List UInt8 × Nat := (t.kind, t.text, t.n)
def sameT (l m : List Tok) : Prop := l.map Tok.core = m.map Tok.core
end Go.Mini
