import Derived.Test.YtjgmccbjffncaaaDoorPBackA
set_option maxHeartbeats 4000000
set_option linter.unusedSimpArgs false
namespace Go.Mini
inductive Lx (T : List UInt8) : Nat → Bool → List Tok → Prop
 | blank {a : Nat} {sm : Bool} {m : List Tok} (hb : peekB T a = 32 ∨ peekB T a = 9) (hl : a < T.length) (hm : Lx T (a + 1) sm m) : Lx T a sm m
 | remark {a : Nat} {sm : Bool} {m : List Tok} (hb : peekB T a = 35) (h1 : a < skipR T a) (h2 : skipR T a ≤ T.length) (hm : Lx T (skipR T a) sm m) : Lx T a sm m
 | fin {sm : Bool} : Lx T T.length sm (if sm then [⟨6, [], 0, T.length⟩] else [])
 | line {a : Nat} {sm : Bool} {m : List Tok} (hb : peekB T a = 10) (hl : a < T.length) (hm : Lx T (a + 1) false m) : Lx T a sm ((if sm then [⟨6, [], 0, a⟩] else []) ++ m)
 | tok {a : Nat} {sm : Bool} {m : List Tok} {t : Tok} {to : Nat} (hb : peekB T a ≠ 32 ∧ peekB T a ≠ 9 ∧ peekB T a ≠ 35 ∧ peekB T a ≠ 10) (ht : tokS T a = .ok (t, to)) (h2 : to ≤ T.length) (hm : Lx T to true m) : Lx T a sm (t :: m)
theorem peek_end (T : List UInt8) : peekB T T.length = 10 := by unfold peekB; simp
theorem lexA_lx {T : List UInt8} : ∀ (n a : Nat) (sm : Bool) (o l : List Tok), T.length - a ≤ n → a ≤ T.length → lexA T a sm o = .ok l → ∃ m, l = o ++ m ∧ Lx T a sm m := by
 intro n
 induction n with
 | zero =>
  intro a sm o l h1 h2 h
  obtain rfl : a = T.length := by omega
  rw [lexA_eq h2, peek_end] at h
  simp only [if_neg (show ¬ ((10 : UInt8) = 32 ∨ (10 : UInt8) = 9) by decide), if_neg (show ¬ (10 : UInt8) = 35 by decide), if_true] at h
  cases h
  exact ⟨_, by cases sm <;> simp, .fin⟩
 | succ n ih =>
  intro a sm o l h1 h2 h
  have lt10 : peekB T a ≠ 10 → a < T.length := peek_lt
  rw [lexA_eq h2] at h
  split at h
  ·rename_i hb
   have := lt10 (by rcases hb with q | q <;> rw [q] <;> decide)
   obtain ⟨m, q1, q2⟩ := ih _ _ _ _ (by omega) (by omega) h
   exact ⟨m, q1, .blank hb this q2⟩
  ·rename_i hb1
   split at h
   ·rename_i hb
    obtain ⟨q1, q2⟩ := skipR_gt hb
    obtain ⟨m, q3, q4⟩ := ih _ _ _ _ (by omega) q2 h
    exact ⟨m, q3, .remark hb q1 q2 q4⟩
   ·rename_i hb2
    split at h
    ·rename_i hb
     split at h
     ·rename_i ha
      subst ha
      cases h
      exact ⟨_, by cases sm <;> simp, .fin⟩
     ·obtain ⟨m, q3, q4⟩ := ih _ _ _ _ (by omega) (by omega) h
      exact ⟨_, by rw [q3]; cases sm <;> simp, .line hb (by omega) q4⟩
    ·rename_i hb3
     cases ht : tokS T a with
     | error ep => rw [ht] at h; cases h
     | ok tt =>
      obtain ⟨t, to⟩ := tt
      rw [ht] at h
      have q1 := tokS_gt ht
      have q2 := tokS_le ht
      obtain ⟨m, q3, q4⟩ := ih _ _ _ _ (by omega) q2 h
      exact ⟨t :: m, by rw [q3]; simp, .tok ⟨fun q => hb1 (.inl q), fun q => hb1 (.inr q), hb2, hb3⟩ ht q2 q4⟩
theorem lx_lexA {T : List UInt8} {a : Nat} {sm : Bool} {m : List Tok} (h : Lx T a sm m) : a ≤ T.length → ∀ o, lexA T a sm o = .ok (o ++ m) := by
 induction h with
 | blank hb hl _ ih => intro ha o; rw [lexA_eq ha, if_pos hb]; exact ih (by omega) o
 | remark hb h1 h2 _ ih =>
  intro ha o
  rw [lexA_eq ha, if_neg (by rw [hb]; decide), if_pos hb]; exact ih h2 o
 | @fin sm =>
  intro ha o
  rw [lexA_eq ha, peek_end]
  simp only [if_neg (show ¬ ((10 : UInt8) = 32 ∨ (10 : UInt8) = 9) by decide), if_neg (show ¬ (10 : UInt8) = 35 by decide), if_true]
  cases sm <;> simp
 | @line a sm m hb hl _ ih =>
  intro ha o
  rw [lexA_eq ha, hb]
  simp only [if_neg (show ¬ ((10 : UInt8) = 32 ∨ (10 : UInt8) = 9) by decide), if_neg (show ¬ (10 : UInt8) = 35 by decide), if_true]
  rw [if_neg (by omega), ih (by omega)]
  cases sm <;> simp
 | tok hb ht h2 _ ih =>
  intro ha o
  rw [lexA_eq ha, if_neg (by rintro (q | q); exact hb.1 q; exact hb.2.1 q), if_neg hb.2.2.1, if_neg hb.2.2.2, ht]
  simp only []
  rw [ih h2]
  simp
theorem lexS_lx {T : List UInt8} {l : List Tok} (h : lexS T = .ok l) : T.length ≤ 2048 ∧ Lx T 0 false l := by
 rw [lexS_eq] at h
 split at h
 ·cases h
 ·obtain ⟨m, q1, q2⟩ := lexA_lx _ 0 false [] l (Nat.le_refl _) (Nat.zero_le _) h
  simp at q1
  subst q1
  exact ⟨by omega, q2⟩
theorem lx_lexS {T : List UInt8} {l : List Tok} (hT : T.length ≤ 2048) (h : Lx T 0 false l) : lexS T = .ok l := by
 rw [lexS_eq, if_neg (by omega), lx_lexA h (Nat.zero_le _) []]
 rfl
def shaped : Bool → List Tok → Prop
 | sm, [] => sm = false
 | sm, t :: r => if t.kind = 6 then sm = true ∧ t.text = [] ∧ t.n = 0 ∧ shaped false r else okTok t.kind t.text t.n ∧ shaped true r
theorem lx_shaped {T : List UInt8} {a : Nat} {sm : Bool} {m : List Tok} (h : Lx T a sm m) : shaped sm m := by
 induction h with
 | blank _ _ _ ih => exact ih
 | remark _ _ _ _ ih => exact ih
 | @fin sm => cases sm <;> simp [shaped]
 | @line a sm m _ _ _ ih => cases sm <;> simp [shaped, ih]
 | tok _ ht _ _ ih =>
  obtain ⟨q1, _⟩ := tokS_inv ht
  simp only [shaped, if_neg (okTok_kind q1)]
  exact ⟨q1, ih⟩
def writF : Bool → List Tok → List UInt8
 | _, [] => []
 | pv, t :: r => if t.kind = 6 then (if r.isEmpty then [] else [10]) ++ writF false r else (if pv then [32] else []) ++ (t.word ++ writF true r)
def Tok.core (t : Tok) : Nat × List UInt8 × Nat := (t.kind, t.text, t.n)
def sameT (l m : List Tok) : Prop := l.map Tok.core = m.map Tok.core
theorem sameT_cons {t u : Tok} {l m : List Tok} : sameT (t :: l) (u :: m) ↔ t.core = u.core ∧ sameT l m := by simp [sameT]
theorem word_head {kd n : Nat} {s : List UInt8} (h : okTok kd s n) : ∃ c r, wordS kd s n = c :: r ∧ c ≠ 32 ∧ c ≠ 9 ∧ c ≠ 35 ∧ c ≠ 10 := by
 have low : ∀ c : UInt8, 97 ≤ c.toNat → c ≠ 32 ∧ c ≠ 9 ∧ c ≠ 35 ∧ c ≠ 10 := fun c hc => by
  refine ⟨?_, ?_, ?_, ?_⟩ <;> (rintro rfl; revert hc; decide)
 rcases h with ⟨hkd, rfl, _, _, c, r, rfl, h1, _⟩ | ⟨rfl, rfl, hn⟩ | ⟨rfl, rfl, _⟩ | ⟨rfl, rfl, hs⟩
 ·rcases hkd with rfl | rfl
  ·exact ⟨c, r, rfl, low c h1⟩
  ·exact ⟨c, r ++ [58], rfl, low c h1⟩
 ·show ∃ c r, dig4 n = c :: r ∧ _
  by_cases h0 : n = 0
  ·subst h0; exact ⟨48, [], by decide, by decide⟩
  ·obtain ⟨⟨b, r, q0, q1, _⟩, _⟩ := dig4_props hn h0
   refine ⟨b, r, q0, ?_, ?_, ?_, ?_⟩ <;> (rintro rfl; revert q1; decide)
 ·exact ⟨34, _, rfl, by decide⟩
 ·rcases hs with rfl | rfl | rfl
  all_goals exact ⟨_, _, rfl, by decide⟩
theorem writF_ends : ∀ {r : List Tok}, shaped true r → endsB (writF true r)
 | [], h => by simp [shaped] at h
 | t :: r, h => by
  unfold shaped at h
  unfold writF
  split
  ·split
   ·rename_i hr
    cases r with
    | nil => intro b q e; simp [writF] at e
    | cons _ _ => simp at hr
   ·intro b q e; simp at e; rw [← e.1]; decide
  ·intro b q e; simp at e; rw [← e.1]; decide
theorem lx_word {T R : List UInt8} {a : Nat} {sm : Bool} {t : Tok} {m : List Tok} (hk : okTok t.kind t.text t.n) (hd : T.drop a = t.word ++ R) (hR : endsB R) (hm : Lx T (a + t.word.length) true m) : Lx T a sm (⟨t.kind, t.text, t.n, a⟩ :: m) := by
 obtain ⟨c, r, q1, q2⟩ := word_head hk
 have hc : T.drop a = c :: (r ++ R) := by rw [hd]; show wordS _ _ _ ++ R = _; rw [q1]; rfl
 have hp := (peek_drop hc).1
 have ht := tokS_word hd hk hR
 exact .tok (by rw [hp]; exact q2) ht (tokS_le ht) hm
theorem lx_back : ∀ (m : List Tok) (sm : Bool) (T : List UInt8) (a : Nat), a ≤ T.length → shaped sm m → T.drop a = writF sm m → ∃ m', Lx T a sm m' ∧ sameT m' m
 | [], sm, T, a, ha, hs, hd => by
  simp only [shaped] at hs; subst hs
  have : a = T.length := by have := congrArg List.length hd; simp [writF] at this; omega
  subst this
  exact ⟨[], .fin, rfl⟩
 | t :: r, sm, T, a, ha, hs, hd => by
  unfold shaped at hs
  unfold writF at hd
  split at hs
  ·rename_i hk
   obtain ⟨rfl, ht, hn, hr⟩ := hs
   rw [if_pos hk] at hd
   have hcore : (⟨6, [], 0, a⟩ : Tok).core = t.core := by unfold Tok.core; rw [hk, ht, hn]
   cases r with
   | nil =>
    have : a = T.length := by have := congrArg List.length hd; simp [writF] at this; omega
    subst this
    exact ⟨_, .fin, by simpa [sameT] using hcore⟩
   | cons u r =>
    simp only [List.isEmpty_cons, Bool.false_eq_true, if_false, List.cons_append, List.nil_append] at hd
    obtain ⟨p1, p2, p3⟩ := peek_drop hd
    obtain ⟨m', q1, q2⟩ := lx_back (u :: r) false T (a + 1) (by omega) hr p3
    exact ⟨_, .line p1 p2 q1, by simp only [if_true, List.cons_append, List.nil_append]; exact sameT_cons.2 ⟨hcore, q2⟩⟩
  ·rename_i hk
   obtain ⟨hok, hr⟩ := hs
   rw [if_neg hk] at hd
   have word : ∀ b, b ≤ T.length → T.drop b = t.word ++ writF true r → ∃ m', Lx T b sm m' ∧ sameT m' (t :: r) := by
    intro b hb hdb
    have hto : b + t.word.length ≤ T.length := by have := congrArg List.length hdb; simp at this; omega
    obtain ⟨m', q1, q2⟩ := lx_back r true T (b + t.word.length) hto hr (by rw [← List.drop_drop, hdb, List.drop_left])
    exact ⟨_, lx_word hok hdb (writF_ends hr) q1, sameT_cons.2 ⟨rfl, q2⟩⟩
   cases sm with
   | false => exact word a ha (by simpa using hd)
   | true =>
    simp only [if_true, List.cons_append, List.nil_append] at hd
    obtain ⟨p1, p2, p3⟩ := peek_drop hd
    obtain ⟨m', q1, q2⟩ := word (a + 1) (by omega) p3
    exact ⟨m', .blank (.inl p1) p2 q1, q2⟩
end Go.Mini
