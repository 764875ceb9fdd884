/-
  BACK, part H: blanks, remarks and empty lines say nothing. Plain law.
-/
import Derived.Test.YtbcdlipddmoobaaDoorBackF
set_option linter.unusedSimpArgs false
set_option maxHeartbeats 8000000
set_option maxRecDepth 100000
namespace Go.Mini

def remB : List UInt8 := [32, 35, 32, 97, 32, 34, 114, 101, 109, 97, 114, 107, 32, 123]
def linB : List UInt8 := [32, 10, 9, 35, 32, 110, 111, 116, 104, 105, 110, 103, 10]
/-- What may be put in: of what is put in ahead of a line's end remarks and empty lines too. -/
def okPiece (e : Bool) (p : List UInt8) : Prop := p = [32] ∨ p = [9] ∨ e = true ∧ (p = remB ∨ p = linB)
/-- Tokens, with what stands ahead of each, and at the end. -/
def mixF : Bool → List Tok → List (List UInt8) → List UInt8
  | _, [], gs => gs.headD []
  | pv, t :: r, gs => (if pv && decide (t.kind ≠ 6) then [32] else []) ++ (gs.headD [] ++ ((if t.kind = 6 then [10] else t.word) ++ mixF (decide (t.kind ≠ 6)) r gs.tail))
theorem skipR_at {T x Y : List UInt8} {c : Nat} (h : T.drop c = x ++ 10 :: Y) (hx : 10 ∉ x) : skipR T c = c + x.length := by
  unfold skipR
  rw [h]
  rcases indexByte_spec10 (x ++ 10 :: Y) with ⟨_, h2⟩ | ⟨i, h1, h2, h3⟩
  · exact absurd (by rw [List.getElem?_append_right (Nat.le_refl _)]; simp) (h2 x.length)
  · have : i = x.length := by
      rcases Nat.lt_trichotomy i x.length with q | q | q
      · rw [List.getElem?_append_left q] at h2
        exact absurd (List.mem_of_getElem? h2) hx
      · exact q
      · exact absurd (by rw [List.getElem?_append_right (Nat.le_refl _)]; simp) (h3 x.length q)
    rw [h1, if_pos (by omega), Int.toNat_natCast, this]
theorem lx_skip {T g X : List UInt8} {sm : Bool} {m : List Tok} : ∀ {a : Nat}, T.drop a = g ++ X → (∀ b ∈ g, b = 32 ∨ b = 9) → Lx T (a + g.length) sm m → Lx T a sm m := by
  induction g with
  | nil => intro a _ _ h; exact h
  | cons b g ih =>
    intro a hd hb h
    obtain ⟨p1, p2, p3⟩ := peek_drop (show T.drop a = b :: (g ++ X) from hd)
    refine .blank (by rw [p1]; exact hb b (by simp)) p2 (ih p3 (fun c hc => hb c (by simp [hc])) ?_)
    rw [show a + 1 + g.length = a + (b :: g).length by simp; omega]
    exact h
/-- A line's end, with what is put in ahead of it: in the line, and in a remark. -/
theorem lx_end {T R : List UInt8} {m : List Tok} : ∀ (ps : List (List UInt8)), (∀ p ∈ ps, okPiece true p) →
    (∀ a sm, T.drop a = ps.flatten ++ 10 :: R → Lx T (a + ps.flatten.length + 1) false m → ∃ p, Lx T a sm ((if sm then [⟨6, [], 0, p⟩] else []) ++ m)) ∧
    (∀ c sm x, T.drop c = x ++ (ps.flatten ++ 10 :: R) → peekB T c = 35 → x ≠ [] → 10 ∉ x → Lx T (c + x.length + ps.flatten.length + 1) false m → ∃ p, Lx T c sm ((if sm then [⟨6, [], 0, p⟩] else []) ++ m)) := by
  intro ps
  induction ps with
  | nil =>
    intro _
    constructor
    · intro a sm hd h
      obtain ⟨p1, p2, p3⟩ := peek_drop (show T.drop a = 10 :: R from hd)
      exact ⟨a, .line p1 p2 h⟩
    · intro c sm x hd hp hx0 hx h
      have hs := skipR_at (Y := R) (by simpa using hd) hx
      have hd2 : T.drop (c + x.length) = 10 :: R := by rw [← List.drop_drop, hd, List.drop_left]; rfl
      obtain ⟨p1, p2, p3⟩ := peek_drop hd2
      have := List.length_pos_iff.2 hx0
      exact ⟨c + x.length, .remark hp (by omega) (by omega) (by rw [hs]; exact .line p1 p2 h)⟩
  | cons p ps ih =>
    intro hps
    obtain ⟨ih1, ih2⟩ := ih fun q hq => hps q (by simp [hq])
    -- behind the first line's end of an empty line
    have tailL : ∀ q, T.drop q = [9, 35, 32, 110, 111, 116, 104, 105, 110, 103, 10] ++ (ps.flatten ++ 10 :: R) → Lx T (q + 11 + ps.flatten.length + 1) false m → Lx T q false m := by
      intro q hd h
      obtain ⟨p1, p2, p3⟩ := peek_drop (show T.drop q = 9 :: _ from hd)
      obtain ⟨r1, r2, r3⟩ := peek_drop (show T.drop (q + 1) = 35 :: _ from p3)
      have hs := skipR_at (T := T) (c := q + 1) (x := [35, 32, 110, 111, 116, 104, 105, 110, 103]) (Y := ps.flatten ++ 10 :: R) (by rw [p3]; rfl) (by decide)
      have hd2 : T.drop (q + 1 + 9) = 10 :: (ps.flatten ++ 10 :: R) := by rw [← List.drop_drop, p3]; rfl
      obtain ⟨s1, s2, s3⟩ := peek_drop hd2
      simp only [List.length_cons, List.length_nil] at hs
      obtain ⟨_, w⟩ := ih1 (q + 11) false (by rw [show q + 11 = q + 1 + 9 + 1 by omega, s3]) h
      refine .blank (.inr p1) p2 (.remark r1 (by omega) (by omega) ?_)
      rw [hs]
      exact .line s1 s2 w
    have linN : ∀ a sm, T.drop a = 10 :: ([9, 35, 32, 110, 111, 116, 104, 105, 110, 103, 10] ++ (ps.flatten ++ 10 :: R)) → Lx T (a + 12 + ps.flatten.length + 1) false m → Lx T a sm ((if sm then [⟨6, [], 0, a⟩] else []) ++ m) := by
      intro a sm hd h
      obtain ⟨p1, p2, p3⟩ := peek_drop hd
      exact .line p1 p2 (tailL (a + 1) p3 (by rw [show a + 1 + 11 = a + 12 by omega]; exact h))
    have okp := hps p (by simp)
    constructor
    · intro a sm hd h
      rw [List.flatten_cons, List.append_assoc] at hd
      rw [List.flatten_cons, List.length_append] at h
      rcases okp with rfl | rfl | ⟨_, rfl | rfl⟩
      · obtain ⟨p1, p2, p3⟩ := peek_drop (show T.drop a = 32 :: _ from hd)
        obtain ⟨p, w⟩ := ih1 (a + 1) sm p3 (by simp only [List.length_cons, List.length_nil] at h; rw [show a + 1 + ps.flatten.length + 1 = a + (0 + 1 + ps.flatten.length) + 1 by omega]; exact h)
        exact ⟨p, .blank (.inl p1) p2 w⟩
      · obtain ⟨p1, p2, p3⟩ := peek_drop (show T.drop a = 9 :: _ from hd)
        obtain ⟨p, w⟩ := ih1 (a + 1) sm p3 (by simp only [List.length_cons, List.length_nil] at h; rw [show a + 1 + ps.flatten.length + 1 = a + (0 + 1 + ps.flatten.length) + 1 by omega]; exact h)
        exact ⟨p, .blank (.inr p1) p2 w⟩
      · obtain ⟨p1, p2, p3⟩ := peek_drop (show T.drop a = 32 :: _ from hd)
        obtain ⟨r1, _, _⟩ := peek_drop (show T.drop (a + 1) = 35 :: _ from p3)
        obtain ⟨p, w⟩ := ih2 (a + 1) sm remB.tail p3 r1 (by decide) (by decide) (by
          have : a + 1 + remB.tail.length + ps.flatten.length + 1 = a + (remB.length + ps.flatten.length) + 1 := by simp [remB]; omega
          rw [this]; exact h)
        exact ⟨p, .blank (.inl p1) p2 w⟩
      · obtain ⟨p1, p2, p3⟩ := peek_drop (show T.drop a = 32 :: _ from hd)
        exact ⟨a + 1, .blank (.inl p1) p2 (linN (a + 1) sm p3 (by
          have : a + 1 + 12 + ps.flatten.length + 1 = a + (linB.length + ps.flatten.length) + 1 := by simp [linB]; omega
          rw [this]; exact h))⟩
    · intro c sm x hd hp hx0 hx h
      rw [List.flatten_cons, List.append_assoc] at hd
      rw [List.flatten_cons, List.length_append] at h
      have soak : 10 ∉ p → ∃ p, Lx T c sm ((if sm then [⟨6, [], 0, p⟩] else []) ++ m) := by
        intro hp10
        refine ih2 c sm (x ++ p) (by rw [hd]; simp) hp (by simp [hx0]) (by simp [hx, hp10]) ?_
        rw [List.length_append, show c + (x.length + p.length) + ps.flatten.length + 1 = c + x.length + (p.length + ps.flatten.length) + 1 by omega]
        exact h
      rcases okp with rfl | rfl | ⟨_, rfl | rfl⟩
      · exact soak (by decide)
      · exact soak (by decide)
      · exact soak (by decide)
      · have hs := skipR_at (T := T) (c := c) (x := x ++ [32]) (Y := [9, 35, 32, 110, 111, 116, 104, 105, 110, 103, 10] ++ (ps.flatten ++ 10 :: R)) (by rw [hd]; simp [linB]) (by simp [hx])
        have hd2 : T.drop (c + (x.length + 1)) = 10 :: ([9, 35, 32, 110, 111, 116, 104, 105, 110, 103, 10] ++ (ps.flatten ++ 10 :: R)) := by
          rw [← List.drop_drop, hd, show x.length + 1 = x.length + 1 from rfl, ← List.drop_drop, List.drop_left]; rfl
        have w := linN (c + (x.length + 1)) sm hd2 (by
          have : c + (x.length + 1) + 12 + ps.flatten.length + 1 = c + x.length + (linB.length + ps.flatten.length) + 1 := by simp [linB]; omega
          rw [this]; exact h)
        obtain ⟨_, p2, _⟩ := peek_drop hd2
        rw [List.length_append, List.length_singleton] at hs
        exact ⟨_, .remark hp (by omega) (by omega) (by rw [hs]; exact w)⟩
theorem piece_head {e : Bool} {ps : List (List UInt8)} (h : ∀ p ∈ ps, okPiece e p) : ∀ b r X, ps.flatten ++ 10 :: X = b :: r → blankB b = true := by
  intro b r X hb
  cases ps with
  | nil => simp at hb; rw [← hb.1]; decide
  | cons p ps =>
    rcases h p (by simp) with rfl | rfl | ⟨_, rfl | rfl⟩ <;> (simp [remB, linB] at hb; rw [← hb.1]; decide)
theorem piece_blank {ps : List (List UInt8)} (h : ∀ p ∈ ps, okPiece false p) : ∀ b ∈ ps.flatten, b = 32 ∨ b = 9 := by
  intro b hb
  obtain ⟨p, hp, hb⟩ := List.mem_flatten.1 hb
  rcases h p hp with rfl | rfl | ⟨q, _⟩
  · exact .inl (by simpa using hb)
  · exact .inr (by simpa using hb)
  · cases q
def isEnd (t : Tok) : Bool := decide (t.kind = 6)
/-- What is put in ahead of each token, and at the end. -/
def okMore : List Tok → List (List (List UInt8)) → Prop
  | [], ps => ∃ p, ps = [p] ∧ ∀ q ∈ p, okPiece false q
  | t :: r, ps => ∃ p ps', ps = p :: ps' ∧ (∀ q ∈ p, okPiece (isEnd t) q) ∧ okMore r ps'
theorem mix_ends : ∀ {r : List Tok} {ps : List (List (List UInt8))}, shaped true r → okMore r ps → endsB (mixF true r (ps.map List.flatten))
  | [], ps, h, _ => by simp [shaped] at h
  | t :: r, ps, h, hm => by
    obtain ⟨p, ps', rfl, hp, hm'⟩ := hm
    unfold mixF
    intro b q e
    by_cases hk : t.kind = 6
    · simp only [hk, ne_eq, not_true, decide_false, Bool.and_false, Bool.false_eq_true, if_false, List.nil_append, if_true, List.map_cons, List.headD_cons, List.cons_append] at e
      exact piece_head hp b q _ e
    · simp only [ne_eq, hk, not_false_eq_true, decide_true, Bool.and_self, if_true, List.cons_append] at e
      have := List.cons.inj e
      rw [← this.1]; decide
theorem lx_mix : ∀ (m : List Tok) (ps : List (List (List UInt8))) (sm : Bool) (T : List UInt8) (a : Nat), a ≤ T.length → shaped sm m → okMore m ps → T.drop a = mixF sm m (ps.map List.flatten) → ∃ m', Lx T a sm m' ∧ sameT m' m
  | [], ps, sm, T, a, ha, hs, hm, hd => by
    obtain ⟨p, rfl, hp⟩ := hm
    simp only [shaped] at hs; subst hs
    simp only [mixF, List.map_cons, List.map_nil, List.headD_cons] at hd
    have hl : a + p.flatten.length = T.length := by have := congrArg List.length hd; simp at this ⊢; omega
    refine ⟨[], lx_skip (X := []) (by simpa using hd) (piece_blank hp) ?_, rfl⟩
    rw [hl]
    exact .fin
  | t :: r, ps, sm, T, a, ha, hs, hm, hd => by
    obtain ⟨p, ps', rfl, hp, hm'⟩ := hm
    unfold shaped at hs
    unfold mixF at hd
    simp only [List.map_cons, List.headD_cons, List.tail_cons] at hd
    split at hs
    · rename_i hk
      obtain ⟨rfl, ht, hn, hr⟩ := hs
      simp only [hk, ne_eq, not_true, decide_false, Bool.and_false, Bool.false_eq_true, if_false, List.nil_append, if_true, List.cons_append] at hd
      have hlen := congrArg List.length hd
      simp only [List.length_drop, List.length_append, List.length_cons] at hlen
      have hd2 : T.drop (a + p.flatten.length + 1) = mixF false r (ps'.map List.flatten) := by
        rw [← List.drop_drop, ← List.drop_drop, hd, List.drop_left]; rfl
      obtain ⟨m', q1, q2⟩ := lx_mix r ps' false T (a + p.flatten.length + 1) (by omega) hr hm' hd2
      obtain ⟨e, w⟩ := (lx_end p (by intro q hq; have := hp q hq; simp only [isEnd, hk, decide_true] at this; exact this)).1 a true hd q1
      refine ⟨_, w, ?_⟩
      simp only [if_true, List.cons_append, List.nil_append]
      exact sameT_cons.2 ⟨by unfold Tok.core; rw [hk, ht, hn], q2⟩
    · rename_i hk
      obtain ⟨hok, hr⟩ := hs
      have hp' : ∀ q ∈ p, okPiece false q := by intro q hq; have := hp q hq; simp only [isEnd, hk, decide_false] at this; exact this
      simp only [ne_eq, hk, not_false_eq_true, decide_true, Bool.and_true, if_false] at hd
      have word : ∀ b, b ≤ T.length → T.drop b = p.flatten ++ (t.word ++ mixF true r (ps'.map List.flatten)) → ∃ m', Lx T b sm m' ∧ sameT m' (t :: r) := by
        intro b hb hdb
        have hlen := congrArg List.length hdb
        simp only [List.length_drop, List.length_append] at hlen
        have hdw : T.drop (b + p.flatten.length) = t.word ++ mixF true r (ps'.map List.flatten) := by rw [← List.drop_drop, hdb, List.drop_left]
        obtain ⟨m', q1, q2⟩ := lx_mix r ps' true T (b + p.flatten.length + t.word.length) (by omega) hr hm' (by rw [← List.drop_drop, hdw, List.drop_left])
        exact ⟨_, lx_skip hdb (piece_blank hp') (lx_word hok hdw (mix_ends hr hm') q1), sameT_cons.2 ⟨rfl, q2⟩⟩
      cases sm with
      | false => exact word a ha (by simpa using hd)
      | true =>
        simp only [if_true, List.cons_append, List.nil_append] at hd
        obtain ⟨p1, p2, p3⟩ := peek_drop hd
        obtain ⟨m', q1, q2⟩ := word (a + 1) (by omega) p3
        exact ⟨m', .blank (.inl p1) p2 q1, q2⟩
/-- Blanks, remarks and empty lines say nothing. -/
theorem lex_mix {T : List UInt8} {l : List Tok} (h : lexS T = .ok l) {ps : List (List (List UInt8))} (hm : okMore l ps) (hl : (mixF false l (ps.map List.flatten)).length ≤ 2048) : ∃ l', lexS (mixF false l (ps.map List.flatten)) = .ok l' ∧ sameT l' l := by
  obtain ⟨h1, h2⟩ := lexS_lx h
  obtain ⟨m', q1, q2⟩ := lx_mix l ps false (mixF false l (ps.map List.flatten)) 0 (Nat.zero_le _) (lx_shaped h2) hm rfl
  exact ⟨m', lx_lexS hl q1, q2⟩
end Go.Mini
