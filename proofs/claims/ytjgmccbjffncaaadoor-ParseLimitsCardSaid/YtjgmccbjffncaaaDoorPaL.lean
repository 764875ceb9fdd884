/-
  PARSE, part L: what a lexed text's tokens come to at most. Plain.
-/
import Derived.Test.YtjgmccbjffncaaaDoorPaK
import Derived.Test.YtjgmccbjffncaaaDoorPLexN
set_option linter.unusedSimpArgs false
set_option maxHeartbeats 4000000
namespace Go.Mini

theorem runP_len (p : UInt8 → Bool) (n : Nat) (T : List UInt8) (a : Nat) : (runP p n T a).1.length ≤ n := by
  unfold runP
  split
  · exact Nat.zero_le _
  · simp only; omega
theorem scanF_len (most : Int) : ∀ (f : Nat) (s : List UInt8) (k : Nat) (o out : List UInt8) (k' : Nat), scanF most f s k o = .ok out k' → out.length ≤ o.length + f
  | 0, s, k, o, out, k', h => by simp only [scanF] at h; cases h
  | f + 1, s, k, o, out, k', h => by
    simp only [scanF] at h
    split at h
    · cases h
    · split at h
      · cases h; omega
      · split at h
        · cases h
        · have := scanF_len most f _ _ _ _ _ h
          simp only [List.length_append, List.length_singleton] at this
          omega
theorem scanQ_len (most : Int) (T out : List UInt8) (k' : Nat) (h : scanQ most T = .ok out k') : out.length ≤ T.length + 1 := by
  unfold scanQ at h
  split at h
  · have := scanF_len most _ _ _ _ _ _ h
    simpa using this
  · cases h
theorem tokBody_len {T : List UInt8} {a k n to : Nat} {s : List UInt8} (h : tokBody T a = .ok (k, s, n, to)) : s.length ≤ T.length + 16 := by
  unfold tokBody at h
  simp only at h
  split at h
  · split at h
    · have := runP_len smallB 16 T a
      split at h <;> (cases h; omega)
    · cases h
  · split at h
    · cases h; simp
    · split at h
      · split at h
        · cases h; simp
        · cases h
      · split at h
        · split at h
          · rename_i e
            have := scanQ_len _ _ _ _ e
            simp only [List.length_drop] at this
            cases h
            omega
          · cases h
          · cases h
        · split at h
          · cases h; simp
          · cases h
theorem tokS_len {T : List UInt8} {a to : Nat} {t : Tok} (h : tokS T a = .ok (t, to)) : t.text.length ≤ T.length + 16 := by
  unfold tokS at h
  split at h
  · cases h
  · rename_i e
    split at h
    · cases h; exact tokBody_len e
    · cases h
def LexB (T : List UInt8) (n : Nat) : Except (Nat × Nat) (List Tok) → Prop
  | .ok o => o.length ≤ n ∧ ∀ t ∈ o, t.text.length ≤ T.length + 16
  | .error (e, _) => e ≠ 0
theorem lexF_bound (T : List UInt8) : ∀ (f a : Nat) (sm : Bool) (o : List Tok), a ≤ T.length → T.length - a < f → (∀ t ∈ o, t.text.length ≤ T.length + 16) → LexB T (o.length + f) (lexF T f a sm o)
  | 0, _, _, _, _, h, _ => by omega
  | f + 1, a, sm, o, ha, h1, ho => by
    have lt10 : peekB T a ≠ 10 → a < T.length := peek_lt
    have weak : ∀ n m R, n ≤ m → LexB T n R → LexB T m R := by
      intro n m R hnm
      cases R with
      | ok o => rintro ⟨q1, q2⟩; exact ⟨by omega, q2⟩
      | error e => exact id
    rw [lexF]
    simp only []
    split
    · rename_i hb
      have := lt10 (by rcases hb with q | q <;> rw [q] <;> decide)
      exact weak _ _ _ (by omega) (lexF_bound T f _ _ _ (by omega) (by omega) ho)
    · split
      · rename_i _ hb
        have := lt10 (by rw [hb]; decide)
        obtain ⟨q1, q2⟩ := skipR_gt hb
        exact weak _ _ _ (by omega) (lexF_bound T f _ _ _ q2 (by omega) ho)
      · have ho' : ∀ t ∈ (if sm = true then o ++ [⟨6, [], 0, a⟩] else o), t.text.length ≤ T.length + 16 := by
          intro t ht
          split at ht
          · rcases List.mem_append.1 ht with q | q
            · exact ho t q
            · simp only [List.mem_singleton] at q; subst q; exact Nat.zero_le _
          · exact ho t ht
        have hl' : (if sm = true then o ++ [⟨6, [], 0, a⟩] else o).length ≤ o.length + 1 := by
          split
          · simp
          · omega
        split
        · rename_i _ _ hb
          split
          · exact ⟨by omega, ho'⟩
          · exact weak _ _ _ (by omega) (lexF_bound T f _ _ _ (by omega) (by omega) ho')
        · rename_i _ _ hb
          have := lt10 hb
          cases ht : tokS T a with
          | error e =>
            obtain ⟨e, p⟩ := e
            show e ≠ 0
            rcases tokS_err ht with q | q
            · have q' : e = 3 := q
              omega
            · have q' : e = 6 := q
              omega
          | ok tt =>
            obtain ⟨t, to⟩ := tt
            have := tokS_gt ht
            have := tokS_le ht
            refine weak _ _ _ ?_ (lexF_bound T f _ _ _ this (by omega) ?_)
            · simp only [List.length_append, List.length_singleton]; omega
            · intro u hu
              rcases List.mem_append.1 hu with q | q
              · exact ho u q
              · simp only [List.mem_singleton] at q; subst q; exact tokS_len ht
theorem lexS_bound (T : List UInt8) : LexB T 2049 (lexS T) ∧ ∀ o, lexS T = .ok o → T.length ≤ 2048 := by
  unfold lexS
  split
  · exact ⟨(by decide : (3 : Nat) ≠ 0), fun o h => by cases h⟩
  · rename_i hT
    refine ⟨?_, fun _ _ => by omega⟩
    have := lexF_bound T (T.length + 1) 0 false [] (Nat.zero_le _) (by omega) (fun t ht => by cases ht)
    revert this
    generalize lexF T (T.length + 1) 0 false [] = R
    cases R with
    | ok o => rintro ⟨q1, q2⟩; exact ⟨by simp only [List.length_nil] at q1; omega, q2⟩
    | error e => exact id
theorem lineS_ok {o : List Tok} {e r a a' : Nat} {x : LineT} (h : lineS o e r a = .ok (x, a')) : r + 1 ≤ 128 ∧ a' ≤ o.length := by
  unfold lineS at h
  split at h
  · cases h
  · split at h
    · cases h
    · rename_i hr
      split at h
      · cases h
      · split at h
        · cases h
        · rename_i e3
          cases h
          have := takeS_le e3 (by decide)
          omega
end Go.Mini
