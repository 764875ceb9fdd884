/-
  LEX, part O: what a law needs: tokens in memory, told apart; what Lex hands back; what the law leans on.
-/
import Derived.Test.YtjgmccbjffncaaaDoorPLexMa
import Derived.Test.YtjgmccbjffncaaaDoorPLexN
set_option linter.unusedSimpArgs false
set_option maxHeartbeats 4000000
set_option maxRecDepth 100000
set_option maxRecDepth 100000
namespace Go.Mini
open Go.Proofs

theorem strEq_bs (a b : List UInt8) : strEq (bs a) (bs b) = decide (a = b) := by
  rw [strEq_decide]
  exact decide_eq_decide.2 bs_inj
theorem tok_ext (t u : Tok) : t = u ↔ t.kind = u.kind ∧ t.text = u.text ∧ t.n = u.n ∧ t.at' = u.at' := by
  cases t; cases u; simp
instance : DecidableEq Tok := fun t u => decidable_of_iff _ (tok_ext t u).symm
theorem tok_eq (t u : Tok) : aeq Tryd.prog 10000 65 t.val u.val = some (decide (t = u)) := by
  have g31 : Tryd.prog.stoodInHeld 65 = false := by kernel_rfl
  have e3 : ∀ a b : Int, aeq Tryd.prog 9999 3 (.int .i64 a) (.int .i64 b) = some (a == b) := by
    intro a b; rw [show 9999 = 9998 + 1 from rfl, aeq]; simp only [Tryd.underlying3, aeq0, if_true]
  have e9 : ∀ a b : List UInt8, aeq Tryd.prog 9999 9 (.string (bs a)) (.string (bs b)) = some (decide (a = b)) := by
    intro a b; rw [show 9999 = 9998 + 1 from rfl, aeq]; simp only [Tryd.underlying9, aeq0, strEq_bs]
  have ap : ∀ (ty : TypeId) (w : Tok) (k : Nat) (v : Value), Program.agg Tryd.prog ty = some false → (Tryd.prog.info? ty).isSome = true → w.cells[k]? = some v → apart Tryd.prog ty w.cells.toArray k = some v := by
    intro ty w k v h1 h2 h3
    obtain ⟨i, hi⟩ := Option.isSome_iff_exists.1 h2
    unfold apart
    rw [h1, hi]
    simpa using h3
  have i3 : (Tryd.prog.info? 3).isSome = true := by kernel_rfl
  have i9 : (Tryd.prog.info? 9).isSome = true := by kernel_rfl
  rw [show 10000 = 9999 + 1 from rfl, aeq]
  simp only [Tryd.underlying65, Tok.val, g31, Bool.false_eq_true, if_false, aeqs,
    ap 3 t 0 _ agg3 i3 rfl, ap 3 u 0 _ agg3 i3 rfl, ap 9 t 1 _ agg9 i9 rfl, ap 9 u 1 _ agg9 i9 rfl, ap 3 t 2 _ agg3 i3 rfl, ap 3 u 2 _ agg3 i3 rfl, ap 3 t 3 _ agg3 i3 rfl, ap 3 u 3 _ agg3 i3 rfl, e3, e9]
  have hd : decide (t = u) = (decide (t.kind = u.kind) && decide (t.text = u.text) && decide (t.n = u.n) && decide (t.at' = u.at')) := by
    rw [← Bool.decide_and, ← Bool.decide_and, ← Bool.decide_and]
    exact decide_eq_decide.2 (by rw [tok_ext]; simp [and_assoc])
  have ci : ∀ a b : Nat, ((a : Int) == (b : Int)) = decide (a = b) := by
    intro a b; rw [Bool.eq_iff_iff]; simp; omega
  rw [hd]
  simp only [ci]
  by_cases h1 : t.kind = u.kind <;> by_cases h2 : t.text = u.text <;> by_cases h3 : t.n = u.n <;> by_cases h4 : t.at' = u.at' <;> simp [h1, h2, h3, h4]
theorem tok_neq (t u : Tok) : abin Tryd.prog .neq 65 t.val u.val = some (.bool (!decide (t = u))) := by
  have := tok_eq t u
  have g : Tryd.prog.eqGuardType Tryd.prog.depth 65 = false := by kernel_rfl
  unfold Tok.val at this ⊢
  unfold abin
  simp only [g, Bool.false_eq_true, if_false, this, eqOp, Option.map_some]

/-- Tokens in memory. -/
def Toks (H : Heap) (v : Value) (o : List Tok) : Prop :=
  (o = [] ∧ v = .slice none 0 0) ∨ ∃ b r, H.get b = some (.row r) ∧ r.vs = o.flatMap Tok.cells ∧ v = .slice (some ⟨b, 0, none⟩) o.length o.length
theorem cells_at : ∀ (o : List Tok) (i : Nat) (t : Tok), o[i]? = some t → ((o.flatMap Tok.cells).drop (i * 4)).take 4 = t.cells
  | [], _, _, h => by simp at h
  | u :: o, 0, t, h => by
    simp at h; subst h
    simp [List.flatMap_cons, Tok.cells]
  | u :: o, i + 1, t, h => by
    rw [List.flatMap_cons, show (i + 1) * 4 = u.cells.length + i * 4 by simp [Tok.cells]; omega, ← List.drop_drop, List.drop_left]
    exact cells_at o i t (by simpa using h)
theorem Toks.len {H : Heap} {v : Value} {o : List Tok} (h : Toks H v o) : alen Tryd.prog H 56 v = some (.int .i64 (o.length : Nat)) := by
  rcases h with ⟨rfl, rfl⟩ | ⟨b, r, _, _, rfl⟩
  · exact alen_slice Tryd.underlying56 _ _ _
  · exact alen_slice Tryd.underlying56 _ _ _
theorem Toks.at {H : Heap} {v : Value} {o : List Tok} (h : Toks H v o) {i : Nat} {t : Tok} (ht : o[i]? = some t) :
    ∃ p, (∀ kd, aindexAddr Tryd.prog 56 v (.int kd (i : Nat)) = some p) ∧ aload Tryd.prog H 65 p = some t.val := by
  rcases h with ⟨rfl, _⟩ | ⟨b, r, hg, hr, rfl⟩
  · simp at ht
  · have hlt := (List.getElem?_eq_some_iff.1 ht).1
    refine ⟨_, fun kd => aindexAddr_slice Tryd.underlying56 sz31 (by omega) (by omega), ?_⟩
    rw [aload_agg agg31 sz31, Heap.lds_of hg (by rw [hr, cells_len]; simp only [Int.toNat_natCast]; omega), hr]
    simp only [Int.toNat_natCast, Nat.zero_add, cells_at o i t ht]
    rfl
theorem Toks.more {H H' : Heap} {v : Value} {o : List Tok} (h : Toks H v o) (k : H.more H') : Toks H' v o := by
  rcases h with h | ⟨b, r, hg, hr, hv⟩
  · exact .inl h
  · exact .inr ⟨b, r, k.get hg, hr, hv⟩
/-- What Lex hands back: a list, and a spot. -/
def tokL (h : Heap) : Except (Nat × Nat) (List Tok) → Value
  | .ok (t :: o) => .slice (some ⟨h.next, 0, none⟩) (t :: o).length (t :: o).length
  | _ => .slice none 0 0
def toksOf : Except (Nat × Nat) (List Tok) → List Tok
  | .ok o => o
  | .error _ => []
def spotOf : Except (Nat × Nat) (List Tok) → Nat × Nat
  | .ok _ => (0, 0)
  | .error e => e
theorem lexV_eq (h : Heap) (T : List UInt8) : lexV h T = .tuple #[tokL h (lexS T), .agg #[.int .i64 (spotOf (lexS T)).1, .int .i64 (spotOf (lexS T)).2]] := by
  unfold lexV
  generalize lexS T = R
  match R with
  | .ok [] => rfl
  | .ok (t :: o) => rfl
  | .error (e, p) => rfl
theorem lexH_more (h : Heap) (T : List UInt8) : h.more (lexH h T) := by
  unfold lexH
  generalize lexS T = R
  match R with
  | .ok [] => exact Heap.more_refl _
  | .ok (t :: o) => exact Heap.more_alloc _ _
  | .error (e, p) => exact Heap.more_refl _
theorem lexH_toks (h : Heap) (T : List UInt8) : Toks (lexH h T) (tokL h (lexS T)) (toksOf (lexS T)) := by
  unfold lexH
  generalize lexS T = R
  match R with
  | .ok [] => exact .inl ⟨rfl, rfl⟩
  | .ok (t :: o) => exact .inr ⟨h.next, _, Heap.get_alloc_new _ _, rfl, rfl⟩
  | .error (e, p) => exact .inl ⟨rfl, rfl⟩
theorem tokBody_place {T : List UInt8} {a e p : Nat} (ha : a ≤ T.length) (h : tokBody T a = .error (e, p)) : p ≤ T.length := by
  unfold tokBody at h
  simp only [] at h
  split at h
  · have hr := runP_le smallB 16 T a ha
    split at h
    · split at h <;> cases h
    · cases h; omega
  · split at h
    · cases h
    · split at h
      · have hr := runP_le digitB 4 T a ha
        split at h
        · cases h
        · cases h; omega
      · split at h
        · have hq := scanQ_le 64 (T.drop a)
          rw [List.length_drop] at hq
          split at h
          · cases h
          · rename_i hs
            rw [hs] at hq
            simp only [SR.place] at hq
            cases h; omega
          · rename_i hs
            rw [hs] at hq
            simp only [SR.place] at hq
            cases h; omega
        · split at h
          · cases h
          · cases h; omega
theorem tokS_place {T : List UInt8} {a e p : Nat} (ha : a ≤ T.length) (h : tokS T a = .error (e, p)) : p ≤ T.length := by
  unfold tokS at h
  split at h
  · rename_i hb; cases h; exact tokBody_place ha hb
  · rename_i hb
    split at h
    · cases h
    · cases h; exact tokBody_le hb
theorem lex_err {T : List UInt8} {e p : Nat} (h : lexS T = .error (e, p)) : (e = 3 ∨ e = 6) ∧ p ≤ T.length := by
  have key : ∀ (n a : Nat) (sm : Bool) (o : List Tok), T.length - a ≤ n → a ≤ T.length → ∀ e p, lexA T a sm o = .error (e, p) → (e = 3 ∨ e = 6) ∧ p ≤ T.length := by
    intro n
    induction n with
    | zero =>
      intro a sm o h1 h2 e p he
      obtain rfl : a = T.length := by omega
      have hb : peekB T T.length = 10 := by unfold peekB; simp
      rw [lexA_eq h2, hb] at he
      simp only [if_neg (show ¬ ((10 : UInt8) = 32 ∨ (10 : UInt8) = 9) by decide), if_neg (show ¬ (10 : UInt8) = 35 by decide), if_true] at he
      cases he
    | succ n ih =>
      intro a sm o h1 h2 e p he
      have lt10 : peekB T a ≠ 10 → a < T.length := peek_lt
      rw [lexA_eq h2] at he
      split at he
      · rename_i hb
        have := lt10 (by rcases hb with q | q <;> rw [q] <;> decide)
        exact ih _ _ _ (by omega) (by omega) _ _ he
      · split at he
        · rename_i _ hb
          obtain ⟨q1, q2⟩ := skipR_gt hb
          exact ih _ _ _ (by omega) q2 _ _ he
        · split at he
          · split at he
            · cases he
            · exact ih _ _ _ (by omega) (by omega) _ _ he
          · cases ht : tokS T a with
            | error ep => rw [ht] at he; cases he; exact ⟨tokS_err ht, tokS_place h2 ht⟩
            | ok tt =>
              obtain ⟨t, to⟩ := tt
              rw [ht] at he
              have := tokS_gt ht
              have := tokS_le ht
              exact ih _ _ _ (by omega) this _ _ he
  rw [lexS_eq] at h
  split at h
  · cases h; exact ⟨by simp, by omega⟩
  · exact key _ 0 false [] (Nat.le_refl _) (Nat.zero_le _) e p h
theorem lex_call (h : Heap) (T : List UInt8) (hT : T.length ≤ 281474976710656) : Does Tryd.prog 0 (GoodE Tryd.prog (baseM 0)) 21 [.string (bs T)] h fun r h' =>
    r = .returned (.tuple #[tokL h (lexS T), .agg #[.int .i64 (spotOf (lexS T)).1, .int .i64 (spotOf (lexS T)).2]]) ∧ h' = lexH h T := by
  rw [← lexV_eq]
  exact lex_does 0 (baseM 0) h T hT
theorem spot_put (H : Heap) (e p : Int) : astore Tryd.prog (H.alloc (spotRow 0 0)) 31 (.pointer (some ⟨H.next, 0, none⟩)) (.agg #[.int .i64 e, .int .i64 p]) = some (H.alloc (spotRow e p)) := by
  rw [spot_store (Heap.get_alloc_new H (spotRow 0 0)), Heap.set_alloc]
theorem t3 (i k : Nat) : afieldAddr Tryd.prog 65 (.pointer (some ⟨i, k, none⟩)) 3 = some (.pointer (some ⟨i, k + 3, none⟩)) := afieldAddr_eq Tryd.underlying65 (by rfl) (s := 0) (by kernel_rfl) i k
theorem tok_at {H : Heap} {j : Nat} {t : Tok} (g : H.get j = some t.row) (n : Nat) : astore Tryd.prog H 3 (.pointer (some ⟨j, 0 + 3, none⟩)) (.int .i64 n) = some (H.set j (Tok.row { t with at' := n })) := by
  rw [astore_cell sz3 rfl, Heap.sts_of g (by simp [Tok.cells]) rfl rfl]; rfl
theorem build31z : abuild Tryd.prog 65 [] = some (Tok.val ⟨0, [], 0, 0⟩) := by kernel_rfl
theorem tok_put (H : Heap) (t : Tok) : astore Tryd.prog (H.alloc (Tok.row ⟨0, [], 0, 0⟩)) 65 (.pointer (some ⟨H.next, 0, none⟩)) t.val = some (H.alloc t.row) := by
  rw [tok_all (Heap.get_alloc_new H (Tok.row ⟨0, [], 0, 0⟩)), Heap.set_alloc]

end Go.Mini
