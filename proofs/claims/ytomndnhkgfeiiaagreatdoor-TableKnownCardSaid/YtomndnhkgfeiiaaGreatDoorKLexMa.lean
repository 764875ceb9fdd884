/-
  LEX, part M: the limits.
-/
import Derived.Test.YtomndnhkgfeiiaaGreatDoorKLexL
set_option linter.unusedSimpArgs false
set_option maxHeartbeats 4000000
set_option maxRecDepth 100000
namespace Go.Mini
open Go.Proofs

/-- The blanks ahead. -/
def blanks : List UInt8 → Nat
  | [] => 0
  | b :: r => if b = 32 then blanks r + 1 else 0
theorem lexF_blanks (T : List UInt8) (o : List Tok) (sm : Bool) : ∀ (r : List UInt8) (a f : Nat), T.drop a = r → lexF T (f + blanks r) a sm o = lexF T f (a + blanks r) sm o
  | [], a, f, h => by simp [blanks]
  | b :: r, a, f, h => by
    unfold blanks
    split
    · rename_i hb
      have hp : peekB T a = 32 := by
        unfold peekB
        have : T[a]? = some b := by rw [← List.head?_drop, h]; rfl
        rw [this]; exact hb
      have hd : T.drop (a + 1) = r := by rw [← List.tail_drop, h]; rfl
      rw [← Nat.add_assoc, lexF]
      simp only [hp]
      rw [if_pos (.inl trivial), lexF_blanks T o sm r (a + 1) f hd]
      congr 1; omega
    · rfl
theorem blanks_le : ∀ r : List UInt8, blanks r ≤ r.length
  | [] => Nat.le_refl _
  | b :: r => by unfold blanks; have := blanks_le r; split <;> simp <;> omega
/-- What Lex tells, reckoned with fewer steps. -/
def lexQ (T : List UInt8) : Except (Nat × Nat) (List Tok) :=
  if 2048 < T.length then .error (3, 2048) else lexF T (T.length + 1 - blanks T) (blanks T) false []
theorem lexQ_eq (T : List UInt8) : lexQ T = lexS T := by
  unfold lexQ lexS
  split
  · rfl
  · have h := lexF_blanks T [] false T 0 (T.length + 1 - blanks T) (by simp)
    have := blanks_le T
    rw [show T.length + 1 - blanks T + blanks T = T.length + 1 by omega, Nat.zero_add] at h
    exact h.symm
def lexVQ (h : Heap) : Except (Nat × Nat) (List Tok) → Value × Heap
  | .ok [] => (.tuple #[.slice none 0 0, .agg #[.int .i64 0, .int .i64 0]], h)
  | .ok (t :: o) => (.tuple #[.slice (some ⟨h.next, 0, none⟩) (t :: o).length (t :: o).length, .agg #[.int .i64 0, .int .i64 0]], h.alloc (grownRow 217 ((t :: o).flatMap Tok.cells)))
  | .error (e, p) => (.tuple #[.slice none 0 0, .agg #[.int .i64 e, .int .i64 p]], h)
theorem lexVQ_eq (h : Heap) (T : List UInt8) : lexVQ h (lexQ T) = (lexV h T, lexH h T) := by
  rw [lexQ_eq]
  unfold lexV lexH lexVQ
  generalize lexS T = R
  cases R with
  | error e => rfl
  | ok o => cases o <;> rfl
/-- What Lex and Name come to. -/
def lexX : Known := fun f args h => match f, args with
  | 92, [.string s] => if s.size ≤ 100000 then some (lexVQ h (lexQ s.data.toList)) else none
  | 135, [.string s] => if s.size ≤ 100000 then some (.bool (nameS s.data.toList), h) else none
  | _, _ => none
theorem bs_list (s : ByteArray) : bs s.data.toList = s := by cases s; simp [bs]
theorem size_list (s : ByteArray) : s.data.toList.length = s.size := by have := bs_size s.data.toList; rw [bs_list] at this; exact this.symm
theorem lexX_ok (G : Nat) : KnownOk Tryz.prog G (GoodE Tryz.prog (baseM G)) lexX := by
  intro f args h v h' e
  unfold lexX at e
  split at e
  · rename_i s
    split at e
    · rename_i hs
      rw [lexVQ_eq] at e
      cases e
      have := lex_good G (baseM G) h s.data.toList (by rw [size_list]; omega)
      rw [bs_list] at this
      exact .ext this
    · cases e
  · rename_i s
    split at e
    · rename_i hs
      cases e
      have := name_spec G h s.data.toList (by rw [size_list]; omega)
      rw [bs_list] at this
      obtain ⟨e, h1, b, rfl, rfl⟩ := this
      exact b
    · cases e
  · cases e
theorem str_reach {H : Type} {P : Program} {ts : List TypeId} {ds : List (DataW H)} {j : Nat} {t : TypeId} {l : List UInt8} (h : (DataW.weightsEach P ts ds).all (· ≤ reachBytes) = true) (ht : ts[j]? = some t) (hd : ds[j]? = some (.lit (.string l))) : l.length ≤ reachBytes := by
  have := List.all_eq_true.1 h _ (DataW.weights_mem_each ht hd l.length (by simp [DataW.weights]))
  simpa using this
noncomputable def gives (P : Program) (G : Nat) (hB : Heap) (X : Known) (fl : FuncId → Bool) (n : Nat) (f : FuncId) (args : List Value) (v : Value) : Bool :=
  match ev P G hB fl X n (.call f args) hB with
  | some (.ends (.returned u), _) => veq 20 u v
  | _ => false
theorem gives_does {P : Program} {G : Nat} {B : Base P G} {X : Known} {fl : FuncId → Bool} {n : Nat} {f : FuncId} {args : List Value} {v : Value} (hX : KnownOk P G (GoodE P B) X) (e : gives P G B.hB X fl n f args v = true) :
    Does P G (GoodE P B) f args B.hB fun r _ => r = .returned v := by
  unfold gives at e
  split at e
  · rename_i u h1 he
    exact ⟨_, _, ev_sound hX (flatOk B) n _ _ _ _ he, by rw [veq_eq _ _ _ e]⟩
  · cases e
end Go.Mini
