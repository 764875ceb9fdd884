import Derived.Test.YtjgmccbjffncaaaDoorPLexL
import Derived.Test.YtjgmccbjffncaaaDoorPLexJtoPLexN
set_option maxHeartbeats 4000000
set_option maxRecDepth 100000
set_option linter.unusedSimpArgs false
namespace Go.Mini
section
open Go.Proofs
def blanks : List UInt8 → Nat
 | [] => 0
 | b :: r => if b = 32 then blanks r + 1 else 0
theorem lexF_blanks (T : List UInt8) (o : List Tok) (sm : Bool) : ∀ (r : List UInt8) (a f : Nat), T.drop a = r → lexF T (f + blanks r) a sm o = lexF T f (a + blanks r) sm o
 | [], a, f, h => by simp [blanks]
 | b :: r, a, f, h => by
  unfold blanks
  split
  ·rename_i hb
   have hp : peekB T a = 32 := by
    unfold peekB
    have : T[a]? = some b := by rw [← List.head?_drop, h]; rfl
    rw [this]; exact hb
   have hd : T.drop (a + 1) = r := by rw [← List.tail_drop, h]; rfl
   rw [← Nat.add_assoc, lexF]
   simp only [hp]
   rw [if_pos (.inl trivial), lexF_blanks T o sm r (a + 1) f hd]
   congr 1; omega
  ·rfl
theorem blanks_le : ∀ r : List UInt8, blanks r ≤ r.length
 | [] => Nat.le_refl _
 | b :: r => by unfold blanks; have := blanks_le r; split <;> simp <;> omega
def lexQ (T : List UInt8) : Except (Nat × Nat) (List Tok) :=
 if 2048 < T.length then .error (3, 2048) else lexF T (T.length + 1 - blanks T) (blanks T) false []
theorem lexQ_eq (T : List UInt8) : lexQ T = lexS T := by
 unfold lexQ lexS
 split
 ·rfl
 ·have h := lexF_blanks T [] false T 0 (T.length + 1 - blanks T) (by simp)
  have := blanks_le T
  rw [show T.length + 1 - blanks T + blanks T = T.length + 1 by omega, Nat.zero_add] at h
  exact h.symm
def lexVQ (h : Heap) : Except (Nat × Nat) (List Tok) → Value × Heap
 | .ok [] => (.tuple #[.slice none 0 0, .agg #[.int .i64 0, .int .i64 0]], h)
 | .ok (t :: o) => (.tuple #[.slice (some ⟨h.next, 0, none⟩) (t :: o).length (t :: o).length, .agg #[.int .i64 0, .int .i64 0]], h.alloc (grownRow 65 ((t :: o).flatMap Tok.cells)))
 | .error (e, p) => (.tuple #[.slice none 0 0, .agg #[.int .i64 e, .int .i64 p]], h)
theorem lexVQ_eq (h : Heap) (T : List UInt8) : lexVQ h (lexQ T) = (lexV h T, lexH h T) := by
 rw [lexQ_eq]
 unfold lexV lexH lexVQ
 generalize lexS T = R
 cases R with
 | error e => rfl
 | ok o => cases o <;> rfl
def lexX : Known := fun f args h => match f, args with
 | 21, [.string s] => if s.size ≤ 100000 then some (lexVQ h (lexQ s.data.toList)) else none
 | 37, [.string s] => if s.size ≤ 100000 then some (.bool (nameS s.data.toList), h) else none
 | _, _ => none
theorem bs_list (s : ByteArray) : bs s.data.toList = s := by cases s; simp [bs]
theorem size_list (s : ByteArray) : s.data.toList.length = s.size := by have := bs_size s.data.toList; rw [bs_list] at this; exact this.symm
theorem lexX_ok (G : Nat) : KnownOk Tryd.prog G (GoodE Tryd.prog (baseM G)) lexX := by
 intro f args h v h' e
 unfold lexX at e
 split at e
 ·rename_i s
  split at e
  ·rename_i hs
   rw [lexVQ_eq] at e
   cases e
   have := lex_good G (baseM G) h s.data.toList (by rw [size_list]; omega)
   rw [bs_list] at this
   exact .ext this
  ·cases e
 ·rename_i s
  split at e
  ·rename_i hs
   cases e
   have := name_spec G h s.data.toList (by rw [size_list]; omega)
   rw [bs_list] at this
   obtain ⟨e, h1, b, rfl, rfl⟩ := this
   exact b
  ·cases e
 ·cases e
noncomputable def gives (P : Program) (G : Nat) (hB : Heap) (X : Known) (fl : FuncId → Bool) (n : Nat) (f : FuncId) (args : List Value) (v : Value) : Bool :=
 match ev P G hB fl X n (.call f args) hB with
 | some (.ends (.returned u), _) => veq 20 u v
 | _ => false
theorem gives_does {P : Program} {G : Nat} {B : Base P G} {X : Known} {fl : FuncId → Bool} {n : Nat} {f : FuncId} {args : List Value} {v : Value} (hX : KnownOk P G (GoodE P B) X) (e : gives P G B.hB X fl n f args v = true) :
  Does P G (GoodE P B) f args B.hB fun r _ => r = .returned v := by
 unfold gives at e
 split at e
 ·rename_i u h1 he
  exact ⟨_, _, ev_sound hX (flatOk B) n _ _ _ _ he, by rw [veq_eq _ _ _ e]⟩
 ·cases e
end
section
open Go.Proofs Tryd
theorem strEq_bs (a b : List UInt8) : strEq (bs a) (bs b) = decide (a = b) := by
 rw [strEq_decide]
 exact decide_eq_decide.2 bs_inj
theorem tok_ext (t u : Tok) : t = u ↔ t.kind = u.kind ∧ t.text = u.text ∧ t.n = u.n ∧ t.at' = u.at' := by
 cases t; cases u; simp
instance : DecidableEq Tok := fun t u => decidable_of_iff _ (tok_ext t u).symm
def Toks (H : Heap) (v : Value) (o : List Tok) : Prop :=
 (o = [] ∧ v = .slice none 0 0) ∨ ∃ b r, H.get b = some (.row r) ∧ r.vs = o.flatMap Tok.cells ∧ v = .slice (some ⟨b, 0, none⟩) o.length o.length
theorem cells_at : ∀ (o : List Tok) (i : Nat) (t : Tok), o[i]? = some t → ((o.flatMap Tok.cells).drop (i * 4)).take 4 = t.cells
 | [], _, _, h => by simp at h
 | u :: o, 0, t, h => by
  simp at h; subst h
  simp [List.flatMap_cons, Tok.cells]
 | u :: o, i + 1, t, h => by
  rw [List.flatMap_cons, show (i + 1) * 4 = u.cells.length + i * 4 by simp [Tok.cells]; omega, ← List.drop_drop, List.drop_left]
  exact cells_at o i t (by simpa using h)
theorem Toks.len {H : Heap} {v : Value} {o : List Tok} (h : Toks H v o) : alen prog H 56 v = some (.int .i64 (o.length : Nat)) := by
 rcases h with ⟨rfl, rfl⟩ | ⟨b, r, _, _, rfl⟩
 ·exact alen_slice underlying56 _ _ _
 ·exact alen_slice underlying56 _ _ _
theorem Toks.at {H : Heap} {v : Value} {o : List Tok} (h : Toks H v o) {i : Nat} {t : Tok} (ht : o[i]? = some t) :
  ∃ p, (∀ kd, aindexAddr prog 56 v (.int kd (i : Nat)) = some p) ∧ aload prog H 65 p = some t.val := by
 rcases h with ⟨rfl, _⟩ | ⟨b, r, hg, hr, rfl⟩
 ·simp at ht
 ·have hlt := (List.getElem?_eq_some_iff.1 ht).1
  refine ⟨_, fun kd => aindexAddr_slice underlying56 sz31 (by omega) (by omega), ?_⟩
  rw [aload_agg agg31 sz31, Heap.lds_of hg (by rw [hr, cells_len]; simp only [Int.toNat_natCast]; omega), hr]
  simp only [Int.toNat_natCast, Nat.zero_add, cells_at o i t ht]
  rfl
theorem Toks.more {H H' : Heap} {v : Value} {o : List Tok} (h : Toks H v o) (k : H.more H') : Toks H' v o := by
 rcases h with h | ⟨b, r, hg, hr, hv⟩
 ·exact .inl h
 ·exact .inr ⟨b, r, k.get hg, hr, hv⟩
theorem spot_put (H : Heap) (e p : Int) : astore prog (H.alloc (spotRow 0 0)) 31 (.pointer (some ⟨H.next, 0, none⟩)) (.agg #[.int .i64 e, .int .i64 p]) = some (H.alloc (spotRow e p)) := by
 rw [spot_store (Heap.gn H (spotRow 0 0)), Heap.set_alloc]
theorem t3 (i k : Nat) : afieldAddr prog 65 (.pointer (some ⟨i, k, none⟩)) 3 = some (.pointer (some ⟨i, k + 3, none⟩)) := afieldAddr_eq underlying65 (by rfl) (s := 0) (by kernel_rfl) i k
theorem tok_put (H : Heap) (t : Tok) : astore prog (H.alloc (Tok.row ⟨0, [], 0, 0⟩)) 65 (.pointer (some ⟨H.next, 0, none⟩)) t.val = some (H.alloc t.row) := by
 rw [tok_all (Heap.gn H (Tok.row ⟨0, [], 0, 0⟩)), Heap.set_alloc]
end
end Go.Mini
