/-
  Parts PLexL to PLexMa.
-/
import Derived.Test.YtjgmccbjffncaaaDoorMiniYLtoV
import Derived.Test.YtjgmccbjffncaaaDoorPLexK
import Derived.Test.YtjgmccbjffncaaaDoorTrydShelf
section
/-
  LEX, part L: may a text be a name?
-/
set_option linter.unusedSimpArgs false
set_option maxHeartbeats 4000000
set_option maxRecDepth 100000
set_option maxRecDepth 100000
namespace Go.Mini
open Go.Proofs

/-- A heap of which but internal/bytealg's variable is told: it holds some number. -/
def baseM (G : Nat) : Base Tryd.prog G where
  hB := heap0 G
  mB := ren0
  W w := (∃ m, w.cell? ⟨0, 0, none⟩ = some (.int .i64 m)) ∧ Lib.TabIs Tryd.prog w "internal/strconv.uint64pow10" .u64 Lib.pow10Tab
  rel w _ := heap0_rel Tryd.prog G w
  stay w w' hw hs hk := by
    obtain ⟨⟨m, h⟩, ht⟩ := hw
    refine ⟨⟨m, ?_⟩, ?_⟩
    · have hlt : 0 < w.heap.size := by
        unfold World.cell? at h
        cases hg : w.heap[0]? with
        | none => simp [hg] at h
        | some o => exact (Array.getElem?_eq_some_iff.1 hg).1
      unfold World.cell? at h ⊢
      rw [hk 0 hlt]
      exact h
    · unfold Lib.TabIs World.var? at ht ⊢
      obtain ⟨g, hg, h⟩ := Option.bind_eq_some_iff.1 ht
      rw [hg, Option.bind_some]
      have hlt : g < w.heap.size := by
        cases hg : w.heap[g]? with
        | none => rw [hg] at h; cases h
        | some o => exact (Array.getElem?_eq_some_iff.1 hg).1
      rw [hk g hlt]
      exact h
/-- The words of the language. -/
def wordsB : List UInt8 := [32, 115, 101, 110, 100, 32, 115, 101, 116, 32, 105, 110, 99, 32, 105, 102, 32, 103, 111, 116, 111, 32, 101, 120, 105, 116, 32, 101, 120, 112, 101, 99, 116, 32, 116, 105, 109, 101, 111, 117, 116, 32, 103, 108, 111, 98, 32, 114, 101, 32]
def isWord (T : List UInt8) : Bool := Lib.contains wordsB (32 :: (T ++ [32]))
def nameS : List UInt8 → Bool
  | [] => false
  | b :: r => decide ((b :: r).length ≤ 16) && decide (97 ≤ b.toNat) && decide (b.toNat ≤ 122) && !isWord (b :: r) && (b :: r).all smallB
theorem nameS_cons (b : UInt8) (r : List UInt8) : nameS (b :: r) = (decide ((b :: r).length ≤ 16) && decide (97 ≤ b.toNat) && decide (b.toNat ≤ 122) && !isWord (b :: r) && (b :: r).all smallB) := rfl
theorem contains_does (G : Nat) (h : Heap) (s sub : ByteArray) (hs : s.size < 4294967281) :
    Does Tryd.prog G (GoodE Tryd.prog (baseM G)) 54 [.string s, .string sub] h fun r h' => r = .returned (.bool (Lib.contains s.data.toList sub.data.toList)) ∧ h' = h :=
  Does.ofCalls (by simp [flat]) rfl (fun w hw => by obtain ⟨⟨m, hm⟩, _⟩ := hw; exact Tryd.strings_Contains s sub m w hs hm) h
theorem strEq_nil (T : List UInt8) : strEq (bs T) ⟨#[]⟩ = decide (T = []) := by
  cases T <;> simp [strEq, bs]
theorem small_does {G : Nat} (B : Base Tryd.prog G) (b : UInt8) (h : Heap) : Does Tryd.prog G (GoodE Tryd.prog B) 51 [byteV b] h fun r h' => r = .returned (.bool (smallB b)) ∧ h' = h := byteFn (noKnown _ _ _) small_ok b h

theorem name_spec (G : Nat) (h : Heap) (T : List UInt8) (hT : T.length ≤ 281474976710656) :
    Does Tryd.prog G (GoodE Tryd.prog (baseM G)) 37 [.string (bs T)] h fun r h' => r = .returned (.bool (nameS T)) ∧ h' = h := by
  have c17 : canEnter Tryd.prog 54 = true := by kernel_rfl
  have c18 : canEnter Tryd.prog 51 = true := by kernel_rfl
  refine Does.body Tryd.func37 rfl ?_
  have hn : enterF Tryd.f37 [.string (bs T)] = ⟨38, [(0, .string (bs T))], []⟩ := rfl
  rw [hn]; clear hn
  repeat refine Wp.seq ?_
  refine Wp.runS (by simp only [bsf, abuiltin, aextract, Nat.reduceLT, Nat.reduceEqDiff, reduceCtorEq] <;> exact rfl) ?_
  dsimp only [after, leaving]
  cases T with
  | nil =>
    repeat refine Wp.seq ?_
    refine Wp.runS (by simp only [bsf, abuiltin, aextract, Nat.reduceLT, Nat.reduceEqDiff, reduceCtorEq, abin_str, abinS, strEq_nil, decide_eq_true (show ([] : List UInt8) = [] from rfl)] <;> exact rfl) ?_
    dsimp only [after, leaving]
    repeat refine Wp.seq ?_
    refine Wp.condT (by simp only [bsf, abuiltin, aextract, Nat.reduceLT, Nat.reduceEqDiff, reduceCtorEq]) ?_
    repeat refine Wp.seq ?_
    refine Wp.runS (by simp only [bsf, abuiltin, aextract, Nat.reduceLT, Nat.reduceEqDiff, reduceCtorEq] <;> exact rfl) ?_
    dsimp only [after, leaving]
    repeat refine Wp.seq ?_
    refine Wp.ret ?_
    dsimp only [after, leaving]
    exact ⟨rfl, rfl, _, rfl, rfl, rfl⟩
  | cons b r =>
  generalize hT0 : b :: r = T
  have hne : ¬ T = [] := by rw [← hT0]; simp
  have h0 : T[0]? = some b := by rw [← hT0]; rfl
  have e0 : abinS .eql (bs T) ⟨#[]⟩ = some (.bool false) := by unfold abinS; simp only [strEq_nil, decide_eq_false hne]
  rw [hT0] at hT
  by_cases h16 : (16 : Int) < (T.length : Int)
  · repeat refine Wp.seq ?_
    refine Wp.runS (by simp only [bsf, abuiltin, aextract, Nat.reduceLT, Nat.reduceEqDiff, reduceCtorEq, abin_str, e0, alen_str Tryd.underlying9, bs_size, abin_int, ai_gtr, decide_eq_true h16] <;> exact rfl) ?_
    dsimp only [after, leaving]
    repeat refine Wp.seq ?_
    refine Wp.condT (by simp only [bsf, abuiltin, aextract, Nat.reduceLT, Nat.reduceEqDiff, reduceCtorEq]) ?_
    repeat refine Wp.seq ?_
    refine Wp.runS (by simp only [bsf, abuiltin, aextract, Nat.reduceLT, Nat.reduceEqDiff, reduceCtorEq] <;> exact rfl) ?_
    dsimp only [after, leaving]
    repeat refine Wp.seq ?_
    refine Wp.ret ?_
    dsimp only [after, leaving]
    refine ⟨rfl, rfl, _, rfl, ?_, rfl⟩
    have : nameS T = false := by rw [← hT0, nameS_cons, hT0, decide_eq_false (by omega)]; rfl
    rw [this]
  have hi : ∀ k : IntKind, aindex Tryd.prog 9 (.string (bs T)) (.int k 0) = some (byteV b) := fun k => aindex_bs Tryd.underlying9 (j := 0) h0
  by_cases ha : (b.toNat : Int) < 97
  · repeat refine Wp.seq ?_
    refine Wp.runS (by simp only [bsf, abuiltin, aextract, Nat.reduceLT, Nat.reduceEqDiff, reduceCtorEq, abin_str, e0, alen_str Tryd.underlying9, bs_size, abin_int, ai_gtr, decide_eq_false h16, hi, byteV, ai_lss, decide_eq_true ha] <;> exact rfl) ?_
    dsimp only [after, leaving]
    repeat refine Wp.seq ?_
    refine Wp.condT (by simp only [bsf, abuiltin, aextract, Nat.reduceLT, Nat.reduceEqDiff, reduceCtorEq]) ?_
    repeat refine Wp.seq ?_
    refine Wp.runS (by simp only [bsf, abuiltin, aextract, Nat.reduceLT, Nat.reduceEqDiff, reduceCtorEq] <;> exact rfl) ?_
    dsimp only [after, leaving]
    repeat refine Wp.seq ?_
    refine Wp.ret ?_
    dsimp only [after, leaving]
    refine ⟨rfl, rfl, _, rfl, ?_, rfl⟩
    have : nameS T = false := by rw [← hT0, nameS_cons, decide_eq_false (show ¬ 97 ≤ b.toNat by omega)]; simp
    rw [this]
  by_cases hz : (122 : Int) < (b.toNat : Int)
  · repeat refine Wp.seq ?_
    refine Wp.runS (by simp only [bsf, abuiltin, aextract, Nat.reduceLT, Nat.reduceEqDiff, reduceCtorEq, abin_str, e0, alen_str Tryd.underlying9, bs_size, abin_int, ai_gtr, decide_eq_false h16, hi, byteV, ai_lss, decide_eq_false ha, decide_eq_true hz] <;> exact rfl) ?_
    dsimp only [after, leaving]
    repeat refine Wp.seq ?_
    refine Wp.condT (by simp only [bsf, abuiltin, aextract, Nat.reduceLT, Nat.reduceEqDiff, reduceCtorEq]) ?_
    repeat refine Wp.seq ?_
    refine Wp.runS (by simp only [bsf, abuiltin, aextract, Nat.reduceLT, Nat.reduceEqDiff, reduceCtorEq] <;> exact rfl) ?_
    dsimp only [after, leaving]
    repeat refine Wp.seq ?_
    refine Wp.ret ?_
    dsimp only [after, leaving]
    refine ⟨rfl, rfl, _, rfl, ?_, rfl⟩
    have : nameS T = false := by rw [← hT0, nameS_cons, decide_eq_false (show ¬ b.toNat ≤ 122 by omega)]; simp
    rw [this]
  have hadd1 : abinS .add ⟨#[32]⟩ (bs T) = some (.string (bs (32 :: T))) := by
    unfold abinS
    rw [if_pos (by simp only [bs_size, maxLen]; have : (ByteArray.mk #[32]).size = 1 := rfl; omega)]
    exact congrArg (fun x => some (Value.string x)) (bs_append [32] T)
  have hadd2 : abinS .add (bs (32 :: T)) ⟨#[32]⟩ = some (.string (bs (32 :: (T ++ [32])))) := by
    unfold abinS
    rw [if_pos (by simp only [bs_size, maxLen, List.length_cons]; have : (ByteArray.mk #[32]).size = 1 := rfl; omega)]
    exact congrArg (fun x => some (Value.string x)) (bs_append (32 :: T) [32])
  repeat refine Wp.seq ?_
  refine Wp.regionAs (is := List.range' 0 21 ++ (21 :: (List.range' 22 1 ++ []))) rfl ?_
  refine WpO.runS 21 (by simp only [bsd, bsf, abuiltin, aextract, Nat.reduceLT, Nat.reduceEqDiff, reduceCtorEq, abin_str, e0, alen_str Tryd.underlying9, bs_size, abin_int, ai_gtr, decide_eq_false h16, hi, byteV, ai_lss, decide_eq_false ha, decide_eq_false hz, hadd1, hadd2] <;> exact rfl) (by decide) ?_
  refine WpO.callR (contains_does G h ⟨#[32, 115, 101, 110, 100, 32, 115, 101, 116, 32, 105, 110, 99, 32, 105, 102, 32, 103, 111, 116, 111, 32, 101, 120, 105, 116, 32, 101, 120, 112, 101, 99, 116, 32, 116, 105, 109, 101, 111, 117, 116, 32, 103, 108, 111, 98, 32, 114, 101, 32]⟩ (bs (32 :: (T ++ [32]))) (by decide)) rfl (by simp only [bsf, abuiltin, aextract, Nat.reduceLT, Nat.reduceEqDiff, reduceCtorEq, c17]) (by simp only [calleeOf, fnOf, List.append_nil, List.nil_append, bsf, abuiltin, aextract, Nat.reduceLT, Nat.reduceEqDiff, reduceCtorEq, c17] <;> exact rfl) ?_
  rintro _ h9 ⟨rfl, hh9⟩
  obtain rfl := hh9.symm
  clear hh9
  refine ⟨_, _, rfl, by simp only [bsf, abuiltin, aextract, Nat.reduceLT, Nat.reduceEqDiff, reduceCtorEq]; exact rfl, ?_⟩
  have hw9 : Lib.contains (ByteArray.mk #[32, 115, 101, 110, 100, 32, 115, 101, 116, 32, 105, 110, 99, 32, 105, 102, 32, 103, 111, 116, 111, 32, 101, 120, 105, 116, 32, 101, 120, 112, 101, 99, 116, 32, 116, 105, 109, 101, 111, 117, 116, 32, 103, 108, 111, 98, 32, 114, 101, 32]).data.toList (bs (32 :: (T ++ [32]))).data.toList = isWord T := by
    unfold isWord wordsB bs; rfl
  rw [hw9]
  clear hw9
  cases hword : isWord T with
  | true =>
    refine WpO.runS 1 (by simp only [bsd, bsf, abuiltin, aextract, Nat.reduceLT, Nat.reduceEqDiff, reduceCtorEq] <;> exact rfl) (by decide) ?_
    refine WpO.nil ?_
    dsimp only [after, leaving]
    repeat refine Wp.seq ?_
    refine Wp.condT (by simp only [bsf, abuiltin, aextract, Nat.reduceLT, Nat.reduceEqDiff, reduceCtorEq]) ?_
    repeat refine Wp.seq ?_
    refine Wp.runS (by simp only [bsf, abuiltin, aextract, Nat.reduceLT, Nat.reduceEqDiff, reduceCtorEq] <;> exact rfl) ?_
    dsimp only [after, leaving]
    repeat refine Wp.seq ?_
    refine Wp.ret ?_
    dsimp only [after, leaving]
    refine ⟨rfl, rfl, _, rfl, ?_, rfl⟩
    have : nameS T = false := by rw [← hT0, nameS_cons, hT0, hword]; simp
    rw [this]
  | false =>
  refine WpO.runS 1 (by simp only [bsd, bsf, abuiltin, aextract, Nat.reduceLT, Nat.reduceEqDiff, reduceCtorEq] <;> exact rfl) (by decide) ?_
  refine WpO.nil ?_
  dsimp only [after, leaving]
  repeat refine Wp.seq ?_
  refine Wp.condF (by simp only [bsf, abuiltin, aextract, Nat.reduceLT, Nat.reduceEqDiff, reduceCtorEq]) ?_
  repeat refine Wp.seq ?_
  refine Wp.skip ?_
  dsimp only [after, leaving]
  repeat refine Wp.seq ?_
  refine Wp.runS (by simp only [bsf, abuiltin, aextract, Nat.reduceLT, Nat.reduceEqDiff, reduceCtorEq, alen_str Tryd.underlying9, bs_size] <;> exact rfl) ?_
  dsimp only [after, leaving]
  have hN : nameS T = T.all smallB := by
    rw [← hT0, nameS_cons, hT0, hword, decide_eq_true (show T.length ≤ 16 by omega), decide_eq_true (show 97 ≤ b.toNat by omega), decide_eq_true (show b.toNat ≤ 122 by omega)]; simp
  clear hT0 h0 hi ha hz e0 hne h16 hadd1 hadd2 hword
  repeat refine Wp.seq ?_
  refine Wp.block ?_
  refine Wp.loopI (X := Nat) (fun i => [(0, .string (bs T)), (28, .int .i64 T.length), (29, .int .i64 i)]) (fun _ => h)
    (fun i => i ≤ T.length ∧ (T.drop i).all smallB = nameS T) (fun i => T.length - i) 0 ⟨Nat.zero_le _, by rw [hN, List.drop_zero]⟩ ⟨rfl, rfl, rfl, trivial⟩ rfl ?_
  rintro i ⟨hle, hi⟩
  by_cases hlt : (i : Int) < (T.length : Int)
  · repeat refine Wp.seq ?_
    refine Wp.runS (by simp only [bsf, abuiltin, aextract, Nat.reduceLT, Nat.reduceEqDiff, reduceCtorEq, abin_int, ai_lss, decide_eq_true hlt] <;> exact rfl) ?_
    dsimp only [after, leaving]
    repeat refine Wp.seq ?_
    refine Wp.condT (by simp only [bsf, abuiltin, aextract, Nat.reduceLT, Nat.reduceEqDiff, reduceCtorEq]) ?_
    repeat refine Wp.seq ?_
    refine Wp.skip ?_
    dsimp only [after, leaving]
    repeat refine Wp.seq ?_
    refine Wp.block ?_
    obtain ⟨c, hc⟩ : ∃ c, T[i]? = some c := ⟨_, List.getElem?_eq_getElem (by omega)⟩
    have hd : T.drop i = c :: T.drop (i + 1) := drop_cons hc
    rw [hd, List.all_cons] at hi
    repeat refine Wp.seq ?_
    refine Wp.runS (by simp only [bsf, abuiltin, aextract, Nat.reduceLT, Nat.reduceEqDiff, reduceCtorEq] <;> exact rfl) ?_
    dsimp only [after, leaving]
    repeat refine Wp.seq ?_
    refine Wp.regionAs (is := List.range' 0 3 ++ (3 :: (List.range' 4 1 ++ []))) rfl ?_
    refine WpO.runS 3 (by simp only [bsd, bsf, abuiltin, aextract, Nat.reduceLT, Nat.reduceEqDiff, reduceCtorEq, aindex_bs Tryd.underlying9 hc] <;> exact rfl) (by decide) ?_
    refine WpO.callR (small_does (baseM G) c h) rfl (by simp only [bsf, abuiltin, aextract, Nat.reduceLT, Nat.reduceEqDiff, reduceCtorEq, c18]) (by simp only [calleeOf, fnOf, List.append_nil, List.nil_append, bsf, abuiltin, aextract, Nat.reduceLT, Nat.reduceEqDiff, reduceCtorEq, c18] <;> exact rfl) ?_
    rintro _ h9 ⟨rfl, hh9⟩
    obtain rfl := hh9.symm
    clear hh9
    refine ⟨_, _, rfl, by simp only [bsf, abuiltin, aextract, Nat.reduceLT, Nat.reduceEqDiff, reduceCtorEq]; exact rfl, ?_⟩
    cases hsm : smallB c with
    | true =>
      refine WpO.runS 1 (by simp only [bsd, bsf, abuiltin, aextract, Nat.reduceLT, Nat.reduceEqDiff, reduceCtorEq] <;> exact rfl) (by decide) ?_
      refine WpO.nil ?_
      dsimp only [after, leaving]
      repeat refine Wp.seq ?_
      refine Wp.condF (by simp only [bsf, abuiltin, aextract, Nat.reduceLT, Nat.reduceEqDiff, reduceCtorEq]) ?_
      repeat refine Wp.seq ?_
      refine Wp.skip ?_
      dsimp only [after, leaving]
      have hw : IntKind.i64.wrap ((i : Int) + 1) = ((i + 1 : Nat) : Int) := by rw [wrap_in (by omega) (by omega)]; omega
      repeat refine Wp.seq ?_
      refine Wp.runS (by simp only [bsf, abuiltin, aextract, Nat.reduceLT, Nat.reduceEqDiff, reduceCtorEq, abin_int, ai_add, hw] <;> exact rfl) ?_
      dsimp only [after, leaving]
      exact ⟨i + 1, _, ⟨by omega, by rw [← hi, hsm]; rfl⟩, by omega, rfl, ⟨rfl, rfl, rfl, trivial⟩, rfl, rfl⟩
    | false =>
      refine WpO.runS 1 (by simp only [bsd, bsf, abuiltin, aextract, Nat.reduceLT, Nat.reduceEqDiff, reduceCtorEq] <;> exact rfl) (by decide) ?_
      refine WpO.nil ?_
      dsimp only [after, leaving]
      repeat refine Wp.seq ?_
      refine Wp.condT (by simp only [bsf, abuiltin, aextract, Nat.reduceLT, Nat.reduceEqDiff, reduceCtorEq]) ?_
      repeat refine Wp.seq ?_
      refine Wp.runS (by simp only [bsf, abuiltin, aextract, Nat.reduceLT, Nat.reduceEqDiff, reduceCtorEq] <;> exact rfl) ?_
      dsimp only [after, leaving]
      repeat refine Wp.seq ?_
      refine Wp.ret ?_
      dsimp only [after, leaving]
      refine ⟨rfl, rfl, _, rfl, ?_, rfl⟩
      rw [← hi, hsm]; rfl
  · repeat refine Wp.seq ?_
    refine Wp.runS (by simp only [bsf, abuiltin, aextract, Nat.reduceLT, Nat.reduceEqDiff, reduceCtorEq, abin_int, ai_lss, decide_eq_false hlt] <;> exact rfl) ?_
    dsimp only [after, leaving]
    repeat refine Wp.seq ?_
    refine Wp.condF (by simp only [bsf, abuiltin, aextract, Nat.reduceLT, Nat.reduceEqDiff, reduceCtorEq]) ?_
    repeat refine Wp.seq ?_
    refine Wp.exit ?_
    simp only [after, leaving, blockExit, if_true, if_false, Nat.reduceEqDiff]
    repeat refine Wp.seq ?_
    refine Wp.runS (by simp only [bsf, abuiltin, aextract, Nat.reduceLT, Nat.reduceEqDiff, reduceCtorEq] <;> exact rfl) ?_
    dsimp only [after, leaving]
    repeat refine Wp.seq ?_
    refine Wp.ret ?_
    dsimp only [after, leaving]
    refine ⟨rfl, rfl, _, rfl, ?_, rfl⟩
    rw [← hi, List.drop_eq_nil_of_le (by omega)]; rfl
end Go.Mini
end
section
/-
  LEX, part M: the limits.
-/
set_option linter.unusedSimpArgs false
set_option maxHeartbeats 4000000
set_option maxRecDepth 100000
set_option maxRecDepth 100000
namespace Go.Mini
open Go.Proofs

/-- The blanks ahead. -/
def blanks : List UInt8 → Nat
  | [] => 0
  | b :: r => if b = 32 then blanks r + 1 else 0
theorem lexF_blanks (T : List UInt8) (o : List Tok) (sm : Bool) : ∀ (r : List UInt8) (a f : Nat), T.drop a = r → lexF T (f + blanks r) a sm o = lexF T f (a + blanks r) sm o
  | [], a, f, h => by simp [blanks]
  | b :: r, a, f, h => by
    unfold blanks
    split
    · rename_i hb
      have hp : peekB T a = 32 := by
        unfold peekB
        have : T[a]? = some b := by rw [← List.head?_drop, h]; rfl
        rw [this]; exact hb
      have hd : T.drop (a + 1) = r := by rw [← List.tail_drop, h]; rfl
      rw [← Nat.add_assoc, lexF]
      simp only [hp]
      rw [if_pos (.inl trivial), lexF_blanks T o sm r (a + 1) f hd]
      congr 1; omega
    · rfl
theorem blanks_le : ∀ r : List UInt8, blanks r ≤ r.length
  | [] => Nat.le_refl _
  | b :: r => by unfold blanks; have := blanks_le r; split <;> simp <;> omega
/-- What Lex tells, reckoned with fewer steps. -/
def lexQ (T : List UInt8) : Except (Nat × Nat) (List Tok) :=
  if 2048 < T.length then .error (3, 2048) else lexF T (T.length + 1 - blanks T) (blanks T) false []
theorem lexQ_eq (T : List UInt8) : lexQ T = lexS T := by
  unfold lexQ lexS
  split
  · rfl
  · have h := lexF_blanks T [] false T 0 (T.length + 1 - blanks T) (by simp)
    have := blanks_le T
    rw [show T.length + 1 - blanks T + blanks T = T.length + 1 by omega, Nat.zero_add] at h
    exact h.symm
def lexVQ (h : Heap) : Except (Nat × Nat) (List Tok) → Value × Heap
  | .ok [] => (.tuple #[.slice none 0 0, .agg #[.int .i64 0, .int .i64 0]], h)
  | .ok (t :: o) => (.tuple #[.slice (some ⟨h.next, 0, none⟩) (t :: o).length (t :: o).length, .agg #[.int .i64 0, .int .i64 0]], h.alloc (grownRow 65 ((t :: o).flatMap Tok.cells)))
  | .error (e, p) => (.tuple #[.slice none 0 0, .agg #[.int .i64 e, .int .i64 p]], h)
theorem lexVQ_eq (h : Heap) (T : List UInt8) : lexVQ h (lexQ T) = (lexV h T, lexH h T) := by
  rw [lexQ_eq]
  unfold lexV lexH lexVQ
  generalize lexS T = R
  cases R with
  | error e => rfl
  | ok o => cases o <;> rfl
/-- What Lex and Name come to. -/
def lexX : Known := fun f args h => match f, args with
  | 21, [.string s] => if s.size ≤ 100000 then some (lexVQ h (lexQ s.data.toList)) else none
  | 37, [.string s] => if s.size ≤ 100000 then some (.bool (nameS s.data.toList), h) else none
  | _, _ => none
theorem bs_list (s : ByteArray) : bs s.data.toList = s := by cases s; simp [bs]
theorem size_list (s : ByteArray) : s.data.toList.length = s.size := by have := bs_size s.data.toList; rw [bs_list] at this; exact this.symm
theorem lexX_ok (G : Nat) : KnownOk Tryd.prog G (GoodE Tryd.prog (baseM G)) lexX := by
  intro f args h v h' e
  unfold lexX at e
  split at e
  · rename_i s
    split at e
    · rename_i hs
      rw [lexVQ_eq] at e
      cases e
      have := lex_good G (baseM G) h s.data.toList (by rw [size_list]; omega)
      rw [bs_list] at this
      exact .ext this
    · cases e
  · rename_i s
    split at e
    · rename_i hs
      cases e
      have := name_spec G h s.data.toList (by rw [size_list]; omega)
      rw [bs_list] at this
      obtain ⟨e, h1, b, rfl, rfl⟩ := this
      exact b
    · cases e
  · cases e
theorem str_reach {H : Type} {P : Program} {ts : List TypeId} {ds : List (DataW H)} {j : Nat} {t : TypeId} {l : List UInt8} (h : (DataW.weightsEach P ts ds).all (· ≤ reachBytes) = true) (ht : ts[j]? = some t) (hd : ds[j]? = some (.lit (.string l))) : l.length ≤ reachBytes := by
  have := List.all_eq_true.1 h _ (DataW.weights_mem_each ht hd l.length (by simp [DataW.weights]))
  simpa using this
noncomputable def gives (P : Program) (G : Nat) (hB : Heap) (X : Known) (fl : FuncId → Bool) (n : Nat) (f : FuncId) (args : List Value) (v : Value) : Bool :=
  match ev P G hB fl X n (.call f args) hB with
  | some (.ends (.returned u), _) => veq 20 u v
  | _ => false
theorem gives_does {P : Program} {G : Nat} {B : Base P G} {X : Known} {fl : FuncId → Bool} {n : Nat} {f : FuncId} {args : List Value} {v : Value} (hX : KnownOk P G (GoodE P B) X) (e : gives P G B.hB X fl n f args v = true) :
    Does P G (GoodE P B) f args B.hB fun r _ => r = .returned v := by
  unfold gives at e
  split at e
  · rename_i u h1 he
    exact ⟨_, _, ev_sound hX (flatOk B) n _ _ _ _ he, by rw [veq_eq _ _ _ e]⟩
  · cases e
end Go.Mini
end
