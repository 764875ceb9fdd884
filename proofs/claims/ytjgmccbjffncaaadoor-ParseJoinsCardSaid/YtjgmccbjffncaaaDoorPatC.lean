/-
  PATTERN, part C: a regular text's reader: the next byte, a byte of a set, a set.
-/
import Derived.Test.YtjgmccbjffncaaaDoorMiniYLtoV
import Derived.Test.YtjgmccbjffncaaaDoorPatB
set_option linter.unusedSimpArgs false
set_option maxHeartbeats 8000000
set_option maxRecDepth 100000
namespace Go.Mini
open Go.Proofs

def regRow (T : List UInt8) (a : Nat) : AObj := .row { vs := [.string (bs T), .int .i64 a], elem := 130 }
theorem g0 (i k : Nat) : afieldAddr Tryd.prog 130 (.pointer (some ⟨i, k, none⟩)) 0 = some (.pointer (some ⟨i, k, none⟩)) := afieldAddr_eq (f := 0) (o := 0) Tryd.underlying130 (by rfl) (s := 0) (by kernel_rfl) i k
theorem g1 (i k : Nat) : afieldAddr Tryd.prog 130 (.pointer (some ⟨i, k, none⟩)) 1 = some (.pointer (some ⟨i, k + 1, none⟩)) := afieldAddr_eq Tryd.underlying130 (by rfl) (s := 0) (by kernel_rfl) i k
theorem reg_store {H : Heap} {i : Nat} {T : List UInt8} {a : Nat} (hg : H.get i = some (regRow T a)) (a' : Nat) : astore Tryd.prog H 3 (.pointer (some ⟨i, 0 + 1, none⟩)) (.int .i64 (a' : Nat)) = some (H.set i (regRow T a')) := by
  rw [astore_cell sz3 rfl, Heap.sts_of hg (by simp) rfl rfl]; rfl
theorem wrapN {a : Nat} (ha : a ≤ 1000000) : IntKind.i64.wrap ((a : Int) + 1) = ((a + 1 : Nat) : Int) := by rw [wrap_in (by omega) (by omega)]; omega
theorem wrapM {a : Nat} (ha : a ≤ 1000000) : IntKind.i64.wrap (((a + 1 : Nat) : Int) - 1) = ((a : Nat) : Int) := by rw [wrap_in (by omega) (by omega)]; omega
/-- The byte that stands next; false: there is none. -/
def nextV (T : List UInt8) (a : Nat) : Value := .tuple #[byteV ((T[a]?).getD 0), .bool (T[a]?).isSome]
theorem nextR_does {E : EXT} (G : Nat) (h : Heap) (i : Nat) (T : List UInt8) (a : Nat) (hg : h.get i = some (regRow T a)) :
    Does Tryd.prog G E 65 [.pointer (some ⟨i, 0, none⟩)] h fun r h' => r = .returned (nextV T a) ∧ h' = h := by
  have l0 := Heap.ld_of hg (k := 0) rfl
  have l1 := Heap.ld_of hg (k := 0 + 1) rfl
  refine Does.body Tryd.func65 rfl ?_
  have hn : enterF Tryd.f65 [.pointer (some ⟨i, 0, none⟩)] = ⟨23, [(0, .pointer (some ⟨i, 0, none⟩))], []⟩ := rfl
  rw [hn]; clear hn
  repeat refine Wp.seq ?_
  refine Wp.runS (by simp only [bsf, abuiltin, aextract, Nat.reduceLT, Nat.reduceEqDiff, reduceCtorEq] <;> exact rfl) ?_
  dsimp only [after, leaving]
  by_cases hlt : (T.length : Int) ≤ (a : Int)
  · repeat refine Wp.seq ?_
    refine Wp.runSD mixed (by kernel_rfl) (by simp only [runSD, stepOD, stepWD, stepVD, isLoud, isPure, isReader, decide_true, bsb, bsf, abuiltin, aextract, Nat.reduceLT, Nat.reduceEqDiff, reduceCtorEq, g0, g1, aload_cell agg3, aload_cell agg9, l0, l1, alen_str Tryd.underlying9, bs_size, abin_int, ai_geq, decide_eq_true hlt] <;> exact rfl) ?_
    dsimp only [after, leaving]
    repeat refine Wp.seq ?_
    refine Wp.condT (by simp only [bsf, abuiltin, aextract, Nat.reduceLT, Nat.reduceEqDiff, reduceCtorEq]) ?_
    repeat refine Wp.seq ?_
    refine Wp.runS (by simp only [bsf, abuiltin, aextract, Nat.reduceLT, Nat.reduceEqDiff, reduceCtorEq] <;> exact rfl) ?_
    dsimp only [after, leaving]
    repeat refine Wp.seq ?_
    refine Wp.ret ?_
    dsimp only [after, leaving]
    have : T[a]? = none := List.getElem?_eq_none (by omega)
    exact ⟨rfl, rfl, _, rfl, by unfold nextV; rw [this]; rfl, rfl⟩
  · obtain ⟨c, hc⟩ : ∃ c, T[a]? = some c := ⟨_, List.getElem?_eq_getElem (by omega)⟩
    repeat refine Wp.seq ?_
    refine Wp.runSD mixed (by kernel_rfl) (by simp only [runSD, stepOD, stepWD, stepVD, isLoud, isPure, isReader, decide_true, bsb, bsf, abuiltin, aextract, Nat.reduceLT, Nat.reduceEqDiff, reduceCtorEq, g0, g1, aload_cell agg3, aload_cell agg9, l0, l1, alen_str Tryd.underlying9, bs_size, abin_int, ai_geq, decide_eq_false hlt] <;> exact rfl) ?_
    dsimp only [after, leaving]
    repeat refine Wp.seq ?_
    refine Wp.condF (by simp only [bsf, abuiltin, aextract, Nat.reduceLT, Nat.reduceEqDiff, reduceCtorEq]) ?_
    repeat refine Wp.seq ?_
    refine Wp.skip ?_
    dsimp only [after, leaving]
    repeat refine Wp.seq ?_
    refine Wp.runSD mixed (by kernel_rfl) (by simp only [runSD, stepOD, stepWD, stepVD, isLoud, isPure, isReader, decide_true, bsb, bsf, abuiltin, aextract, Nat.reduceLT, Nat.reduceEqDiff, reduceCtorEq, g0, g1, aload_cell agg3, aload_cell agg9, l0, l1, aindex_bs Tryd.underlying9 hc] <;> exact rfl) ?_
    dsimp only [after, leaving]
    repeat refine Wp.seq ?_
    refine Wp.ret ?_
    dsimp only [after, leaving]
    exact ⟨rfl, rfl, _, rfl, by unfold nextV; rw [hc]; rfl, rfl⟩
def regAt (h : Heap) (i : Nat) (T : List UInt8) (a : Nat) : Heap := h.set i (regRow T a)
theorem regAt_but {h : Heap} {i : Nat} {T : List UInt8} {a : Nat} (hg : h.get i = some (regRow T a)) (b : Nat) : h.but i (regAt h i T b) := Heap.but_set h i _ (by rw [hg]; rfl)
theorem regAt_get {h : Heap} {i : Nat} {T : List UInt8} {a : Nat} (hg : h.get i = some (regRow T a)) (b : Nat) : (regAt h i T b).get i = some (regRow T b) := Heap.get_set_self hg
theorem regAt_regAt (h : Heap) (i : Nat) (T : List UInt8) (a b : Nat) : regAt (regAt h i T a) i T b = regAt h i T b := Heap.set_set _ _ _ _
/-- A byte taken; or it is told where there is none. -/
def RegB (h : Heap) (i : Nat) (T : List UInt8) (R : Except Nat (UInt8 × Nat)) (r : Ending) (h' : Heap) : Prop := match R with
  | .ok (c, b) => r = .returned (byteV c) ∧ h' = regAt h i T b
  | .error p => r = .panicked (wrongP 125 p) ∧ h.but i h'
def takeR (T : List UInt8) (a : Nat) : Except Nat (UInt8 × Nat) := match T[a]? with | some c => .ok (c, a + 1) | none => .error a
theorem takeR_does {E : EXT} (G : Nat) (h : Heap) (i : Nat) (T : List UInt8) (a : Nat) (hg : h.get i = some (regRow T a)) (ha : a ≤ 1000000) :
    Does Tryd.prog G E 99 [.pointer (some ⟨i, 0, none⟩)] h (RegB h i T (takeR T a)) := by
  have c65 : canEnter Tryd.prog 65 = true := by kernel_rfl
  have l1 := Heap.ld_of hg (k := 0 + 1) rfl
  refine Does.body Tryd.func99 rfl ?_
  have hn : enterF Tryd.f99 [.pointer (some ⟨i, 0, none⟩)] = ⟨25, [(0, .pointer (some ⟨i, 0, none⟩))], []⟩ := rfl
  rw [hn]; clear hn
  repeat refine Wp.seq ?_
  refine Wp.runS (by simp only [bsf, abuiltin, aextract, Nat.reduceLT, Nat.reduceEqDiff, reduceCtorEq] <;> exact rfl) ?_
  dsimp only [after, leaving]
  repeat refine Wp.seq ?_
  refine Wp.regionAs (is := List.range' 0 1 ++ (1 :: (List.range' 2 5 ++ []))) rfl ?_
  refine WpO.runS 1 (by simp only [bsd, bsf, abuiltin, aextract, Nat.reduceLT, Nat.reduceEqDiff, reduceCtorEq] <;> exact rfl) (by decide) ?_
  refine WpO.callR (nextR_does G h i T a hg) rfl (by simp only [bsf, abuiltin, aextract, Nat.reduceLT, Nat.reduceEqDiff, reduceCtorEq, c65]) (by simp only [calleeOf, fnOf, List.append_nil, List.nil_append, bsf, abuiltin, aextract, Nat.reduceLT, Nat.reduceEqDiff, reduceCtorEq, c65] <;> exact rfl) ?_
  rintro _ h9 ⟨rfl, hh9⟩
  obtain rfl := hh9.symm
  clear hh9
  refine ⟨_, _, rfl, by simp only [bsf, abuiltin, aextract, Nat.reduceLT, Nat.reduceEqDiff, reduceCtorEq]; exact rfl, ?_⟩
  refine WpO.runS 5 (by simp only [bsd, bsf, abuiltin, aextract, Nat.reduceLT, Nat.reduceEqDiff, reduceCtorEq, nextV, List.getElem?_toArray] <;> exact rfl) (by decide) ?_
  refine WpO.nil ?_
  dsimp only [after, leaving]
  unfold takeR
  cases hc : T[a]? with
  | none =>
    repeat refine Wp.seq ?_
    refine Wp.runS (by simp only [bsf, abuiltin, aextract, Nat.reduceLT, Nat.reduceEqDiff, reduceCtorEq, aun, Option.isSome] <;> exact rfl) ?_
    dsimp only [after, leaving]
    repeat refine Wp.seq ?_
    refine Wp.condT (by simp only [bsf, abuiltin, aextract, Nat.reduceLT, Nat.reduceEqDiff, reduceCtorEq]) ?_
    repeat refine Wp.seq ?_
    refine Wp.regionAs (is := List.range' 0 5 ++ (5 :: [])) rfl ?_
    refine WpO.runS 5 (by simp only [bsd, bsf, abuiltin, aextract, Nat.reduceLT, Nat.reduceEqDiff, reduceCtorEq, g1, aload_cell agg3, l1, Tryd.underlying125] <;> exact rfl) (by decide) ?_
    refine WpO.panicS (by simp only [bsf, abuiltin, aextract, Nat.reduceLT, Nat.reduceEqDiff, reduceCtorEq] <;> exact rfl) rfl (by simp only [bsf, abuiltin, aextract, Nat.reduceLT, Nat.reduceEqDiff, reduceCtorEq]) ?_
    dsimp only [after, leaving]
    exact ⟨rfl, rfl, rfl, (Heap.more_refl h).but i⟩
  | some c =>
    repeat refine Wp.seq ?_
    refine Wp.runS (by simp only [bsf, abuiltin, aextract, Nat.reduceLT, Nat.reduceEqDiff, reduceCtorEq, aun, Option.isSome] <;> exact rfl) ?_
    dsimp only [after, leaving]
    repeat refine Wp.seq ?_
    refine Wp.condF (by simp only [bsf, abuiltin, aextract, Nat.reduceLT, Nat.reduceEqDiff, reduceCtorEq]) ?_
    repeat refine Wp.seq ?_
    refine Wp.skip ?_
    dsimp only [after, leaving]
    repeat refine Wp.seq ?_
    refine Wp.runS (by simp only [bsf, abuiltin, aextract, Nat.reduceLT, Nat.reduceEqDiff, reduceCtorEq, g1, aload_cell agg3, l1, abin_int, ai_add, wrapN ha, reg_store hg] <;> exact rfl) ?_
    dsimp only [after, leaving]
    repeat refine Wp.seq ?_
    refine Wp.runS (by simp only [bsf, abuiltin, aextract, Nat.reduceLT, Nat.reduceEqDiff, reduceCtorEq] <;> exact rfl) ?_
    dsimp only [after, leaving]
    repeat refine Wp.seq ?_
    refine Wp.ret ?_
    dsimp only [after, leaving]
    exact ⟨rfl, rfl, _, rfl, rfl, rfl⟩
theorem memberR_does {E : EXT} (G : Nat) (h : Heap) (i : Nat) (T : List UInt8) (a : Nat) (hg : h.get i = some (regRow T a)) (ha : a + 1 ≤ 1000000) :
    Does Tryd.prog G E 102 [.pointer (some ⟨i, 0, none⟩)] h (RegB h i T (memberS T a)) := by
  have c99 : canEnter Tryd.prog 99 = true := by kernel_rfl
  refine Does.body Tryd.func102 rfl ?_
  have hn : enterF Tryd.f102 [.pointer (some ⟨i, 0, none⟩)] = ⟨23, [(0, .pointer (some ⟨i, 0, none⟩))], []⟩ := rfl
  rw [hn]; clear hn
  repeat refine Wp.seq ?_
  refine Wp.runS (by simp only [bsf, abuiltin, aextract, Nat.reduceLT, Nat.reduceEqDiff, reduceCtorEq] <;> exact rfl) ?_
  dsimp only [after, leaving]
  repeat refine Wp.seq ?_
  refine Wp.regionAs (is := List.range' 0 1 ++ (1 :: (List.range' 2 1 ++ []))) rfl ?_
  refine WpO.runS 1 (by simp only [bsd, bsf, abuiltin, aextract, Nat.reduceLT, Nat.reduceEqDiff, reduceCtorEq] <;> exact rfl) (by decide) ?_
  refine WpO.callS rfl (by simp only [bsf, abuiltin, aextract, Nat.reduceLT, Nat.reduceEqDiff, reduceCtorEq, c99]) (by simp only [calleeOf, fnOf, List.append_nil, List.nil_append, bsf, abuiltin, aextract, Nat.reduceLT, Nat.reduceEqDiff, reduceCtorEq, c99] <;> exact rfl) ((takeR_does G h i T a hg (by omega)).mono ?_)
  intro x h2 hr
  unfold memberS
  unfold takeR at hr
  cases hc : T[a]? with
  | none =>
    rw [hc] at hr
    obtain ⟨rfl, hb⟩ := hr
    exact ⟨rfl, rfl, rfl, hb⟩
  | some c =>
    rw [hc] at hr
    obtain ⟨rfl, rfl⟩ := hr
    have g2 := regAt_get hg (a + 1)
    have b2 := regAt_but hg (a + 1)
    refine ⟨_, by simp only [bsf, abuiltin, aextract, Nat.reduceLT, Nat.reduceEqDiff, reduceCtorEq] <;> exact rfl, ?_⟩
    refine WpO.runS 1 (by simp only [bsd, bsf, abuiltin, aextract, Nat.reduceLT, Nat.reduceEqDiff, reduceCtorEq] <;> exact rfl) (by decide) ?_
    refine WpO.nil ?_
    dsimp only [after, leaving]
    repeat refine Wp.seq ?_
    refine Wp.runS (by simp only [bsf, abuiltin, aextract, Nat.reduceLT, Nat.reduceEqDiff, reduceCtorEq] <;> exact rfl) ?_
    dsimp only [after, leaving]
    repeat refine Wp.seq ?_
    refine Wp.block ?_
    have en : ∀ n : Nat, n < 256 → ((c.toNat : Int) == (n : Int)) = decide (c = n.toUInt8) := by
      intro n hn
      rw [Bool.eq_iff_iff, beq_iff_eq, decide_eq_true_iff, byte_eq c n hn]
      omega
    by_cases h92 : c = 92
    · repeat refine Wp.seq ?_
      refine Wp.runS (by simp only [bsf, abuiltin, aextract, Nat.reduceLT, Nat.reduceEqDiff, reduceCtorEq, byteV, abin_int, ai_eql, show ((c.toNat : Int) == 92) = true by rw [h92]; rfl] <;> exact rfl) ?_
      dsimp only [after, leaving]
      repeat refine Wp.seq ?_
      refine Wp.condT (by simp only [bsf, abuiltin, aextract, Nat.reduceLT, Nat.reduceEqDiff, reduceCtorEq]) ?_
      repeat refine Wp.seq ?_
      refine Wp.regionAs (is := List.range' 0 1 ++ (1 :: (List.range' 2 1 ++ []))) rfl ?_
      refine WpO.runS 1 (by simp only [bsd, bsf, abuiltin, aextract, Nat.reduceLT, Nat.reduceEqDiff, reduceCtorEq] <;> exact rfl) (by decide) ?_
      refine WpO.callS rfl (by simp only [bsf, abuiltin, aextract, Nat.reduceLT, Nat.reduceEqDiff, reduceCtorEq, c99]) (by simp only [calleeOf, fnOf, List.append_nil, List.nil_append, bsf, abuiltin, aextract, Nat.reduceLT, Nat.reduceEqDiff, reduceCtorEq, c99] <;> exact rfl) ((takeR_does G (regAt h i T (a + 1)) i T (a + 1) g2 ha).mono ?_)
      intro x h3 hr
      rw [if_pos h92]
      unfold takeR at hr
      cases hd : T[a + 1]? with
      | none =>
        rw [hd] at hr
        obtain ⟨rfl, hb⟩ := hr
        exact ⟨rfl, rfl, rfl, b2.trans hb⟩
      | some d =>
        rw [hd] at hr
        obtain ⟨rfl, rfl⟩ := hr
        refine ⟨_, by simp only [bsf, abuiltin, aextract, Nat.reduceLT, Nat.reduceEqDiff, reduceCtorEq] <;> exact rfl, ?_⟩
        refine WpO.runS 1 (by simp only [bsd, bsf, abuiltin, aextract, Nat.reduceLT, Nat.reduceEqDiff, reduceCtorEq] <;> exact rfl) (by decide) ?_
        refine WpO.nil ?_
        dsimp only [after, leaving]
        repeat refine Wp.seq ?_
        refine Wp.ret ?_
        dsimp only [after, leaving]
        exact ⟨rfl, rfl, _, rfl, rfl, regAt_regAt _ _ _ _ _⟩
    have l1 := Heap.ld_of g2 (k := 0 + 1) rfl
    repeat refine Wp.seq ?_
    refine Wp.runS (by simp only [bsf, abuiltin, aextract, Nat.reduceLT, Nat.reduceEqDiff, reduceCtorEq, byteV, abin_int, ai_eql, show ((c.toNat : Int) == 92) = false by have := en 92 (by omega); simpa [h92] using this] <;> exact rfl) ?_
    dsimp only [after, leaving]
    repeat refine Wp.seq ?_
    refine Wp.condF (by simp only [bsf, abuiltin, aextract, Nat.reduceLT, Nat.reduceEqDiff, reduceCtorEq]) ?_
    rw [if_neg h92]
    repeat refine Wp.seq ?_
    refine Wp.runS (by simp only [bsf, abuiltin, aextract, Nat.reduceLT, Nat.reduceEqDiff, reduceCtorEq, byteV, abin_int, ai_eql, show ((c.toNat : Int) == 91) = decide (c = 91) from en 91 (by omega)] <;> exact rfl) ?_
    dsimp only [after, leaving]
    repeat refine Wp.seq ?_
    refine Wp.cut (fun fr u h' => u = none ∧ h' = regAt h i T (a + 1) ∧ ∃ sl, fr = ⟨23, sl, []⟩ ∧ holds [(0, .pointer (some ⟨i, 0, none⟩)), (3, byteV c), (12, .bool (decide (c = 91 ∨ c = 93 ∨ c = 94 ∨ c = 45)))] sl) ?_ ?_
    rotate_left
    · by_cases h91 : c = 91
      · rw [decide_eq_true h91, decide_eq_true (show c = 91 ∨ c = 93 ∨ c = 94 ∨ c = 45 from .inl h91)]
        repeat refine Wp.seq ?_
        refine Wp.condT (by simp only [bsf, abuiltin, aextract, Nat.reduceLT, Nat.reduceEqDiff, reduceCtorEq]) ?_
        repeat refine Wp.seq ?_
        refine Wp.skip ?_
        dsimp only [after, leaving]
        exact ⟨rfl, rfl, _, rfl, rfl, rfl, rfl, trivial⟩
      rw [decide_eq_false h91]
      repeat refine Wp.seq ?_
      refine Wp.condF (by simp only [bsf, abuiltin, aextract, Nat.reduceLT, Nat.reduceEqDiff, reduceCtorEq]) ?_
      repeat refine Wp.seq ?_
      refine Wp.runS (by simp only [bsf, abuiltin, aextract, Nat.reduceLT, Nat.reduceEqDiff, reduceCtorEq, byteV, abin_int, ai_eql, show ((c.toNat : Int) == 93) = decide (c = 93) from en 93 (by omega)] <;> exact rfl) ?_
      dsimp only [after, leaving]
      by_cases h93 : c = 93
      · rw [decide_eq_true h93, decide_eq_true (show c = 91 ∨ c = 93 ∨ c = 94 ∨ c = 45 from .inr (.inl h93))]
        repeat refine Wp.seq ?_
        refine Wp.condT (by simp only [bsf, abuiltin, aextract, Nat.reduceLT, Nat.reduceEqDiff, reduceCtorEq]) ?_
        repeat refine Wp.seq ?_
        refine Wp.skip ?_
        dsimp only [after, leaving]
        exact ⟨rfl, rfl, _, rfl, rfl, rfl, rfl, trivial⟩
      rw [decide_eq_false h93]
      repeat refine Wp.seq ?_
      refine Wp.condF (by simp only [bsf, abuiltin, aextract, Nat.reduceLT, Nat.reduceEqDiff, reduceCtorEq]) ?_
      repeat refine Wp.seq ?_
      refine Wp.runS (by simp only [bsf, abuiltin, aextract, Nat.reduceLT, Nat.reduceEqDiff, reduceCtorEq, byteV, abin_int, ai_eql, show ((c.toNat : Int) == 94) = decide (c = 94) from en 94 (by omega)] <;> exact rfl) ?_
      dsimp only [after, leaving]
      by_cases h94 : c = 94
      · rw [decide_eq_true h94, decide_eq_true (show c = 91 ∨ c = 93 ∨ c = 94 ∨ c = 45 from .inr (.inr (.inl h94)))]
        repeat refine Wp.seq ?_
        refine Wp.condT (by simp only [bsf, abuiltin, aextract, Nat.reduceLT, Nat.reduceEqDiff, reduceCtorEq]) ?_
        repeat refine Wp.seq ?_
        refine Wp.skip ?_
        dsimp only [after, leaving]
        exact ⟨rfl, rfl, _, rfl, rfl, rfl, rfl, trivial⟩
      rw [decide_eq_false h94]
      repeat refine Wp.seq ?_
      refine Wp.condF (by simp only [bsf, abuiltin, aextract, Nat.reduceLT, Nat.reduceEqDiff, reduceCtorEq]) ?_
      repeat refine Wp.seq ?_
      refine Wp.runS (by simp only [bsf, abuiltin, aextract, Nat.reduceLT, Nat.reduceEqDiff, reduceCtorEq, byteV, abin_int, ai_eql, show ((c.toNat : Int) == 45) = decide (c = 45) from en 45 (by omega)] <;> exact rfl) ?_
      dsimp only [after, leaving]
      refine ⟨rfl, rfl, _, rfl, rfl, rfl, ?_, trivial⟩
      have : decide (c = 91 ∨ c = 93 ∨ c = 94 ∨ c = 45) = decide (c = 45) := decide_eq_decide.2 ⟨fun q => by rcases q with q | q | q | q; exact absurd q h91; exact absurd q h93; exact absurd q h94; exact q, fun q => .inr (.inr (.inr q))⟩
      rw [this]; rfl
    rintro fr u h9 ⟨rfl, hH, sl, rfl, hs1⟩
    obtain rfl := hH.symm
    clear hH
    dsimp only [after, leaving]
    refine Wp.weaken (Frm.le_of hs1) ?_
    clear hs1 sl
    by_cases hbad : c = 91 ∨ c = 93 ∨ c = 94 ∨ c = 45
    · rw [decide_eq_true hbad, if_pos hbad]
      repeat refine Wp.seq ?_
      refine Wp.condT (by simp only [bsf, abuiltin, aextract, Nat.reduceLT, Nat.reduceEqDiff, reduceCtorEq]) ?_
      repeat refine Wp.seq ?_
      refine Wp.regionAs (is := List.range' 0 6 ++ (6 :: [])) rfl ?_
      refine WpO.runS 6 (by simp only [bsd, bsf, abuiltin, aextract, Nat.reduceLT, Nat.reduceEqDiff, reduceCtorEq, g1, aload_cell agg3, l1, abin_int, ai_sub, wrapM (show a ≤ 1000000 by omega), Tryd.underlying125] <;> exact rfl) (by decide) ?_
      refine WpO.panicS (by simp only [bsf, abuiltin, aextract, Nat.reduceLT, Nat.reduceEqDiff, reduceCtorEq] <;> exact rfl) rfl (by simp only [bsf, abuiltin, aextract, Nat.reduceLT, Nat.reduceEqDiff, reduceCtorEq]) ?_
      dsimp only [after, leaving]
      exact ⟨rfl, rfl, rfl, b2⟩
    · rw [decide_eq_false hbad, if_neg hbad]
      repeat refine Wp.seq ?_
      refine Wp.condF (by simp only [bsf, abuiltin, aextract, Nat.reduceLT, Nat.reduceEqDiff, reduceCtorEq]) ?_
      repeat refine Wp.seq ?_
      refine Wp.runS (by simp only [bsf, abuiltin, aextract, Nat.reduceLT, Nat.reduceEqDiff, reduceCtorEq] <;> exact rfl) ?_
      dsimp only [after, leaving]
      repeat refine Wp.seq ?_
      refine Wp.ret ?_
      dsimp only [after, leaving]
      exact ⟨rfl, rfl, _, rfl, rfl, rfl⟩
end Go.Mini
