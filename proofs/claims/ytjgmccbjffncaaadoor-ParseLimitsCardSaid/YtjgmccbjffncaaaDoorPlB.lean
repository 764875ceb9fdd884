/-
  PARSE, ParseLimits B: the law, walked.
-/
import Derived.Test.YtjgmccbjffncaaaDoorMiniYQtoZ
import Derived.Test.YtjgmccbjffncaaaDoorPlA
import Derived.Test.YtjgmccbjffncaaaDoorPlW
set_option linter.unusedSimpArgs false
set_option maxHeartbeats 8000000
set_option maxRecDepth 100000
namespace Go.Mini
open Go.Proofs

theorem prog_spot (h : Heap) (T : List UInt8) (c p : Nat) (hs : spotP (progS T) = (c, p)) (hT : T.length ≤ 281474976710656) : Does Tryd.prog 0 (GoodE Tryd.prog (baseM 0)) 13 [.string (bs T)] h
    (fun x h' => ∃ bv, x = .returned (.tuple #[.agg #[bv], .agg #[.int .i64 c, .int .i64 p]]) ∧ one bv = true ∧ h.next ≤ h'.next ∧ ∀ j, j < h.next → h'.get j = h.get j) := by
  refine (program_does 0 h T hT).mono ?_
  intro x h' hr
  unfold ProgR at hr
  cases hR : progS T with
  | ok bl =>
    rw [hR] at hr hs
    cases hs
    obtain ⟨bv, rfl, h1, h2, h3⟩ := hr
    exact ⟨bv, rfl, by obtain ⟨q, hq⟩ := h1.form; rw [hq]; rfl, h2, h3⟩
  | error z =>
    obtain ⟨c', p'⟩ := z
    rw [hR] at hr hs
    cases hs
    obtain ⟨rfl, h2, h3⟩ := hr
    exact ⟨_, rfl, rfl, h2, h3⟩
theorem cells1 (H : Heap) {bv : Value} (hb : one bv = true) : astore Tryd.prog ((H.alloc (scriptRow (.slice none 0 0))).alloc (spotRow 0 0)) 24 (.pointer (some ⟨H.next, 0, none⟩)) (.agg #[bv]) = some ((H.alloc (scriptRow bv)).alloc (spotRow 0 0)) := by
  have g : ((H.alloc (scriptRow (.slice none 0 0))).alloc (spotRow 0 0)).get H.next = some (scriptRow (.slice none 0 0)) := by rw [Heap.get_alloc_old _ _ (by simp)]; exact Heap.get_alloc_new H _
  rw [script_put g hb, Heap.alloc_set _ _ _ (by simp), Heap.set_alloc]
theorem cells2 (H : Heap) (bv : Value) (c p : Int) : astore Tryd.prog ((H.alloc (scriptRow bv)).alloc (spotRow 0 0)) 31 (.pointer (some ⟨H.next + 1, 0, none⟩)) (.agg #[.int .i64 c, .int .i64 p]) = some ((H.alloc (scriptRow bv)).alloc (spotRow c p)) :=
  spot_put (H.alloc (scriptRow bv)) c p
def Spots (H : Heap) (l : List (Nat × Nat × Nat)) : Prop := ∀ q ∈ l, H.get q.1 = some (spotRow q.2.1 q.2.2)
theorem Spots.step {H H2 : Heap} {l : List (Nat × Nat × Nat)} (s : Spots H l) (hold : ∀ j, j < H.next → H2.get j = H.get j) (hn : H.next ≤ H2.next) (bv : Value) (c p : Nat) : Spots ((H2.alloc (scriptRow bv)).alloc (spotRow c p)) ((H2.next + 1, c, p) :: l) := by
  intro q hq
  rcases List.mem_cons.1 hq with rfl | hq
  · exact Heap.get_alloc_new (H2.alloc (scriptRow bv)) _
  · have h1 := s q hq
    have h2 := Heap.lt_of_get h1
    rw [Heap.get_alloc_old _ _ (by simp only [Heap.next_alloc]; omega), Heap.get_alloc_old _ _ (by omega), hold _ h2]
    exact h1
theorem repB_len (l : List UInt8) : ∀ n, (repB n l).length = n * l.length
  | 0 => by simp [repB]
  | n + 1 => by rw [repB, List.length_append, repB_len l n, Nat.succ_mul]
theorem add_lit (a b : List UInt8) (h : a.length + b.length ≤ 1000000) : abinS .add (bs a) (bs b) = some (.string (bs (a ++ b))) := by
  unfold abinS
  rw [if_pos (by simp only [bs_size, maxLen]; omega)]
  exact congrArg (fun x => some (Value.string x)) (bs_append a b)
theorem b31 (c p : Int) : abuild Tryd.prog 31 [(0, .int .i64 c), (1, .int .i64 p)] = some (.agg #[.int .i64 c, .int .i64 p]) := by kernel_rfl
theorem b31e (c : Int) : abuild Tryd.prog 31 [(0, .int .i64 c)] = some (.agg #[.int .i64 c, .int .i64 0]) := by kernel_rfl

theorem addl1 (k : Nat) (hk : k ≤ 1000) : abinS .add (bs (repB k blkB)) ⟨#[97, 58, 10, 101, 120, 105, 116, 32, 48, 10]⟩ = some (.string (bs (repB (k + 1) blkB))) := by
  refine (add_lit (repB k blkB) blkB (by rw [repB_len]; show k * 10 + 10 ≤ 1000000; omega)).trans ?_
  rfl
theorem addl2 (k : Nat) (hk : k ≤ 1000) : abinS .add (bs (hdB ++ repB k incB)) ⟨#[105, 110, 99, 32, 110, 10]⟩ = some (.string (bs (hdB ++ repB (k + 1) incB))) := by
  refine (add_lit (hdB ++ repB k incB) incB (by rw [List.length_append, repB_len]; show 3 + k * 6 + 6 ≤ 1000000; omega)).trans ?_
  rw [List.append_assoc]; rfl
theorem addl3 (k : Nat) (hk : k ≤ 1000) : abinS .add (bs (exB ++ repB k armB)) ⟨#[34, 120, 34, 32, 103, 111, 116, 111, 32, 97, 10]⟩ = some (.string (bs (exB ++ repB (k + 1) armB))) := by
  refine (add_lit (exB ++ repB k armB) armB (by rw [List.length_append, repB_len]; show 12 + k * 11 + 11 ≤ 1000000; omega)).trans ?_
  rw [List.append_assoc]; rfl
theorem addx2 : abinS .add (bs lt1) ⟨#[97, 58, 10, 101, 120, 105, 116, 32, 48]⟩ = some (.string (bs lx2)) := add_lit lt1 [97, 58, 10, 101, 120, 105, 116, 32, 48] (of_decide_eq_true (by kernel_rfl))
theorem addx3 : abinS .add (bs lt3) ⟨#[101, 120, 105, 116, 32, 50, 53, 53]⟩ = some (.string (bs lx3)) := add_lit lt3 [101, 120, 105, 116, 32, 50, 53, 53] (of_decide_eq_true (by kernel_rfl))
theorem addx4 : abinS .add (bs lt3) ⟨#[105, 110, 99, 32, 110, 10, 101, 120, 105, 116, 32, 48]⟩ = some (.string (bs lx4)) := add_lit lt3 [105, 110, 99, 32, 110, 10, 101, 120, 105, 116, 32, 48] (of_decide_eq_true (by kernel_rfl))
theorem addx5 : abinS .add (bs lt5) ⟨#[116, 105, 109, 101, 111, 117, 116, 32, 49, 48, 48, 48, 32, 103, 111, 116, 111, 32, 97, 10, 125]⟩ = some (.string (bs lx5)) := add_lit lt5 [116, 105, 109, 101, 111, 117, 116, 32, 49, 48, 48, 48, 32, 103, 111, 116, 111, 32, 97, 10, 125] (of_decide_eq_true (by kernel_rfl))
theorem addx6 : abinS .add (bs lt5) ⟨#[34, 120, 34, 32, 103, 111, 116, 111, 32, 97, 10, 125]⟩ = some (.string (bs lx6)) := add_lit lt5 [34, 120, 34, 32, 103, 111, 116, 111, 32, 97, 10, 125] (of_decide_eq_true (by kernel_rfl))
theorem eq_0_0 : abin Tryd.prog .eql 31 (.agg #[.int .i64 0, .int .i64 0]) (.agg #[.int .i64 0, .int .i64 0]) = some (.bool true) := by kernel_rfl
theorem eq_5_8 : abin Tryd.prog .eql 31 (.agg #[.int .i64 5, .int .i64 8]) (.agg #[.int .i64 5, .int .i64 8]) = some (.bool true) := by kernel_rfl
theorem eq_5_9 : abin Tryd.prog .eql 31 (.agg #[.int .i64 5, .int .i64 9]) (.agg #[.int .i64 5, .int .i64 9]) = some (.bool true) := by kernel_rfl
theorem eq_5_10 : abin Tryd.prog .eql 31 (.agg #[.int .i64 5, .int .i64 10]) (.agg #[.int .i64 5, .int .i64 10]) = some (.bool true) := by kernel_rfl
theorem eq_5_20 : abin Tryd.prog .eql 31 (.agg #[.int .i64 5, .int .i64 20]) (.agg #[.int .i64 5, .int .i64 20]) = some (.bool true) := by kernel_rfl
theorem eq_6_0 : abin Tryd.prog .eql 31 (.agg #[.int .i64 6, .int .i64 0]) (.agg #[.int .i64 6, .int .i64 0]) = some (.bool true) := by kernel_rfl
theorem eq_6_29 : abin Tryd.prog .eql 31 (.agg #[.int .i64 6, .int .i64 29]) (.agg #[.int .i64 6, .int .i64 29]) = some (.bool true) := by kernel_rfl
theorem eq_8_100 : abin Tryd.prog .eql 31 (.agg #[.int .i64 8, .int .i64 100]) (.agg #[.int .i64 8, .int .i64 100]) = some (.bool true) := by kernel_rfl
theorem eq_8_320 : abin Tryd.prog .eql 31 (.agg #[.int .i64 8, .int .i64 320]) (.agg #[.int .i64 8, .int .i64 320]) = some (.bool true) := by kernel_rfl
theorem eq_8_771 : abin Tryd.prog .eql 31 (.agg #[.int .i64 8, .int .i64 771]) (.agg #[.int .i64 8, .int .i64 771]) = some (.bool true) := by kernel_rfl
theorem parseLimits_does (h : Heap) : Does Tryd.prog 0 (GoodE Tryd.prog (baseM 0)) 7 [] h fun e _ => e = .returned (.bool true) := by
  have c8 : canEnter Tryd.prog 8 = true := by kernel_rfl
  have c13 : canEnter Tryd.prog 13 = true := by kernel_rfl
  refine Does.body Tryd.func7 rfl ?_
  have hn : enterF Tryd.f7 [] = ⟨213, [], []⟩ := rfl
  rw [hn]; clear hn
  repeat refine Wp.seq ?_
  refine Wp.runS (by simp only [bsf, abuiltin, aextract, Nat.reduceLT, Nat.reduceEqDiff, reduceCtorEq] <;> exact rfl) ?_
  dsimp only [after, leaving]
  repeat refine Wp.seq ?_
  refine Wp.regionAs (is := 0 :: (List.range' 1 1 ++ [])) rfl ?_
  refine WpO.callR (works_does h) rfl (by simp only [bsf, abuiltin, aextract, Nat.reduceLT, Nat.reduceEqDiff, reduceCtorEq, c8]) (by simp only [calleeOf, fnOf, List.append_nil, List.nil_append, bsf, abuiltin, aextract, Nat.reduceLT, Nat.reduceEqDiff, reduceCtorEq, c8] <;> exact rfl) ?_
  rintro _ h9 ⟨rfl, hh9⟩
  obtain rfl := hh9.symm
  clear hh9
  refine ⟨_, _, rfl, by simp only [bsf, abuiltin, aextract, Nat.reduceLT, Nat.reduceEqDiff, reduceCtorEq]; exact rfl, ?_⟩
  refine WpO.runS 1 (by simp only [bsd, bsf, abuiltin, aextract, Nat.reduceLT, Nat.reduceEqDiff, reduceCtorEq, aun, Bool.not_true] <;> exact rfl) (by decide) ?_
  refine WpO.nil ?_
  dsimp only [after, leaving]
  repeat refine Wp.seq ?_
  refine Wp.condF (by simp only [bsf, abuiltin, aextract, Nat.reduceLT, Nat.reduceEqDiff, reduceCtorEq]) ?_
  repeat refine Wp.seq ?_
  refine Wp.skip ?_
  dsimp only [after, leaving]
  repeat refine Wp.seq ?_
  refine Wp.runS (by simp only [bsf, abuiltin, aextract, Nat.reduceLT, Nat.reduceEqDiff, reduceCtorEq] <;> exact rfl) ?_
  dsimp only [after, leaving]
  repeat refine Wp.seq ?_
  refine Wp.runS (by simp only [bsf, abuiltin, aextract, Nat.reduceLT, Nat.reduceEqDiff, reduceCtorEq] <;> exact rfl) ?_
  dsimp only [after, leaving]
  repeat refine Wp.seq ?_
  refine Wp.cut (fun fr u h' => u = none ∧ h' = h ∧ ∃ sl, fr = ⟨213, sl, []⟩ ∧ holds [(1, .string (bs lt1))] sl) ?_ ?_
  rotate_left
  · repeat refine Wp.seq ?_
    refine Wp.block ?_
    refine Wp.loopI (X := Nat) (fun k => [(1, .string (bs (repB k blkB))), (2, .int .i64 (k : Int))]) (fun _ => h) (fun k => k ≤ 32) (fun k => 32 - k) 0 (Nat.zero_le _) ⟨rfl, rfl, trivial⟩ rfl ?_
    intro k hk
    have w1 : IntKind.i64.wrap ((k : Int) + 1) = ((k + 1 : Nat) : Int) := by rw [wrap_in (by omega) (by omega)]; rfl
    by_cases hkN : k < 32
    · repeat refine Wp.seq ?_
      refine Wp.runS (by simp only [bsf, abuiltin, aextract, Nat.reduceLT, Nat.reduceEqDiff, reduceCtorEq, abin_int, ai_lss, decide_eq_true (show (k : Int) < 32 by omega)] <;> exact rfl) ?_
      dsimp only [after, leaving]
      repeat refine Wp.seq ?_
      refine Wp.condT (by simp only [bsf, abuiltin, aextract, Nat.reduceLT, Nat.reduceEqDiff, reduceCtorEq]) ?_
      repeat refine Wp.seq ?_
      refine Wp.skip ?_
      dsimp only [after, leaving]
      repeat refine Wp.seq ?_
      refine Wp.block ?_
      repeat refine Wp.seq ?_
      refine Wp.runS (by simp only [bsf, abuiltin, aextract, Nat.reduceLT, Nat.reduceEqDiff, reduceCtorEq, abin_str, addl1 k (by omega)] <;> exact rfl) ?_
      dsimp only [after, leaving]
      repeat refine Wp.seq ?_
      refine Wp.runS (by simp only [bsf, abuiltin, aextract, Nat.reduceLT, Nat.reduceEqDiff, reduceCtorEq, abin_int, ai_add, w1] <;> exact rfl) ?_
      dsimp only [after, leaving]
      exact ⟨k + 1, _, by omega, by omega, rfl, ⟨rfl, rfl, trivial⟩, rfl, rfl⟩
    · obtain rfl : k = 32 := by omega
      repeat refine Wp.seq ?_
      refine Wp.runS (by simp only [bsf, abuiltin, aextract, Nat.reduceLT, Nat.reduceEqDiff, reduceCtorEq, abin_int, ai_lss, decide_eq_false (show ¬ (((32 : Nat) : Int) < 32) by decide)] <;> exact rfl) ?_
      dsimp only [after, leaving]
      repeat refine Wp.seq ?_
      refine Wp.condF (by simp only [bsf, abuiltin, aextract, Nat.reduceLT, Nat.reduceEqDiff, reduceCtorEq]) ?_
      repeat refine Wp.seq ?_
      refine Wp.exit ?_
      simp only [after, leaving, blockExit, if_true, if_false, Nat.reduceEqDiff]
      exact ⟨by trivial, by trivial, _, rfl, ⟨rfl, trivial⟩⟩
  rintro fr u h9 ⟨rfl, rfl, sl, rfl, hs1⟩
  dsimp only [after, leaving]
  refine Wp.weaken (Frm.le_of hs1) ?_
  clear hs1 sl
  obtain ⟨h, rfl⟩ : ∃ q, q = h9 := ⟨_, rfl⟩
  repeat refine Wp.seq ?_
  refine Wp.runS (by simp only [bsf, abuiltin, aextract, Nat.reduceLT, Nat.reduceEqDiff, reduceCtorEq] <;> exact rfl) ?_
  dsimp only [after, leaving]
  repeat refine Wp.seq ?_
  refine Wp.runS (by simp only [bsf, abuiltin, aextract, Nat.reduceLT, Nat.reduceEqDiff, reduceCtorEq] <;> exact rfl) ?_
  dsimp only [after, leaving]
  repeat refine Wp.seq ?_
  refine Wp.cut (fun fr u h' => u = none ∧ h' = h ∧ ∃ sl, fr = ⟨213, sl, []⟩ ∧ holds [(1, .string (bs lt1)), (3, .string (bs lt3))] sl) ?_ ?_
  rotate_left
  · repeat refine Wp.seq ?_
    refine Wp.block ?_
    refine Wp.loopI (X := Nat) (fun k => [(1, .string (bs lt1)), (3, .string (bs (hdB ++ repB k incB))), (4, .int .i64 (k : Int))]) (fun _ => h) (fun k => k ≤ 127) (fun k => 127 - k) 0 (Nat.zero_le _) ⟨rfl, rfl, rfl, trivial⟩ rfl ?_
    intro k hk
    have w1 : IntKind.i64.wrap ((k : Int) + 1) = ((k + 1 : Nat) : Int) := by rw [wrap_in (by omega) (by omega)]; rfl
    by_cases hkN : k < 127
    · repeat refine Wp.seq ?_
      refine Wp.runS (by simp only [bsf, abuiltin, aextract, Nat.reduceLT, Nat.reduceEqDiff, reduceCtorEq, abin_int, ai_lss, decide_eq_true (show (k : Int) < 127 by omega)] <;> exact rfl) ?_
      dsimp only [after, leaving]
      repeat refine Wp.seq ?_
      refine Wp.condT (by simp only [bsf, abuiltin, aextract, Nat.reduceLT, Nat.reduceEqDiff, reduceCtorEq]) ?_
      repeat refine Wp.seq ?_
      refine Wp.skip ?_
      dsimp only [after, leaving]
      repeat refine Wp.seq ?_
      refine Wp.block ?_
      repeat refine Wp.seq ?_
      refine Wp.runS (by simp only [bsf, abuiltin, aextract, Nat.reduceLT, Nat.reduceEqDiff, reduceCtorEq, abin_str, addl2 k (by omega)] <;> exact rfl) ?_
      dsimp only [after, leaving]
      repeat refine Wp.seq ?_
      refine Wp.runS (by simp only [bsf, abuiltin, aextract, Nat.reduceLT, Nat.reduceEqDiff, reduceCtorEq, abin_int, ai_add, w1] <;> exact rfl) ?_
      dsimp only [after, leaving]
      exact ⟨k + 1, _, by omega, by omega, rfl, ⟨rfl, rfl, rfl, trivial⟩, rfl, rfl⟩
    · obtain rfl : k = 127 := by omega
      repeat refine Wp.seq ?_
      refine Wp.runS (by simp only [bsf, abuiltin, aextract, Nat.reduceLT, Nat.reduceEqDiff, reduceCtorEq, abin_int, ai_lss, decide_eq_false (show ¬ (((127 : Nat) : Int) < 127) by decide)] <;> exact rfl) ?_
      dsimp only [after, leaving]
      repeat refine Wp.seq ?_
      refine Wp.condF (by simp only [bsf, abuiltin, aextract, Nat.reduceLT, Nat.reduceEqDiff, reduceCtorEq]) ?_
      repeat refine Wp.seq ?_
      refine Wp.exit ?_
      simp only [after, leaving, blockExit, if_true, if_false, Nat.reduceEqDiff]
      exact ⟨by trivial, by trivial, _, rfl, ⟨rfl, rfl, trivial⟩⟩
  rintro fr u h9 ⟨rfl, rfl, sl, rfl, hs1⟩
  dsimp only [after, leaving]
  refine Wp.weaken (Frm.le_of hs1) ?_
  clear hs1 sl
  obtain ⟨h, rfl⟩ : ∃ q, q = h9 := ⟨_, rfl⟩
  repeat refine Wp.seq ?_
  refine Wp.runS (by simp only [bsf, abuiltin, aextract, Nat.reduceLT, Nat.reduceEqDiff, reduceCtorEq] <;> exact rfl) ?_
  dsimp only [after, leaving]
  repeat refine Wp.seq ?_
  refine Wp.runS (by simp only [bsf, abuiltin, aextract, Nat.reduceLT, Nat.reduceEqDiff, reduceCtorEq] <;> exact rfl) ?_
  dsimp only [after, leaving]
  repeat refine Wp.seq ?_
  refine Wp.cut (fun fr u h' => u = none ∧ h' = h ∧ ∃ sl, fr = ⟨213, sl, []⟩ ∧ holds [(1, .string (bs lt1)), (3, .string (bs lt3)), (5, .string (bs lt5))] sl) ?_ ?_
  rotate_left
  · repeat refine Wp.seq ?_
    refine Wp.block ?_
    refine Wp.loopI (X := Nat) (fun k => [(1, .string (bs lt1)), (3, .string (bs lt3)), (5, .string (bs (exB ++ repB k armB))), (6, .int .i64 (k : Int))]) (fun _ => h) (fun k => k ≤ 8) (fun k => 8 - k) 0 (Nat.zero_le _) ⟨rfl, rfl, rfl, rfl, trivial⟩ rfl ?_
    intro k hk
    have w1 : IntKind.i64.wrap ((k : Int) + 1) = ((k + 1 : Nat) : Int) := by rw [wrap_in (by omega) (by omega)]; rfl
    by_cases hkN : k < 8
    · repeat refine Wp.seq ?_
      refine Wp.runS (by simp only [bsf, abuiltin, aextract, Nat.reduceLT, Nat.reduceEqDiff, reduceCtorEq, abin_int, ai_lss, decide_eq_true (show (k : Int) < 8 by omega)] <;> exact rfl) ?_
      dsimp only [after, leaving]
      repeat refine Wp.seq ?_
      refine Wp.condT (by simp only [bsf, abuiltin, aextract, Nat.reduceLT, Nat.reduceEqDiff, reduceCtorEq]) ?_
      repeat refine Wp.seq ?_
      refine Wp.skip ?_
      dsimp only [after, leaving]
      repeat refine Wp.seq ?_
      refine Wp.block ?_
      repeat refine Wp.seq ?_
      refine Wp.runS (by simp only [bsf, abuiltin, aextract, Nat.reduceLT, Nat.reduceEqDiff, reduceCtorEq, abin_str, addl3 k (by omega)] <;> exact rfl) ?_
      dsimp only [after, leaving]
      repeat refine Wp.seq ?_
      refine Wp.runS (by simp only [bsf, abuiltin, aextract, Nat.reduceLT, Nat.reduceEqDiff, reduceCtorEq, abin_int, ai_add, w1] <;> exact rfl) ?_
      dsimp only [after, leaving]
      exact ⟨k + 1, _, by omega, by omega, rfl, ⟨rfl, rfl, rfl, rfl, trivial⟩, rfl, rfl⟩
    · obtain rfl : k = 8 := by omega
      repeat refine Wp.seq ?_
      refine Wp.runS (by simp only [bsf, abuiltin, aextract, Nat.reduceLT, Nat.reduceEqDiff, reduceCtorEq, abin_int, ai_lss, decide_eq_false (show ¬ (((8 : Nat) : Int) < 8) by decide)] <;> exact rfl) ?_
      dsimp only [after, leaving]
      repeat refine Wp.seq ?_
      refine Wp.condF (by simp only [bsf, abuiltin, aextract, Nat.reduceLT, Nat.reduceEqDiff, reduceCtorEq]) ?_
      repeat refine Wp.seq ?_
      refine Wp.exit ?_
      simp only [after, leaving, blockExit, if_true, if_false, Nat.reduceEqDiff]
      exact ⟨by trivial, by trivial, _, rfl, ⟨rfl, rfl, rfl, trivial⟩⟩
  rintro fr u h9 ⟨rfl, rfl, sl, rfl, hs1⟩
  dsimp only [after, leaving]
  refine Wp.weaken (Frm.le_of hs1) ?_
  clear hs1 sl
  obtain ⟨H, rfl⟩ : ∃ q, q = h9 := ⟨_, rfl⟩
  have sp : Spots H [] := fun q hq => by cases hq
  repeat refine Wp.seq ?_
  refine Wp.regionAs (is := List.range' 0 1 ++ (1 :: (List.range' 2 7 ++ []))) rfl ?_
  refine WpO.runS 1 (by simp only [bsd, bsf, abuiltin, aextract, Nat.reduceLT, Nat.reduceEqDiff, reduceCtorEq] <;> exact rfl) (by decide) ?_
  refine WpO.callS rfl (by simp only [bsf, abuiltin, aextract, Nat.reduceLT, Nat.reduceEqDiff, reduceCtorEq, c13]) (by simp only [calleeOf, fnOf, List.append_nil, List.nil_append, bsf, abuiltin, aextract, Nat.reduceLT, Nat.reduceEqDiff, reduceCtorEq, c13] <;> exact rfl) ((prog_spot H lx1 0 0 sp1 (of_decide_eq_true (by kernel_rfl))).mono ?_)
  intro x1 h2 hr
  obtain ⟨bv, rfl, hone, hn, hold⟩ := hr
  refine ⟨_, by simp only [bsf, abuiltin, aextract, Nat.reduceLT, Nat.reduceEqDiff, reduceCtorEq] <;> exact rfl, ?_⟩
  refine WpO.runS 7 (by simp only [bsd, bsf, abuiltin, aextract, Nat.reduceLT, Nat.reduceEqDiff, reduceCtorEq, List.getElem?_toArray, alloc24, alloc27, Heap.new, Heap.next_alloc, cells1 h2 hone, cells2] <;> exact rfl) (by decide) ?_
  refine WpO.nil ?_
  dsimp only [after, leaving]
  replace sp := sp.step hold hn bv 0 0
  refine Wp.weaken (Frm.le_of (l := [(1, .string (bs lt1)), (3, .string (bs lt3)), (5, .string (bs lt5)), (8, .pointer (some ⟨h2.next + 1, 0, none⟩))]) ⟨rfl, rfl, rfl, rfl, trivial⟩) ?_
  generalize (h2.alloc (scriptRow bv)).alloc (spotRow ((0 : Nat) : Int) ((0 : Nat) : Int)) = H' at sp ⊢
  generalize h2.next + 1 = j8 at sp ⊢
  clear hold hn hone bv h2 H
  obtain ⟨H, rfl⟩ : ∃ q, q = H' := ⟨_, rfl⟩
  repeat refine Wp.seq ?_
  refine Wp.regionAs (is := List.range' 0 2 ++ (2 :: (List.range' 3 7 ++ []))) rfl ?_
  refine WpO.runS 2 (by simp only [bsd, bsf, abuiltin, aextract, Nat.reduceLT, Nat.reduceEqDiff, reduceCtorEq, abin_str, addx2] <;> exact rfl) (by decide) ?_
  refine WpO.callS rfl (by simp only [bsf, abuiltin, aextract, Nat.reduceLT, Nat.reduceEqDiff, reduceCtorEq, c13]) (by simp only [calleeOf, fnOf, List.append_nil, List.nil_append, bsf, abuiltin, aextract, Nat.reduceLT, Nat.reduceEqDiff, reduceCtorEq, c13] <;> exact rfl) ((prog_spot H lx2 8 320 sp2 (of_decide_eq_true (by kernel_rfl))).mono ?_)
  intro x1 h2 hr
  obtain ⟨bv, rfl, hone, hn, hold⟩ := hr
  refine ⟨_, by simp only [bsf, abuiltin, aextract, Nat.reduceLT, Nat.reduceEqDiff, reduceCtorEq] <;> exact rfl, ?_⟩
  refine WpO.runS 7 (by simp only [bsd, bsf, abuiltin, aextract, Nat.reduceLT, Nat.reduceEqDiff, reduceCtorEq, List.getElem?_toArray, alloc24, alloc27, Heap.new, Heap.next_alloc, cells1 h2 hone, cells2] <;> exact rfl) (by decide) ?_
  refine WpO.nil ?_
  dsimp only [after, leaving]
  replace sp := sp.step hold hn bv 8 320
  refine Wp.weaken (Frm.le_of (l := [(1, .string (bs lt1)), (3, .string (bs lt3)), (5, .string (bs lt5)), (8, .pointer (some ⟨j8, 0, none⟩)), (10, .pointer (some ⟨h2.next + 1, 0, none⟩))]) ⟨rfl, rfl, rfl, rfl, rfl, trivial⟩) ?_
  generalize (h2.alloc (scriptRow bv)).alloc (spotRow ((8 : Nat) : Int) ((320 : Nat) : Int)) = H' at sp ⊢
  generalize h2.next + 1 = j10 at sp ⊢
  clear hold hn hone bv h2 H
  obtain ⟨H, rfl⟩ : ∃ q, q = H' := ⟨_, rfl⟩
  repeat refine Wp.seq ?_
  refine Wp.regionAs (is := List.range' 0 2 ++ (2 :: (List.range' 3 7 ++ []))) rfl ?_
  refine WpO.runS 2 (by simp only [bsd, bsf, abuiltin, aextract, Nat.reduceLT, Nat.reduceEqDiff, reduceCtorEq, abin_str, addx3] <;> exact rfl) (by decide) ?_
  refine WpO.callS rfl (by simp only [bsf, abuiltin, aextract, Nat.reduceLT, Nat.reduceEqDiff, reduceCtorEq, c13]) (by simp only [calleeOf, fnOf, List.append_nil, List.nil_append, bsf, abuiltin, aextract, Nat.reduceLT, Nat.reduceEqDiff, reduceCtorEq, c13] <;> exact rfl) ((prog_spot H lx3 0 0 sp3 (of_decide_eq_true (by kernel_rfl))).mono ?_)
  intro x1 h2 hr
  obtain ⟨bv, rfl, hone, hn, hold⟩ := hr
  refine ⟨_, by simp only [bsf, abuiltin, aextract, Nat.reduceLT, Nat.reduceEqDiff, reduceCtorEq] <;> exact rfl, ?_⟩
  refine WpO.runS 7 (by simp only [bsd, bsf, abuiltin, aextract, Nat.reduceLT, Nat.reduceEqDiff, reduceCtorEq, List.getElem?_toArray, alloc24, alloc27, Heap.new, Heap.next_alloc, cells1 h2 hone, cells2] <;> exact rfl) (by decide) ?_
  refine WpO.nil ?_
  dsimp only [after, leaving]
  replace sp := sp.step hold hn bv 0 0
  refine Wp.weaken (Frm.le_of (l := [(1, .string (bs lt1)), (3, .string (bs lt3)), (5, .string (bs lt5)), (8, .pointer (some ⟨j8, 0, none⟩)), (10, .pointer (some ⟨j10, 0, none⟩)), (12, .pointer (some ⟨h2.next + 1, 0, none⟩))]) ⟨rfl, rfl, rfl, rfl, rfl, rfl, trivial⟩) ?_
  generalize (h2.alloc (scriptRow bv)).alloc (spotRow ((0 : Nat) : Int) ((0 : Nat) : Int)) = H' at sp ⊢
  generalize h2.next + 1 = j12 at sp ⊢
  clear hold hn hone bv h2 H
  obtain ⟨H, rfl⟩ : ∃ q, q = H' := ⟨_, rfl⟩
  repeat refine Wp.seq ?_
  refine Wp.regionAs (is := List.range' 0 2 ++ (2 :: (List.range' 3 7 ++ []))) rfl ?_
  refine WpO.runS 2 (by simp only [bsd, bsf, abuiltin, aextract, Nat.reduceLT, Nat.reduceEqDiff, reduceCtorEq, abin_str, addx4] <;> exact rfl) (by decide) ?_
  refine WpO.callS rfl (by simp only [bsf, abuiltin, aextract, Nat.reduceLT, Nat.reduceEqDiff, reduceCtorEq, c13]) (by simp only [calleeOf, fnOf, List.append_nil, List.nil_append, bsf, abuiltin, aextract, Nat.reduceLT, Nat.reduceEqDiff, reduceCtorEq, c13] <;> exact rfl) ((prog_spot H lx4 8 771 sp4 (of_decide_eq_true (by kernel_rfl))).mono ?_)
  intro x1 h2 hr
  obtain ⟨bv, rfl, hone, hn, hold⟩ := hr
  refine ⟨_, by simp only [bsf, abuiltin, aextract, Nat.reduceLT, Nat.reduceEqDiff, reduceCtorEq] <;> exact rfl, ?_⟩
  refine WpO.runS 7 (by simp only [bsd, bsf, abuiltin, aextract, Nat.reduceLT, Nat.reduceEqDiff, reduceCtorEq, List.getElem?_toArray, alloc24, alloc27, Heap.new, Heap.next_alloc, cells1 h2 hone, cells2] <;> exact rfl) (by decide) ?_
  refine WpO.nil ?_
  dsimp only [after, leaving]
  replace sp := sp.step hold hn bv 8 771
  refine Wp.weaken (Frm.le_of (l := [(1, .string (bs lt1)), (3, .string (bs lt3)), (5, .string (bs lt5)), (8, .pointer (some ⟨j8, 0, none⟩)), (10, .pointer (some ⟨j10, 0, none⟩)), (12, .pointer (some ⟨j12, 0, none⟩)), (14, .pointer (some ⟨h2.next + 1, 0, none⟩))]) ⟨rfl, rfl, rfl, rfl, rfl, rfl, rfl, trivial⟩) ?_
  generalize (h2.alloc (scriptRow bv)).alloc (spotRow ((8 : Nat) : Int) ((771 : Nat) : Int)) = H' at sp ⊢
  generalize h2.next + 1 = j14 at sp ⊢
  clear hold hn hone bv h2 H
  obtain ⟨H, rfl⟩ : ∃ q, q = H' := ⟨_, rfl⟩
  repeat refine Wp.seq ?_
  refine Wp.regionAs (is := List.range' 0 2 ++ (2 :: (List.range' 3 7 ++ []))) rfl ?_
  refine WpO.runS 2 (by simp only [bsd, bsf, abuiltin, aextract, Nat.reduceLT, Nat.reduceEqDiff, reduceCtorEq, abin_str, addx5] <;> exact rfl) (by decide) ?_
  refine WpO.callS rfl (by simp only [bsf, abuiltin, aextract, Nat.reduceLT, Nat.reduceEqDiff, reduceCtorEq, c13]) (by simp only [calleeOf, fnOf, List.append_nil, List.nil_append, bsf, abuiltin, aextract, Nat.reduceLT, Nat.reduceEqDiff, reduceCtorEq, c13] <;> exact rfl) ((prog_spot H lx5 0 0 sp5 (of_decide_eq_true (by kernel_rfl))).mono ?_)
  intro x1 h2 hr
  obtain ⟨bv, rfl, hone, hn, hold⟩ := hr
  refine ⟨_, by simp only [bsf, abuiltin, aextract, Nat.reduceLT, Nat.reduceEqDiff, reduceCtorEq] <;> exact rfl, ?_⟩
  refine WpO.runS 7 (by simp only [bsd, bsf, abuiltin, aextract, Nat.reduceLT, Nat.reduceEqDiff, reduceCtorEq, List.getElem?_toArray, alloc24, alloc27, Heap.new, Heap.next_alloc, cells1 h2 hone, cells2] <;> exact rfl) (by decide) ?_
  refine WpO.nil ?_
  dsimp only [after, leaving]
  replace sp := sp.step hold hn bv 0 0
  refine Wp.weaken (Frm.le_of (l := [(1, .string (bs lt1)), (3, .string (bs lt3)), (5, .string (bs lt5)), (8, .pointer (some ⟨j8, 0, none⟩)), (10, .pointer (some ⟨j10, 0, none⟩)), (12, .pointer (some ⟨j12, 0, none⟩)), (14, .pointer (some ⟨j14, 0, none⟩)), (16, .pointer (some ⟨h2.next + 1, 0, none⟩))]) ⟨rfl, rfl, rfl, rfl, rfl, rfl, rfl, rfl, trivial⟩) ?_
  generalize (h2.alloc (scriptRow bv)).alloc (spotRow ((0 : Nat) : Int) ((0 : Nat) : Int)) = H' at sp ⊢
  generalize h2.next + 1 = j16 at sp ⊢
  clear hold hn hone bv h2 H
  obtain ⟨H, rfl⟩ : ∃ q, q = H' := ⟨_, rfl⟩
  repeat refine Wp.seq ?_
  refine Wp.regionAs (is := List.range' 0 2 ++ (2 :: (List.range' 3 7 ++ []))) rfl ?_
  refine WpO.runS 2 (by simp only [bsd, bsf, abuiltin, aextract, Nat.reduceLT, Nat.reduceEqDiff, reduceCtorEq, abin_str, addx6] <;> exact rfl) (by decide) ?_
  refine WpO.callS rfl (by simp only [bsf, abuiltin, aextract, Nat.reduceLT, Nat.reduceEqDiff, reduceCtorEq, c13]) (by simp only [calleeOf, fnOf, List.append_nil, List.nil_append, bsf, abuiltin, aextract, Nat.reduceLT, Nat.reduceEqDiff, reduceCtorEq, c13] <;> exact rfl) ((prog_spot H lx6 8 100 sp6 (of_decide_eq_true (by kernel_rfl))).mono ?_)
  intro x1 h2 hr
  obtain ⟨bv, rfl, hone, hn, hold⟩ := hr
  refine ⟨_, by simp only [bsf, abuiltin, aextract, Nat.reduceLT, Nat.reduceEqDiff, reduceCtorEq] <;> exact rfl, ?_⟩
  refine WpO.runS 7 (by simp only [bsd, bsf, abuiltin, aextract, Nat.reduceLT, Nat.reduceEqDiff, reduceCtorEq, List.getElem?_toArray, alloc24, alloc27, Heap.new, Heap.next_alloc, cells1 h2 hone, cells2] <;> exact rfl) (by decide) ?_
  refine WpO.nil ?_
  dsimp only [after, leaving]
  replace sp := sp.step hold hn bv 8 100
  refine Wp.weaken (Frm.le_of (l := [(1, .string (bs lt1)), (3, .string (bs lt3)), (5, .string (bs lt5)), (8, .pointer (some ⟨j8, 0, none⟩)), (10, .pointer (some ⟨j10, 0, none⟩)), (12, .pointer (some ⟨j12, 0, none⟩)), (14, .pointer (some ⟨j14, 0, none⟩)), (16, .pointer (some ⟨j16, 0, none⟩)), (18, .pointer (some ⟨h2.next + 1, 0, none⟩))]) ⟨rfl, rfl, rfl, rfl, rfl, rfl, rfl, rfl, rfl, trivial⟩) ?_
  generalize (h2.alloc (scriptRow bv)).alloc (spotRow ((8 : Nat) : Int) ((100 : Nat) : Int)) = H' at sp ⊢
  generalize h2.next + 1 = j18 at sp ⊢
  clear hold hn hone bv h2 H
  obtain ⟨H, rfl⟩ : ∃ q, q = H' := ⟨_, rfl⟩
  repeat refine Wp.seq ?_
  refine Wp.regionAs (is := 0 :: (List.range' 1 7 ++ [])) rfl ?_
  refine WpO.callS rfl (by simp only [bsf, abuiltin, aextract, Nat.reduceLT, Nat.reduceEqDiff, reduceCtorEq, c13]) (by simp only [calleeOf, fnOf, List.append_nil, List.nil_append, bsf, abuiltin, aextract, Nat.reduceLT, Nat.reduceEqDiff, reduceCtorEq, c13] <;> exact rfl) ((prog_spot H lx7 5 8 sp7 (of_decide_eq_true (by kernel_rfl))).mono ?_)
  intro x1 h2 hr
  obtain ⟨bv, rfl, hone, hn, hold⟩ := hr
  refine ⟨_, by simp only [bsf, abuiltin, aextract, Nat.reduceLT, Nat.reduceEqDiff, reduceCtorEq] <;> exact rfl, ?_⟩
  refine WpO.runS 7 (by simp only [bsd, bsf, abuiltin, aextract, Nat.reduceLT, Nat.reduceEqDiff, reduceCtorEq, List.getElem?_toArray, alloc24, alloc27, Heap.new, Heap.next_alloc, cells1 h2 hone, cells2] <;> exact rfl) (by decide) ?_
  refine WpO.nil ?_
  dsimp only [after, leaving]
  replace sp := sp.step hold hn bv 5 8
  refine Wp.weaken (Frm.le_of (l := [(1, .string (bs lt1)), (3, .string (bs lt3)), (5, .string (bs lt5)), (8, .pointer (some ⟨j8, 0, none⟩)), (10, .pointer (some ⟨j10, 0, none⟩)), (12, .pointer (some ⟨j12, 0, none⟩)), (14, .pointer (some ⟨j14, 0, none⟩)), (16, .pointer (some ⟨j16, 0, none⟩)), (18, .pointer (some ⟨j18, 0, none⟩)), (20, .pointer (some ⟨h2.next + 1, 0, none⟩))]) ⟨rfl, rfl, rfl, rfl, rfl, rfl, rfl, rfl, rfl, rfl, trivial⟩) ?_
  generalize (h2.alloc (scriptRow bv)).alloc (spotRow ((5 : Nat) : Int) ((8 : Nat) : Int)) = H' at sp ⊢
  generalize h2.next + 1 = j20 at sp ⊢
  clear hold hn hone bv h2 H
  obtain ⟨H, rfl⟩ : ∃ q, q = H' := ⟨_, rfl⟩
  repeat refine Wp.seq ?_
  refine Wp.regionAs (is := 0 :: (List.range' 1 7 ++ [])) rfl ?_
  refine WpO.callS rfl (by simp only [bsf, abuiltin, aextract, Nat.reduceLT, Nat.reduceEqDiff, reduceCtorEq, c13]) (by simp only [calleeOf, fnOf, List.append_nil, List.nil_append, bsf, abuiltin, aextract, Nat.reduceLT, Nat.reduceEqDiff, reduceCtorEq, c13] <;> exact rfl) ((prog_spot H lx8 5 9 sp8 (of_decide_eq_true (by kernel_rfl))).mono ?_)
  intro x1 h2 hr
  obtain ⟨bv, rfl, hone, hn, hold⟩ := hr
  refine ⟨_, by simp only [bsf, abuiltin, aextract, Nat.reduceLT, Nat.reduceEqDiff, reduceCtorEq] <;> exact rfl, ?_⟩
  refine WpO.runS 7 (by simp only [bsd, bsf, abuiltin, aextract, Nat.reduceLT, Nat.reduceEqDiff, reduceCtorEq, List.getElem?_toArray, alloc24, alloc27, Heap.new, Heap.next_alloc, cells1 h2 hone, cells2] <;> exact rfl) (by decide) ?_
  refine WpO.nil ?_
  dsimp only [after, leaving]
  replace sp := sp.step hold hn bv 5 9
  refine Wp.weaken (Frm.le_of (l := [(1, .string (bs lt1)), (3, .string (bs lt3)), (5, .string (bs lt5)), (8, .pointer (some ⟨j8, 0, none⟩)), (10, .pointer (some ⟨j10, 0, none⟩)), (12, .pointer (some ⟨j12, 0, none⟩)), (14, .pointer (some ⟨j14, 0, none⟩)), (16, .pointer (some ⟨j16, 0, none⟩)), (18, .pointer (some ⟨j18, 0, none⟩)), (20, .pointer (some ⟨j20, 0, none⟩)), (22, .pointer (some ⟨h2.next + 1, 0, none⟩))]) ⟨rfl, rfl, rfl, rfl, rfl, rfl, rfl, rfl, rfl, rfl, rfl, trivial⟩) ?_
  generalize (h2.alloc (scriptRow bv)).alloc (spotRow ((5 : Nat) : Int) ((9 : Nat) : Int)) = H' at sp ⊢
  generalize h2.next + 1 = j22 at sp ⊢
  clear hold hn hone bv h2 H
  obtain ⟨H, rfl⟩ : ∃ q, q = H' := ⟨_, rfl⟩
  repeat refine Wp.seq ?_
  refine Wp.regionAs (is := 0 :: (List.range' 1 7 ++ [])) rfl ?_
  refine WpO.callS rfl (by simp only [bsf, abuiltin, aextract, Nat.reduceLT, Nat.reduceEqDiff, reduceCtorEq, c13]) (by simp only [calleeOf, fnOf, List.append_nil, List.nil_append, bsf, abuiltin, aextract, Nat.reduceLT, Nat.reduceEqDiff, reduceCtorEq, c13] <;> exact rfl) ((prog_spot H lx9 5 20 sp9 (of_decide_eq_true (by kernel_rfl))).mono ?_)
  intro x1 h2 hr
  obtain ⟨bv, rfl, hone, hn, hold⟩ := hr
  refine ⟨_, by simp only [bsf, abuiltin, aextract, Nat.reduceLT, Nat.reduceEqDiff, reduceCtorEq] <;> exact rfl, ?_⟩
  refine WpO.runS 7 (by simp only [bsd, bsf, abuiltin, aextract, Nat.reduceLT, Nat.reduceEqDiff, reduceCtorEq, List.getElem?_toArray, alloc24, alloc27, Heap.new, Heap.next_alloc, cells1 h2 hone, cells2] <;> exact rfl) (by decide) ?_
  refine WpO.nil ?_
  dsimp only [after, leaving]
  replace sp := sp.step hold hn bv 5 20
  refine Wp.weaken (Frm.le_of (l := [(1, .string (bs lt1)), (3, .string (bs lt3)), (5, .string (bs lt5)), (8, .pointer (some ⟨j8, 0, none⟩)), (10, .pointer (some ⟨j10, 0, none⟩)), (12, .pointer (some ⟨j12, 0, none⟩)), (14, .pointer (some ⟨j14, 0, none⟩)), (16, .pointer (some ⟨j16, 0, none⟩)), (18, .pointer (some ⟨j18, 0, none⟩)), (20, .pointer (some ⟨j20, 0, none⟩)), (22, .pointer (some ⟨j22, 0, none⟩)), (24, .pointer (some ⟨h2.next + 1, 0, none⟩))]) ⟨rfl, rfl, rfl, rfl, rfl, rfl, rfl, rfl, rfl, rfl, rfl, rfl, trivial⟩) ?_
  generalize (h2.alloc (scriptRow bv)).alloc (spotRow ((5 : Nat) : Int) ((20 : Nat) : Int)) = H' at sp ⊢
  generalize h2.next + 1 = j24 at sp ⊢
  clear hold hn hone bv h2 H
  obtain ⟨H, rfl⟩ : ∃ q, q = H' := ⟨_, rfl⟩
  repeat refine Wp.seq ?_
  refine Wp.regionAs (is := 0 :: (List.range' 1 7 ++ [])) rfl ?_
  refine WpO.callS rfl (by simp only [bsf, abuiltin, aextract, Nat.reduceLT, Nat.reduceEqDiff, reduceCtorEq, c13]) (by simp only [calleeOf, fnOf, List.append_nil, List.nil_append, bsf, abuiltin, aextract, Nat.reduceLT, Nat.reduceEqDiff, reduceCtorEq, c13] <;> exact rfl) ((prog_spot H lx10 5 20 sp10 (of_decide_eq_true (by kernel_rfl))).mono ?_)
  intro x1 h2 hr
  obtain ⟨bv, rfl, hone, hn, hold⟩ := hr
  refine ⟨_, by simp only [bsf, abuiltin, aextract, Nat.reduceLT, Nat.reduceEqDiff, reduceCtorEq] <;> exact rfl, ?_⟩
  refine WpO.runS 7 (by simp only [bsd, bsf, abuiltin, aextract, Nat.reduceLT, Nat.reduceEqDiff, reduceCtorEq, List.getElem?_toArray, alloc24, alloc27, Heap.new, Heap.next_alloc, cells1 h2 hone, cells2] <;> exact rfl) (by decide) ?_
  refine WpO.nil ?_
  dsimp only [after, leaving]
  replace sp := sp.step hold hn bv 5 20
  refine Wp.weaken (Frm.le_of (l := [(1, .string (bs lt1)), (3, .string (bs lt3)), (5, .string (bs lt5)), (8, .pointer (some ⟨j8, 0, none⟩)), (10, .pointer (some ⟨j10, 0, none⟩)), (12, .pointer (some ⟨j12, 0, none⟩)), (14, .pointer (some ⟨j14, 0, none⟩)), (16, .pointer (some ⟨j16, 0, none⟩)), (18, .pointer (some ⟨j18, 0, none⟩)), (20, .pointer (some ⟨j20, 0, none⟩)), (22, .pointer (some ⟨j22, 0, none⟩)), (24, .pointer (some ⟨j24, 0, none⟩)), (26, .pointer (some ⟨h2.next + 1, 0, none⟩))]) ⟨rfl, rfl, rfl, rfl, rfl, rfl, rfl, rfl, rfl, rfl, rfl, rfl, rfl, trivial⟩) ?_
  generalize (h2.alloc (scriptRow bv)).alloc (spotRow ((5 : Nat) : Int) ((20 : Nat) : Int)) = H' at sp ⊢
  generalize h2.next + 1 = j26 at sp ⊢
  clear hold hn hone bv h2 H
  obtain ⟨H, rfl⟩ : ∃ q, q = H' := ⟨_, rfl⟩
  repeat refine Wp.seq ?_
  refine Wp.regionAs (is := 0 :: (List.range' 1 7 ++ [])) rfl ?_
  refine WpO.callS rfl (by simp only [bsf, abuiltin, aextract, Nat.reduceLT, Nat.reduceEqDiff, reduceCtorEq, c13]) (by simp only [calleeOf, fnOf, List.append_nil, List.nil_append, bsf, abuiltin, aextract, Nat.reduceLT, Nat.reduceEqDiff, reduceCtorEq, c13] <;> exact rfl) ((prog_spot H lx11 6 0 sp11 (of_decide_eq_true (by kernel_rfl))).mono ?_)
  intro x1 h2 hr
  obtain ⟨bv, rfl, hone, hn, hold⟩ := hr
  refine ⟨_, by simp only [bsf, abuiltin, aextract, Nat.reduceLT, Nat.reduceEqDiff, reduceCtorEq] <;> exact rfl, ?_⟩
  refine WpO.runS 7 (by simp only [bsd, bsf, abuiltin, aextract, Nat.reduceLT, Nat.reduceEqDiff, reduceCtorEq, List.getElem?_toArray, alloc24, alloc27, Heap.new, Heap.next_alloc, cells1 h2 hone, cells2] <;> exact rfl) (by decide) ?_
  refine WpO.nil ?_
  dsimp only [after, leaving]
  replace sp := sp.step hold hn bv 6 0
  refine Wp.weaken (Frm.le_of (l := [(1, .string (bs lt1)), (3, .string (bs lt3)), (5, .string (bs lt5)), (8, .pointer (some ⟨j8, 0, none⟩)), (10, .pointer (some ⟨j10, 0, none⟩)), (12, .pointer (some ⟨j12, 0, none⟩)), (14, .pointer (some ⟨j14, 0, none⟩)), (16, .pointer (some ⟨j16, 0, none⟩)), (18, .pointer (some ⟨j18, 0, none⟩)), (20, .pointer (some ⟨j20, 0, none⟩)), (22, .pointer (some ⟨j22, 0, none⟩)), (24, .pointer (some ⟨j24, 0, none⟩)), (26, .pointer (some ⟨j26, 0, none⟩)), (28, .pointer (some ⟨h2.next + 1, 0, none⟩))]) ⟨rfl, rfl, rfl, rfl, rfl, rfl, rfl, rfl, rfl, rfl, rfl, rfl, rfl, rfl, trivial⟩) ?_
  generalize (h2.alloc (scriptRow bv)).alloc (spotRow ((6 : Nat) : Int) ((0 : Nat) : Int)) = H' at sp ⊢
  generalize h2.next + 1 = j28 at sp ⊢
  clear hold hn hone bv h2 H
  obtain ⟨H, rfl⟩ : ∃ q, q = H' := ⟨_, rfl⟩
  repeat refine Wp.seq ?_
  refine Wp.regionAs (is := 0 :: (List.range' 1 7 ++ [])) rfl ?_
  refine WpO.callS rfl (by simp only [bsf, abuiltin, aextract, Nat.reduceLT, Nat.reduceEqDiff, reduceCtorEq, c13]) (by simp only [calleeOf, fnOf, List.append_nil, List.nil_append, bsf, abuiltin, aextract, Nat.reduceLT, Nat.reduceEqDiff, reduceCtorEq, c13] <;> exact rfl) ((prog_spot H lx12 5 10 sp12 (of_decide_eq_true (by kernel_rfl))).mono ?_)
  intro x1 h2 hr
  obtain ⟨bv, rfl, hone, hn, hold⟩ := hr
  refine ⟨_, by simp only [bsf, abuiltin, aextract, Nat.reduceLT, Nat.reduceEqDiff, reduceCtorEq] <;> exact rfl, ?_⟩
  refine WpO.runS 7 (by simp only [bsd, bsf, abuiltin, aextract, Nat.reduceLT, Nat.reduceEqDiff, reduceCtorEq, List.getElem?_toArray, alloc24, alloc27, Heap.new, Heap.next_alloc, cells1 h2 hone, cells2] <;> exact rfl) (by decide) ?_
  refine WpO.nil ?_
  dsimp only [after, leaving]
  replace sp := sp.step hold hn bv 5 10
  refine Wp.weaken (Frm.le_of (l := [(1, .string (bs lt1)), (3, .string (bs lt3)), (5, .string (bs lt5)), (8, .pointer (some ⟨j8, 0, none⟩)), (10, .pointer (some ⟨j10, 0, none⟩)), (12, .pointer (some ⟨j12, 0, none⟩)), (14, .pointer (some ⟨j14, 0, none⟩)), (16, .pointer (some ⟨j16, 0, none⟩)), (18, .pointer (some ⟨j18, 0, none⟩)), (20, .pointer (some ⟨j20, 0, none⟩)), (22, .pointer (some ⟨j22, 0, none⟩)), (24, .pointer (some ⟨j24, 0, none⟩)), (26, .pointer (some ⟨j26, 0, none⟩)), (28, .pointer (some ⟨j28, 0, none⟩)), (30, .pointer (some ⟨h2.next + 1, 0, none⟩))]) ⟨rfl, rfl, rfl, rfl, rfl, rfl, rfl, rfl, rfl, rfl, rfl, rfl, rfl, rfl, rfl, trivial⟩) ?_
  generalize (h2.alloc (scriptRow bv)).alloc (spotRow ((5 : Nat) : Int) ((10 : Nat) : Int)) = H' at sp ⊢
  generalize h2.next + 1 = j30 at sp ⊢
  clear hold hn hone bv h2 H
  obtain ⟨H, rfl⟩ : ∃ q, q = H' := ⟨_, rfl⟩
  repeat refine Wp.seq ?_
  refine Wp.regionAs (is := 0 :: (List.range' 1 7 ++ [])) rfl ?_
  refine WpO.callS rfl (by simp only [bsf, abuiltin, aextract, Nat.reduceLT, Nat.reduceEqDiff, reduceCtorEq, c13]) (by simp only [calleeOf, fnOf, List.append_nil, List.nil_append, bsf, abuiltin, aextract, Nat.reduceLT, Nat.reduceEqDiff, reduceCtorEq, c13] <;> exact rfl) ((prog_spot H lx13 6 29 sp13 (of_decide_eq_true (by kernel_rfl))).mono ?_)
  intro x1 h2 hr
  obtain ⟨bv, rfl, hone, hn, hold⟩ := hr
  refine ⟨_, by simp only [bsf, abuiltin, aextract, Nat.reduceLT, Nat.reduceEqDiff, reduceCtorEq] <;> exact rfl, ?_⟩
  refine WpO.runS 7 (by simp only [bsd, bsf, abuiltin, aextract, Nat.reduceLT, Nat.reduceEqDiff, reduceCtorEq, List.getElem?_toArray, alloc24, alloc27, Heap.new, Heap.next_alloc, cells1 h2 hone, cells2] <;> exact rfl) (by decide) ?_
  refine WpO.nil ?_
  dsimp only [after, leaving]
  replace sp := sp.step hold hn bv 6 29
  refine Wp.weaken (Frm.le_of (l := [(1, .string (bs lt1)), (3, .string (bs lt3)), (5, .string (bs lt5)), (8, .pointer (some ⟨j8, 0, none⟩)), (10, .pointer (some ⟨j10, 0, none⟩)), (12, .pointer (some ⟨j12, 0, none⟩)), (14, .pointer (some ⟨j14, 0, none⟩)), (16, .pointer (some ⟨j16, 0, none⟩)), (18, .pointer (some ⟨j18, 0, none⟩)), (20, .pointer (some ⟨j20, 0, none⟩)), (22, .pointer (some ⟨j22, 0, none⟩)), (24, .pointer (some ⟨j24, 0, none⟩)), (26, .pointer (some ⟨j26, 0, none⟩)), (28, .pointer (some ⟨j28, 0, none⟩)), (30, .pointer (some ⟨j30, 0, none⟩)), (32, .pointer (some ⟨h2.next + 1, 0, none⟩))]) ⟨rfl, rfl, rfl, rfl, rfl, rfl, rfl, rfl, rfl, rfl, rfl, rfl, rfl, rfl, rfl, rfl, trivial⟩) ?_
  generalize (h2.alloc (scriptRow bv)).alloc (spotRow ((6 : Nat) : Int) ((29 : Nat) : Int)) = H' at sp ⊢
  generalize h2.next + 1 = j32 at sp ⊢
  clear hold hn hone bv h2 H
  obtain ⟨H, rfl⟩ : ∃ q, q = H' := ⟨_, rfl⟩
  repeat refine Wp.seq ?_
  refine Wp.regionAs (is := 0 :: (List.range' 1 7 ++ [])) rfl ?_
  refine WpO.callS rfl (by simp only [bsf, abuiltin, aextract, Nat.reduceLT, Nat.reduceEqDiff, reduceCtorEq, c13]) (by simp only [calleeOf, fnOf, List.append_nil, List.nil_append, bsf, abuiltin, aextract, Nat.reduceLT, Nat.reduceEqDiff, reduceCtorEq, c13] <;> exact rfl) ((prog_spot H lx14 6 29 sp14 (of_decide_eq_true (by kernel_rfl))).mono ?_)
  intro x1 h2 hr
  obtain ⟨bv, rfl, hone, hn, hold⟩ := hr
  refine ⟨_, by simp only [bsf, abuiltin, aextract, Nat.reduceLT, Nat.reduceEqDiff, reduceCtorEq] <;> exact rfl, ?_⟩
  refine WpO.runS 7 (by simp only [bsd, bsf, abuiltin, aextract, Nat.reduceLT, Nat.reduceEqDiff, reduceCtorEq, List.getElem?_toArray, alloc24, alloc27, Heap.new, Heap.next_alloc, cells1 h2 hone, cells2] <;> exact rfl) (by decide) ?_
  refine WpO.nil ?_
  dsimp only [after, leaving]
  replace sp := sp.step hold hn bv 6 29
  refine Wp.weaken (Frm.le_of (l := [(1, .string (bs lt1)), (3, .string (bs lt3)), (5, .string (bs lt5)), (8, .pointer (some ⟨j8, 0, none⟩)), (10, .pointer (some ⟨j10, 0, none⟩)), (12, .pointer (some ⟨j12, 0, none⟩)), (14, .pointer (some ⟨j14, 0, none⟩)), (16, .pointer (some ⟨j16, 0, none⟩)), (18, .pointer (some ⟨j18, 0, none⟩)), (20, .pointer (some ⟨j20, 0, none⟩)), (22, .pointer (some ⟨j22, 0, none⟩)), (24, .pointer (some ⟨j24, 0, none⟩)), (26, .pointer (some ⟨j26, 0, none⟩)), (28, .pointer (some ⟨j28, 0, none⟩)), (30, .pointer (some ⟨j30, 0, none⟩)), (32, .pointer (some ⟨j32, 0, none⟩)), (34, .pointer (some ⟨h2.next + 1, 0, none⟩))]) ⟨rfl, rfl, rfl, rfl, rfl, rfl, rfl, rfl, rfl, rfl, rfl, rfl, rfl, rfl, rfl, rfl, rfl, trivial⟩) ?_
  generalize (h2.alloc (scriptRow bv)).alloc (spotRow ((6 : Nat) : Int) ((29 : Nat) : Int)) = H' at sp ⊢
  generalize h2.next + 1 = j34 at sp ⊢
  clear hold hn hone bv h2 H
  obtain ⟨H, rfl⟩ : ∃ q, q = H' := ⟨_, rfl⟩
  have s8 := spot_load (H := H) (j := j8) (k := 0) (p := 0) (sp (j8, 0, 0) (by simp))
  have s10 := spot_load (H := H) (j := j10) (k := 8) (p := 320) (sp (j10, 8, 320) (by simp))
  have s12 := spot_load (H := H) (j := j12) (k := 0) (p := 0) (sp (j12, 0, 0) (by simp))
  have s14 := spot_load (H := H) (j := j14) (k := 8) (p := 771) (sp (j14, 8, 771) (by simp))
  have s16 := spot_load (H := H) (j := j16) (k := 0) (p := 0) (sp (j16, 0, 0) (by simp))
  have s18 := spot_load (H := H) (j := j18) (k := 8) (p := 100) (sp (j18, 8, 100) (by simp))
  have s20 := spot_load (H := H) (j := j20) (k := 5) (p := 8) (sp (j20, 5, 8) (by simp))
  have s22 := spot_load (H := H) (j := j22) (k := 5) (p := 9) (sp (j22, 5, 9) (by simp))
  have s24 := spot_load (H := H) (j := j24) (k := 5) (p := 20) (sp (j24, 5, 20) (by simp))
  have s26 := spot_load (H := H) (j := j26) (k := 5) (p := 20) (sp (j26, 5, 20) (by simp))
  have s28 := spot_load (H := H) (j := j28) (k := 6) (p := 0) (sp (j28, 6, 0) (by simp))
  have s30 := spot_load (H := H) (j := j30) (k := 5) (p := 10) (sp (j30, 5, 10) (by simp))
  have s32 := spot_load (H := H) (j := j32) (k := 6) (p := 29) (sp (j32, 6, 29) (by simp))
  have s34 := spot_load (H := H) (j := j34) (k := 6) (p := 29) (sp (j34, 6, 29) (by simp))
  repeat refine Wp.seq ?_
  refine Wp.runS (by simp only [bsf, abuiltin, aextract, Nat.reduceLT, Nat.reduceEqDiff, reduceCtorEq, s8, s12, s16, build31y, eq_0_0] <;> exact rfl) ?_
  dsimp only [after, leaving]
  repeat refine Wp.seq ?_
  refine Wp.runS (by simp only [bsf, abuiltin, aextract, Nat.reduceLT, Nat.reduceEqDiff, reduceCtorEq, s10, s14, s18, alen_str Tryd.underlying9, bs_size, lt1_len, lt3_len, lt5_len, abin_int, ai_add, (show IntKind.i64.wrap ((765 : Int) + 6) = 771 from by decide), b31, eq_8_320, eq_8_771, eq_8_100] <;> exact rfl) ?_
  dsimp only [after, leaving]
  repeat refine Wp.seq ?_
  refine Wp.runS (by simp only [bsf, abuiltin, aextract, Nat.reduceLT, Nat.reduceEqDiff, reduceCtorEq, s20, s22, s24, s26, s30, s34, s32, b31, eq_5_8, eq_5_9, eq_5_20, eq_5_10, eq_6_29] <;> exact rfl) ?_
  dsimp only [after, leaving]
  repeat refine Wp.seq ?_
  refine Wp.runS (by simp only [bsf, abuiltin, aextract, Nat.reduceLT, Nat.reduceEqDiff, reduceCtorEq, s28, b31e, eq_6_0] <;> exact rfl) ?_
  dsimp only [after, leaving]
  repeat refine Wp.seq ?_
  refine Wp.ret ?_
  dsimp only [after, leaving]
  exact ⟨rfl, rfl, _, rfl, rfl⟩
end Go.Mini
