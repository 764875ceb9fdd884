/-
  PARSE, ParseJoins E: the law, walked.
-/
import Derived.Test.YtjgmccbjffncaaaDoorMiniYLtoV
import Derived.Test.YtjgmccbjffncaaaDoorPjD
import Derived.Test.YtjgmccbjffncaaaDoorPlW
set_option linter.unusedSimpArgs false
set_option maxHeartbeats 8000000
set_option maxRecDepth 100000
namespace Go.Mini
open Go.Proofs

/-- What Program yields, whatever it is. -/
def ProgAny (h : Heap) (T : List UInt8) (x : Ending) (h' : Heap) : Prop := ∃ (bv : Value) (c p : Nat), x = .returned (.tuple #[.agg #[bv], .agg #[.int .i64 c, .int .i64 p]]) ∧ one bv = true ∧ h.more h' ∧
  match progS T with
  | .ok bl => c = 0 ∧ p = 0 ∧ BlocksV h' bl bv
  | .error z => c ≠ 0 ∧ c = z.1 ∧ p = z.2 ∧ bv = .slice none 0 0
theorem fewS.few {bl : List BlockT} (h : fewS bl) : fewB bl := by
  obtain ⟨h1, h2, h3⟩ := h
  refine ⟨by unfold maxLen; omega, fun b hb => ⟨?_, fun x hx => ?_⟩⟩
  · have : b.lines.length ≤ linesOf bl := by
      unfold linesOf
      have hm : b.lines.length ∈ bl.map fun b => b.lines.length := List.mem_map_of_mem hb
      generalize (bl.map fun b => b.lines.length) = l at hm
      induction l with
      | nil => cases hm
      | cons a l ih =>
        rw [List.sum_cons]
        rcases List.mem_cons.1 hm with q | q
        · omega
        · have := ih q; omega
    unfold maxLen; omega
  · have := ((h3 b hb).1 x hx).1
    unfold LineT.few maxLen; omega
theorem prog_any (h : Heap) (T : List UInt8) (hT : T.length ≤ 281474976710656) : Does Tryd.prog 0 (GoodE Tryd.prog (baseM 0)) 13 [.string (bs T)] h (ProgAny h T) := by
  refine (program_does 0 h T hT).mono ?_
  intro x h' hr
  unfold ProgR at hr
  unfold ProgAny
  cases hR : progS T with
  | ok bl =>
    rw [hR] at hr
    obtain ⟨bv, rfl, h1, h2, h3⟩ := hr
    exact ⟨bv, 0, 0, rfl, by obtain ⟨q, hq⟩ := h1.form; rw [hq]; rfl, ⟨h2, h3⟩, rfl, rfl, h1.view (progS_few hR).few⟩
  | error z =>
    obtain ⟨c', p'⟩ := z
    rw [hR] at hr
    obtain ⟨rfl, h2, h3⟩ := hr
    exact ⟨_, c', p', rfl, rfl, ⟨h2, h3⟩, progS_bad hR, rfl, rfl, rfl⟩
theorem jcells1 (H : Heap) {bv : Value} (hb : one bv = true) : astore Tryd.prog ((H.alloc (scriptRow (.slice none 0 0))).alloc (spotRow 0 0)) 24 (.pointer (some ⟨H.next, 0, none⟩)) (.agg #[bv]) = some ((H.alloc (scriptRow bv)).alloc (spotRow 0 0)) := by
  have g : ((H.alloc (scriptRow (.slice none 0 0))).alloc (spotRow 0 0)).get H.next = some (scriptRow (.slice none 0 0)) := by rw [Heap.get_alloc_old _ _ (by simp)]; exact Heap.get_alloc_new H _
  rw [script_put g hb, Heap.alloc_set _ _ _ (by simp), Heap.set_alloc]
theorem jcells2 (H : Heap) (bv : Value) (c p : Int) : astore Tryd.prog ((H.alloc (scriptRow bv)).alloc (spotRow 0 0)) 31 (.pointer (some ⟨H.next + 1, 0, none⟩)) (.agg #[.int .i64 c, .int .i64 p]) = some ((H.alloc (scriptRow bv)).alloc (spotRow c p)) :=
  spot_put (H.alloc (scriptRow bv)) c p
theorem jadd (a b : List UInt8) (h : a.length + b.length ≤ 1000000) : abinS .add (bs a) (bs b) = some (.string (bs (a ++ b))) := by
  unfold abinS
  rw [if_pos (by simp only [bs_size, maxLen]; omega)]
  exact congrArg (fun x => some (Value.string x)) (bs_append a b)
theorem jeq0 : abin Tryd.prog .eql 31 (.agg #[.int .i64 0, .int .i64 0]) (.agg #[.int .i64 0, .int .i64 0]) = some (.bool true) := by kernel_rfl
/-- A dialogue of blocks that lie in hB, its row made since. -/
structure AllS (lo : Nat) (hB H : Heap) (bl : List BlockT) (v : Value) : Prop where
  el : ∃ l : List (BlockT × List Value), l.map (·.1) = bl ∧ (∀ p ∈ l, p.2.length = 2 ∧ BlockC hB p.1 p.2) ∧ Own H v 42 l.length (l.flatMap (·.2))
  lo : ∀ b l c, v = .slice (some ⟨b, 0, none⟩) l c → lo ≤ b
theorem AllS.nil (lo : Nat) (hB H : Heap) : AllS lo hB H [] (.slice none 0 0) := ⟨⟨[], rfl, by simp, Own.nil H 42⟩, fun b l c q => by cases q⟩
theorem AllS.set {lo : Nat} {hB H : Heap} {bl : List BlockT} {v : Value} (a : AllS lo hB H bl v) {j : Nat} (hj : j < lo) (o : AObj) : AllS lo hB (H.set j o) bl v := by
  obtain ⟨⟨l, h1, h2, h3⟩, h4⟩ := a
  refine ⟨⟨l, h1, h2, ?_⟩, h4⟩
  rcases h3 with q | ⟨b, rfl, hg⟩
  · exact .inl q
  · exact .inr ⟨b, rfl, by have := h4 b _ _ rfl; rw [Heap.get_set_ne (by omega)]; exact hg⟩
theorem AllS.append {lo : Nat} {hB H : Heap} {bl bl2 : List BlockT} {v x : Value} (a : AllS lo hB H bl v) (hlo : lo ≤ H.next) (hm : hB.more H) (hx : BlocksV hB bl2 x) (hne : bl2 ≠ []) (hle : bl.length + bl2.length ≤ 1000) :
    ∃ v' H', aappend Tryd.prog H 22 22 v x = some (v', H') ∧ AllS lo hB H' (bl ++ bl2) v' ∧ H.next ≤ H'.next ∧ one v' = true ∧ ∀ j, j < lo → H'.get j = H.get j := by
  obtain ⟨⟨l, rfl, h2, h3⟩, h4⟩ := a
  obtain ⟨l2, rfl, k2, k0, k3⟩ := hx
  simp only [List.length_map] at hle
  rcases k3 with ⟨rfl, _⟩ | ⟨b, k, sp, c, _, rfl, hl⟩
  · exact absurd rfl hne
  have hpos : 0 < l2.length := by cases l2 with | nil => exact absurd rfl hne | cons _ _ => simp
  obtain ⟨v', H', q1, q2, q3, q4, q5, q6⟩ := own_append (x := .slice (some ⟨b, k, sp⟩) l2.length c) Tryd.underlying22 Tryd.underlying22 rfl elem42 h3 (elems_len l fun p hp => (h2 p hp).1) (m := l2.length) rfl (new := l2.flatMap (·.2)) (fun h' hk => by
    have := hm.lds hl
    obtain ⟨r, hr, h7⟩ := Option.bind_eq_some_iff.1 this
    show h'.lds b k (l2.length * 2) = _
    unfold Heap.lds
    rw [Heap.row_of (hk _ _ (Heap.row_some.1 hr))]
    exact h7) hpos (elems_len l2 fun p hp => (k2 p hp).1) (by
    rw [List.all_eq_true]
    intro y hy
    obtain ⟨p, hp, hy⟩ := List.mem_flatMap.1 hy
    obtain ⟨_, lv, e, hlv⟩ := k2 p hp
    rw [e] at hy
    simp only [List.mem_cons, List.not_mem_nil, or_false] at hy
    rcases hy with rfl | rfl
    · rfl
    · exact SliceR.one hlv) (by omega) (by omega)
  refine ⟨v', H', q1, ⟨⟨l ++ l2, by simp, fun p hp => ?_, ?_⟩, fun b l c e => ?_⟩, by omega, by rw [q5]; rfl, fun j hj => q6 j (by omega) fun b l c e => by have := h4 b l c e; omega⟩
  · rcases List.mem_append.1 hp with q | q
    · exact h2 p q
    · exact k2 p q
  · rw [List.length_append, List.flatMap_append]; exact q2
  · rw [q5] at e
    cases e
    exact hlo
theorem AllS.view {lo : Nat} {hB H : Heap} {bl : List BlockT} {v : Value} (a : AllS lo hB H bl v) (hm : hB.more H) (hle : bl.length ≤ 1000) : BlocksV H bl v := by
  obtain ⟨⟨l, rfl, h2, h3⟩, h4⟩ := a
  rw [List.length_map] at hle
  refine ⟨l, rfl, fun p hp => ⟨(h2 p hp).1, grows_block _ _ _ _ hm (h2 p hp).2⟩, by unfold maxLen; omega, ?_⟩
  rcases h3 with ⟨rfl, q2, _⟩ | ⟨b, rfl, hg⟩
  · exact .inl ⟨List.length_eq_zero_iff.1 q2, .inl ⟨none, 0, rfl⟩⟩
  · by_cases hz : l = []
    · subst hz; exact .inl ⟨rfl, .inl ⟨_, _, rfl⟩⟩
    · refine .inr ⟨b, 0, none, _, hz, rfl, ?_⟩
      have hlen := elems_len l fun p hp => (h2 p hp).1
      rw [Heap.lds_of hg (by simp only [grownRow]; omega)]
      simp only [grownRow, List.drop_zero]
      rw [← hlen, List.take_length]
theorem parseJoins_does (h : Heap) (A B : List UInt8) (hA : A.length ≤ 281474976710656) (hB : B.length ≤ 281474976710656) : Does Tryd.prog 0 (GoodE Tryd.prog (baseM 0)) 4 [.string (bs A), .string (bs B)] h fun e _ => e = .returned (.bool true) := by
  have c8 : canEnter Tryd.prog 8 = true := by kernel_rfl
  have c13 : canEnter Tryd.prog 13 = true := by kernel_rfl
  have c14 : canEnter Tryd.prog 14 = true := by kernel_rfl
  have c15 : canEnter Tryd.prog 15 = true := by kernel_rfl
  refine Does.body Tryd.func4 rfl ?_
  have hn : enterF Tryd.f4 [.string (bs A), .string (bs B)] = ⟨85, [(0, .string (bs A)), (1, .string (bs B))], []⟩ := rfl
  rw [hn]; clear hn
  repeat refine Wp.seq ?_
  refine Wp.runS (by simp only [bsf, abuiltin, aextract, Nat.reduceLT, Nat.reduceEqDiff, reduceCtorEq] <;> exact rfl) ?_
  dsimp only [after, leaving]
  repeat refine Wp.seq ?_
  refine Wp.regionAs (is := 0 :: (List.range' 1 1 ++ [])) rfl ?_
  refine WpO.callR (works_does h) rfl (by simp only [bsf, abuiltin, aextract, Nat.reduceLT, Nat.reduceEqDiff, reduceCtorEq, c8]) (by simp only [calleeOf, fnOf, List.append_nil, List.nil_append, bsf, abuiltin, aextract, Nat.reduceLT, Nat.reduceEqDiff, reduceCtorEq, c8] <;> exact rfl) ?_
  rintro _ h9 ⟨rfl, hh9⟩
  obtain rfl := hh9.symm
  clear hh9
  refine ⟨_, _, rfl, by simp only [bsf, abuiltin, aextract, Nat.reduceLT, Nat.reduceEqDiff, reduceCtorEq]; exact rfl, ?_⟩
  refine WpO.runS 1 (by simp only [bsd, bsf, abuiltin, aextract, Nat.reduceLT, Nat.reduceEqDiff, reduceCtorEq, aun, Bool.not_true] <;> exact rfl) (by decide) ?_
  refine WpO.nil ?_
  dsimp only [after, leaving]
  repeat refine Wp.seq ?_
  refine Wp.condF (by simp only [bsf, abuiltin, aextract, Nat.reduceLT, Nat.reduceEqDiff, reduceCtorEq]) ?_
  repeat refine Wp.seq ?_
  refine Wp.skip ?_
  dsimp only [after, leaving]
  have w1 : IntKind.i64.wrap ((A.length : Int) + 1) = ((A.length + 1 : Nat) : Int) := by rw [wrap_in (by omega) (by omega)]; omega
  have w2 : IntKind.i64.wrap (((A.length + 1 : Nat) : Int) + (B.length : Int)) = ((A.length + 1 + B.length : Nat) : Int) := by rw [wrap_in (by omega) (by omega)]; omega
  by_cases hlen : (2048 : Int) < ((A.length + 1 + B.length : Nat) : Int)
  · repeat refine Wp.seq ?_
    refine Wp.runS (by simp only [bsf, abuiltin, aextract, Nat.reduceLT, Nat.reduceEqDiff, reduceCtorEq, alen_str Tryd.underlying9, bs_size, abin_int, ai_add, ai_gtr, w1, w2, decide_eq_true hlen] <;> exact rfl) ?_
    dsimp only [after, leaving]
    repeat refine Wp.seq ?_
    refine Wp.condT (by simp only [bsf, abuiltin, aextract, Nat.reduceLT, Nat.reduceEqDiff, reduceCtorEq]) ?_
    repeat refine Wp.seq ?_
    refine Wp.runS (by simp only [bsf, abuiltin, aextract, Nat.reduceLT, Nat.reduceEqDiff, reduceCtorEq] <;> exact rfl) ?_
    dsimp only [after, leaving]
    repeat refine Wp.seq ?_
    refine Wp.ret ?_
    dsimp only [after, leaving]
    exact ⟨rfl, rfl, _, rfl, rfl⟩
  repeat refine Wp.seq ?_
  refine Wp.runS (by simp only [bsf, abuiltin, aextract, Nat.reduceLT, Nat.reduceEqDiff, reduceCtorEq, alen_str Tryd.underlying9, bs_size, abin_int, ai_add, ai_gtr, w1, w2, decide_eq_false hlen] <;> exact rfl) ?_
  dsimp only [after, leaving]
  repeat refine Wp.seq ?_
  refine Wp.condF (by simp only [bsf, abuiltin, aextract, Nat.reduceLT, Nat.reduceEqDiff, reduceCtorEq]) ?_
  repeat refine Wp.seq ?_
  refine Wp.skip ?_
  dsimp only [after, leaving]
  refine Wp.weaken (Frm.le_of (l := [(0, .string (bs A)), (1, .string (bs B))]) ⟨rfl, rfl, trivial⟩) ?_
  repeat refine Wp.seq ?_
  refine Wp.regionAs (is := List.range' 0 1 ++ (1 :: (List.range' 2 7 ++ []))) rfl ?_
  refine WpO.runS 1 (by simp only [bsd, bsf, abuiltin, aextract, Nat.reduceLT, Nat.reduceEqDiff, reduceCtorEq] <;> exact rfl) (by decide) ?_
  refine WpO.callS rfl (by simp only [bsf, abuiltin, aextract, Nat.reduceLT, Nat.reduceEqDiff, reduceCtorEq, c13]) (by simp only [calleeOf, fnOf, List.append_nil, List.nil_append, bsf, abuiltin, aextract, Nat.reduceLT, Nat.reduceEqDiff, reduceCtorEq, c13] <;> exact rfl) ((prog_any h A hA).mono ?_)
  intro x1 h2 hr
  obtain ⟨bv, c, p, rfl, hone, hm1, hs⟩ := hr
  refine ⟨_, by simp only [bsf, abuiltin, aextract, Nat.reduceLT, Nat.reduceEqDiff, reduceCtorEq] <;> exact rfl, ?_⟩
  refine WpO.runS 7 (by simp only [bsd, bsf, abuiltin, aextract, Nat.reduceLT, Nat.reduceEqDiff, reduceCtorEq, List.getElem?_toArray, alloc24, alloc27, Heap.new, Heap.next_alloc, jcells1 h2 hone, jcells2] <;> exact rfl) (by decide) ?_
  refine WpO.nil ?_
  dsimp only [after, leaving]
  have m2 := (Heap.more_alloc h2 (scriptRow bv)).trans (Heap.more_alloc (h2.alloc (scriptRow bv)) (spotRow c p))
  have g5 : ((h2.alloc (scriptRow bv)).alloc (spotRow c p)).get h2.next = some (scriptRow bv) := by rw [Heap.get_alloc_old _ _ (by simp)]; exact Heap.get_alloc_new h2 _
  have g6 : ((h2.alloc (scriptRow bv)).alloc (spotRow c p)).get (h2.next + 1) = some (spotRow c p) := Heap.get_alloc_new (h2.alloc (scriptRow bv)) _
  refine Wp.weaken (Frm.le_of (l := [(0, .string (bs A)), (1, .string (bs B)), (5, .pointer (some ⟨h2.next, 0, none⟩)), (6, .pointer (some ⟨h2.next + 1, 0, none⟩))]) ⟨rfl, rfl, rfl, rfl, trivial⟩) ?_
  generalize (h2.alloc (scriptRow bv)).alloc (spotRow c p) = H at m2 g5 g6 ⊢
  generalize h2.next + 1 = j6 at g6 ⊢
  generalize h2.next = j5 at g5 ⊢
  repeat refine Wp.seq ?_
  refine Wp.regionAs (is := List.range' 0 1 ++ (1 :: (List.range' 2 7 ++ []))) rfl ?_
  refine WpO.runS 1 (by simp only [bsd, bsf, abuiltin, aextract, Nat.reduceLT, Nat.reduceEqDiff, reduceCtorEq] <;> exact rfl) (by decide) ?_
  refine WpO.callS rfl (by simp only [bsf, abuiltin, aextract, Nat.reduceLT, Nat.reduceEqDiff, reduceCtorEq, c13]) (by simp only [calleeOf, fnOf, List.append_nil, List.nil_append, bsf, abuiltin, aextract, Nat.reduceLT, Nat.reduceEqDiff, reduceCtorEq, c13] <;> exact rfl) ((prog_any H B hB).mono ?_)
  intro x1 h4 hr
  obtain ⟨bw, d, q, rfl, honew, hm3, ht⟩ := hr
  refine ⟨_, by simp only [bsf, abuiltin, aextract, Nat.reduceLT, Nat.reduceEqDiff, reduceCtorEq] <;> exact rfl, ?_⟩
  refine WpO.runS 7 (by simp only [bsd, bsf, abuiltin, aextract, Nat.reduceLT, Nat.reduceEqDiff, reduceCtorEq, List.getElem?_toArray, alloc24, alloc27, Heap.new, Heap.next_alloc, jcells1 h4 honew, jcells2] <;> exact rfl) (by decide) ?_
  refine WpO.nil ?_
  dsimp only [after, leaving]
  have m4 := (Heap.more_alloc h4 (scriptRow bw)).trans (Heap.more_alloc (h4.alloc (scriptRow bw)) (spotRow d q))
  have g7 : ((h4.alloc (scriptRow bw)).alloc (spotRow d q)).get h4.next = some (scriptRow bw) := by rw [Heap.get_alloc_old _ _ (by simp)]; exact Heap.get_alloc_new h4 _
  have g8 : ((h4.alloc (scriptRow bw)).alloc (spotRow d q)).get (h4.next + 1) = some (spotRow d q) := Heap.get_alloc_new (h4.alloc (scriptRow bw)) _
  replace g5 := (hm3.trans m4).get g5
  replace g6 := (hm3.trans m4).get g6
  refine Wp.weaken (Frm.le_of (l := [(0, .string (bs A)), (1, .string (bs B)), (5, .pointer (some ⟨j5, 0, none⟩)), (6, .pointer (some ⟨j6, 0, none⟩)), (7, .pointer (some ⟨h4.next, 0, none⟩)), (8, .pointer (some ⟨h4.next + 1, 0, none⟩))]) ⟨rfl, rfl, rfl, rfl, rfl, rfl, trivial⟩) ?_
  generalize (h4.alloc (scriptRow bw)).alloc (spotRow d q) = K at m4 g5 g6 g7 g8 ⊢
  generalize h4.next + 1 = j8 at g8 ⊢
  generalize h4.next = j7 at g7 ⊢
  have nz : ∀ e : Nat, e ≠ 0 → ((e : Int) != 0) = true := fun e he => by rw [bne_iff_ne]; omega
  cases hS : progS A with
  | error z =>
    rw [hS] at hs
    obtain ⟨hc, _⟩ := hs
    repeat refine Wp.seq ?_
    refine Wp.drawAs [52] [] 0 (fun _ => True) mixed (by kernel_rfl) trivial ?_
    refine DrT.run 20 (by simp only [List.take_succ_cons, List.take_zero, runSD, stepOD, stepWD, stepVD, isLoud, isPure, isReader, isEqOp, isConstO, decide_true, bsb, bsf, abuiltin, aextract, Nat.reduceLT, Nat.reduceEqDiff, reduceCtorEq, s0, aload_cell agg25, Heap.ld_of g6 (k := 0) rfl, abin_int, ai_neq, nz c hc] <;> exact rfl) rfl ?_
    try simp only [List.drop_succ_cons, List.drop_zero]
    refine DrT.off (by simp only [bsf, abuiltin, aextract, Nat.reduceLT, Nat.reduceEqDiff, reduceCtorEq]) (by simp only [bsf, abuiltin, aextract, Nat.reduceLT, Nat.reduceEqDiff, reduceCtorEq] <;> exact rfl) ?_
    refine DrT.off (by simp only [bsf, abuiltin, aextract, Nat.reduceLT, Nat.reduceEqDiff, reduceCtorEq]) (by simp only [bsf, abuiltin, aextract, Nat.reduceLT, Nat.reduceEqDiff, reduceCtorEq] <;> exact rfl) ?_
    refine DrT.off (by simp only [bsf, abuiltin, aextract, Nat.reduceLT, Nat.reduceEqDiff, reduceCtorEq]) (by simp only [bsf, abuiltin, aextract, Nat.reduceLT, Nat.reduceEqDiff, reduceCtorEq] <;> exact rfl) ?_
    refine DrT.run 3 (by simp only [List.take_succ_cons, List.take_zero, runSD, stepOD, stepWD, stepVD, isLoud, isPure, isReader, isEqOp, isConstO, decide_true, bsb, bsf, abuiltin, aextract, Nat.reduceLT, Nat.reduceEqDiff, reduceCtorEq] <;> exact rfl) rfl ?_
    try simp only [List.drop_succ_cons, List.drop_zero]
    refine DrT.nil ?_
    dsimp only [after, leaving]
    repeat refine Wp.seq ?_
    refine Wp.condT (by simp only [bsf, abuiltin, aextract, Nat.reduceLT, Nat.reduceEqDiff, reduceCtorEq]) ?_
    repeat refine Wp.seq ?_
    refine Wp.runS (by simp only [bsf, abuiltin, aextract, Nat.reduceLT, Nat.reduceEqDiff, reduceCtorEq] <;> exact rfl) ?_
    dsimp only [after, leaving]
    repeat refine Wp.seq ?_
    refine Wp.ret ?_
    dsimp only [after, leaving]
    exact ⟨rfl, rfl, _, rfl, rfl⟩
  | ok s =>
  rw [hS] at hs
  obtain ⟨rfl, rfl, hs⟩ := hs
  cases hTt : progS B with
  | error z =>
    rw [hTt] at ht
    obtain ⟨hc, _⟩ := ht
    repeat refine Wp.seq ?_
    refine Wp.drawAs [52] [] 0 (fun _ => True) mixed (by kernel_rfl) trivial ?_
    refine DrT.run 20 (by simp only [List.take_succ_cons, List.take_zero, runSD, stepOD, stepWD, stepVD, isLoud, isPure, isReader, isEqOp, isConstO, decide_true, bsb, bsf, abuiltin, aextract, Nat.reduceLT, Nat.reduceEqDiff, reduceCtorEq, s0, aload_cell agg25, Heap.ld_of g6 (k := 0) rfl, Heap.ld_of g8 (k := 0) rfl, abin_int, ai_neq, nz d hc, (show (((0 : Nat) : Int) != 0) = false from rfl)] <;> exact rfl) rfl ?_
    try simp only [List.drop_succ_cons, List.drop_zero]
    refine DrT.off (by simp only [bsf, abuiltin, aextract, Nat.reduceLT, Nat.reduceEqDiff, reduceCtorEq]) (by simp only [bsf, abuiltin, aextract, Nat.reduceLT, Nat.reduceEqDiff, reduceCtorEq] <;> exact rfl) ?_
    refine DrT.off (by simp only [bsf, abuiltin, aextract, Nat.reduceLT, Nat.reduceEqDiff, reduceCtorEq]) (by simp only [bsf, abuiltin, aextract, Nat.reduceLT, Nat.reduceEqDiff, reduceCtorEq] <;> exact rfl) ?_
    refine DrT.off (by simp only [bsf, abuiltin, aextract, Nat.reduceLT, Nat.reduceEqDiff, reduceCtorEq]) (by simp only [bsf, abuiltin, aextract, Nat.reduceLT, Nat.reduceEqDiff, reduceCtorEq] <;> exact rfl) ?_
    refine DrT.run 3 (by simp only [List.take_succ_cons, List.take_zero, runSD, stepOD, stepWD, stepVD, isLoud, isPure, isReader, isEqOp, isConstO, decide_true, bsb, bsf, abuiltin, aextract, Nat.reduceLT, Nat.reduceEqDiff, reduceCtorEq] <;> exact rfl) rfl ?_
    try simp only [List.drop_succ_cons, List.drop_zero]
    refine DrT.nil ?_
    dsimp only [after, leaving]
    repeat refine Wp.seq ?_
    refine Wp.condT (by simp only [bsf, abuiltin, aextract, Nat.reduceLT, Nat.reduceEqDiff, reduceCtorEq]) ?_
    repeat refine Wp.seq ?_
    refine Wp.runS (by simp only [bsf, abuiltin, aextract, Nat.reduceLT, Nat.reduceEqDiff, reduceCtorEq] <;> exact rfl) ?_
    dsimp only [after, leaving]
    repeat refine Wp.seq ?_
    refine Wp.ret ?_
    dsimp only [after, leaving]
    exact ⟨rfl, rfl, _, rfl, rfl⟩
  | ok t =>
  rw [hTt] at ht
  obtain ⟨rfl, rfl, ht⟩ := ht
  have fs := progS_few hS
  have ft := progS_few hTt
  replace hs := hs.more ((m2.trans hm3).trans m4)
  replace ht := ht.more m4
  have z0 : (((0 : Nat) : Int) != 0) = false := rfl
  have w3 : IntKind.i64.wrap ((s.length : Int) + (t.length : Int)) = ((s.length + t.length : Nat) : Int) := by have := fs.1; have := ft.1; rw [wrap_in (by omega) (by omega)]; omega
  by_cases h32 : (32 : Int) < ((s.length + t.length : Nat) : Int)
  · repeat refine Wp.seq ?_
    refine Wp.drawAs [52] [] 0 (fun _ => True) mixed (by kernel_rfl) trivial ?_
    refine DrT.run 20 (by simp only [List.take_succ_cons, List.take_zero, runSD, stepOD, stepWD, stepVD, isLoud, isPure, isReader, isEqOp, isConstO, decide_true, bsb, bsf, abuiltin, aextract, Nat.reduceLT, Nat.reduceEqDiff, reduceCtorEq, s0, sc0, aload_cell agg25, aload_cell agg22, Heap.ld_of g6 (k := 0) rfl, Heap.ld_of g8 (k := 0) rfl, Heap.ld_of g5 (k := 0) rfl, Heap.ld_of g7 (k := 0) rfl, abin_int, ai_neq, ai_add, ai_gtr, z0, hs.len, ht.len, w3, decide_eq_true h32] <;> exact rfl) rfl ?_
    try simp only [List.drop_succ_cons, List.drop_zero]
    refine DrT.off (by simp only [bsf, abuiltin, aextract, Nat.reduceLT, Nat.reduceEqDiff, reduceCtorEq]) (by simp only [bsf, abuiltin, aextract, Nat.reduceLT, Nat.reduceEqDiff, reduceCtorEq] <;> exact rfl) ?_
    refine DrT.off (by simp only [bsf, abuiltin, aextract, Nat.reduceLT, Nat.reduceEqDiff, reduceCtorEq]) (by simp only [bsf, abuiltin, aextract, Nat.reduceLT, Nat.reduceEqDiff, reduceCtorEq] <;> exact rfl) ?_
    refine DrT.off (by simp only [bsf, abuiltin, aextract, Nat.reduceLT, Nat.reduceEqDiff, reduceCtorEq]) (by simp only [bsf, abuiltin, aextract, Nat.reduceLT, Nat.reduceEqDiff, reduceCtorEq] <;> exact rfl) ?_
    refine DrT.run 3 (by simp only [List.take_succ_cons, List.take_zero, runSD, stepOD, stepWD, stepVD, isLoud, isPure, isReader, isEqOp, isConstO, decide_true, bsb, bsf, abuiltin, aextract, Nat.reduceLT, Nat.reduceEqDiff, reduceCtorEq] <;> exact rfl) rfl ?_
    try simp only [List.drop_succ_cons, List.drop_zero]
    refine DrT.nil ?_
    dsimp only [after, leaving]
    repeat refine Wp.seq ?_
    refine Wp.condT (by simp only [bsf, abuiltin, aextract, Nat.reduceLT, Nat.reduceEqDiff, reduceCtorEq]) ?_
    repeat refine Wp.seq ?_
    refine Wp.runS (by simp only [bsf, abuiltin, aextract, Nat.reduceLT, Nat.reduceEqDiff, reduceCtorEq] <;> exact rfl) ?_
    dsimp only [after, leaving]
    repeat refine Wp.seq ?_
    refine Wp.ret ?_
    dsimp only [after, leaving]
    exact ⟨rfl, rfl, _, rfl, rfl⟩
  have w4 : IntKind.i64.wrap ((linesOf s : Int) + (linesOf t : Int)) = ((linesOf s + linesOf t : Nat) : Int) := by have := fs.2.1; have := ft.2.1; rw [wrap_in (by omega) (by omega)]; omega
  repeat refine Wp.seq ?_
  refine Wp.drawAs [52] [] 0 (fun H => K.more H) mixed (by kernel_rfl) (Heap.more_refl K) ?_
  refine DrT.run 20 (by simp only [List.take_succ_cons, List.take_zero, runSD, stepOD, stepWD, stepVD, isLoud, isPure, isReader, isEqOp, isConstO, decide_true, bsb, bsf, abuiltin, aextract, Nat.reduceLT, Nat.reduceEqDiff, reduceCtorEq, s0, sc0, aload_cell agg25, aload_cell agg22, Heap.ld_of g6 (k := 0) rfl, Heap.ld_of g8 (k := 0) rfl, Heap.ld_of g5 (k := 0) rfl, Heap.ld_of g7 (k := 0) rfl, script_load g5, abin_int, ai_neq, ai_add, ai_gtr, z0, hs.len, ht.len, w3, decide_eq_false h32] <;> exact rfl) rfl ?_
  try simp only [List.drop_succ_cons, List.drop_zero]
  refine DrT.call (lines_spec 0 K s bv hs (by have := fs.2.1; omega)) rfl rfl (by simp only [bsf, abuiltin, aextract, Nat.reduceLT, Nat.reduceEqDiff, reduceCtorEq]) (by simp only [calleeOf, fnOf, List.append_nil, List.nil_append, bsf, abuiltin, aextract, Nat.reduceLT, Nat.reduceEqDiff, reduceCtorEq, c15] <;> exact rfl) ?_
  intro r K2 hr
  obtain ⟨rfl, k2⟩ := hr
  refine ⟨_, _, rfl, (fun _ => k2), by simp only [bsf, abuiltin, aextract, Nat.reduceLT, Nat.reduceEqDiff, reduceCtorEq]; exact rfl, ?_⟩
  refine DrT.read rfl rfl (by simp only [bsf, abuiltin, aextract, Nat.reduceLT, Nat.reduceEqDiff, reduceCtorEq]) (by simp only [bsf, abuiltin, aextract, Nat.reduceLT, Nat.reduceEqDiff, reduceCtorEq, script_load (k2.get g7)] <;> exact rfl) (fun H hK2 => by simp only [bsf, abuiltin, aextract, Nat.reduceLT, Nat.reduceEqDiff, reduceCtorEq, script_load (hK2.get g7)] <;> exact rfl) (by simp only [bsf, abuiltin, aextract, Nat.reduceLT, Nat.reduceEqDiff, reduceCtorEq] <;> exact rfl) ?_
  refine DrT.call (lines_spec 0 K2 t bw (ht.more k2) (by have := ft.2.1; omega)) rfl rfl (by simp only [bsf, abuiltin, aextract, Nat.reduceLT, Nat.reduceEqDiff, reduceCtorEq]) (by simp only [calleeOf, fnOf, List.append_nil, List.nil_append, bsf, abuiltin, aextract, Nat.reduceLT, Nat.reduceEqDiff, reduceCtorEq, c15] <;> exact rfl) ?_
  intro r K3 hr
  obtain ⟨rfl, k3⟩ := hr
  refine ⟨_, _, rfl, (fun _ => k2.trans k3), by simp only [bsf, abuiltin, aextract, Nat.reduceLT, Nat.reduceEqDiff, reduceCtorEq]; exact rfl, ?_⟩
  by_cases h128 : (128 : Int) < ((linesOf s + linesOf t : Nat) : Int)
  · refine DrT.run 3 (by simp only [List.take_succ_cons, List.take_zero, runSD, stepOD, stepWD, stepVD, isLoud, isPure, isReader, isEqOp, isConstO, decide_true, bsb, bsf, abuiltin, aextract, Nat.reduceLT, Nat.reduceEqDiff, reduceCtorEq, abin_int, ai_add, ai_gtr, w4, decide_eq_true h128] <;> exact rfl) rfl ?_
    try simp only [List.drop_succ_cons, List.drop_zero]
    refine DrT.nil ?_
    dsimp only [after, leaving]
    repeat refine Wp.seq ?_
    refine Wp.condT (by simp only [bsf, abuiltin, aextract, Nat.reduceLT, Nat.reduceEqDiff, reduceCtorEq]) ?_
    repeat refine Wp.seq ?_
    refine Wp.runS (by simp only [bsf, abuiltin, aextract, Nat.reduceLT, Nat.reduceEqDiff, reduceCtorEq] <;> exact rfl) ?_
    dsimp only [after, leaving]
    repeat refine Wp.seq ?_
    refine Wp.ret ?_
    dsimp only [after, leaving]
    exact ⟨rfl, rfl, _, rfl, rfl⟩
  refine DrT.run 3 (by simp only [List.take_succ_cons, List.take_zero, runSD, stepOD, stepWD, stepVD, isLoud, isPure, isReader, isEqOp, isConstO, decide_true, bsb, bsf, abuiltin, aextract, Nat.reduceLT, Nat.reduceEqDiff, reduceCtorEq, abin_int, ai_add, ai_gtr, w4, decide_eq_false h128] <;> exact rfl) rfl ?_
  try simp only [List.drop_succ_cons, List.drop_zero]
  refine DrT.nil ?_
  dsimp only [after, leaving]
  repeat refine Wp.seq ?_
  refine Wp.condF (by simp only [bsf, abuiltin, aextract, Nat.reduceLT, Nat.reduceEqDiff, reduceCtorEq]) ?_
  repeat refine Wp.seq ?_
  refine Wp.skip ?_
  dsimp only [after, leaving]
  replace g5 := (k2.trans k3).get g5
  replace g7 := (k2.trans k3).get g7
  replace hs := hs.more (k2.trans k3)
  replace ht := ht.more (k2.trans k3)
  refine Wp.weaken (Frm.le_of (l := [(0, .string (bs A)), (1, .string (bs B)), (5, .pointer (some ⟨j5, 0, none⟩)), (7, .pointer (some ⟨j7, 0, none⟩))]) ⟨rfl, rfl, rfl, rfl, trivial⟩) ?_
  repeat refine Wp.seq ?_
  refine Wp.runS (by simp only [bsf, abuiltin, aextract, Nat.reduceLT, Nat.reduceEqDiff, reduceCtorEq, alloc24, Heap.new] <;> exact rfl) ?_
  dsimp only [after, leaving]
  have g9 : (K3.alloc (scriptRow (.slice none 0 0))).get K3.next = some (scriptRow (.slice none 0 0)) := Heap.get_alloc_new K3 _
  have m5 := Heap.more_alloc K3 (scriptRow (.slice none 0 0))
  have n5 : (K3.alloc (scriptRow (.slice none 0 0))).next = K3.next + 1 := by simp
  generalize K3.alloc (scriptRow (.slice none 0 0)) = H1 at g9 m5 n5 ⊢
  have l5 := Heap.lt_of_get g5
  have l7 := Heap.lt_of_get g7
  obtain ⟨v1, H2, ap1, a1, n1, o1, old1⟩ := (AllS.nil (K3.next + 1) K3 H1).append (by omega) m5 hs (progS_ne hS) (by have := fs.1; simp only [List.length_nil]; omega)
  have p9 : H2.get K3.next = some (scriptRow (.slice none 0 0)) := by rw [old1 _ (by omega)]; exact g9
  repeat refine Wp.seq ?_
  refine Wp.runS (by simp only [bsf, abuiltin, aextract, Nat.reduceLT, Nat.reduceEqDiff, reduceCtorEq, sc0, aload_cell agg22, Heap.ld_of g9 (k := 0) rfl, Heap.ld_of (m5.get g5) (k := 0) rfl, ap1, script_blocks p9 v1 o1] <;> exact rfl) ?_
  dsimp only [after, leaving]
  have q9 : (H2.set K3.next (scriptRow v1)).get K3.next = some (scriptRow v1) := Heap.get_set_self p9
  replace a1 := a1.set (j := K3.next) (by omega) (scriptRow v1)
  have m6 : K3.more (H2.set K3.next (scriptRow v1)) := ⟨by rw [Heap.next_set]; omega, fun j hj => by rw [Heap.get_set_ne (by omega), old1 j (by omega)]; exact m5.2 j hj⟩
  have n6 : K3.next + 1 ≤ (H2.set K3.next (scriptRow v1)).next := by rw [Heap.next_set]; omega
  rw [List.nil_append] at a1
  generalize H2.set K3.next (scriptRow v1) = H3 at q9 a1 m6 n6 ⊢
  obtain ⟨v2, H4, ap2, a2, n2, o2, old2⟩ := a1.append n6 m6 ht (progS_ne hTt) (by have := fs.1; have := ft.1; omega)
  have r9 : H4.get K3.next = some (scriptRow v1) := by rw [old2 _ (by omega)]; exact q9
  repeat refine Wp.seq ?_
  refine Wp.runS (by simp only [bsf, abuiltin, aextract, Nat.reduceLT, Nat.reduceEqDiff, reduceCtorEq, sc0, aload_cell agg22, Heap.ld_of q9 (k := 0) rfl, Heap.ld_of (m6.get g7) (k := 0) rfl, ap2, script_blocks r9 v2 o2] <;> exact rfl) ?_
  dsimp only [after, leaving]
  have s9 : (H4.set K3.next (scriptRow v2)).get K3.next = some (scriptRow v2) := Heap.get_set_self r9
  replace a2 := a2.set (j := K3.next) (by omega) (scriptRow v2)
  have m7 : K3.more (H4.set K3.next (scriptRow v2)) := ⟨by rw [Heap.next_set]; omega, fun j hj => by rw [Heap.get_set_ne (by omega), old2 j (by omega)]; exact m6.2 j hj⟩
  generalize H4.set K3.next (scriptRow v2) = H5 at s9 a2 m7 ⊢
  have va := a2.view m7 (by have := fs.1; have := ft.1; rw [List.length_append]; omega)
  refine Wp.weaken (Frm.le_of (l := [(0, .string (bs A)), (1, .string (bs B)), (9, .pointer (some ⟨K3.next, 0, none⟩))]) ⟨rfl, rfl, rfl, trivial⟩) ?_
  generalize K3.next = j9 at s9 ⊢
  have hle : A.length + 1 + B.length ≤ 2048 := by omega
  have ja : abinS .add (bs A) ⟨#[10]⟩ = some (.string (bs (A ++ [10]))) := jadd A [10] (by simp only [List.length_cons, List.length_nil]; omega)
  have jb : abinS .add (bs (A ++ [10])) (bs B) = some (.string (bs (A ++ [10] ++ B))) := jadd (A ++ [10]) B (by rw [List.length_append]; simp only [List.length_cons, List.length_nil]; omega)
  have hU : progS (A ++ [10] ++ B) = .ok (s ++ t) := by
    rw [List.append_assoc]
    exact progS_joins A B hle hS hTt (by omega) (by omega)
  repeat refine Wp.seq ?_
  refine Wp.regionAs (is := List.range' 0 4 ++ (4 :: (List.range' 5 7 ++ []))) rfl ?_
  refine WpO.runS 4 (by simp only [bsd, bsf, abuiltin, aextract, Nat.reduceLT, Nat.reduceEqDiff, reduceCtorEq, abin_str, ja, jb] <;> exact rfl) (by decide) ?_
  refine WpO.callS rfl (by simp only [bsf, abuiltin, aextract, Nat.reduceLT, Nat.reduceEqDiff, reduceCtorEq, c13]) (by simp only [calleeOf, fnOf, List.append_nil, List.nil_append, bsf, abuiltin, aextract, Nat.reduceLT, Nat.reduceEqDiff, reduceCtorEq, c13] <;> exact rfl) ((prog_any H5 (A ++ [10] ++ B) (by rw [List.length_append, List.length_append]; simp only [List.length_cons, List.length_nil]; omega)).mono ?_)
  intro x1 h6 hr
  obtain ⟨bu, c, p, rfl, honeu, hm8, hu⟩ := hr
  rw [hU] at hu
  obtain ⟨rfl, rfl, hu⟩ := hu
  refine ⟨_, by simp only [bsf, abuiltin, aextract, Nat.reduceLT, Nat.reduceEqDiff, reduceCtorEq] <;> exact rfl, ?_⟩
  refine WpO.runS 7 (by simp only [bsd, bsf, abuiltin, aextract, Nat.reduceLT, Nat.reduceEqDiff, reduceCtorEq, List.getElem?_toArray, alloc24, alloc27, Heap.new, Heap.next_alloc, jcells1 h6 honeu, jcells2] <;> exact rfl) (by decide) ?_
  refine WpO.nil ?_
  dsimp only [after, leaving]
  have m9 := (Heap.more_alloc h6 (scriptRow bu)).trans (Heap.more_alloc (h6.alloc (scriptRow bu)) (spotRow ((0 : Nat) : Int) ((0 : Nat) : Int)))
  have g10 : ((h6.alloc (scriptRow bu)).alloc (spotRow ((0 : Nat) : Int) ((0 : Nat) : Int))).get h6.next = some (scriptRow bu) := by rw [Heap.get_alloc_old _ _ (by simp)]; exact Heap.get_alloc_new h6 _
  have g11 : ((h6.alloc (scriptRow bu)).alloc (spotRow ((0 : Nat) : Int) ((0 : Nat) : Int))).get (h6.next + 1) = some (spotRow 0 0) := Heap.get_alloc_new (h6.alloc (scriptRow bu)) _
  replace s9 := (hm8.trans m9).get s9
  replace va := va.more (hm8.trans m9)
  replace hu := hu.more m9
  generalize (h6.alloc (scriptRow bu)).alloc (spotRow ((0 : Nat) : Int) ((0 : Nat) : Int)) = H7 at m9 g10 g11 s9 va hu ⊢
  repeat refine Wp.seq ?_
  refine Wp.regionAs (is := List.range' 0 6 ++ (6 :: (List.range' 7 2 ++ []))) rfl ?_
  refine WpO.runS 6 (by simp only [bsd, bsf, abuiltin, aextract, Nat.reduceLT, Nat.reduceEqDiff, reduceCtorEq, spot_load g11, build31y, jeq0, script_load g10, script_load s9] <;> exact rfl) (by decide) ?_
  refine WpO.callS rfl (by simp only [bsf, abuiltin, aextract, Nat.reduceLT, Nat.reduceEqDiff, reduceCtorEq, c14]) (by simp only [calleeOf, fnOf, List.append_nil, List.nil_append, bsf, abuiltin, aextract, Nat.reduceLT, Nat.reduceEqDiff, reduceCtorEq, c14] <;> exact rfl) ((same14_spec 0 H7 (s ++ t) (s ++ t) bu v2 hu va).mono ?_)
  intro x1 h8 hr
  obtain ⟨rfl, _⟩ := hr
  refine ⟨_, by simp only [bsf, abuiltin, aextract, Nat.reduceLT, Nat.reduceEqDiff, reduceCtorEq] <;> exact rfl, ?_⟩
  refine WpO.runS 2 (by simp only [bsd, bsf, abuiltin, aextract, Nat.reduceLT, Nat.reduceEqDiff, reduceCtorEq, decide_eq_true (rfl : s ++ t = s ++ t)] <;> exact rfl) (by decide) ?_
  refine WpO.nil ?_
  dsimp only [after, leaving]
  repeat refine Wp.seq ?_
  refine Wp.ret ?_
  dsimp only [after, leaving]
  exact ⟨rfl, rfl, _, rfl, rfl⟩
end Go.Mini
