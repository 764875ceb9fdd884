/-
  PATTERN, part F: a glob; a pattern's tree: whether it is one, and where it is wrong.
-/
import Derived.Test.YtjgmccbjffncaaaDoorMiniYLtoV
import Derived.Test.YtjgmccbjffncaaaDoorPatE
set_option linter.unusedSimpArgs false
set_option maxHeartbeats 8000000
set_option maxRecDepth 100000
namespace Go.Mini
open Go.Proofs

/-- What a glob comes to. -/
def GlobR (h : Heap) (R : Option Nat) (r : Ending) (h' : Heap) : Prop := match R with
  | none => ∃ nv, r = .returned nv ∧ h.more h' ∧ NodeOk h'.next nv
  | some p => r = .panicked (wrongP 125 p) ∧ h.more h'
structure GlSt (h H : Heap) (v : Value) (ns : List Value) : Prop where
  n : H.get h.next = some (nodeRow zeroCells)
  lo : h.next + 1 ≤ H.next
  old : ∀ j, j < h.next → H.get j = h.get j
  ps : Parts (h.next + 1) H v ns
theorem GlSt.push {h H : Heap} {v w : Value} {ns : List Value} (st : GlSt h H v ns) (hw : NodeOk H.next w) (hb : ns.length ≤ 1000000) :
    abuildSlice Tryd.prog H 106 1 [(0, w)] = some (.slice (some ⟨H.next, 0, none⟩) 1 1, H.alloc (nodeRow w.cells.toList)) ∧
    ∃ v' H', aappend Tryd.prog (H.alloc (nodeRow w.cells.toList)) 106 106 v (.slice (some ⟨H.next, 0, none⟩) 1 1) = some (v', H') ∧ GlSt h H' v' (ns ++ [w]) := by
  obtain ⟨q1, v', H', q2, q3, q4, q5, q6⟩ := st.ps.push hw st.lo hb
  exact ⟨q1, v', H', q2, q5 _ _ st.n rfl, Nat.le_trans st.lo q4, fun j hj => by rw [q6 j (by omega)]; exact st.old j hj, q3⟩
theorem GlSt.alloc {h H : Heap} {v : Value} {ns : List Value} (st : GlSt h H v ns) (o : AObj) : GlSt h (H.alloc o) v ns where
  n := by rw [Heap.get_alloc_old _ _ (by have := st.lo; omega)]; exact st.n
  lo := by have := st.lo; simp; omega
  old j hj := by rw [Heap.get_alloc_old _ _ (by have := st.lo; omega)]; exact st.old j hj
  ps := st.ps.keep (by simp) fun j p hq _ => by rw [Heap.get_alloc_old _ _ (Heap.lt_of_get hq)]; exact hq
theorem glob_does (G : Nat) (B : Base Tryd.prog G) (h : Heap) (T : List UInt8) (hT : T.length ≤ 100000) : Does Tryd.prog G (GoodE Tryd.prog B) 63 [.string (bs T)] h (GlobR h (globS T (T.length + 1) 0)) := by
  have c66 : canEnter Tryd.prog 66 = true := by kernel_rfl
  have c67 : canEnter Tryd.prog 67 = true := by kernel_rfl
  have c78 : canEnter Tryd.prog 78 = true := by kernel_rfl
  refine Does.body Tryd.func63 rfl ?_
  have hn : enterF Tryd.f63 [.string (bs T)] = ⟨47, [(0, .string (bs T))], []⟩ := rfl
  rw [hn]; clear hn
  repeat refine Wp.seq ?_
  refine Wp.runS (by simp only [bsf, abuiltin, aextract, Nat.reduceLT, Nat.reduceEqDiff, reduceCtorEq, alloc108', Heap.new] <;> exact rfl) ?_
  dsimp only [after, leaving]
  have st : GlSt h (h.alloc (nodeRow zeroCells)) (.slice none 0 0) [] := ⟨Heap.get_alloc_new _ _, by simp, fun j hj => Heap.get_alloc_old _ _ hj, Parts.nil _ _⟩
  generalize h.alloc (nodeRow zeroCells) = H0 at st ⊢
  repeat refine Wp.seq ?_
  refine Wp.runS (by simp only [bsf, abuiltin, aextract, Nat.reduceLT, Nat.reduceEqDiff, reduceCtorEq] <;> exact rfl) ?_
  dsimp only [after, leaving]
  repeat refine Wp.seq ?_
  refine Wp.runS (by simp only [bsf, abuiltin, aextract, Nat.reduceLT, Nat.reduceEqDiff, reduceCtorEq] <;> exact rfl) ?_
  dsimp only [after, leaving]
  repeat refine Wp.seq ?_
  refine Wp.block ?_
  generalize hG : globS T (T.length + 1) 0 = R
  refine Wp.loopI (X := Nat × Nat × Value × List Value × Heap) (fun x => [(0, .string (bs T)), (2, .pointer (some ⟨h.next, 0, none⟩)), (3, x.2.2.1), (4, .int .i64 x.2.1)]) (fun x => x.2.2.2.2)
    (fun x => R = globS T x.1 x.2.1 ∧ x.2.1 ≤ T.length ∧ T.length - x.2.1 < x.1 ∧ GlSt h x.2.2.2.2 x.2.2.1 x.2.2.2.1 ∧ x.2.2.2.1.length ≤ x.2.1) (fun x => x.1)
    (T.length + 1, 0, .slice none 0 0, [], H0) ⟨hG.symm, Nat.zero_le _, by simp only; omega, st, Nat.zero_le _⟩ ⟨rfl, rfl, rfl, rfl, trivial⟩ rfl ?_
  clear st H0
  rintro ⟨f, p, v, ns, H⟩ ⟨hR, hp, hf, st, hl⟩
  simp only at hR hp hf st hl
  obtain ⟨f, rfl⟩ : ∃ g, f = g + 1 := ⟨f - 1, by omega⟩
  rw [globS] at hR
  have hw1 : ∀ q : Nat, q ≤ T.length → IntKind.i64.wrap ((q : Int) + 1) = ((q + 1 : Nat) : Int) := fun q _ => by rw [wrap_in (by omega) (by omega)]; omega
  by_cases hlt : (p : Int) < (T.length : Int)
  · repeat refine Wp.seq ?_
    refine Wp.runS (by simp only [bsf, abuiltin, aextract, Nat.reduceLT, Nat.reduceEqDiff, reduceCtorEq, alen_str Tryd.underlying9, bs_size, abin_int, ai_lss, decide_eq_true hlt] <;> exact rfl) ?_
    dsimp only [after, leaving]
    repeat refine Wp.seq ?_
    refine Wp.condT (by simp only [bsf, abuiltin, aextract, Nat.reduceLT, Nat.reduceEqDiff, reduceCtorEq]) ?_
    repeat refine Wp.seq ?_
    refine Wp.skip ?_
    dsimp only [after, leaving]
    repeat refine Wp.seq ?_
    refine Wp.block ?_
    obtain ⟨c, hc⟩ : ∃ c, T[p]? = some c := ⟨_, List.getElem?_eq_getElem (by omega)⟩
    rw [hc] at hR
    dsimp only at hR
    have en : ∀ n : Nat, n < 256 → ((c.toNat : Int) == (n : Int)) = decide (c = n.toUInt8) := u8_eq c
    repeat refine Wp.seq ?_
    refine Wp.runS (by simp only [bsf, abuiltin, aextract, Nat.reduceLT, Nat.reduceEqDiff, reduceCtorEq, aindex_bs Tryd.underlying9 hc] <;> exact rfl) ?_
    dsimp only [after, leaving]
    repeat refine Wp.seq ?_
    refine Wp.block ?_
    repeat refine Wp.seq ?_
    refine Wp.block ?_
    repeat refine Wp.seq ?_
    refine Wp.block ?_
    repeat refine Wp.seq ?_
    refine Wp.block ?_
    repeat refine Wp.seq ?_
    refine Wp.block ?_
    by_cases h42 : c = 42
    · rw [if_neg (by rw [h42]; decide)] at hR
      repeat refine Wp.seq ?_
      refine Wp.runS (by simp only [bsf, abuiltin, aextract, Nat.reduceLT, Nat.reduceEqDiff, reduceCtorEq, byteV, abin_int, ai_eql, show ((c.toNat : Int) == 42) = true by rw [h42]; rfl] <;> exact rfl) ?_
      dsimp only [after, leaving]
      repeat refine Wp.seq ?_
      refine Wp.condT (by simp only [bsf, abuiltin, aextract, Nat.reduceLT, Nat.reduceEqDiff, reduceCtorEq]) ?_
      repeat refine Wp.seq ?_
      refine Wp.exit ?_
      simp only [after, leaving, blockExit, if_true, if_false, Nat.reduceEqDiff]
      repeat refine Wp.seq ?_
      refine Wp.regionAs (is := List.range' 0 1 ++ (1 :: (List.range' 2 5 ++ []))) rfl ?_
      refine WpO.runS 1 (by simp only [bsd, bsf, abuiltin, aextract, Nat.reduceLT, Nat.reduceEqDiff, reduceCtorEq] <;> exact rfl) (by decide) ?_
      refine WpO.callR (every_does B H) rfl (by simp only [bsf, abuiltin, aextract, Nat.reduceLT, Nat.reduceEqDiff, reduceCtorEq, c78]) (by simp only [calleeOf, fnOf, List.append_nil, List.nil_append, bsf, abuiltin, aextract, Nat.reduceLT, Nat.reduceEqDiff, reduceCtorEq, c78] <;> exact rfl) ?_
      rintro _ h9 ⟨rfl, hh9⟩
      obtain rfl := hh9.symm
      clear hh9
      refine ⟨_, _, rfl, by simp only [bsf, abuiltin, aextract, Nat.reduceLT, Nat.reduceEqDiff, reduceCtorEq]; exact rfl, ?_⟩
      have b1 := bslice_node (H := H) (everyV_node H.next)
      have st2 := st.alloc (nodeRow everyV.cells.toList)
      obtain ⟨w0, hw0⟩ : ∃ w0, w0 = nodeV 5 0 0 0 0 (.slice (some ⟨H.next, 0, none⟩) 1 1) := ⟨_, rfl⟩
      have b2 : abuild Tryd.prog 108 [(0, .int .i64 5), (2, .slice (some ⟨H.next, 0, none⟩) 1 1)] = some w0 := by rw [hw0]; exact build108k _ _ _ _
      have hwn : NodeOk (H.alloc (nodeRow everyV.cells.toList)).next w0 := by rw [hw0]; exact nodeV_ok (by simp)
      obtain ⟨q1, v', H', q2, q3⟩ := st2.push hwn (by omega)
      refine WpO.runS 5 (by simp only [bsd, bsf, abuiltin, aextract, Nat.reduceLT, Nat.reduceEqDiff, reduceCtorEq, b1, b2, q1, q2] <;> exact rfl) (by decide) ?_
      refine WpO.nil ?_
      dsimp only [after, leaving]
      repeat refine Wp.seq ?_
      refine Wp.exit ?_
      simp only [after, leaving, blockExit, if_true, if_false, Nat.reduceEqDiff]
      repeat refine Wp.seq ?_
      refine Wp.runS (by simp only [bsf, abuiltin, aextract, Nat.reduceLT, Nat.reduceEqDiff, reduceCtorEq, abin_int, ai_add, hw1 p hp] <;> exact rfl) ?_
      dsimp only [after, leaving]
      exact ⟨(f, p + 1, v', _, H'), _, ⟨hR, by simp only; omega, by simp only; omega, q3, by simp only [List.length_append, List.length_singleton]; omega⟩, by simp only; omega, rfl, ⟨rfl, rfl, rfl, rfl, trivial⟩, rfl, rfl⟩
    repeat refine Wp.seq ?_
    refine Wp.runS (by simp only [bsf, abuiltin, aextract, Nat.reduceLT, Nat.reduceEqDiff, reduceCtorEq, byteV, abin_int, ai_eql, show ((c.toNat : Int) == 42) = false by have := en 42 (by omega); simpa [h42] using this] <;> exact rfl) ?_
    dsimp only [after, leaving]
    repeat refine Wp.seq ?_
    refine Wp.condF (by simp only [bsf, abuiltin, aextract, Nat.reduceLT, Nat.reduceEqDiff, reduceCtorEq]) ?_
    repeat refine Wp.seq ?_
    refine Wp.skip ?_
    dsimp only [after, leaving]
    by_cases h63 : c = 63
    · rw [if_neg (by rw [h63]; decide)] at hR
      repeat refine Wp.seq ?_
      refine Wp.runS (by simp only [bsf, abuiltin, aextract, Nat.reduceLT, Nat.reduceEqDiff, reduceCtorEq, byteV, abin_int, ai_eql, show ((c.toNat : Int) == 63) = true by rw [h63]; rfl] <;> exact rfl) ?_
      dsimp only [after, leaving]
      repeat refine Wp.seq ?_
      refine Wp.condT (by simp only [bsf, abuiltin, aextract, Nat.reduceLT, Nat.reduceEqDiff, reduceCtorEq]) ?_
      repeat refine Wp.seq ?_
      refine Wp.exit ?_
      simp only [after, leaving, blockExit, if_true, if_false, Nat.reduceEqDiff]
      repeat refine Wp.seq ?_
      refine Wp.regionAs (is := List.range' 0 1 ++ (1 :: (List.range' 2 3 ++ []))) rfl ?_
      refine WpO.runS 1 (by simp only [bsd, bsf, abuiltin, aextract, Nat.reduceLT, Nat.reduceEqDiff, reduceCtorEq] <;> exact rfl) (by decide) ?_
      refine WpO.callR (every_does B H) rfl (by simp only [bsf, abuiltin, aextract, Nat.reduceLT, Nat.reduceEqDiff, reduceCtorEq, c78]) (by simp only [calleeOf, fnOf, List.append_nil, List.nil_append, bsf, abuiltin, aextract, Nat.reduceLT, Nat.reduceEqDiff, reduceCtorEq, c78] <;> exact rfl) ?_
      rintro _ h9 ⟨rfl, hh9⟩
      obtain rfl := hh9.symm
      clear hh9
      refine ⟨_, _, rfl, by simp only [bsf, abuiltin, aextract, Nat.reduceLT, Nat.reduceEqDiff, reduceCtorEq]; exact rfl, ?_⟩
      obtain ⟨q1, v', H', q2, q3⟩ := st.push (everyV_node H.next) (by omega)
      refine WpO.runS 3 (by simp only [bsd, bsf, abuiltin, aextract, Nat.reduceLT, Nat.reduceEqDiff, reduceCtorEq, q1, q2] <;> exact rfl) (by decide) ?_
      refine WpO.nil ?_
      dsimp only [after, leaving]
      repeat refine Wp.seq ?_
      refine Wp.exit ?_
      simp only [after, leaving, blockExit, if_true, if_false, Nat.reduceEqDiff]
      repeat refine Wp.seq ?_
      refine Wp.runS (by simp only [bsf, abuiltin, aextract, Nat.reduceLT, Nat.reduceEqDiff, reduceCtorEq, abin_int, ai_add, hw1 p hp] <;> exact rfl) ?_
      dsimp only [after, leaving]
      exact ⟨(f, p + 1, v', _, H'), _, ⟨hR, by simp only; omega, by simp only; omega, q3, by simp only [List.length_append, List.length_singleton]; omega⟩, by simp only; omega, rfl, ⟨rfl, rfl, rfl, rfl, trivial⟩, rfl, rfl⟩
    repeat refine Wp.seq ?_
    refine Wp.runS (by simp only [bsf, abuiltin, aextract, Nat.reduceLT, Nat.reduceEqDiff, reduceCtorEq, byteV, abin_int, ai_eql, show ((c.toNat : Int) == 63) = false by have := en 63 (by omega); simpa [h63] using this] <;> exact rfl) ?_
    dsimp only [after, leaving]
    repeat refine Wp.seq ?_
    refine Wp.condF (by simp only [bsf, abuiltin, aextract, Nat.reduceLT, Nat.reduceEqDiff, reduceCtorEq]) ?_
    repeat refine Wp.seq ?_
    refine Wp.skip ?_
    dsimp only [after, leaving]
    by_cases h92 : c = 92
    · rw [if_pos h92] at hR
      repeat refine Wp.seq ?_
      refine Wp.runS (by simp only [bsf, abuiltin, aextract, Nat.reduceLT, Nat.reduceEqDiff, reduceCtorEq, byteV, abin_int, ai_eql, show ((c.toNat : Int) == 92) = true by rw [h92]; rfl] <;> exact rfl) ?_
      dsimp only [after, leaving]
      repeat refine Wp.seq ?_
      refine Wp.condT (by simp only [bsf, abuiltin, aextract, Nat.reduceLT, Nat.reduceEqDiff, reduceCtorEq]) ?_
      repeat refine Wp.seq ?_
      refine Wp.exit ?_
      simp only [after, leaving, blockExit, if_true, if_false, Nat.reduceEqDiff]
      repeat refine Wp.seq ?_
      refine Wp.runS (by simp only [bsf, abuiltin, aextract, Nat.reduceLT, Nat.reduceEqDiff, reduceCtorEq, abin_int, ai_add, hw1 p hp] <;> exact rfl) ?_
      dsimp only [after, leaving]
      by_cases hend : p + 1 = T.length
      · rw [if_pos hend] at hR
        repeat refine Wp.seq ?_
        refine Wp.runS (by simp only [bsf, abuiltin, aextract, Nat.reduceLT, Nat.reduceEqDiff, reduceCtorEq, alen_str Tryd.underlying9, bs_size, abin_int, ai_eql, show (((p + 1 : Nat) : Int) == (T.length : Int)) = true by rw [beq_iff_eq]; omega] <;> exact rfl) ?_
        dsimp only [after, leaving]
        repeat refine Wp.seq ?_
        refine Wp.condT (by simp only [bsf, abuiltin, aextract, Nat.reduceLT, Nat.reduceEqDiff, reduceCtorEq]) ?_
        repeat refine Wp.seq ?_
        refine Wp.regionAs (is := List.range' 0 2 ++ (2 :: [])) rfl ?_
        refine WpO.runS 2 (by simp only [bsd, bsf, abuiltin, aextract, Nat.reduceLT, Nat.reduceEqDiff, reduceCtorEq, Tryd.underlying125] <;> exact rfl) (by decide) ?_
        refine WpO.panicS (by simp only [bsf, abuiltin, aextract, Nat.reduceLT, Nat.reduceEqDiff, reduceCtorEq] <;> exact rfl) rfl (by simp only [bsf, abuiltin, aextract, Nat.reduceLT, Nat.reduceEqDiff, reduceCtorEq]) ?_
        dsimp only [after, leaving]
        rw [hR]
        exact ⟨rfl, rfl, rfl, by have := st.lo; omega, st.old⟩
      · rw [if_neg hend] at hR
        obtain ⟨d, hd⟩ : ∃ d, T[p + 1]? = some d := ⟨_, List.getElem?_eq_getElem (by omega)⟩
        repeat refine Wp.seq ?_
        refine Wp.runS (by simp only [bsf, abuiltin, aextract, Nat.reduceLT, Nat.reduceEqDiff, reduceCtorEq, alen_str Tryd.underlying9, bs_size, abin_int, ai_eql, show (((p + 1 : Nat) : Int) == (T.length : Int)) = false by rw [beq_eq_false_iff_ne]; omega] <;> exact rfl) ?_
        dsimp only [after, leaving]
        repeat refine Wp.seq ?_
        refine Wp.condF (by simp only [bsf, abuiltin, aextract, Nat.reduceLT, Nat.reduceEqDiff, reduceCtorEq]) ?_
        repeat refine Wp.seq ?_
        refine Wp.skip ?_
        dsimp only [after, leaving]
        repeat refine Wp.seq ?_
        refine Wp.regionAs (is := List.range' 0 4 ++ (4 :: (List.range' 5 3 ++ []))) rfl ?_
        refine WpO.runS 4 (by simp only [bsd, bsf, abuiltin, aextract, Nat.reduceLT, Nat.reduceEqDiff, reduceCtorEq, aindex_bs Tryd.underlying9 hd] <;> exact rfl) (by decide) ?_
        refine WpO.callR (one_does B d H) rfl (by simp only [bsf, abuiltin, aextract, Nat.reduceLT, Nat.reduceEqDiff, reduceCtorEq, c66]) (by simp only [calleeOf, fnOf, List.append_nil, List.nil_append, bsf, abuiltin, aextract, Nat.reduceLT, Nat.reduceEqDiff, reduceCtorEq, c66] <;> exact rfl) ?_
        rintro _ h9 ⟨rfl, hh9⟩
        obtain rfl := hh9.symm
        clear hh9
        refine ⟨_, _, rfl, by simp only [bsf, abuiltin, aextract, Nat.reduceLT, Nat.reduceEqDiff, reduceCtorEq]; exact rfl, ?_⟩
        obtain ⟨q1, v', H', q2, q3⟩ := st.push (oneV_node d H.next) (by omega)
        refine WpO.runS 3 (by simp only [bsd, bsf, abuiltin, aextract, Nat.reduceLT, Nat.reduceEqDiff, reduceCtorEq, q1, q2] <;> exact rfl) (by decide) ?_
        refine WpO.nil ?_
        dsimp only [after, leaving]
        repeat refine Wp.seq ?_
        refine Wp.exit ?_
        simp only [after, leaving, blockExit, if_true, if_false, Nat.reduceEqDiff]
        repeat refine Wp.seq ?_
        refine Wp.runS (by simp only [bsf, abuiltin, aextract, Nat.reduceLT, Nat.reduceEqDiff, reduceCtorEq, abin_int, ai_add, hw1 (p + 1) (by omega)] <;> exact rfl) ?_
        dsimp only [after, leaving]
        exact ⟨(f, p + 2, v', _, H'), _, ⟨hR, by simp only; omega, by simp only; omega, q3, by simp only [List.length_append, List.length_singleton]; omega⟩, by simp only; omega, rfl, ⟨rfl, rfl, rfl, rfl, trivial⟩, rfl, rfl⟩
    rw [if_neg h92] at hR
    repeat refine Wp.seq ?_
    refine Wp.runS (by simp only [bsf, abuiltin, aextract, Nat.reduceLT, Nat.reduceEqDiff, reduceCtorEq, byteV, abin_int, ai_eql, show ((c.toNat : Int) == 92) = false by have := en 92 (by omega); simpa [h92] using this] <;> exact rfl) ?_
    dsimp only [after, leaving]
    repeat refine Wp.seq ?_
    refine Wp.condF (by simp only [bsf, abuiltin, aextract, Nat.reduceLT, Nat.reduceEqDiff, reduceCtorEq]) ?_
    repeat refine Wp.seq ?_
    refine Wp.skip ?_
    dsimp only [after, leaving]
    repeat refine Wp.seq ?_
    refine Wp.exit ?_
    simp only [after, leaving, blockExit, if_true, if_false, Nat.reduceEqDiff]
    repeat refine Wp.seq ?_
    refine Wp.regionAs (is := List.range' 0 4 ++ (4 :: (List.range' 5 3 ++ []))) rfl ?_
    refine WpO.runS 4 (by simp only [bsd, bsf, abuiltin, aextract, Nat.reduceLT, Nat.reduceEqDiff, reduceCtorEq, aindex_bs Tryd.underlying9 hc] <;> exact rfl) (by decide) ?_
    refine WpO.callR (one_does B c H) rfl (by simp only [bsf, abuiltin, aextract, Nat.reduceLT, Nat.reduceEqDiff, reduceCtorEq, c66]) (by simp only [calleeOf, fnOf, List.append_nil, List.nil_append, bsf, abuiltin, aextract, Nat.reduceLT, Nat.reduceEqDiff, reduceCtorEq, c66] <;> exact rfl) ?_
    rintro _ h9 ⟨rfl, hh9⟩
    obtain rfl := hh9.symm
    clear hh9
    refine ⟨_, _, rfl, by simp only [bsf, abuiltin, aextract, Nat.reduceLT, Nat.reduceEqDiff, reduceCtorEq]; exact rfl, ?_⟩
    obtain ⟨q1, v', H', q2, q3⟩ := st.push (oneV_node c H.next) (by omega)
    refine WpO.runS 3 (by simp only [bsd, bsf, abuiltin, aextract, Nat.reduceLT, Nat.reduceEqDiff, reduceCtorEq, q1, q2] <;> exact rfl) (by decide) ?_
    refine WpO.nil ?_
    dsimp only [after, leaving]
    repeat refine Wp.seq ?_
    refine Wp.exit ?_
    simp only [after, leaving, blockExit, if_true, if_false, Nat.reduceEqDiff]
    repeat refine Wp.seq ?_
    refine Wp.runS (by simp only [bsf, abuiltin, aextract, Nat.reduceLT, Nat.reduceEqDiff, reduceCtorEq, abin_int, ai_add, hw1 p hp] <;> exact rfl) ?_
    dsimp only [after, leaving]
    exact ⟨(f, p + 1, v', _, H'), _, ⟨hR, by simp only; omega, by simp only; omega, q3, by simp only [List.length_append, List.length_singleton]; omega⟩, by simp only; omega, rfl, ⟨rfl, rfl, rfl, rfl, trivial⟩, rfl, rfl⟩
  · repeat refine Wp.seq ?_
    refine Wp.runS (by simp only [bsf, abuiltin, aextract, Nat.reduceLT, Nat.reduceEqDiff, reduceCtorEq, alen_str Tryd.underlying9, bs_size, abin_int, ai_lss, decide_eq_false hlt] <;> exact rfl) ?_
    dsimp only [after, leaving]
    repeat refine Wp.seq ?_
    refine Wp.condF (by simp only [bsf, abuiltin, aextract, Nat.reduceLT, Nat.reduceEqDiff, reduceCtorEq]) ?_
    repeat refine Wp.seq ?_
    refine Wp.exit ?_
    simp only [after, leaving, blockExit, if_true, if_false, Nat.reduceEqDiff]
    rw [List.getElem?_eq_none (by omega)] at hR
    dsimp only at hR
    rw [hR]
    repeat refine Wp.seq ?_
    refine Wp.regionAs (is := List.range' 0 1 ++ (1 :: (List.range' 2 1 ++ []))) rfl ?_
    refine WpO.runS 1 (by simp only [bsd, bsf, abuiltin, aextract, Nat.reduceLT, Nat.reduceEqDiff, reduceCtorEq] <;> exact rfl) (by decide) ?_
    refine WpO.callS rfl (by simp only [bsf, abuiltin, aextract, Nat.reduceLT, Nat.reduceEqDiff, reduceCtorEq, c67]) (by simp only [calleeOf, fnOf, List.append_nil, List.nil_append, bsf, abuiltin, aextract, Nat.reduceLT, Nat.reduceEqDiff, reduceCtorEq, c67] <;> exact rfl) ((joined_spec G H 3 v ns st.ps.read).mono ?_)
    rintro x H2 ⟨nv, rfl, hm, hn⟩
    obtain ⟨H', e1, e2, e3, e4, e5, _⟩ := node_fin (n := H2.next) (hm.get st.n) rfl hn (Nat.le_refl _)
    refine ⟨_, by simp only [bsf, abuiltin, aextract, Nat.reduceLT, Nat.reduceEqDiff, reduceCtorEq] <;> exact rfl, ?_⟩
    refine WpO.runS 1 (by simp only [bsd, bsf, abuiltin, aextract, Nat.reduceLT, Nat.reduceEqDiff, reduceCtorEq, e1] <;> exact rfl) (by decide) ?_
    refine WpO.nil ?_
    dsimp only [after, leaving]
    repeat refine Wp.seq ?_
    refine Wp.ret ?_
    dsimp only [after, leaving]
    refine ⟨rfl, rfl, _, ares_cellP rfl rfl e2, nv, rfl, ⟨by have := st.lo; have := hm.1; omega, fun j hj => ?_⟩, e5⟩
    rw [e4 j (by omega), hm.2 j (by have := st.lo; omega)]
    exact st.old j hj

/-! ### Tree -/
def patRow (k : Int) (T : List UInt8) : AObj := .row { vs := [.int .i64 k, .string (bs T)], elem := 52 }
def patVal (k : Int) (T : List UInt8) : Value := .agg #[.int .i64 k, .string (bs T)]
theorem abox52 (h : Heap) (k : Int) (T : List UInt8) : abox h 52 (patVal k T) = (h.new, h.alloc (patRow k T)) := rfl
theorem p0 (i k : Nat) : afieldAddr Tryd.prog 52 (.pointer (some ⟨i, k, none⟩)) 0 = some (.pointer (some ⟨i, k, none⟩)) := afieldAddr_eq (f := 0) (o := 0) Tryd.underlying52 (by rfl) (s := 0) (by kernel_rfl) i k
theorem p1 (i k : Nat) : afieldAddr Tryd.prog 52 (.pointer (some ⟨i, k, none⟩)) 1 = some (.pointer (some ⟨i, k + 1, none⟩)) := afieldAddr_eq Tryd.underlying52 (by rfl) (s := 0) (by kernel_rfl) i k
theorem spot_store' {H : Heap} {j : Nat} {e0 p0 : Int} (g : H.get j = some (spotRow e0 p0)) (e p : Int) : astore Tryd.prog H 31 (.pointer (some ⟨j, 0, none⟩)) (.agg #[.int .i64 e, .int .i64 p]) = some (H.set j (spotRow e p)) := by
  have := astore_agg (P := Tryd.prog) (h := H) (i := j) (k := 0) (cs := [.int .i64 e, .int .i64 p]) sz27 rfl rfl
  rw [this, Heap.sts_of g (by simp) rfl rfl]; rfl
theorem node0_ok (n : Nat) : NodeOk n (nodeV 0 0 0 0 0 (.slice none 0 0)) := ⟨⟨_, _, _, _, _, _, _, _, rfl⟩, sc_flat _ _ rfl⟩
/-- The deferred call of Tree, where something is wrong. -/
theorem treeCatch_spec {E : EXT} (G : Nat) (h : Heap) (a c : Nat) (cs : List Value) (e0 a0 : Int) (hac : c ≠ a) (ga : h.get a = some (nodeRow cs)) (hl : cs.length = 6) (gc : h.get c = some (spotRow e0 a0)) (k : Nat) :
    DoesD Tryd.prog G E 62 [.pointer (some ⟨a, 0, none⟩), .pointer (some ⟨c, 0, none⟩)] (.panicking (wrongP 125 k)) h (fun r u h' => r = .returned (.tuple #[]) ∧ u = .panicking [{ v := .iface 125 (.int .i64 k), recovered := true }] ∧
      (∃ cs', h'.get a = some (nodeRow cs') ∧ cs'.length = 6 ∧ NodeOk h'.next (.agg cs'.toArray)) ∧ h'.get c = some (spotRow 6 k) ∧ h.next = h'.next ∧ ∀ j, j ≠ a → j ≠ c → h'.get j = h.get j) := by
  obtain ⟨H', e1, e2, e3, e4, e5, cs', e6, e7, e8⟩ := node_fin (n := 0) ga hl (node0_ok 0) (Nat.zero_le _)
  have gc2 : H'.get c = some (spotRow e0 a0) := by rw [e4 c hac]; exact gc
  have hbuild : abuild Tryd.prog 31 [(0, .int .i64 6), (1, .int .i64 k)] = some (.agg #[.int .i64 6, .int .i64 k]) := by kernel_rfl
  refine DoesD.body Tryd.func62 rfl ?_
  have hn : enterF Tryd.f62 [.pointer (some ⟨a, 0, none⟩), .pointer (some ⟨c, 0, none⟩)] = ⟨13, [(0, .pointer (some ⟨a, 0, none⟩)), (1, .pointer (some ⟨c, 0, none⟩))], []⟩ := rfl
  rw [hn]; clear hn
  repeat refine Wp.seq ?_
  refine Wp.regionAs (is := 0 :: (List.range' 1 6 ++ [])) rfl ?_
  refine WpO.recoverS (by simp only [bsf, abuiltin, aextract, Nat.reduceLT, Nat.reduceEqDiff, reduceCtorEq] <;> exact rfl) rfl (by simp only [bsf, abuiltin, aextract, Nat.reduceLT, Nat.reduceEqDiff, reduceCtorEq]) (by simp only [bsf, abuiltin, aextract, Nat.reduceLT, Nat.reduceEqDiff, reduceCtorEq] <;> exact rfl) ?_
  refine WpO.runS 6 (by simp only [bsd, bsf, abuiltin, aextract, Nat.reduceLT, Nat.reduceEqDiff, reduceCtorEq, aassert, Tryd.underlying125, List.getElem?_toArray] <;> exact rfl) (by decide) ?_
  refine WpO.nil ?_
  dsimp only [after, leaving]
  repeat refine Wp.seq ?_
  refine Wp.runS (by simp only [bsf, abuiltin, aextract, Nat.reduceLT, Nat.reduceEqDiff, reduceCtorEq] <;> exact rfl) ?_
  dsimp only [after, leaving]
  repeat refine Wp.seq ?_
  refine Wp.condT (by simp only [bsf, abuiltin, aextract, Nat.reduceLT, Nat.reduceEqDiff, reduceCtorEq]) ?_
  repeat refine Wp.seq ?_
  refine Wp.runS (by simp only [bsf, abuiltin, aextract, Nat.reduceLT, Nat.reduceEqDiff, reduceCtorEq, build108z, hbuild, e1, spot_store' gc2] <;> exact rfl) ?_
  dsimp only [after, leaving]
  refine ⟨rfl, _, rfl, _, rfl, rfl, rfl, ⟨cs', ?_, e7, ?_⟩, Heap.get_set_self gc2, by simp [e3], fun j h1 h2 => by rw [Heap.get_set_ne h2, e4 j h1]⟩
  · rw [Heap.get_set_ne (Ne.symm hac)]; exact e6
  · rw [← e8]; exact node0_ok _
theorem treeNo_spec {E : EXT} (G : Nat) (h : Heap) (a c : Value) :
    DoesD Tryd.prog G E 62 [a, c] .returning h (fun r u h' => r = .returned (.tuple #[]) ∧ u = .returning ∧ h' = h) := by
  have no52 : aassert Tryd.prog .nilIface 125 true = some (.tuple #[.int .i64 0, .bool false]) := by kernel_rfl
  refine DoesD.body Tryd.func62 rfl ?_
  have hn : enterF Tryd.f62 [a, c] = ⟨13, [(0, a), (1, c)], []⟩ := rfl
  rw [hn]; clear hn
  repeat refine Wp.seq ?_
  refine Wp.regionAs (is := 0 :: (List.range' 1 6 ++ [])) rfl ?_
  refine WpO.recoverN (by simp only [bsf, abuiltin, aextract, Nat.reduceLT, Nat.reduceEqDiff, reduceCtorEq] <;> exact rfl) rfl (by simp only [bsf, abuiltin, aextract, Nat.reduceLT, Nat.reduceEqDiff, reduceCtorEq]) (by simp only [bsf, abuiltin, aextract, Nat.reduceLT, Nat.reduceEqDiff, reduceCtorEq] <;> exact rfl) ?_
  refine WpO.runS 6 (by simp only [bsd, bsf, abuiltin, aextract, Nat.reduceLT, Nat.reduceEqDiff, reduceCtorEq, no52, List.getElem?_toArray] <;> exact rfl) (by decide) ?_
  refine WpO.nil ?_
  dsimp only [after, leaving]
  repeat refine Wp.seq ?_
  refine Wp.runS (by simp only [bsf, abuiltin, aextract, Nat.reduceLT, Nat.reduceEqDiff, reduceCtorEq] <;> exact rfl) ?_
  dsimp only [after, leaving]
  repeat refine Wp.seq ?_
  refine Wp.condF (by simp only [bsf, abuiltin, aextract, Nat.reduceLT, Nat.reduceEqDiff, reduceCtorEq]) ?_
  repeat refine Wp.seq ?_
  refine Wp.skip ?_
  dsimp only [after, leaving]
  exact ⟨rfl, _, rfl, _, rfl, rfl, rfl, rfl⟩
theorem ares48 {s : List (Nat × Value)} {d : List Deferred} {h : Heap} {a c : Nat} {cs : List Value} {e p : Int} (s2 : look 2 s = some (.pointer (some ⟨a, 0, none⟩))) (s3 : look 3 s = some (.pointer (some ⟨c, 0, none⟩)))
    (ga : h.get a = some (nodeRow cs)) (hl : cs.length = 6) (gc : h.get c = some (spotRow e p)) : ares Tryd.prog Tryd.f48 ⟨73, s, d⟩ h = some (.tuple #[.agg cs.toArray, .agg #[.int .i64 e, .int .i64 p]]) := by
  have hr : Tryd.f48.results.toList = [.cell 2 108, .cell 3 31] := rfl
  unfold ares
  rw [hr]
  simp only [aresults, aresult, s2, s3, Option.bind_some, node_load ga hl, aload_agg agg27 sz27, Heap.lds_of gc (k := 0) (n := 2) (by simp), Option.map_some]
  rfl
/-- What Tree comes to. -/
def TreeR (h : Heap) (R : Nat × Nat) (r : Ending) (h' : Heap) : Prop := ∃ nv, r = .returned (.tuple #[nv, .agg #[.int .i64 R.1, .int .i64 R.2]]) ∧ h.more h' ∧ NodeOk h'.next nv
/-- While Tree goes on: its two results' cells, all else as it was. -/
structure TrSt (h H : Heap) : Prop where
  n : ∃ cs, H.get (h.next + 1) = some (nodeRow cs) ∧ cs.length = 6 ∧ NodeOk H.next (.agg cs.toArray)
  s : ∃ e p, H.get (h.next + 2) = some (spotRow e p)
  lo : h.next + 3 ≤ H.next
  old : ∀ j, j < h.next → H.get j = h.get j
theorem TrSt.more {h H H2 : Heap} (st : TrSt h H) (hm : H.more H2) : TrSt h H2 where
  n := by obtain ⟨cs, h1, h2, h3⟩ := st.n; exact ⟨cs, hm.get h1, h2, h3.mono hm.1⟩
  s := by obtain ⟨e, p, h1⟩ := st.s; exact ⟨e, p, hm.get h1⟩
  lo := Nat.le_trans st.lo hm.1
  old j hj := by rw [hm.2 j (by have := st.lo; omega)]; exact st.old j hj
theorem TrSt.but {h H H2 : Heap} {i : Nat} (st : TrSt h H) (hi : h.next + 3 ≤ i) (hb : H.but i H2) : TrSt h H2 where
  n := by obtain ⟨cs, h1, h2, h3⟩ := st.n; exact ⟨cs, by rw [hb.2 _ (by have := st.lo; omega) (by omega)]; exact h1, h2, h3.mono hb.1⟩
  s := by obtain ⟨e, p, h1⟩ := st.s; exact ⟨e, p, by rw [hb.2 _ (by have := st.lo; omega) (by omega)]; exact h1⟩
  lo := Nat.le_trans st.lo hb.1
  old j hj := by rw [hb.2 j (by have := st.lo; omega) (by omega)]; exact st.old j hj
end Go.Mini
