import Derived.Test.YtjgmccbjffncaaaDoorPLexZc
import Derived.Test.YtjgmccbjffncaaaDoorMiniYOtoYS
import Derived.Test.YtjgmccbjffncaaaDoorPatE
set_option maxHeartbeats 8000000
set_option maxRecDepth 100000
set_option linter.unusedSimpArgs false
namespace Go.Mini
section
open Nat (reduceLT reduceEqDiff)
open Go.Proofs Tryd
def GlobR (h : Heap) (R : Option Nat) (r : Ending) (h' : Heap) : Prop := match R with
 | none => ∃ nv, r = .returned nv ∧ h.more h' ∧ NodeOk h'.next nv
 | some p => r = .panicked (wrongP 125 p) ∧ h.more h'
structure GlSt (h H : Heap) (v : Value) (ns : List Value) : Prop where
 n : H.get h.next = some (nodeRow zeroCells)
 lo : h.next + 1 ≤ H.next
 old : ∀ j, j < h.next → H.get j = h.get j
 ps : Parts (h.next + 1) H v ns
theorem GlSt.push {h H : Heap} {v w : Value} {ns : List Value} (st : GlSt h H v ns) (hw : NodeOk H.next w) (hb : ns.length ≤ 1000000) :
  abuildSlice prog H 106 1 [(0, w)] = some (.slice (some ⟨H.next, 0, none⟩) 1 1, H.alloc (nodeRow w.cells.toList)) ∧
  ∃ v' H', aappend prog (H.alloc (nodeRow w.cells.toList)) 106 106 v (.slice (some ⟨H.next, 0, none⟩) 1 1) = some (v', H') ∧ GlSt h H' v' (ns ++ [w]) := by
 obtain ⟨q1, v', H', q2, q3, q4, q5, q6⟩ := st.ps.push hw st.lo hb
 exact ⟨q1, v', H', q2, q5 _ _ st.n rfl, Nat.le_trans st.lo q4, fun j hj => by rw [q6 j (by omega)]; exact st.old j hj, q3⟩
theorem GlSt.alloc {h H : Heap} {v : Value} {ns : List Value} (st : GlSt h H v ns) (o : AObj) : GlSt h (H.alloc o) v ns where
 n := by rw [Heap.go _ _ (by have := st.lo; omega)]; exact st.n
 lo := by have := st.lo; simp; omega
 old j hj := by rw [Heap.go _ _ (by have := st.lo; omega)]; exact st.old j hj
 ps := st.ps.keep (by simp) fun j p hq _ => by rw [Heap.go _ _ (Heap.lg hq)]; exact hq
theorem glob_does (G : Nat) (B : Base prog G) (h : Heap) (T : List UInt8) (hT : T.length ≤ 100000) : Does prog G (GoodE prog B) 63 [.string (bs T)] h (GlobR h (globS T (T.length + 1) 0)) := by
 have c66 : canEnter prog 66 = true := by kernel_rfl
 have c67 : canEnter prog 67 = true := by kernel_rfl
 have c78 : canEnter prog 78 = true := by kernel_rfl
 refine Does.body func63 rfl ?_
 have hn : enterF Tryd.f63 [.string (bs T)] = ⟨47, [(0, .string (bs T))], []⟩ := rfl
 rw [hn]; clear hn
 repeat apply Wq
 refine Wp.r @alloc108' ?_
 have st : GlSt h (h.alloc (nodeRow zeroCells)) (.slice none 0 0) [] := ⟨Heap.gn _ _, by simp, fun j hj => Heap.go _ _ hj, Parts.nil _ _⟩
 generalize h.alloc (nodeRow zeroCells) = H0 at st ⊢
 repeat apply Wq
 refine Wp.rS ?_
 repeat apply Wq
 refine Wp.rS ?_
 repeat apply Wq
 refine Wp.block ?_
 generalize hG : globS T (T.length + 1) 0 = R
 refine Wp.loopI (X := Nat × Nat × Value × List Value × Heap) (fun x => [(0, .string (bs T)), (2, .pointer (some ⟨h.next, 0, none⟩)), (3, x.2.2.1), (4, .int .i64 x.2.1)]) (fun x => x.2.2.2.2)
  (fun x => R = globS T x.1 x.2.1 ∧ x.2.1 ≤ T.length ∧ T.length - x.2.1 < x.1 ∧ GlSt h x.2.2.2.2 x.2.2.1 x.2.2.2.1 ∧ x.2.2.2.1.length ≤ x.2.1) (fun x => x.1)
  (T.length + 1, 0, .slice none 0 0, [], H0) ⟨hG.symm, Nat.zero_le _, by simp only; omega, st, Nat.zero_le _⟩ ⟨rfl, rfl, rfl, rfl, trivial⟩ rfl ?_
 clear st H0
 rintro ⟨f, p, v, ns, H⟩ ⟨hR, hp, hf, st, hl⟩
 simp only at hR hp hf st hl
 obtain ⟨f, rfl⟩ : ∃ g, f = g + 1 := ⟨f - 1, by omega⟩
 rw [globS] at hR
 have hw1 : ∀ q : Nat, q ≤ T.length → IntKind.i64.wrap ((q : Int) + 1) = ((q + 1 : Nat) : Int) := fun q _ => by rw [wrap_in (by omega) (by omega)]; omega
 by_cases hlt : (p : Int) < (T.length : Int)
 ·repeat apply Wq
  refine Wp.r (Aq @ls9 (decide_eq_true hlt)) ?_
  repeat apply Wq
  refine Wp.cT ?_
  repeat apply Wq
  refine Wp.skip ?_
  repeat apply Wq
  refine Wp.block ?_
  obtain ⟨c, hc⟩ : ∃ c, T[p]? = some c := ⟨_, List.getElem?_eq_getElem (by omega)⟩
  rw [hc] at hR
  dsimp only at hR
  have en : ∀ n : Nat, n < 256 → ((c.toNat : Int) == (n : Int)) = decide (c = n.toUInt8) := u8_eq c
  repeat apply Wq
  refine Wp.runS (by simp only [bsg, reduceLT, reduceEqDiff, reduceCtorEq, aindex_bs underlying9 hc] <;> exact rfl) ?_
  repeat apply Wq
  refine Wp.block ?_
  repeat apply Wq
  refine Wp.block ?_
  repeat apply Wq
  refine Wp.block ?_
  repeat apply Wq
  refine Wp.block ?_
  repeat apply Wq
  refine Wp.block ?_
  by_cases h42 : c = 42
  ·rw [if_neg (by rw [h42]; decide)] at hR
   repeat apply Wq
   refine Wp.runS (by simp only [bsg, reduceLT, reduceEqDiff, reduceCtorEq, byteV, show ((c.toNat : Int) == 42) = true by rw [h42]; rfl] <;> exact rfl) ?_
   repeat apply Wq
   refine Wp.cT ?_
   repeat apply Wq
   refine Wp.exit ?_
   simp only [bx, Nat.reduceEqDiff]
   repeat apply Wq
   refine Wp.regionAs (is := List.range' 0 1 ++ (1 :: (List.range' 2 5 ++ []))) rfl ?_
   refine WpO.rS 1 ?_
   refine WpO.cR (every_does B H) c78 ?_
   rintro _ h9 ⟨rfl, hh9⟩
   obtain rfl := hh9.symm
   clear hh9
   refine pu ?_
   have b1 := bslice_node (H := H) (everyV_node H.next)
   have st2 := st.alloc (nodeRow everyV.cells.toList)
   obtain ⟨w0, hw0⟩ : ∃ w0, w0 = nodeV 5 0 0 0 0 (.slice (some ⟨H.next, 0, none⟩) 1 1) := ⟨_, rfl⟩
   have b2 : abuild prog 108 [(0, .int .i64 5), (2, .slice (some ⟨H.next, 0, none⟩) 1 1)] = some w0 := by rw [hw0]; exact build108k _ _ _ _
   have hwn : NodeOk (H.alloc (nodeRow everyV.cells.toList)).next w0 := by rw [hw0]; exact nodeV_ok (by simp)
   obtain ⟨q1, v', H', q2, q3⟩ := st2.push hwn (by omega)
   refine WpO.r 5 (Aq b1 (Aq b2 (Aq @q1 @q2))) ?_
   refine WpO.nil ?_
   repeat apply Wq
   refine Wp.exit ?_
   simp only [bx, Nat.reduceEqDiff]
   repeat apply Wq
   refine Wp.r (hw1 p hp) ?_
   exact ⟨(f, p + 1, v', _, H'), _, ⟨hR, by simp only; omega, by simp only; omega, q3, by simp only [List.length_append, List.length_singleton]; omega⟩, by simp only; omega, rfl, ⟨rfl, rfl, rfl, rfl, trivial⟩, rfl, rfl⟩
  repeat apply Wq
  refine Wp.runS (by simp only [bsg, reduceLT, reduceEqDiff, reduceCtorEq, byteV, show ((c.toNat : Int) == 42) = false by have := en 42 (by omega); simpa [h42] using this] <;> exact rfl) ?_
  repeat apply Wq
  refine Wp.cF ?_
  repeat apply Wq
  refine Wp.skip ?_
  by_cases h63 : c = 63
  ·rw [if_neg (by rw [h63]; decide)] at hR
   repeat apply Wq
   refine Wp.runS (by simp only [bsg, reduceLT, reduceEqDiff, reduceCtorEq, byteV, show ((c.toNat : Int) == 63) = true by rw [h63]; rfl] <;> exact rfl) ?_
   repeat apply Wq
   refine Wp.cT ?_
   repeat apply Wq
   refine Wp.exit ?_
   simp only [bx, Nat.reduceEqDiff]
   repeat apply Wq
   refine Wp.regionAs (is := List.range' 0 1 ++ (1 :: (List.range' 2 3 ++ []))) rfl ?_
   refine WpO.rS 1 ?_
   refine WpO.cR (every_does B H) c78 ?_
   rintro _ h9 ⟨rfl, hh9⟩
   obtain rfl := hh9.symm
   clear hh9
   refine pu ?_
   obtain ⟨q1, v', H', q2, q3⟩ := st.push (everyV_node H.next) (by omega)
   refine WpO.r 3 (Aq @q1 @q2) ?_
   refine WpO.nil ?_
   repeat apply Wq
   refine Wp.exit ?_
   simp only [bx, Nat.reduceEqDiff]
   repeat apply Wq
   refine Wp.r (hw1 p hp) ?_
   exact ⟨(f, p + 1, v', _, H'), _, ⟨hR, by simp only; omega, by simp only; omega, q3, by simp only [List.length_append, List.length_singleton]; omega⟩, by simp only; omega, rfl, ⟨rfl, rfl, rfl, rfl, trivial⟩, rfl, rfl⟩
  repeat apply Wq
  refine Wp.runS (by simp only [bsg, reduceLT, reduceEqDiff, reduceCtorEq, byteV, show ((c.toNat : Int) == 63) = false by have := en 63 (by omega); simpa [h63] using this] <;> exact rfl) ?_
  repeat apply Wq
  refine Wp.cF ?_
  repeat apply Wq
  refine Wp.skip ?_
  by_cases h92 : c = 92
  ·rw [if_pos h92] at hR
   repeat apply Wq
   refine Wp.runS (by simp only [bsg, reduceLT, reduceEqDiff, reduceCtorEq, byteV, show ((c.toNat : Int) == 92) = true by rw [h92]; rfl] <;> exact rfl) ?_
   repeat apply Wq
   refine Wp.cT ?_
   repeat apply Wq
   refine Wp.exit ?_
   simp only [bx, Nat.reduceEqDiff]
   repeat apply Wq
   refine Wp.r (hw1 p hp) ?_
   by_cases hend : p + 1 = T.length
   ·rw [if_pos hend] at hR
    repeat apply Wq
    refine Wp.runS (by simp only [bsg, reduceLT, reduceEqDiff, reduceCtorEq, ls9, show (((p + 1 : Nat) : Int) == (T.length : Int)) = true by rw [beq_iff_eq]; omega] <;> exact rfl) ?_
    repeat apply Wq
    refine Wp.cT ?_
    repeat apply Wq
    refine Wp.regionAs (is := List.range' 0 2 ++ (2 :: [])) rfl ?_
    refine WpO.runS 2 (by simp only [bsd, bsg, reduceLT, reduceEqDiff, reduceCtorEq, underlying125] <;> exact rfl) (by decide) ?_
    refine WpO.panicS (by simp only [bsg, reduceLT, reduceEqDiff, reduceCtorEq] <;> exact rfl) rfl (by simp only [bsg, reduceLT, reduceEqDiff, reduceCtorEq]) ?_
    rw [hR]
    exact ⟨rfl, rfl, rfl, by have := st.lo; omega, st.old⟩
   ·rw [if_neg hend] at hR
    obtain ⟨d, hd⟩ : ∃ d, T[p + 1]? = some d := ⟨_, List.getElem?_eq_getElem (by omega)⟩
    repeat apply Wq
    refine Wp.runS (by simp only [bsg, reduceLT, reduceEqDiff, reduceCtorEq, ls9, show (((p + 1 : Nat) : Int) == (T.length : Int)) = false by rw [beq_eq_false_iff_ne]; omega] <;> exact rfl) ?_
    repeat apply Wq
    refine Wp.cF ?_
    repeat apply Wq
    refine Wp.skip ?_
    repeat apply Wq
    refine Wp.regionAs (is := List.range' 0 4 ++ (4 :: (List.range' 5 3 ++ []))) rfl ?_
    refine WpO.runS 4 (by simp only [bsd, bsg, reduceLT, reduceEqDiff, reduceCtorEq, aindex_bs underlying9 hd] <;> exact rfl) (by decide) ?_
    refine WpO.cR (one_does B d H) c66 ?_
    rintro _ h9 ⟨rfl, hh9⟩
    obtain rfl := hh9.symm
    clear hh9
    refine pu ?_
    obtain ⟨q1, v', H', q2, q3⟩ := st.push (oneV_node d H.next) (by omega)
    refine WpO.r 3 (Aq @q1 @q2) ?_
    refine WpO.nil ?_
    repeat apply Wq
    refine Wp.exit ?_
    simp only [bx, Nat.reduceEqDiff]
    repeat apply Wq
    refine Wp.r (hw1 (p + 1) (by omega)) ?_
    exact ⟨(f, p + 2, v', _, H'), _, ⟨hR, by simp only; omega, by simp only; omega, q3, by simp only [List.length_append, List.length_singleton]; omega⟩, by simp only; omega, rfl, ⟨rfl, rfl, rfl, rfl, trivial⟩, rfl, rfl⟩
  rw [if_neg h92] at hR
  repeat apply Wq
  refine Wp.runS (by simp only [bsg, reduceLT, reduceEqDiff, reduceCtorEq, byteV, show ((c.toNat : Int) == 92) = false by have := en 92 (by omega); simpa [h92] using this] <;> exact rfl) ?_
  repeat apply Wq
  refine Wp.cF ?_
  repeat apply Wq
  refine Wp.skip ?_
  repeat apply Wq
  refine Wp.exit ?_
  simp only [bx, Nat.reduceEqDiff]
  repeat apply Wq
  refine Wp.regionAs (is := List.range' 0 4 ++ (4 :: (List.range' 5 3 ++ []))) rfl ?_
  refine WpO.runS 4 (by simp only [bsd, bsg, reduceLT, reduceEqDiff, reduceCtorEq, aindex_bs underlying9 hc] <;> exact rfl) (by decide) ?_
  refine WpO.cR (one_does B c H) c66 ?_
  rintro _ h9 ⟨rfl, hh9⟩
  obtain rfl := hh9.symm
  clear hh9
  refine pu ?_
  obtain ⟨q1, v', H', q2, q3⟩ := st.push (oneV_node c H.next) (by omega)
  refine WpO.r 3 (Aq @q1 @q2) ?_
  refine WpO.nil ?_
  repeat apply Wq
  refine Wp.exit ?_
  simp only [bx, Nat.reduceEqDiff]
  repeat apply Wq
  refine Wp.r (hw1 p hp) ?_
  exact ⟨(f, p + 1, v', _, H'), _, ⟨hR, by simp only; omega, by simp only; omega, q3, by simp only [List.length_append, List.length_singleton]; omega⟩, by simp only; omega, rfl, ⟨rfl, rfl, rfl, rfl, trivial⟩, rfl, rfl⟩
 ·repeat apply Wq
  refine Wp.r (Aq @ls9 (decide_eq_false hlt)) ?_
  repeat apply Wq
  refine Wp.cF ?_
  repeat apply Wq
  refine Wp.exit ?_
  simp only [bx, Nat.reduceEqDiff]
  rw [List.getElem?_eq_none (by omega)] at hR
  dsimp only at hR
  rw [hR]
  repeat apply Wq
  refine Wp.regionAs (is := List.range' 0 1 ++ (1 :: (List.range' 2 1 ++ []))) rfl ?_
  refine WpO.rS 1 ?_
  refine WpO.cS c67 ((joined_spec G H 3 v ns st.ps.read).mono ?_)
  rintro x H2 ⟨nv, rfl, hm, hn⟩
  obtain ⟨H', e1, e2, e3, e4, e5, _⟩ := node_fin (n := H2.next) (hm.get st.n) rfl hn (Nat.le_refl _)
  refine pt ?_
  refine WpO.r 1 e1 ?_
  refine WpO.nil ?_
  repeat apply Wq
  refine Wp.ret ?_
  refine ⟨rfl, rfl, _, ares_cellP rfl rfl e2, nv, rfl, ⟨by have := st.lo; have := hm.1; omega, fun j hj => ?_⟩, e5⟩
  rw [e4 j (by omega), hm.2 j (by have := st.lo; omega)]
  exact st.old j hj
def patRow (k : Int) (T : List UInt8) : AObj := .row { vs := [.int .i64 k, .string (bs T)], elem := 52 }
def patVal (k : Int) (T : List UInt8) : Value := .agg #[.int .i64 k, .string (bs T)]
theorem abox52 (h : Heap) (k : Int) (T : List UInt8) : abox h 52 (patVal k T) = (h.new, h.alloc (patRow k T)) := rfl
theorem p0 (i k : Nat) : afieldAddr prog 52 (.pointer (some ⟨i, k, none⟩)) 0 = some (.pointer (some ⟨i, k, none⟩)) := afieldAddr_eq (f := 0) (o := 0) underlying52 (by rfl) (s := 0) (by kernel_rfl) i k
theorem p1 (i k : Nat) : afieldAddr prog 52 (.pointer (some ⟨i, k, none⟩)) 1 = some (.pointer (some ⟨i, k + 1, none⟩)) := afieldAddr_eq underlying52 (by rfl) (s := 0) (by kernel_rfl) i k
theorem spot_store' {H : Heap} {j : Nat} {e0 p0 : Int} (g : H.get j = some (spotRow e0 p0)) (e p : Int) : astore prog H 31 (.pointer (some ⟨j, 0, none⟩)) (.agg #[.int .i64 e, .int .i64 p]) = some (H.set j (spotRow e p)) := by
 have := astore_agg (P := prog) (h := H) (i := j) (k := 0) (cs := [.int .i64 e, .int .i64 p]) sz27 rfl rfl
 rw [this, Heap.sts_of g (by simp) rfl rfl]; rfl
theorem node0_ok (n : Nat) : NodeOk n (nodeV 0 0 0 0 0 (.slice none 0 0)) := ⟨⟨_, _, _, _, _, _, _, _, rfl⟩, sc_flat _ _ rfl⟩
theorem treeCatch_spec {E : EXT} (G : Nat) (h : Heap) (a c : Nat) (cs : List Value) (e0 a0 : Int) (hac : c ≠ a) (ga : h.get a = some (nodeRow cs)) (hl : cs.length = 6) (gc : h.get c = some (spotRow e0 a0)) (k : Nat) :
  DoesD prog G E 62 [.pointer (some ⟨a, 0, none⟩), .pointer (some ⟨c, 0, none⟩)] (.panicking (wrongP 125 k)) h (fun r u h' => r = .returned (.tuple #[]) ∧ u = .panicking [{ v := .iface 125 (.int .i64 k), recovered := true }] ∧
   (∃ cs', h'.get a = some (nodeRow cs') ∧ cs'.length = 6 ∧ NodeOk h'.next (.agg cs'.toArray)) ∧ h'.get c = some (spotRow 6 k) ∧ h.next = h'.next ∧ ∀ j, j ≠ a → j ≠ c → h'.get j = h.get j) := by
 obtain ⟨H', e1, e2, e3, e4, e5, cs', e6, e7, e8⟩ := node_fin (n := 0) ga hl (node0_ok 0) (Nat.zero_le _)
 have gc2 : H'.get c = some (spotRow e0 a0) := by rw [e4 c hac]; exact gc
 have hbuild : abuild prog 31 [(0, .int .i64 6), (1, .int .i64 k)] = some (.agg #[.int .i64 6, .int .i64 k]) := by kernel_rfl
 refine DoesD.body func62 rfl ?_
 have hn : enterF Tryd.f62 [.pointer (some ⟨a, 0, none⟩), .pointer (some ⟨c, 0, none⟩)] = ⟨13, [(0, .pointer (some ⟨a, 0, none⟩)), (1, .pointer (some ⟨c, 0, none⟩))], []⟩ := rfl
 rw [hn]; clear hn
 repeat apply Wq
 refine Wp.regionAs (is := 0 :: (List.range' 1 6 ++ [])) rfl ?_
 refine WpO.recoverS (by simp only [bsg, reduceLT, reduceEqDiff, reduceCtorEq] <;> exact rfl) rfl (by simp only [bsg, reduceLT, reduceEqDiff, reduceCtorEq]) (by simp only [bsg, reduceLT, reduceEqDiff, reduceCtorEq] <;> exact rfl) ?_
 refine WpO.runS 6 (by simp only [bsd, bsg, reduceLT, reduceEqDiff, reduceCtorEq, aassert, underlying125, List.getElem?_toArray] <;> exact rfl) (by decide) ?_
 refine WpO.nil ?_
 repeat apply Wq
 refine Wp.rS ?_
 repeat apply Wq
 refine Wp.cT ?_
 repeat apply Wq
 refine Wp.r (Aq @build108z (Aq hbuild (Aq e1 (spot_store' gc2)))) ?_
 refine ⟨rfl, _, rfl, _, rfl, rfl, rfl, ⟨cs', ?_, e7, ?_⟩, Heap.gf gc2, by simp [e3], fun j h1 h2 => by rw [Heap.gs h2, e4 j h1]⟩
 ·rw [Heap.gs (Ne.symm hac)]; exact e6
 ·rw [← e8]; exact node0_ok _
theorem treeNo_spec {E : EXT} (G : Nat) (h : Heap) (a c : Value) :
  DoesD prog G E 62 [a, c] .returning h (fun r u h' => r = .returned (.tuple #[]) ∧ u = .returning ∧ h' = h) := by
 have no52 : aassert prog .nilIface 125 true = some (.tuple #[.int .i64 0, .bool false]) := by kernel_rfl
 refine DoesD.body func62 rfl ?_
 have hn : enterF Tryd.f62 [a, c] = ⟨13, [(0, a), (1, c)], []⟩ := rfl
 rw [hn]; clear hn
 repeat apply Wq
 refine Wp.regionAs (is := 0 :: (List.range' 1 6 ++ [])) rfl ?_
 refine WpO.recoverN (by simp only [bsg, reduceLT, reduceEqDiff, reduceCtorEq] <;> exact rfl) rfl (by simp only [bsg, reduceLT, reduceEqDiff, reduceCtorEq]) (by simp only [bsg, reduceLT, reduceEqDiff, reduceCtorEq] <;> exact rfl) ?_
 refine WpO.runS 6 (by simp only [bsd, bsg, reduceLT, reduceEqDiff, reduceCtorEq, no52, List.getElem?_toArray] <;> exact rfl) (by decide) ?_
 refine WpO.nil ?_
 repeat apply Wq
 refine Wp.rS ?_
 repeat apply Wq
 refine Wp.cF ?_
 repeat apply Wq
 refine Wp.skip ?_
 exact ⟨rfl, _, rfl, _, rfl, rfl, rfl, rfl⟩
theorem ares48 {s : List (Nat × Value)} {d : List Deferred} {h : Heap} {a c : Nat} {cs : List Value} {e p : Int} (s2 : look 2 s = some (.pointer (some ⟨a, 0, none⟩))) (s3 : look 3 s = some (.pointer (some ⟨c, 0, none⟩)))
  (ga : h.get a = some (nodeRow cs)) (hl : cs.length = 6) (gc : h.get c = some (spotRow e p)) : ares prog Tryd.f48 ⟨73, s, d⟩ h = some (.tuple #[.agg cs.toArray, .agg #[.int .i64 e, .int .i64 p]]) := by
 have hr : Tryd.f48.results.toList = [.cell 2 108, .cell 3 31] := rfl
 unfold ares
 rw [hr]
 simp only [aresults, aresult, s2, s3, Option.bind_some, node_load ga hl, aload_agg agg27 sz27, Heap.lds_of gc (k := 0) (n := 2) (by simp), Option.map_some]
 rfl
def TreeR (h : Heap) (R : Nat × Nat) (r : Ending) (h' : Heap) : Prop := ∃ nv, r = .returned (.tuple #[nv, .agg #[.int .i64 R.1, .int .i64 R.2]]) ∧ h.more h' ∧ NodeOk h'.next nv
structure TrSt (h H : Heap) : Prop where
 n : ∃ cs, H.get (h.next + 1) = some (nodeRow cs) ∧ cs.length = 6 ∧ NodeOk H.next (.agg cs.toArray)
 s : ∃ e p, H.get (h.next + 2) = some (spotRow e p)
 lo : h.next + 3 ≤ H.next
 old : ∀ j, j < h.next → H.get j = h.get j
theorem TrSt.more {h H H2 : Heap} (st : TrSt h H) (hm : H.more H2) : TrSt h H2 where
 n := by obtain ⟨cs, h1, h2, h3⟩ := st.n; exact ⟨cs, hm.get h1, h2, h3.mono hm.1⟩
 s := by obtain ⟨e, p, h1⟩ := st.s; exact ⟨e, p, hm.get h1⟩
 lo := Nat.le_trans st.lo hm.1
 old j hj := by rw [hm.2 j (by have := st.lo; omega)]; exact st.old j hj
theorem TrSt.but {h H H2 : Heap} {i : Nat} (st : TrSt h H) (hi : h.next + 3 ≤ i) (hb : H.but i H2) : TrSt h H2 where
 n := by obtain ⟨cs, h1, h2, h3⟩ := st.n; exact ⟨cs, by rw [hb.2 _ (by have := st.lo; omega) (by omega)]; exact h1, h2, h3.mono hb.1⟩
 s := by obtain ⟨e, p, h1⟩ := st.s; exact ⟨e, p, by rw [hb.2 _ (by have := st.lo; omega) (by omega)]; exact h1⟩
 lo := Nat.le_trans st.lo hb.1
 old j hj := by rw [hb.2 j (by have := st.lo; omega) (by omega)]; exact st.old j hj
end
section
open Nat (reduceLT reduceEqDiff)
open Go.Proofs Tryd
theorem build27n (e p : Int) : abuild prog 31 [(0, .int .i64 e), (1, .int .i64 p)] = some (.agg #[.int .i64 e, .int .i64 p]) := by kernel_rfl
theorem build27e (e : Int) : abuild prog 31 [(0, .int .i64 e)] = some (.agg #[.int .i64 e, .int .i64 0]) := by kernel_rfl
theorem build27z' : abuild prog 31 [] = some (.agg #[.int .i64 0, .int .i64 0]) := by kernel_rfl
theorem tr_put {h H : Heap} {n : Nat} {w : Value} (st : TrSt h H) (hw : NodeOk n w) (hn : n ≤ H.next) (e p : Int) : ∃ H1, astore prog H 108 (.pointer (some ⟨h.next + 1, 0, none⟩)) w = some H1 ∧
  astore prog H1 31 (.pointer (some ⟨h.next + 1 + 1, 0, none⟩)) (.agg #[.int .i64 e, .int .i64 p]) = some (H1.set (h.next + 1 + 1) (spotRow e p)) ∧ TrSt h (H1.set (h.next + 1 + 1) (spotRow e p)) ∧ (H1.set (h.next + 1 + 1) (spotRow e p)).get (h.next + 1 + 1) = some (spotRow e p) ∧ TrSt h H1 ∧ H1.next = H.next ∧ (∀ j, j ≠ h.next + 1 → H1.get j = H.get j) ∧ aload prog H1 108 (.pointer (some ⟨h.next + 1, 0, none⟩)) = some w := by
 obtain ⟨cs, h1, h2, _⟩ := st.n
 obtain ⟨e0, p0, s1⟩ := st.s
 obtain ⟨H1, e1, e2, e3, e4, e5, cs', e6, e7, e8⟩ := node_fin h1 h2 hw hn
 have s2 : H1.get (h.next + 2) = some (spotRow e0 p0) := by rw [e4 _ (by omega)]; exact s1
 have st1 : TrSt h H1 := ⟨⟨cs', e6, e7, by rw [← e8]; exact e5⟩, ⟨e0, p0, s2⟩, by rw [e3]; exact st.lo, fun j hj => by rw [e4 j (by omega)]; exact st.old j hj⟩
 refine ⟨H1, e1, spot_store' s2 e p, ⟨⟨cs', by rw [Heap.gs (by omega)]; exact e6, e7, by rw [← e8]; simpa using e5⟩, ⟨e, p, Heap.gf s2⟩, by simpa using st1.lo, fun j hj => by rw [Heap.gs (by omega)]; exact st1.old j hj⟩, Heap.gf s2, st1, e3, e4, e2⟩
theorem tree_does (G : Nat) (B : Base prog G) (h : Heap) (k : Int) (T : List UInt8) : Does prog G (GoodE prog B) 48 [patVal k T] h (TreeR h (treeS k T)) := by
 have c62 : canEnter prog 62 = true := by kernel_rfl
 have c63 : canEnter prog 63 = true := by kernel_rfl
 have c64 : canEnter prog 64 = true := by kernel_rfl
 have c65 : canEnter prog 65 = true := by kernel_rfl
 have c66 : canEnter prog 66 = true := by kernel_rfl
 have c67 : canEnter prog 67 = true := by kernel_rfl
 have gp : (((h.alloc (patRow k T)).alloc (nodeRow zeroCells)).alloc (spotRow 0 0)).get h.next = some (patRow k T) := by
  rw [Heap.go _ _ (by simp only [Heap.na]; omega), Heap.go _ _ (by simp)]; exact Heap.gn _ _
 have st : TrSt h (((h.alloc (patRow k T)).alloc (nodeRow zeroCells)).alloc (spotRow 0 0)) := {
  n := ⟨zeroCells, by rw [Heap.go _ _ (by simp)]; exact Heap.gn (h.alloc (patRow k T)) (nodeRow zeroCells), rfl, node0_ok _⟩
  s := ⟨0, 0, Heap.gn ((h.alloc (patRow k T)).alloc (nodeRow zeroCells)) (spotRow 0 0)⟩
  lo := by simp
  old := fun j hj => by rw [Heap.go _ _ (by simp only [Heap.na]; omega), Heap.go _ _ (by simp; omega), Heap.go _ _ hj] }
 refine Does.bodyD func48 rfl ?_
 have hn : enterF Tryd.f48 [patVal k T] = ⟨73, [(0, patVal k T)], []⟩ := rfl
 rw [hn]; clear hn
 repeat apply Wq
 refine Wp.r (Aq @abox52 (Aq @alloc108' (Aq @alloc27 @Heap.na))) ?_
 generalize ((h.alloc (patRow k T)).alloc (nodeRow zeroCells)).alloc (spotRow 0 0) = H at gp st ⊢
 repeat apply Wq
 refine Wp.regionAs (is := List.range' 0 1 ++ (1 :: [])) rfl ?_
 refine WpO.rS 1 ?_
 refine WpO.deferS (by simp only [calleeOf, fnOf, bsg, reduceLT, reduceEqDiff, reduceCtorEq] <;> exact rfl) rfl (by simp only [bsg, reduceLT, reduceEqDiff, reduceCtorEq]) (by simp only [bsg, reduceLT, reduceEqDiff, reduceCtorEq] <;> exact rfl) ?_
 refine WpO.nil ?_
 have l0 := Heap.lf gp (k := 0) rfl
 have l1 := Heap.lf gp (k := 0 + 1) rfl
 by_cases h1 : k < 1
 ·have hS : treeS k T = (2, 0) := by unfold treeS; rw [if_pos (.inl h1)]
  obtain ⟨H1, e1, e2, stF, sF, _⟩ := tr_put st (node0_ok 0) (Nat.zero_le _) 2 0
  repeat apply Wq
  refine Wp.r (Aq @p0 (Aq @lc3 (Aq l0 (decide_eq_true h1)))) ?_
  repeat apply Wq
  refine Wp.cT ?_
  repeat apply Wq
  refine Wp.r (Aq @build108z (Aq @build27e (Aq e1 e2))) ?_
  repeat apply Wq
  refine Wp.ret ?_
  refine ⟨rfl, _, rfl, ?_⟩
  refine Leaves.cons (by simp) rfl c62 ?_
  obtain ⟨e9, u9, h9, b9, rfl, rfl, rfl⟩ := treeNo_spec (E := GoodE prog B) G _ (.pointer (some ⟨h.next + 1, 0, none⟩)) (.pointer (some ⟨h.next + 1 + 1, 0, none⟩))
  obtain ⟨cs9, n1, n2, n3⟩ := stF.n
  exact ⟨_, _, _, b9, _, rfl, Leaves.ret (ares48 (cs := cs9) (e := 2) (p := 0) rfl rfl n1 n2 sF) ⟨_, by rw [hS]; rfl, ⟨Nat.le_trans (by omega) stF.lo, stF.old⟩, n3⟩⟩
 by_cases h3 : 3 < k
 ·have hS : treeS k T = (2, 0) := by unfold treeS; rw [if_pos (.inr h3)]
  obtain ⟨H1, e1, e2, stF, sF, _⟩ := tr_put st (node0_ok 0) (Nat.zero_le _) 2 0
  repeat apply Wq
  refine Wp.r (Aq @p0 (Aq @lc3 (Aq l0 (Aq (decide_eq_false h1) (decide_eq_true h3))))) ?_
  repeat apply Wq
  refine Wp.cT ?_
  repeat apply Wq
  refine Wp.r (Aq @build108z (Aq @build27e (Aq e1 e2))) ?_
  repeat apply Wq
  refine Wp.ret ?_
  refine ⟨rfl, _, rfl, ?_⟩
  refine Leaves.cons (by simp) rfl c62 ?_
  obtain ⟨e9, u9, h9, b9, rfl, rfl, rfl⟩ := treeNo_spec (E := GoodE prog B) G _ (.pointer (some ⟨h.next + 1, 0, none⟩)) (.pointer (some ⟨h.next + 1 + 1, 0, none⟩))
  obtain ⟨cs9, n1, n2, n3⟩ := stF.n
  exact ⟨_, _, _, b9, _, rfl, Leaves.ret (ares48 (cs := cs9) (e := 2) (p := 0) rfl rfl n1 n2 sF) ⟨_, by rw [hS]; rfl, ⟨Nat.le_trans (by omega) stF.lo, stF.old⟩, n3⟩⟩
 have h13 : ¬ (k < 1 ∨ 3 < k) := fun q => q.elim h1 h3
 repeat apply Wq
 refine Wp.r (Aq @p0 (Aq @lc3 (Aq l0 (Aq (decide_eq_false h1) (decide_eq_false h3))))) ?_
 repeat apply Wq
 refine Wp.cF ?_
 repeat apply Wq
 refine Wp.skip ?_
 by_cases h64 : (64 : Int) < (T.length : Int)
 ·have hS : treeS k T = (3, 64) := by unfold treeS; rw [if_neg h13, if_pos (by omega)]
  obtain ⟨H1, e1, e2, stF, sF, _⟩ := tr_put st (node0_ok 0) (Nat.zero_le _) 3 64
  repeat apply Wq
  refine Wp.r (Aq @p1 (Aq @lc9 (Aq l1 (Aq @ls9 (decide_eq_true h64))))) ?_
  repeat apply Wq
  refine Wp.cT ?_
  repeat apply Wq
  refine Wp.r (Aq @build108z (Aq @build27n (Aq e1 e2))) ?_
  repeat apply Wq
  refine Wp.ret ?_
  refine ⟨rfl, _, rfl, ?_⟩
  refine Leaves.cons (by simp) rfl c62 ?_
  obtain ⟨e9, u9, h9, b9, rfl, rfl, rfl⟩ := treeNo_spec (E := GoodE prog B) G _ (.pointer (some ⟨h.next + 1, 0, none⟩)) (.pointer (some ⟨h.next + 1 + 1, 0, none⟩))
  obtain ⟨cs9, n1, n2, n3⟩ := stF.n
  exact ⟨_, _, _, b9, _, rfl, Leaves.ret (ares48 (cs := cs9) (e := 3) (p := 64) rfl rfl n1 n2 sF) ⟨_, by rw [hS]; rfl, ⟨Nat.le_trans (by omega) stF.lo, stF.old⟩, n3⟩⟩
 have hn64 : ¬ 64 < T.length := by omega
 repeat apply Wq
 refine Wp.r (Aq @p1 (Aq @lc9 (Aq l1 (Aq @ls9 (decide_eq_false h64))))) ?_
 repeat apply Wq
 refine Wp.cF ?_
 repeat apply Wq
 refine Wp.skip ?_
 repeat apply Wq
 refine Wp.r (Aq @p0 (Aq @lc3 l0)) ?_
 by_cases h2 : k = 2
 ·subst h2
  repeat apply Wq
  refine Wp.block ?_
  repeat apply Wq
  refine Wp.runS (by simp only [bsg, reduceLT, reduceEqDiff, reduceCtorEq, show ((2 : Int) == 2) = true from rfl] <;> exact rfl) ?_
  repeat apply Wq
  refine Wp.cT ?_
  repeat apply Wq
  refine Wp.regionAs (is := List.range' 0 2 ++ (2 :: (List.range' 3 3 ++ []))) rfl ?_
  refine WpO.r 2 (Aq @p1 (Aq @lc9 l1)) ?_
  refine WpO.cS c63 ((glob_does G B H T (by omega)).mono ?_)
  intro x H2 hr
  cases hG : globS T (T.length + 1) 0 with
  | some p =>
   have hS : treeS 2 T = (6, p) := by unfold treeS; rw [if_neg h13, if_neg hn64, if_pos rfl, hG]
   rw [hG] at hr
   obtain ⟨rfl, hm⟩ := hr
   refine ⟨rfl, _, rfl, ?_⟩
   refine Leaves.cons (by simp) rfl c62 ?_
   obtain ⟨cs9, n1, n2, n3⟩ := (st.more hm).n
   obtain ⟨e8, p8, s8⟩ := (st.more hm).s
   obtain ⟨e9, u9, h9, b9, rfl, rfl, ⟨cs', k1, k2, k3⟩, k4, k5, k6⟩ := treeCatch_spec (E := GoodE prog B) G H2 (h.next + 1) (h.next + 1 + 1) cs9 e8 p8 (by omega) n1 n2 s8 p
   exact ⟨_, _, h9, b9, _, rfl, Leaves.ret (ares48 (cs := cs') (e := 6) (p := (p : Nat)) rfl rfl k1 k2 k4) ⟨_, by rw [hS]; rfl, ⟨by have := (st.more hm).lo; omega, fun j hj => by rw [k6 j (by omega) (by omega)]; exact (st.more hm).old j hj⟩, k3⟩⟩
  | none =>
   have hS : treeS 2 T = (0, 0) := by unfold treeS; rw [if_neg h13, if_neg hn64, if_pos rfl, hG]
   rw [hG] at hr
   obtain ⟨nv, rfl, hm, hn⟩ := hr
   obtain ⟨H3, e1, e2, stF, sF, _⟩ := tr_put (st.more hm) hn (Nat.le_refl _) 0 0
   refine pt ?_
   refine WpO.r 3 (Aq @build27z' (Aq e1 e2)) ?_
   refine WpO.nil ?_
   repeat apply Wq
   refine Wp.ret ?_
   refine ⟨rfl, _, rfl, ?_⟩
   refine Leaves.cons (by simp) rfl c62 ?_
   obtain ⟨e9, u9, h9, b9, rfl, rfl, rfl⟩ := treeNo_spec (E := GoodE prog B) G _ (.pointer (some ⟨h.next + 1, 0, none⟩)) (.pointer (some ⟨h.next + 1 + 1, 0, none⟩))
   obtain ⟨cs9, n1, n2, n3⟩ := stF.n
   exact ⟨_, _, _, b9, _, rfl, Leaves.ret (ares48 (cs := cs9) (e := 0) (p := 0) rfl rfl n1 n2 sF) ⟨_, by rw [hS]; rfl, ⟨Nat.le_trans (by omega) stF.lo, stF.old⟩, n3⟩⟩
 by_cases hk3 : k = 3
 ·subst hk3
  have hgr : ∀ Hx : Heap, abox Hx 130 (.agg #[.string (bs T), .int .i64 0]) = (Hx.new, Hx.alloc (regRow T 0)) := fun _ => rfl
  have hbr : abuild prog 130 [(0, .string (bs T))] = some (.agg #[.string (bs T), .int .i64 0]) := by kernel_rfl
  repeat apply Wq
  refine Wp.block ?_
  repeat apply Wq
  refine Wp.runS (by simp only [bsg, reduceLT, reduceEqDiff, reduceCtorEq, show ((3 : Int) == 2) = false from rfl] <;> exact rfl) ?_
  repeat apply Wq
  refine Wp.cF ?_
  repeat apply Wq
  refine Wp.runS (by simp only [bsg, reduceLT, reduceEqDiff, reduceCtorEq, show ((3 : Int) == 3) = true from rfl] <;> exact rfl) ?_
  repeat apply Wq
  refine Wp.cT ?_
  repeat apply Wq
  refine Wp.r (Aq @p1 (Aq @lc9 (Aq l1 (Aq hbr hgr)))) ?_
  have st1 := st.more (Heap.ma H (regRow T 0))
  have g1' : (H.alloc (regRow T 0)).get H.next = some (regRow T 0) := Heap.gn _ _
  have hi3 : h.next + 3 ≤ H.next := st.lo
  generalize H.alloc (regRow T 0) = H1 at st1 g1' ⊢
  generalize H.next = i at g1' hi3 ⊢
  repeat apply Wq
  refine Wp.regionAs (is := List.range' 0 1 ++ (1 :: (List.range' 2 1 ++ []))) rfl ?_
  refine WpO.rS 1 ?_
  refine WpO.cS c64 ((re_does G B T (by omega) (3 * T.length + 3) 0 0 H1 i (by omega) g1' (Nat.zero_le _) (by omega)).mono ?_)
  intro x H2 hr
  cases hG : reS T (3 * T.length + 3) 0 0 with
  | error p =>
   have hS : treeS 3 T = (6, p) := by unfold treeS; rw [if_neg h13, if_neg hn64, if_neg (by decide), if_pos rfl, hG]
   rw [hG] at hr
   obtain ⟨rfl, hb⟩ := hr
   refine ⟨rfl, _, rfl, ?_⟩
   refine Leaves.cons (by simp) rfl c62 ?_
   obtain ⟨cs9, n1, n2, n3⟩ := (st1.but hi3 hb).n
   obtain ⟨e8, p8, s8⟩ := (st1.but hi3 hb).s
   obtain ⟨e9, u9, h9, b9, rfl, rfl, ⟨cs', k1, k2, k3⟩, k4, k5, k6⟩ := treeCatch_spec (E := GoodE prog B) G H2 (h.next + 1) (h.next + 1 + 1) cs9 e8 p8 (by omega) n1 n2 s8 p
   exact ⟨_, _, h9, b9, _, rfl, Leaves.ret (ares48 (cs := cs') (e := 6) (p := (p : Nat)) rfl rfl k1 k2 k4) ⟨_, by rw [hS]; rfl, ⟨by have := (st1.but hi3 hb).lo; omega, fun j hj => by rw [k6 j (by omega) (by omega)]; exact (st1.but hi3 hb).old j hj⟩, k3⟩⟩
  | ok b =>
   rw [hG] at hr
   obtain ⟨nv, rfl, hn, hb, hgb⟩ := hr
   have st2 := st1.but hi3 hb
   obtain ⟨H3, e1, _, _, _, st3, hn3, ho3, ld3⟩ := tr_put st2 hn (Nat.le_refl _) 0 0
   have g3 : H3.get i = some (regRow T b) := by rw [ho3 i (by omega)]; exact hgb
   refine pt ?_
   refine WpO.r 1 e1 ?_
   refine WpO.nil ?_
   repeat apply Wq
   refine Wp.regionAs (is := List.range' 0 1 ++ (1 :: (List.range' 2 5 ++ []))) rfl ?_
   refine WpO.rS 1 ?_
   refine WpO.cR (nextR_does G H3 i T b g3) c65 ?_
   rintro _ h9 ⟨rfl, hh9⟩
   obtain rfl := hh9.symm
   clear hh9
   refine pu ?_
   refine WpO.runS 5 (by simp only [bsd, bsg, reduceLT, reduceEqDiff, reduceCtorEq, nextV, List.getElem?_toArray] <;> exact rfl) (by decide) ?_
   refine WpO.nil ?_
   repeat apply Wq
   refine Wp.rS ?_
   by_cases hbl : b < T.length
   ·have hS : treeS 3 T = (6, b) := by unfold treeS; rw [if_neg h13, if_neg hn64, if_neg (by decide), if_pos rfl, hG]; exact if_pos hbl
    have l3 := Heap.lf g3 (k := 0 + 1) rfl
    rw [List.getElem?_eq_getElem hbl]
    repeat apply Wq
    refine Wp.condT (by simp only [bsg, reduceLT, reduceEqDiff, reduceCtorEq, Option.isSome]) ?_
    repeat apply Wq
    refine Wp.regionAs (is := List.range' 0 5 ++ (5 :: [])) rfl ?_
    refine WpO.runS 5 (by simp only [bsd, bsg, reduceLT, reduceEqDiff, reduceCtorEq, g1, lc3, l3, underlying125] <;> exact rfl) (by decide) ?_
    refine WpO.panicS (by simp only [bsg, reduceLT, reduceEqDiff, reduceCtorEq] <;> exact rfl) rfl (by simp only [bsg, reduceLT, reduceEqDiff, reduceCtorEq]) ?_
    refine ⟨rfl, _, rfl, ?_⟩
    refine Leaves.cons (by simp) rfl c62 ?_
    obtain ⟨cs9, n1, n2, n3⟩ := (st3).n
    obtain ⟨e8, p8, s8⟩ := (st3).s
    obtain ⟨e9, u9, h9, b9, rfl, rfl, ⟨cs', k1, k2, k3⟩, k4, k5, k6⟩ := treeCatch_spec (E := GoodE prog B) G H3 (h.next + 1) (h.next + 1 + 1) cs9 e8 p8 (by omega) n1 n2 s8 b
    exact ⟨_, _, h9, b9, _, rfl, Leaves.ret (ares48 (cs := cs') (e := 6) (p := (b : Nat)) rfl rfl k1 k2 k4) ⟨_, by rw [hS]; rfl, ⟨by have := (st3).lo; omega, fun j hj => by rw [k6 j (by omega) (by omega)]; exact (st3).old j hj⟩, k3⟩⟩
   ·have hS : treeS 3 T = (0, 0) := by unfold treeS; rw [if_neg h13, if_neg hn64, if_neg (by decide), if_pos rfl, hG]; exact if_neg hbl
    rw [List.getElem?_eq_none (by omega)]
    repeat apply Wq
    refine Wp.condF (by simp only [bsg, reduceLT, reduceEqDiff, reduceCtorEq, Option.isSome]) ?_
    repeat apply Wq
    refine Wp.skip ?_
    obtain ⟨H4, e4, e5, stF, sF, _⟩ := tr_put st3 (n := H3.next) (by rw [hn3]; exact hn) (Nat.le_refl _) 0 0
    repeat apply Wq
    refine Wp.r (Aq ld3 (Aq @build27z' (Aq e4 e5))) ?_
    repeat apply Wq
    refine Wp.ret ?_
    refine ⟨rfl, _, rfl, ?_⟩
    refine Leaves.cons (by simp) rfl c62 ?_
    obtain ⟨e9, u9, h9, b9, rfl, rfl, rfl⟩ := treeNo_spec (E := GoodE prog B) G _ (.pointer (some ⟨h.next + 1, 0, none⟩)) (.pointer (some ⟨h.next + 1 + 1, 0, none⟩))
    obtain ⟨cs9, n1, n2, n3⟩ := stF.n
    exact ⟨_, _, _, b9, _, rfl, Leaves.ret (ares48 (cs := cs9) (e := 0) (p := 0) rfl rfl n1 n2 sF) ⟨_, by rw [hS]; rfl, ⟨Nat.le_trans (by omega) stF.lo, stF.old⟩, n3⟩⟩
 have hS : treeS k T = (0, 0) := by unfold treeS; rw [if_neg h13, if_neg hn64, if_neg h2, if_neg hk3]
 repeat apply Wq
 refine Wp.block ?_
 repeat apply Wq
 refine Wp.runS (by simp only [bsg, reduceLT, reduceEqDiff, reduceCtorEq, show (k == 2) = false by simpa using h2] <;> exact rfl) ?_
 repeat apply Wq
 refine Wp.cF ?_
 repeat apply Wq
 refine Wp.runS (by simp only [bsg, reduceLT, reduceEqDiff, reduceCtorEq, show (k == 3) = false by simpa using hk3] <;> exact rfl) ?_
 repeat apply Wq
 refine Wp.cF ?_
 repeat apply Wq
 refine Wp.skip ?_
 repeat apply Wq
 refine Wp.rS ?_
 repeat apply Wq
 refine Wp.r (Aq @p1 (Aq @lc9 (Aq l1 @ls9))) ?_
 repeat apply Wq
 refine Wp.block ?_
 refine Wp.loopI (X := Nat × Value × List Value × Heap) (fun x => [(1, .pointer (some ⟨h.next, 0, none⟩)), (2, .pointer (some ⟨h.next + 1, 0, none⟩)), (3, .pointer (some ⟨h.next + 1 + 1, 0, none⟩)), (7, x.2.1), (57, .int .i64 T.length), (58, .int .i64 x.1)]) (fun x => x.2.2.2)
  (fun x => x.1 ≤ T.length ∧ TrSt h x.2.2.2 ∧ x.2.2.2.get h.next = some (patRow k T) ∧ Parts (h.next + 3) x.2.2.2 x.2.1 x.2.2.1 ∧ x.2.2.1.length ≤ x.1) (fun x => T.length - x.1)
  (0, .slice none 0 0, [], H) ⟨Nat.zero_le _, st, gp, Parts.nil _ _, Nat.zero_le _⟩ ⟨rfl, rfl, rfl, rfl, rfl, rfl, trivial⟩ rfl ?_
 clear st gp l0 l1 H
 rintro ⟨p, v, ns, H⟩ ⟨hp, st, gp, ps, hl⟩
 simp only at hp st gp ps hl
 by_cases hlt : (p : Int) < (T.length : Int)
 ·repeat apply Wq
  refine Wp.r (decide_eq_true hlt) ?_
  repeat apply Wq
  refine Wp.cT ?_
  repeat apply Wq
  refine Wp.skip ?_
  repeat apply Wq
  refine Wp.block ?_
  obtain ⟨c, hc⟩ : ∃ c, T[p]? = some c := ⟨_, List.getElem?_eq_getElem (by omega)⟩
  have l1 := Heap.lf gp (k := 0 + 1) rfl
  repeat apply Wq
  refine Wp.rS ?_
  repeat apply Wq
  refine Wp.regionAs (is := List.range' 0 5 ++ (5 :: (List.range' 6 3 ++ []))) rfl ?_
  refine WpO.runS 5 (by simp only [bsd, bsg, reduceLT, reduceEqDiff, reduceCtorEq, p1, lc9, l1, aindex_bs underlying9 hc] <;> exact rfl) (by decide) ?_
  refine WpO.cR (one_does B c H) c66 ?_
  rintro _ h9 ⟨rfl, hh9⟩
  obtain rfl := hh9.symm
  clear hh9
  refine pu ?_
  obtain ⟨q1, v', H', q2, q3, q4, q5, q6⟩ := ps.push (oneV_node c H.next) st.lo (by omega)
  refine WpO.r 3 (Aq @q1 @q2) ?_
  refine WpO.nil ?_
  have hw1 : IntKind.i64.wrap ((p : Int) + 1) = ((p + 1 : Nat) : Int) := by rw [wrap_in (by omega) (by omega)]; omega
  repeat apply Wq
  refine Wp.r hw1 ?_
  have st' : TrSt h H' := {
   n := by obtain ⟨cs, h1, h2, h3⟩ := st.n; exact ⟨cs, by rw [q6 _ (by omega)]; exact h1, h2, h3.mono q4⟩
   s := by obtain ⟨e, p, h1⟩ := st.s; exact ⟨e, p, by rw [q6 _ (by omega)]; exact h1⟩
   lo := Nat.le_trans st.lo q4
   old := fun j hj => by rw [q6 j (by omega)]; exact st.old j hj }
  exact ⟨(p + 1, v', _, H'), _, ⟨by simp only; omega, st', by rw [q6 _ (by omega)]; exact gp, q3, by simp only [List.length_append, List.length_singleton]; omega⟩, by simp only; omega, rfl, ⟨rfl, rfl, rfl, rfl, rfl, rfl, trivial⟩, rfl, rfl⟩
 ·repeat apply Wq
  refine Wp.r (decide_eq_false hlt) ?_
  repeat apply Wq
  refine Wp.cF ?_
  repeat apply Wq
  refine Wp.exit ?_
  simp only [bx, Nat.reduceEqDiff]
  repeat apply Wq
  refine Wp.regionAs (is := List.range' 0 1 ++ (1 :: (List.range' 2 3 ++ []))) rfl ?_
  refine WpO.rS 1 ?_
  refine WpO.cS c67 ((joined_spec G H 3 v ns ps.read).mono ?_)
  rintro x H2 ⟨nv, rfl, hm, hn⟩
  obtain ⟨H3, e1, e2, stF, sF, _⟩ := tr_put (st.more hm) hn (Nat.le_refl _) 0 0
  refine pt ?_
  refine WpO.r 3 (Aq @build27z' (Aq e1 e2)) ?_
  refine WpO.nil ?_
  repeat apply Wq
  refine Wp.ret ?_
  refine ⟨rfl, _, rfl, ?_⟩
  refine Leaves.cons (by simp) rfl c62 ?_
  obtain ⟨e9, u9, h9, b9, rfl, rfl, rfl⟩ := treeNo_spec (E := GoodE prog B) G _ (.pointer (some ⟨h.next + 1, 0, none⟩)) (.pointer (some ⟨h.next + 1 + 1, 0, none⟩))
  obtain ⟨cs9, n1, n2, n3⟩ := stF.n
  exact ⟨_, _, _, b9, _, rfl, Leaves.ret (ares48 (cs := cs9) (e := 0) (p := 0) rfl rfl n1 n2 sF) ⟨_, by rw [hS]; rfl, ⟨Nat.le_trans (by omega) stF.lo, stF.old⟩, n3⟩⟩
end
end Go.Mini
