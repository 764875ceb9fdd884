import Derived.Test.YtjgmccbjffncaaaDoorPLexZc
import Derived.Test.YtjgmccbjffncaaaDoorMiniYOtoYS
import Derived.Test.YtjgmccbjffncaaaDoorPLexF
import Derived.Test.YtjgmccbjffncaaaDoorPLexAtoPLexC
import Derived.Test.YtjgmccbjffncaaaDoorMiniStoYN
set_option maxHeartbeats 8000000
set_option maxRecDepth 100000
set_option linter.unusedSimpArgs false
namespace Go.Mini
section
open Nat (reduceLT reduceEqDiff)
open Go.Proofs Tryd
def quotedV : SR → Value
 | .bad k => .tuple #[.string (bs []), .int .i64 0, .agg #[.int .i64 6, .int .i64 k]]
 | .long k => .tuple #[.string (bs []), .int .i64 0, .agg #[.int .i64 3, .int .i64 k]]
 | .ok out k => .tuple #[.string (bs out), .int .i64 (k + 1 : Nat), .agg #[.int .i64 0, .int .i64 0]]
theorem alloc9 (h : Heap) : aalloc prog h 9 = some (h.new, h.alloc (strRow [])) := aalloc_eq (z := .string (bs [])) (by kernel_rfl) rfl
def spotRow (e a : Int) : AObj := .row { vs := [.int .i64 e, .int .i64 a], elem := 31 }
theorem alloc27 (h : Heap) : aalloc prog h 31 = some (h.new, h.alloc (spotRow 0 0)) := aalloc_eq (z := .agg #[.int .i64 0, .int .i64 0]) (by kernel_rfl) rfl
theorem sz27 : (prog.info? 31).map (·.size) = some 2 := by kernel_rfl
theorem agg27 : Program.agg prog 31 = some true := by kernel_rfl
theorem catch_spec {E : EXT} (G : Nat) (h : Heap) (a b c : Nat) (x : Int) (s : List UInt8) (e0 a0 : Int) (hab : b ≠ a) (hac : c ≠ a) (hbc : c ≠ b) (ga : h.get a = some (strRow s)) (gb : h.get b = some (intRow x)) (gc : h.get c = some (spotRow e0 a0)) (t : TypeId) (k : Nat) (err : Int) (ht : t = 125 ∧ err = 6 ∨ t = 135 ∧ err = 3) :
  DoesD prog G E 69 [.pointer (some ⟨a, 0, none⟩), .pointer (some ⟨b, 0, none⟩), .pointer (some ⟨c, 0, none⟩)] (.panicking (wrongP t k)) h (fun r u h' => r = .returned (.tuple #[]) ∧ u = .panicking [{ v := .iface t (.int .i64 k), recovered := true }] ∧
   h'.get a = some (strRow []) ∧ h'.get b = some (intRow 0) ∧ h'.get c = some (spotRow err k)) := by
 have hs1 : astore prog h 9 (.pointer (some ⟨a, 0, none⟩)) (.string ⟨#[]⟩) = some (h.set a (strRow [])) := by
  rw [astore_cell sz9 rfl, Heap.sts_of ga (by simp) rfl rfl]; rfl
 have hs2 : astore prog (h.set a (strRow [])) 3 (.pointer (some ⟨b, 0, none⟩)) (.int .i64 0) = some ((h.set a (strRow [])).set b (intRow 0)) := by
  rw [astore_cell sz3 rfl, Heap.sts_of (by rw [Heap.gs hab]; exact gb) (by simp) rfl rfl]; rfl
 have hs3 : astore prog ((h.set a (strRow [])).set b (intRow 0)) 31 (.pointer (some ⟨c, 0, none⟩)) (.agg #[.int .i64 err, .int .i64 k]) = some (((h.set a (strRow [])).set b (intRow 0)).set c (spotRow err k)) := by
  have := astore_agg (P := prog) (h := (h.set a (strRow [])).set b (intRow 0)) (i := c) (k := 0) (cs := [.int .i64 err, .int .i64 k]) sz27 rfl rfl
  rw [this, Heap.sts_of (by rw [Heap.gs hbc, Heap.gs hac]; exact gc) (by simp) rfl rfl]; rfl
 have hfin : (((h.set a (strRow [])).set b (intRow 0)).set c (spotRow err k)).get a = some (strRow []) ∧ (((h.set a (strRow [])).set b (intRow 0)).set c (spotRow err k)).get b = some (intRow 0) ∧ (((h.set a (strRow [])).set b (intRow 0)).set c (spotRow err k)).get c = some (spotRow err k) := by
  refine ⟨?_, ?_, ?_⟩
  ·rw [Heap.gs (Ne.symm hac), Heap.gs (Ne.symm hab)]; exact Heap.gf ga
  ·rw [Heap.gs (Ne.symm hbc)]; exact Heap.gf (by rw [Heap.gs hab]; exact gb)
  ·exact Heap.gf (by rw [Heap.gs hbc, Heap.gs hac]; exact gc)
 have hbuild : ∀ e : Int, abuild prog 31 [(0, .int .i64 e), (1, .int .i64 k)] = some (.agg #[.int .i64 e, .int .i64 k]) := fun e => by kernel_rfl
 have no52 : aassert prog (.iface 135 (.int .i64 k)) 125 true = some (.tuple #[.int .i64 0, .bool false]) := by kernel_rfl
 rcases ht with ⟨rfl, rfl⟩ | ⟨rfl, rfl⟩
 ·refine DoesD.body func69 rfl ?_
  have hn : enterF Tryd.f69 [.pointer (some ⟨a, 0, none⟩), .pointer (some ⟨b, 0, none⟩), .pointer (some ⟨c, 0, none⟩)] = ⟨16, [(0, .pointer (some ⟨a, 0, none⟩)), (1, .pointer (some ⟨b, 0, none⟩)), (2, .pointer (some ⟨c, 0, none⟩))], []⟩ := rfl
  rw [hn]; clear hn
  repeat apply Wq
  refine Wp.regionAs (is := 0 :: []) rfl ?_
  refine WpO.recoverS (by simp only [bsg, reduceLT, reduceEqDiff, reduceCtorEq] <;> exact rfl) rfl (by simp only [bsg, reduceLT, reduceEqDiff, reduceCtorEq]) (by simp only [bsg, reduceLT, reduceEqDiff, reduceCtorEq] <;> exact rfl) ?_
  refine WpO.nil ?_
  repeat apply Wq
  refine Wp.block ?_
  repeat apply Wq
  refine Wp.runS (by simp only [bsg, reduceLT, reduceEqDiff, reduceCtorEq, aassert, underlying125] <;> exact rfl) ?_
  repeat apply Wq
  refine Wp.cT ?_
  repeat apply Wq
  refine Wp.rS ?_
  repeat apply Wq
  refine Wp.r (Aq hbuild (Aq hs1 (Aq hs2 hs3))) ?_
  exact ⟨rfl, _, rfl, _, rfl, rfl, rfl, hfin⟩
 ·refine DoesD.body func69 rfl ?_
  have hn : enterF Tryd.f69 [.pointer (some ⟨a, 0, none⟩), .pointer (some ⟨b, 0, none⟩), .pointer (some ⟨c, 0, none⟩)] = ⟨16, [(0, .pointer (some ⟨a, 0, none⟩)), (1, .pointer (some ⟨b, 0, none⟩)), (2, .pointer (some ⟨c, 0, none⟩))], []⟩ := rfl
  rw [hn]; clear hn
  repeat apply Wq
  refine Wp.regionAs (is := 0 :: []) rfl ?_
  refine WpO.recoverS (by simp only [bsg, reduceLT, reduceEqDiff, reduceCtorEq] <;> exact rfl) rfl (by simp only [bsg, reduceLT, reduceEqDiff, reduceCtorEq]) (by simp only [bsg, reduceLT, reduceEqDiff, reduceCtorEq] <;> exact rfl) ?_
  refine WpO.nil ?_
  repeat apply Wq
  refine Wp.block ?_
  repeat apply Wq
  refine Wp.r no52 ?_
  repeat apply Wq
  refine Wp.cF ?_
  repeat apply Wq
  refine Wp.runS (by simp only [bsg, reduceLT, reduceEqDiff, reduceCtorEq, aassert, underlying135] <;> exact rfl) ?_
  repeat apply Wq
  refine Wp.cT ?_
  repeat apply Wq
  refine Wp.rS ?_
  repeat apply Wq
  refine Wp.r (Aq hbuild (Aq hs1 (Aq hs2 hs3))) ?_
  exact ⟨rfl, _, rfl, _, rfl, rfl, rfl, hfin⟩
theorem nocatch_spec {E : EXT} (G : Nat) (h : Heap) (a b c : Value) :
  DoesD prog G E 69 [a, b, c] .returning h (fun r u h' => r = .returned (.tuple #[]) ∧ u = .returning ∧ h' = h) := by
 have no52 : aassert prog .nilIface 125 true = some (.tuple #[.int .i64 0, .bool false]) := by kernel_rfl
 have no53 : aassert prog .nilIface 135 true = some (.tuple #[.int .i64 0, .bool false]) := by kernel_rfl
 refine DoesD.body func69 rfl ?_
 have hn : enterF Tryd.f69 [a, b, c] = ⟨16, [(0, a), (1, b), (2, c)], []⟩ := rfl
 rw [hn]; clear hn
 repeat apply Wq
 refine Wp.regionAs (is := 0 :: []) rfl ?_
 refine WpO.recoverN (by simp only [bsg, reduceLT, reduceEqDiff, reduceCtorEq] <;> exact rfl) rfl (by simp only [bsg, reduceLT, reduceEqDiff, reduceCtorEq]) (by simp only [bsg, reduceLT, reduceEqDiff, reduceCtorEq] <;> exact rfl) ?_
 refine WpO.nil ?_
 repeat apply Wq
 refine Wp.block ?_
 repeat apply Wq
 refine Wp.r no52 ?_
 repeat apply Wq
 refine Wp.cF ?_
 repeat apply Wq
 refine Wp.r no53 ?_
 repeat apply Wq
 refine Wp.cF ?_
 repeat apply Wq
 refine Wp.skip ?_
 exact ⟨rfl, _, rfl, _, rfl, rfl, rfl, rfl⟩
theorem ares25 {s : List (Nat × Value)} {d : List Deferred} {h : Heap} {a b c : Nat} {out : List UInt8} {n e p : Int} (s4 : look 4 s = some (.pointer (some ⟨a, 0, none⟩))) (s5 : look 5 s = some (.pointer (some ⟨b, 0, none⟩))) (s6 : look 6 s = some (.pointer (some ⟨c, 0, none⟩)))
  (ga : h.get a = some (strRow out)) (gb : h.get b = some (intRow n)) (gc : h.get c = some (spotRow e p)) : ares prog Tryd.f53 ⟨25, s, d⟩ h = some (.tuple #[.string (bs out), .int .i64 n, .agg #[.int .i64 e, .int .i64 p]]) := by
 have hr : Tryd.f53.results.toList = [.cell 4 9, .cell 5 3, .cell 6 31] := rfl
 unfold ares
 rw [hr]
 simp only [aresults, aresult, s4, s5, s6, Option.bind_some, lc9, lc3, aload_agg agg27 sz27, Heap.lf ga (k := 0) rfl, Heap.lf gb (k := 0) rfl, Heap.lds_of gc (k := 0) (n := 2) (by simp), Option.map_some]
 rfl
theorem quoted_bare (G : Nat) (B : Base prog G) (h : Heap) (T : List UInt8) (most : Int) (hT : T.length ≤ 1000000) (hm : -1 ≤ most) :
  Does prog G (GoodE prog B) 53 [.string (bs T), .int .i64 most] h (fun r _ => r = .returned (quotedV (scanQ most T))) := by
 have c31 : canEnter prog 69 = true := by kernel_rfl
 have c32 : canEnter prog 70 = true := by kernel_rfl
 refine Does.bodyD func53 rfl ?_
 have hn : enterF Tryd.f53 [.string (bs T), .int .i64 most] = ⟨25, [(0, .string (bs T)), (1, .int .i64 most)], []⟩ := rfl
 rw [hn]; clear hn
 repeat apply Wq
 refine Wp.r (Aq @alloc9 (Aq @alloc3 (Aq @alloc27 @Heap.na))) ?_
 have g0 : (((h.alloc (strRow [])).alloc (intRow 0)).alloc (spotRow 0 0)).get h.next = some (strRow []) := by
  rw [Heap.go _ _ (by simp only [Heap.na]; omega), Heap.go _ _ (by simp)]; exact Heap.gn _ _
 have g1 : (((h.alloc (strRow [])).alloc (intRow 0)).alloc (spotRow 0 0)).get (h.next + 1) = some (intRow 0) := by
  rw [Heap.go _ _ (by simp)]
  have := Heap.gn (h.alloc (strRow [])) (intRow 0)
  simpa using this
 have g2 : (((h.alloc (strRow [])).alloc (intRow 0)).alloc (spotRow 0 0)).get (h.next + 1 + 1) = some (spotRow 0 0) := by
  have := Heap.gn ((h.alloc (strRow [])).alloc (intRow 0)) (spotRow 0 0)
  simpa using this
 generalize ((h.alloc (strRow [])).alloc (intRow 0)).alloc (spotRow 0 0) = H at g0 g1 g2 ⊢
 repeat apply Wq
 refine Wp.regionAs (is := List.range' 0 1 ++ (1 :: [])) rfl ?_
 refine WpO.rS 1 ?_
 refine WpO.deferS (by simp only [calleeOf, fnOf, bsg, reduceLT, reduceEqDiff, reduceCtorEq] <;> exact rfl) rfl (by simp only [bsg, reduceLT, reduceEqDiff, reduceCtorEq]) (by simp only [bsg, reduceLT, reduceEqDiff, reduceCtorEq] <;> exact rfl) ?_
 refine WpO.nil ?_
 have hmax : (max most (-1 : Int)) = most := by omega
 repeat apply Wq
 refine Wp.regionAs (is := List.range' 0 3 ++ (3 :: (List.range' 4 5 ++ []))) rfl ?_
 refine WpO.r 3 (Aq @amm_two hmax) ?_
 refine WpO.cS c32 ((scan_spec G B H T most hT).mono ?_)
 intro r h2 hr
 cases hR : scanQ most T with
 | bad k =>
  rw [hR] at hr
  obtain ⟨rfl, hk⟩ := hr
  refine ⟨rfl, _, rfl, ?_⟩
  refine Leaves.cons (by simp) rfl c31 ?_
  obtain ⟨e, u1, h1, b, rfl, rfl, q1, q2, q3⟩ := catch_spec (E := GoodE prog B) G h2 h.next (h.next + 1) (h.next + 1 + 1) 0 [] 0 0 (by omega) (by omega) (by omega) (hk.2 _ _ g0 rfl) (hk.2 _ _ g1 rfl) (hk.2 _ _ g2 rfl) 125 k 6 (.inl ⟨rfl, rfl⟩)
  exact ⟨_, _, h1, b, _, rfl, Leaves.ret (ares25 rfl rfl rfl q1 q2 q3) rfl⟩
 | long k =>
  rw [hR] at hr
  obtain ⟨rfl, hk⟩ := hr
  refine ⟨rfl, _, rfl, ?_⟩
  refine Leaves.cons (by simp) rfl c31 ?_
  obtain ⟨e, u1, h1, b, rfl, rfl, q1, q2, q3⟩ := catch_spec (E := GoodE prog B) G h2 h.next (h.next + 1) (h.next + 1 + 1) 0 [] 0 0 (by omega) (by omega) (by omega) (hk.2 _ _ g0 rfl) (hk.2 _ _ g1 rfl) (hk.2 _ _ g2 rfl) 135 k 3 (.inr ⟨rfl, rfl⟩)
  exact ⟨_, _, h1, b, _, rfl, Leaves.ret (ares25 rfl rfl rfl q1 q2 q3) rfl⟩
 | ok out k =>
  rw [hR] at hr
  obtain ⟨vp, ps, rfl, hk, hp, hpsk, hkT⟩ := hr
  have k0 := hk.2 _ _ g0 rfl
  have k1 := hk.2 _ _ g1 rfl
  have k2 := hk.2 _ _ g2 rfl
  obtain ⟨bp, rfl, hgp⟩ : ∃ bp, vp = .slice (some ⟨bp, 0, none⟩) (ps ++ [k]).length (ps ++ [k]).length ∧ h2.get bp = some (grownRow 3 ((ps ++ [k]).map fun n : Nat => Value.int .i64 n)) := by
   rcases hp with ⟨_, h1, _⟩ | hp
   ·simp at h1
   ·exact hp
  generalize hn : (ps ++ [k]).length = n at *
  have hn0 : 0 < n := by rw [← hn]; simp
  have hnb : n ≤ 2000000 := by rw [← hn]; simp; omega
  refine pt ?_
  have hs1 : astore prog h2 9 (.pointer (some ⟨h.next, 0, none⟩)) (.string (bs out)) = some (h2.set h.next (strRow out)) := by
   rw [astore_cell sz9 rfl, Heap.sts_of k0 (by simp) rfl rfl]; rfl
  refine WpO.r 5 hs1 ?_
  refine WpO.nil ?_
  have hbp : bp ≠ h.next ∧ bp ≠ h.next + 1 ∧ bp ≠ h.next + 1 + 1 := by
   exact ⟨ne_of_plain k0 hgp rfl rfl, ne_of_plain k1 hgp rfl rfl, ne_of_plain k2 hgp rfl rfl⟩
  have m0 : (h2.set h.next (strRow out)).get h.next = some (strRow out) := Heap.gf k0
  have m1 : (h2.set h.next (strRow out)).get (h.next + 1) = some (intRow 0) := by rw [Heap.gs (by omega)]; exact k1
  have m2 : (h2.set h.next (strRow out)).get (h.next + 1 + 1) = some (spotRow 0 0) := by rw [Heap.gs (by omega)]; exact k2
  have mp : (h2.set h.next (strRow out)).get bp = some (grownRow 3 ((ps ++ [k]).map fun n : Nat => Value.int .i64 n)) := by rw [Heap.gs hbp.1]; exact hgp
  generalize h2.set h.next (strRow out) = h3 at m0 m1 m2 mp ⊢
  have hlast : ∀ H : Heap, H.get bp = some (grownRow 3 ((ps ++ [k]).map fun n : Nat => Value.int .i64 n)) → H.ld bp (n - 1) = some (.int .i64 (k : Nat)) := by
   intro H hH
   refine Heap.lf hH ?_
   simp only [List.map_append, List.map_cons, List.map_nil]
   rw [List.getElem?_append_right (by simp [← hn]), ← hn]
   simp
  have hK := hlast h3 mp
  have hw1 : IntKind.i64.wrap ((n : Int) - 1) = ((n - 1 : Nat) : Int) := by rw [wrap_in (by omega) (by omega)]; omega
  have hix : aindexAddr prog 38 (.slice (some ⟨bp, 0, none⟩) n n) (.int .i64 ((n - 1 : Nat) : Int)) = some (.pointer (some ⟨bp, n - 1, none⟩)) := by
   rw [aindexAddr_slice underlying38 sz3 (by omega) (by omega)]; simp
  have hw2 : IntKind.i64.wrap ((k : Int) + 1) = ((k + 1 : Nat) : Int) := by rw [wrap_in (by omega) (by omega)]; omega
  have hbuild : abuild prog 31 [] = some (.agg #[.int .i64 0, .int .i64 0]) := by kernel_rfl
  have hs2 : astore prog h3 9 (.pointer (some ⟨h.next, 0, none⟩)) (.string (bs out)) = some (h3.set h.next (strRow out)) := by
   rw [astore_cell sz9 rfl, Heap.sts_of m0 (by simp) rfl rfl]; rfl
  have hs3 : astore prog (h3.set h.next (strRow out)) 3 (.pointer (some ⟨h.next + 1, 0, none⟩)) (.int .i64 (k + 1 : Nat)) = some ((h3.set h.next (strRow out)).set (h.next + 1) (intRow (k + 1 : Nat))) := by
   rw [astore_cell sz3 rfl, Heap.sts_of (by rw [Heap.gs (by omega)]; exact m1) (by simp) rfl rfl]; rfl
  have hs4 : astore prog ((h3.set h.next (strRow out)).set (h.next + 1) (intRow (k + 1 : Nat))) 31 (.pointer (some ⟨h.next + 1 + 1, 0, none⟩)) (.agg #[.int .i64 0, .int .i64 0]) = some (((h3.set h.next (strRow out)).set (h.next + 1) (intRow (k + 1 : Nat))).set (h.next + 1 + 1) (spotRow 0 0)) := by
   have := astore_agg (P := prog) (h := (h3.set h.next (strRow out)).set (h.next + 1) (intRow (k + 1 : Nat))) (i := h.next + 1 + 1) (k := 0) (cs := [.int .i64 0, .int .i64 0]) sz27 rfl rfl
   rw [this, Heap.sts_of (by rw [Heap.gs (by omega), Heap.gs (by omega)]; exact m2) (by simp) rfl rfl]; rfl
  repeat apply Wq
  refine Wp.drawAs [19, 22] [] 2 (fun H => H.ld bp (n - 1) = some (.int .i64 (k : Nat))) mixed (by kernel_rfl) hK ?_
  refine DrT.run 3 (by simp only [bsd, bss, bsg, reduceLT, reduceEqDiff, reduceCtorEq, lc9, Heap.lf m0 (k := 0) rfl] <;> exact rfl) rfl ?_
  try simp only [List.drop_succ_cons, List.drop_zero]
  refine DrT.read rfl rfl (by simp only [bsg, reduceLT, reduceEqDiff, reduceCtorEq]) (by simp only [bsg, reduceLT, reduceEqDiff, reduceCtorEq, lv38] <;> exact rfl) (fun H hK2 => by simp only [bsg, reduceLT, reduceEqDiff, reduceCtorEq, lv38] <;> exact rfl) (by simp only [bsg, reduceLT, reduceEqDiff, reduceCtorEq] <;> exact rfl) ?_
  refine DrT.run 2 (by simp only [bsd, bss, bsg, reduceLT, reduceEqDiff, reduceCtorEq, hw1, hix] <;> exact rfl) rfl ?_
  try simp only [List.drop_succ_cons, List.drop_zero]
  refine DrT.read rfl rfl (by simp only [bsg, reduceLT, reduceEqDiff, reduceCtorEq]) (by simp only [bsg, reduceLT, reduceEqDiff, reduceCtorEq, lc3, hK] <;> exact rfl) (fun H hK2 => by simp only [bsg, reduceLT, reduceEqDiff, reduceCtorEq, lc3, hK2] <;> exact rfl) (by simp only [bsg, reduceLT, reduceEqDiff, reduceCtorEq] <;> exact rfl) ?_
  refine DrT.run 2 (by simp only [bsd, bss, bsg, reduceLT, reduceEqDiff, reduceCtorEq, hw2, hbuild] <;> exact rfl) rfl ?_
  try simp only [List.drop_succ_cons, List.drop_zero]
  refine DrT.skip (by simp only [bsg, reduceLT, reduceEqDiff, reduceCtorEq, hs2] <;> exact rfl) rfl rfl (by simp only [bsg, reduceLT, reduceEqDiff, reduceCtorEq]) (by simp only [bsg, reduceLT, reduceEqDiff, reduceCtorEq] <;> exact rfl) (fun _ => hlast _ (by rw [Heap.gs hbp.1]; exact mp)) ?_
  refine DrT.skip (by simp only [bsg, reduceLT, reduceEqDiff, reduceCtorEq, hs3] <;> exact rfl) rfl rfl (by simp only [bsg, reduceLT, reduceEqDiff, reduceCtorEq]) (by simp only [bsg, reduceLT, reduceEqDiff, reduceCtorEq] <;> exact rfl) (fun hq => absurd hq (by decide)) ?_
  refine DrT.skip (by simp only [bsg, reduceLT, reduceEqDiff, reduceCtorEq, hs4] <;> exact rfl) rfl rfl (by simp only [bsg, reduceLT, reduceEqDiff, reduceCtorEq]) (by simp only [bsg, reduceLT, reduceEqDiff, reduceCtorEq] <;> exact rfl) (fun hq => absurd hq (by decide)) ?_
  refine DrT.nil ?_
  repeat apply Wq
  refine Wp.ret ?_
  refine ⟨rfl, _, rfl, ?_⟩
  refine Leaves.cons (by simp) rfl c31 ?_
  obtain ⟨e, u1, h9, b, rfl, rfl, rfl⟩ := nocatch_spec (E := GoodE prog B) G (((h3.set h.next (strRow out)).set (h.next + 1) (intRow (k + 1 : Nat))).set (h.next + 1 + 1) (spotRow 0 0)) (.pointer (some ⟨h.next, 0, none⟩)) (.pointer (some ⟨h.next + 1, 0, none⟩)) (.pointer (some ⟨h.next + 1 + 1, 0, none⟩))
  refine ⟨_, _, _, b, _, rfl, Leaves.ret (ares25 (out := out) (n := (k + 1 : Nat)) (e := 0) (p := 0) rfl rfl rfl ?_ ?_ ?_) rfl⟩
  ·rw [Heap.gs (by omega), Heap.gs (by omega)]; exact Heap.gf m0
  ·rw [Heap.gs (by omega)]; exact Heap.gf (by rw [Heap.gs (by omega)]; exact m1)
  ·exact Heap.gf (by rw [Heap.gs (by omega), Heap.gs (by omega)]; exact m2)
theorem quotedV_flat (R : SR) : flat (quotedV R) = true := by cases R <;> rfl
theorem quoted_spec (G : Nat) (B : Base prog G) (h : Heap) (T : List UInt8) (most : Int) (hT : T.length ≤ 1000000) (hm : -1 ≤ most) :
  Does prog G (GoodE prog B) 53 [.string (bs T), .int .i64 most] h (fun r h' => r = .returned (quotedV (scanQ most T)) ∧ h' = h) :=
 Does.fromBare (by intro x hx; simp only [List.mem_cons, List.not_mem_nil, or_false] at hx; rcases hx with rfl | rfl <;> rfl) (quotedV_flat _) (quoted_bare G B B.hB T most hT hm) h
end
section
open Nat (reduceLT reduceEqDiff)
open Go.Proofs Tryd
def runP (p : UInt8 → Bool) (most : Nat) (T : List UInt8) (at' : Nat) : List UInt8 × Bool × Nat :=
 if most < ((T.drop at').takeWhile p).length then ([], false, at' + most) else ((T.drop at').takeWhile p, true, at' + ((T.drop at').takeWhile p).length)
theorem takeWhile_at (p : UInt8 → Bool) : ∀ (l : List UInt8) (j : Nat), j < (l.takeWhile p).length → ∃ b, l[j]? = some b ∧ p b = true
 | [], j, h => by simp at h
 | x :: l, j, h => by
  rw [List.takeWhile_cons] at h
  split at h
  ·rename_i hx
   cases j with
   | zero => exact ⟨x, rfl, hx⟩
   | succ j => exact takeWhile_at p l j (by simpa using h)
  ·simp at h
theorem takeWhile_end (p : UInt8 → Bool) : ∀ (l : List UInt8), l[(l.takeWhile p).length]? = none ∨ ∃ b, l[(l.takeWhile p).length]? = some b ∧ p b = false
 | [] => .inl rfl
 | x :: l => by
  rw [List.takeWhile_cons]
  split
  ·simpa using takeWhile_end p l
  ·rename_i hx
   exact .inr ⟨x, rfl, by simpa using hx⟩
theorem storeAt {h : Heap} {i : Nat} {T : List UInt8} {a b : Nat} {out : Value} (hg : h.get i = some (readerRow T a out)) :
  astore prog h 3 (.pointer (some ⟨i, 1, none⟩)) (.int .i64 (b : Nat)) = some (h.set i (readerRow T b out)) := by
 rw [astore_cell sz3 rfl, Heap.sts_of hg (by simp) rfl rfl]
 rfl
theorem run_spec {E : EXT} (G : Nat) (h : Heap) (i : Nat) (T : List UInt8) (at' most : Nat) (out : Value) (g : FuncId) (p : UInt8 → Bool) (hT : T.length ≤ 1000000) (hat : at' ≤ T.length) (hm : most ≤ 1000000) (hg : h.get i = some (readerRow T at' out))
  (hc : canEnter prog g = true) (hp : ∀ b h, Does prog G E g [byteV b] h (fun r h' => r = .returned (.bool (p b)) ∧ h' = h)) :
  Does prog G E 50 [.pointer (some ⟨i, 0, none⟩), .int .i64 most, .func (.func g) #[] #[]] h (fun r h' => r = .returned (.tuple #[.string (bs (runP p most T at').1), .bool (runP p most T at').2.1]) ∧ h' = h.set i (readerRow T (runP p most T at').2.2 out)) := by
 refine Does.body func50 rfl ?_
 have hn : enterF Tryd.f50 [.pointer (some ⟨i, 0, none⟩), .int .i64 most, .func (.func g) #[] #[]] = ⟨61, [(0, .pointer (some ⟨i, 0, none⟩)), (1, .int .i64 most), (2, .func (.func g) #[] #[])], []⟩ := rfl
 rw [hn]; clear hn
 repeat apply Wq
 refine Wp.rS ?_
 repeat apply Wq
 refine Wp.r (Aq @r1 (Aq @lc3 (Heap.lf hg (k := 1) rfl))) ?_
 generalize hw : (T.drop at').takeWhile p = w
 have hwl : w.length ≤ T.length - at' := by
  rw [← hw]
  have := (List.takeWhile_prefix p (l := T.drop at')).length_le
  rwa [List.length_drop] at this
 have hin : ∀ j, j < w.length → ∃ b, T[at' + j]? = some b ∧ p b = true := by
  intro j hj
  obtain ⟨b, h1, h2⟩ := takeWhile_at p (T.drop at') j (by rw [hw]; exact hj)
  exact ⟨b, by rw [← List.getElem?_drop]; exact h1, h2⟩
 have hend : T.length ≤ at' + w.length ∨ ∃ b, T[at' + w.length]? = some b ∧ p b = false := by
  have := takeWhile_end p (T.drop at')
  rw [hw, List.getElem?_drop] at this
  rcases this with h1 | h1
  ·exact .inl (List.getElem?_eq_none_iff.1 h1)
  ·exact .inr h1
 refine Wp.join (fun fr u h' => u = none ∧ w.length ≤ most ∧ h' = h.set i (readerRow T (at' + w.length) out) ∧ ∃ s, fr = ⟨61, s, []⟩ ∧ look 0 s = some (.pointer (some ⟨i, 0, none⟩)) ∧ look 8 s = some (.int .i64 (at' : Nat))) ?_ ?_
 ·rintro fr u h' ⟨rfl, hle, rfl, s, rfl, s0, s8⟩
  refine Wp.weaken (fr' := ⟨61, [(0, .pointer (some ⟨i, 0, none⟩)), (8, .int .i64 (at' : Nat))], []⟩) (Frm.le_of ⟨s0, s8, trivial⟩) ?_
  have hg' : (h.set i (readerRow T (at' + w.length) out)).get i = some (readerRow T (at' + w.length) out) := Heap.gf hg
  have hr : runP p most T at' = (w, true, at' + w.length) := by unfold runP; rw [hw, if_neg (by omega)]
  have hsl : ∀ H, aslice prog H 9 (.string (bs T)) (some (.int .i64 (at' : Int))) (some (.int .i64 ((at' + w.length : Nat) : Int))) none = some (.string (bs w), H) := by
   intro H
   rw [aslice_str2 underlying9 (by omega) (by omega) (by simp only [bs_size]; omega), Int.toNat_natCast, Int.toNat_natCast, bs_extract, Nat.add_sub_cancel_left]
   have : (T.drop at').take w.length = w := by
    have h1 := List.prefix_iff_eq_take.1 (List.takeWhile_prefix p (l := T.drop at'))
    rw [hw] at h1
    exact h1.symm
   rw [this]
  repeat apply Wq
  refine Wp.runSD mixed (by kernel_rfl) (by simp only [runSD, stepOD, stepWD, stepVD, isLoud, isPure, isReader, decide_true, bsb, bsg, reduceLT, reduceEqDiff, reduceCtorEq, r0, r1, lc3, lc9, Heap.lf hg' (k := 0) rfl, Heap.lf hg' (k := 1) rfl, hsl] <;> exact rfl) ?_
  repeat apply Wq
  refine Wp.ret ?_
  exact ⟨rfl, rfl, _, rfl, by rw [hr], by rw [hr]⟩
 ·refine Wp.block ?_
  refine Wp.loopI (X := Nat) (fun j => [(0, .pointer (some ⟨i, 0, none⟩)), (1, .int .i64 most), (2, .func (.func g) #[] #[]), (8, .int .i64 (at' : Nat))]) (fun j => h.set i (readerRow T (at' + j) out))
   (fun j => j ≤ w.length ∧ j ≤ most) (fun j => w.length - j) 0 ⟨by omega, by omega⟩ ⟨rfl, rfl, rfl, rfl, trivial⟩ (Heap.set_same hg) ?_
  rintro j ⟨hj, hjm⟩
  have hgj : (h.set i (readerRow T (at' + j) out)).get i = some (readerRow T (at' + j) out) := Heap.gf hg
  generalize hH : h.set i (readerRow T (at' + j) out) = H at hgj ⊢
  by_cases hlt : ((at' + j : Nat) : Int) < (T.length : Int)
  ·obtain ⟨b, hb⟩ : ∃ b, T[at' + j]? = some b := ⟨_, List.getElem?_eq_getElem (by omega)⟩
   repeat apply Wq
   refine Wp.drawAs [] [] 0 (fun _ => True) mixed (by kernel_rfl) trivial ?_
   refine DrT.run 21 (by simp only [bsd, bss, bsg, reduceLT, reduceEqDiff, reduceCtorEq, r0, r1, lc3, lc9, Heap.lf hgj (k := 0) rfl, Heap.lf hgj (k := 1) rfl, ls9, decide_eq_true hlt, aindex_bs underlying9 hb] <;> exact rfl) rfl ?_
   try simp only [List.drop_succ_cons, List.drop_zero]
   refine DrT.call (hp b H) rfl rfl (by simp only [bsg, reduceLT, reduceEqDiff, reduceCtorEq]) (by simp only [bsc, bsg, reduceLT, reduceEqDiff, reduceCtorEq, hc] <;> exact rfl) ?_
   rintro _ h9 ⟨rfl, hh9⟩
   obtain rfl := hh9.symm
   clear hh9
   refine ⟨_, _, rfl, fun _ => trivial, by simp only [bsg, reduceLT, reduceEqDiff, reduceCtorEq]; exact rfl, ?_⟩
   cases hpb : p b with
   | true =>
    have hjw : j < w.length := by
     rcases Nat.lt_or_ge j w.length with q | q
     ·exact q
     ·obtain rfl : j = w.length := by omega
      rcases hend with q2 | ⟨b2, q2, q3⟩
      ·omega
      ·rw [hb] at q2; cases q2; rw [hpb] at q3; cases q3
    refine DrT.run 1 (by simp only [bsd, bss, bsg, reduceLT, reduceEqDiff, reduceCtorEq] <;> exact rfl) rfl ?_
    try simp only [List.drop_succ_cons, List.drop_zero]
    refine DrT.nil ?_
    repeat apply Wq
    refine Wp.cT ?_
    repeat apply Wq
    refine Wp.skip ?_
    repeat apply Wq
    refine Wp.block ?_
    have hws : IntKind.i64.wrap (((at' + j : Nat) : Int) - (at' : Int)) = (j : Int) := by rw [wrap_in (by omega) (by omega)]; omega
    by_cases hjm2 : j = most
    ·have he : ((j : Int) == (most : Int)) = true := by simp [hjm2]
     repeat apply Wq
     refine Wp.r (Aq @r1 (Aq @lc3 (Aq (Heap.lf hgj (k := 1) rfl) (Aq hws he)))) ?_
     repeat apply Wq
     refine Wp.cT ?_
     repeat apply Wq
     refine Wp.rS ?_
     repeat apply Wq
     refine Wp.ret ?_
     have hr : runP p most T at' = ([], false, at' + most) := by unfold runP; rw [hw, if_pos (by omega)]
     exact ⟨rfl, rfl, _, rfl, by rw [hr]; rfl, by rw [hr, ← hH, hjm2]⟩
    ·have he : ((j : Int) == (most : Int)) = false := by simp; omega
     repeat apply Wq
     refine Wp.r (Aq @r1 (Aq @lc3 (Aq (Heap.lf hgj (k := 1) rfl) (Aq hws he)))) ?_
     repeat apply Wq
     refine Wp.cF ?_
     repeat apply Wq
     refine Wp.skip ?_
     have hwa : IntKind.i64.wrap (((at' + j : Nat) : Int) + 1) = ((at' + (j + 1) : Nat) : Int) := by rw [wrap_in (by omega) (by omega)]; omega
     repeat apply Wq
     refine Wp.runS (by simp only [bsg, reduceLT, reduceEqDiff, reduceCtorEq, r1, lc3, Heap.lf hgj (k := 1) rfl, hwa, storeAt hgj] <;> exact rfl) ?_
     refine ⟨j + 1, _, ⟨by omega, by omega⟩, by omega, rfl, ⟨rfl, rfl, rfl, rfl, trivial⟩, rfl, ?_⟩
     rw [← hH, Heap.set_set]
   | false =>
    have hjw : j = w.length := by
     rcases Nat.lt_or_ge j w.length with q | q
     ·obtain ⟨b2, q2, q3⟩ := hin j q
      rw [hb] at q2; cases q2; rw [hpb] at q3; cases q3
     ·omega
    refine DrT.run 1 (by simp only [bsd, bss, bsg, reduceLT, reduceEqDiff, reduceCtorEq] <;> exact rfl) rfl ?_
    try simp only [List.drop_succ_cons, List.drop_zero]
    refine DrT.nil ?_
    repeat apply Wq
    refine Wp.cF ?_
    repeat apply Wq
    refine Wp.exit ?_
    simp only [bx, Nat.reduceEqDiff]
    exact ⟨trivial, by omega, by rw [← hH, hjw], _, rfl, rfl, rfl⟩
  ·repeat apply Wq
   refine Wp.runSD mixed (by kernel_rfl) (by simp only [runSD, stepOD, stepWD, stepVD, isLoud, isPure, isReader, decide_true, bsb, bsg, reduceLT, reduceEqDiff, reduceCtorEq, r0, r1, lc3, lc9, Heap.lf hgj (k := 0) rfl, Heap.lf hgj (k := 1) rfl, ls9, decide_eq_false hlt] <;> exact rfl) ?_
   repeat apply Wq
   refine Wp.cF ?_
   repeat apply Wq
   refine Wp.exit ?_
   simp only [bx, Nat.reduceEqDiff]
   have hjw : j = w.length := by omega
   exact ⟨trivial, by omega, by rw [← hH, hjw], _, rfl, rfl, rfl⟩
end
section
open Go.Proofs Tryd
structure Tok where
 kind : Nat
 text : List UInt8
 n : Nat
 at' : Nat
def Tok.cells (t : Tok) : List Value := [.int .i64 t.kind, .string (bs t.text), .int .i64 t.n, .int .i64 t.at']
def Tok.row (t : Tok) : AObj := .row { vs := t.cells, elem := 65 }
def Tok.val (t : Tok) : Value := .agg t.cells.toArray
def numOf (w : List UInt8) : Nat := w.foldl (fun n b => 10 * n + (b.toNat - 48)) 0
def blankB (b : UInt8) : Bool := b.toNat == 32 || b.toNat == 9 || b.toNat == 10
def tokBody (T : List UInt8) (a : Nat) : Except (Nat × Nat) (Nat × List UInt8 × Nat × Nat) :=
 let b := peekB T a
 if 97 ≤ b.toNat ∧ b.toNat ≤ 122 then
  let r := runP smallB 16 T a
  if r.2.1 then (if peekB T r.2.2 = 58 then .ok (2, r.1, 0, r.2.2 + 1) else .ok (1, r.1, 0, r.2.2)) else .error (3, r.2.2)
 else if b = 48 then .ok (3, [], 0, a + 1)
 else if 49 ≤ b.toNat ∧ b.toNat ≤ 57 then
  let r := runP digitB 4 T a
  if r.2.1 then .ok (3, [], numOf r.1, r.2.2) else .error (3, r.2.2)
 else if b = 34 then
  match scanQ 64 (T.drop a) with
  | .ok s k => .ok (4, s, 0, a + (k + 1))
  | .bad k => .error (6, a + k)
  | .long k => .error (3, a + k)
 else if b = 60 ∨ b = 123 ∨ b = 125 then .ok (5, [b], 0, a + 1)
 else .error (6, a)
def tokS (T : List UInt8) (a : Nat) : Except (Nat × Nat) (Tok × Nat) :=
 match tokBody T a with
 | .error e => .error e
 | .ok (kd, s, n, to) => if blankB (peekB T to) then .ok (⟨kd, s, n, a⟩, to) else .error (6, to)
theorem t0 (i k : Nat) : afieldAddr prog 65 (.pointer (some ⟨i, k, none⟩)) 0 = some (.pointer (some ⟨i, k, none⟩)) := afieldAddr_eq (f := 0) (o := 0) underlying65 (by rfl) (s := 0) (by kernel_rfl) i k
theorem t1 (i k : Nat) : afieldAddr prog 65 (.pointer (some ⟨i, k, none⟩)) 1 = some (.pointer (some ⟨i, k + 1, none⟩)) := afieldAddr_eq underlying65 (by rfl) (s := 0) (by kernel_rfl) i k
theorem t2 (i k : Nat) : afieldAddr prog 65 (.pointer (some ⟨i, k, none⟩)) 2 = some (.pointer (some ⟨i, k + 2, none⟩)) := afieldAddr_eq underlying65 (by rfl) (s := 0) (by kernel_rfl) i k
theorem s0 (i k : Nat) : afieldAddr prog 31 (.pointer (some ⟨i, k, none⟩)) 0 = some (.pointer (some ⟨i, k, none⟩)) := afieldAddr_eq (f := 0) (o := 0) underlying31 (by rfl) (s := 0) (by kernel_rfl) i k
theorem s1 (i k : Nat) : afieldAddr prog 31 (.pointer (some ⟨i, k, none⟩)) 1 = some (.pointer (some ⟨i, k + 1, none⟩)) := afieldAddr_eq underlying31 (by rfl) (s := 0) (by kernel_rfl) i k
theorem sz31 : (prog.info? 65).map (·.size) = some 4 := by kernel_rfl
theorem agg31 : Program.agg prog 65 = some true := by kernel_rfl
theorem agg25 : Program.agg prog 29 = some false := by kernel_rfl
theorem alloc31 (h : Heap) : aalloc prog h 65 = some (h.new, h.alloc (Tok.row ⟨0, [], 0, 0⟩)) := aalloc_eq (z := Tok.val ⟨0, [], 0, 0⟩) (by kernel_rfl) rfl
theorem build31 (a : Nat) : abuild prog 65 [(3, .int .i64 a)] = some (Tok.val ⟨0, [], 0, a⟩) := by kernel_rfl
section
variable {H : Heap} {j : Nat} {t : Tok} (g : H.get j = some t.row)
include g
theorem tok_kind (k : Nat) : astore prog H 3 (.pointer (some ⟨j, 0, none⟩)) (.int .i64 k) = some (H.set j (Tok.row { t with kind := k })) := by
 rw [astore_cell sz3 rfl, Heap.sts_of g (by simp [Tok.cells]) rfl rfl]; rfl
theorem tok_kind' (k : Nat) (z : Int) (hz : (k : Int) = z) : astore prog H 3 (.pointer (some ⟨j, 0, none⟩)) (.int .i64 z) = some (H.set j (Tok.row { t with kind := k })) := by
 subst hz; exact tok_kind g k
theorem tok_text (s : List UInt8) : astore prog H 9 (.pointer (some ⟨j, 0 + 1, none⟩)) (.string (bs s)) = some (H.set j (Tok.row { t with text := s })) := by
 rw [astore_cell sz9 rfl, Heap.sts_of g (by simp [Tok.cells]) rfl rfl]; rfl
theorem tok_n (n : Nat) : astore prog H 3 (.pointer (some ⟨j, 0 + 2, none⟩)) (.int .i64 n) = some (H.set j (Tok.row { t with n := n })) := by
 rw [astore_cell sz3 rfl, Heap.sts_of g (by simp [Tok.cells]) rfl rfl]; rfl
theorem tok_all (u : Tok) : astore prog H 65 (.pointer (some ⟨j, 0, none⟩)) u.val = some (H.set j u.row) := by
 have := astore_agg (P := prog) (h := H) (i := j) (k := 0) (cs := u.cells) sz31 rfl rfl
 unfold Tok.val
 rw [this, Heap.sts_of g (by simp [Tok.cells]) rfl rfl]; rfl
theorem tok_load : aload prog H 65 (.pointer (some ⟨j, 0, none⟩)) = some t.val := by
 rw [aload_agg agg31 sz31, Heap.lds_of g (by simp [Tok.cells])]; rfl
end
structure TokSt (h H : Heap) (i : Nat) (T : List UInt8) (a : Nat) (out : Value) (x y : Tok) : Prop where
 r : H.get i = some (readerRow T a out)
 x : H.get h.next = some x.row
 y : H.get (h.next + 1) = some y.row
 lt : i < h.next
 but : h.but i H
theorem but_set_new {h H : Heap} {i : Nat} (b : h.but i H) {j : Nat} (hj : h.next ≤ j) (o : AObj) : h.but i (H.set j o) := ⟨by simpa using b.1, fun l hl hne => by rw [Heap.gs (by omega)]; exact b.2 l hl hne⟩
theorem but_set_at {h H : Heap} {i : Nat} (b : h.but i H) (o : AObj) : h.but i (H.set i o) := ⟨by simpa using b.1, fun l hl hne => by rw [Heap.gs hne]; exact b.2 l hl hne⟩
theorem but_alloc {h H : Heap} {i : Nat} (b : h.but i H) (o : AObj) : h.but i (H.alloc o) := ⟨by have := b.1; simp; omega, fun l hl hne => by rw [Heap.go _ _ (by have := b.1; omega)]; exact b.2 l hl hne⟩
section
variable {h H : Heap} {i : Nat} {T : List UInt8} {a : Nat} {out : Value} {x y : Tok} (st : TokSt h H i T a out x y)
include st
theorem TokSt.at (a' : Nat) : TokSt h (H.set i (readerRow T a' out)) i T a' out x y :=
 ⟨Heap.gf st.r, by rw [Heap.gs (by have := st.lt; omega)]; exact st.x, by rw [Heap.gs (by have := st.lt; omega)]; exact st.y, st.lt, but_set_at st.but _⟩
theorem TokSt.setY (u : Tok) : TokSt h (H.set (h.next + 1) u.row) i T a out x u :=
 ⟨by rw [Heap.gs (by have := st.lt; omega)]; exact st.r, by rw [Heap.gs (by omega)]; exact st.x, Heap.gf st.y, st.lt, but_set_new st.but (by omega) _⟩
theorem TokSt.setX (u : Tok) : TokSt h (H.set h.next u.row) i T a out u y :=
 ⟨by rw [Heap.gs (by have := st.lt; omega)]; exact st.r, Heap.gf st.x, by rw [Heap.gs (by omega)]; exact st.y, st.lt, but_set_new st.but (by omega) _⟩
theorem TokSt.alloc (o : AObj) : TokSt h (H.alloc o) i T a out x y :=
 ⟨by rw [Heap.go _ _ (Heap.lg st.r)]; exact st.r, by rw [Heap.go _ _ (Heap.lg st.x)]; exact st.x, by rw [Heap.go _ _ (Heap.lg st.y)]; exact st.y, st.lt, but_alloc st.but _⟩
end
def TokR (h : Heap) (i : Nat) (T : List UInt8) (out : Value) (R : Except (Nat × Nat) (Tok × Nat)) (r : Ending) (h' : Heap) : Prop := match R with
 | .ok (t, to) => r = .returned (.tuple #[t.val, .int .i64 0]) ∧ h'.get i = some (readerRow T to out) ∧ h.but i h' ∧ to ≤ T.length
 | .error (e, p) => ∃ t : Tok, r = .returned (.tuple #[t.val, .int .i64 e]) ∧ h'.get i = some (readerRow T p out) ∧ h.but i h' ∧ p ≤ T.length
theorem ares15 {s : List (Nat × Value)} {d : List Deferred} {h : Heap} {a : Nat} {t : Tok} {v : Value} (s2 : look 2 s = some (.pointer (some ⟨a, 0, none⟩))) (s3 : look 3 s = some v) (ga : h.get a = some t.row) :
  ares prog Tryd.f36 ⟨172, s, d⟩ h = some (.tuple #[t.val, v]) := by
 have hr : Tryd.f36.results.toList = [.cell 2 65, .tmp 3] := rfl
 unfold ares
 rw [hr]
 simp only [aresults, aresult, s2, s3, Option.bind_some, tok_load ga]
end
end Go.Mini
