import Derived.Test.YtjgmccbjffncaaaDoorPLexZc
import Derived.Test.YtjgmccbjffncaaaDoorMiniYOtoYS
import Derived.Test.YtjgmccbjffncaaaDoorPaE
import Derived.Test.YtjgmccbjffncaaaDoorPatFtoPatG
set_option maxHeartbeats 8000000
set_option maxRecDepth 100000
set_option linter.unusedSimpArgs false
namespace Go.Mini
section
open Nat (reduceLT reduceEqDiff)
open Go.Proofs Tryd
structure Rs (h H : Heap) (i : Nat) (v : Value) (o : List Tok) (a e r : Nat) : Prop where
 rd : Rd H i v o a e r
 but : h.but i H
 vb : ∀ b l c, v = .slice (some ⟨b, 0, none⟩) l c → b < h.next
 lt : i < h.next
theorem Rd.rs {h : Heap} {i : Nat} {v : Value} {o : List Tok} {a e r : Nat} (d : Rd h i v o a e r) : Rs h h i v o a e r := by
 refine ⟨d, (Heap.mr h).but i, ?_, d.lt⟩
 rintro b l c rfl
 rcases d.t with ⟨_, q⟩ | ⟨b', r', hb, _, q⟩
 ·cases q
 ·cases q; exact Heap.lg hb
section
variable {h H : Heap} {i : Nat} {v : Value} {o : List Tok} {a e r : Nat} (st : Rs h H i v o a e r)
include st
theorem Rs.lo : h.next ≤ H.next := st.but.1
theorem Rs.more {H2 : Heap} (hm : H.more H2) : Rs h H2 i v o a e r := ⟨⟨hm.get st.rd.g, st.rd.t.more hm, st.rd.ne⟩, st.but.trans (hm.but i), st.vb, st.lt⟩
theorem Rs.alloc (x : AObj) : Rs h (H.alloc x) i v o a e r := st.more (Heap.ma H x)
theorem Rs.at (a' : Nat) : Rs h (rdAt H i v e r a') i v o a' e r := ⟨st.rd.at a', but_set_at st.but _, st.vb, st.lt⟩
theorem Rs.set {j : Nat} (hj : h.next ≤ j) (x : AObj) : Rs h (H.set j x) i v o a e r := by
 refine ⟨⟨by rw [Heap.gs (by have := st.lt; omega)]; exact st.rd.g, ?_, st.rd.ne⟩, but_set_new st.but hj _, st.vb, st.lt⟩
 rcases st.rd.t with h1 | ⟨b, r2, hb, hr, hv⟩
 ·exact .inl h1
 ·exact .inr ⟨b, r2, by rw [Heap.gs (by have := st.vb b _ _ hv; omega)]; exact hb, hr, hv⟩
end
theorem Rs.raw {h H : Heap} {i : Nat} {v : Value} {o : List Tok} {a a' e r : Nat} (st : Rs h H i v o a' e r) (d : Rd h i v o a e r) : h.next ≤ H.next ∧ ∀ j, j < h.next → H.get j = (rdAt h i v e r a').get j := by
 refine ⟨st.but.1, fun j hj => ?_⟩
 by_cases e2 : j = i
 ·subst e2; rw [get_rdAt d.g, st.rd.g]
 ·unfold rdAt
  rw [Heap.gs e2]; exact st.but.2 j hj e2
theorem build52 (k : Int) : abuild prog 52 [(0, .int .i64 k)] = some (patVal k []) := by kernel_rfl
theorem alloc52 (h : Heap) : aalloc prog h 52 = some (h.new, h.alloc (patRow 0 [])) := aalloc_eq (z := patVal 0 []) (by kernel_rfl) rfl
theorem sz52 : (prog.info? 52).map (·.size) = some 2 := by kernel_rfl
theorem agg52 : Program.agg prog 52 = some true := by kernel_rfl
theorem agg29 : Program.agg prog 29 = some false := by kernel_rfl
theorem pat_put {H : Heap} {j : Nat} {k0 : Int} {s0 : List UInt8} (g : H.get j = some (patRow k0 s0)) (k : Int) (s : List UInt8) : astore prog H 52 (.pointer (some ⟨j, 0, none⟩)) (patVal k s) = some (H.set j (patRow k s)) := by
 have := astore_agg (P := prog) (h := H) (i := j) (k := 0) (cs := [.int .i64 k, .string (bs s)]) sz52 rfl rfl
 unfold patVal
 rw [this, Heap.sts_of g (by simp) rfl rfl]; rfl
theorem pat_new (H : Heap) (k : Int) (s : List UInt8) : astore prog (H.alloc (patRow 0 [])) 52 (.pointer (some ⟨H.next, 0, none⟩)) (patVal k s) = some (H.alloc (patRow k s)) := by
 rw [pat_put (Heap.gn H (patRow 0 [])), Heap.set_alloc]
theorem pat_load {H : Heap} {j : Nat} {k : Int} {s : List UInt8} (g : H.get j = some (patRow k s)) : aload prog H 52 (.pointer (some ⟨j, 0, none⟩)) = some (patVal k s) := by
 rw [aload_agg agg52 sz52, Heap.lds_of g (by simp)]; rfl
theorem pat_kind {H : Heap} {j : Nat} {k0 : Int} {s : List UInt8} (g : H.get j = some (patRow k0 s)) (k : Int) : astore prog H 3 (.pointer (some ⟨j, 0, none⟩)) (.int .i64 k) = some (H.set j (patRow k s)) := by
 rw [astore_cell sz3 rfl, Heap.sts_of g (by simp) rfl rfl]; rfl
theorem pat_text {H : Heap} {j : Nat} {k : Int} {s0 : List UInt8} (g : H.get j = some (patRow k s0)) (s : List UInt8) : astore prog H 9 (.pointer (some ⟨j, 0 + 1, none⟩)) (.string (bs s)) = some (H.set j (patRow k s)) := by
 rw [astore_cell sz9 rfl, Heap.sts_of g (by simp) rfl rfl]; rfl
def patPV (x : Nat × List UInt8) : Value := patVal x.1 x.2
theorem pattern_does (G : Nat) (B : Base prog G) (h : Heap) (i : Nat) (v : Value) (o : List Tok) (a e r : Nat) (d : Rd h i v o a e r) (ha : a + 1 ≤ 1000000) :
  Does prog G (GoodE prog B) 56 [.pointer (some ⟨i, 0, none⟩)] h (RdOut patPV h i v e r (patternS o e a)) := by
 refine RdRaw.out (fun _ => rfl) d.g d.t ?_
 have c25 : canEnter prog 25 = true := by kernel_rfl
 have c26 : canEnter prog 26 = true := by kernel_rfl
 have c48 : canEnter prog 48 = true := by kernel_rfl
 have c55 : canEnter prog 55 = true := by kernel_rfl
 refine Does.body func56 rfl ?_
 have hn : enterF Tryd.f56 [.pointer (some ⟨i, 0, none⟩)] = ⟨33, [(0, .pointer (some ⟨i, 0, none⟩))], []⟩ := rfl
 rw [hn]; clear hn
 repeat apply Wq
 refine Wp.r @alloc52 ?_
 repeat apply Wq
 refine Wp.r (Aq @build52 (Aq @alloc52 @pat_new)) ?_
 dsimp only [after, leaving]
 have st := (d.rs.alloc (patRow 0 [])).alloc (patRow 1 [])
 have gr : ((h.alloc (patRow 0 [])).alloc (patRow 1 [])).get h.next = some (patRow 0 []) := by rw [Heap.go _ _ (by simp)]; exact Heap.gn _ _
 have gp : ((h.alloc (patRow 0 [])).alloc (patRow 1 [])).get (h.next + 1) = some (patRow 1 []) := Heap.gn (h.alloc (patRow 0 [])) (patRow 1 [])
 have hlo : h.next + 2 ≤ ((h.alloc (patRow 0 [])).alloc (patRow 1 [])).next := by simp
 try simp only [Heap.na]
 generalize (h.alloc (patRow 0 [])).alloc (patRow 1 []) = H at st gr gp hlo ⊢
 repeat apply Wq
 refine Wp.regionAs (is := List.range' 0 1 ++ (1 :: [])) rfl ?_
 refine WpO.rS 1 ?_
 refine WpO.cR (is_does G B H i v o a e r 1 globB st.rd (by omega)) c55 ?_
 rintro _ h9 ⟨rfl, hh9⟩
 obtain rfl := hh9.symm
 clear hh9
 refine pu ?_
 refine WpO.nil ?_
 dsimp only [after, leaving]
 have hi := st.lt
 repeat apply Wq
 refine Wp.cut (fun fr u h' => u = none ∧ Rs h h' i v o (patKind o e a).2 e r ∧ h'.get h.next = some (patRow 0 []) ∧ h'.get (h.next + 1) = some (patRow (patKind o e a).1 []) ∧ h.next + 2 ≤ h'.next ∧ ∃ sl, fr = ⟨33, sl, []⟩ ∧ holds [(0, .pointer (some ⟨i, 0, none⟩)), (2, .pointer (some ⟨h.next, 0, none⟩)), (3, .pointer (some ⟨h.next + 1, 0, none⟩))] sl) ?_ ?_
 rotate_left
 ·unfold patKind
  cases hs : isS o e 1 globB a with
  | true =>
   simp only [if_true]
   have st2 := st.at (a + 1)
   have gr2 : (rdAt H i v e r (a + 1)).get h.next = some (patRow 0 []) := by unfold rdAt; rw [Heap.gs (by omega)]; exact gr
   have gp2 : (rdAt H i v e r (a + 1)).get (h.next + 1) = some (patRow 1 []) := by unfold rdAt; rw [Heap.gs (by omega)]; exact gp
   repeat apply Wq
   refine Wp.cT ?_
   repeat apply Wq
   refine Wp.r (Aq @p0 (pat_kind gp2)) ?_
   dsimp only [after, leaving]
   exact ⟨rfl, st2.set (by omega) _, by rw [Heap.gs (by omega)]; exact gr2, Heap.gf gp2, by unfold rdAt; simpa using hlo, _, rfl, rfl, rfl, rfl, trivial⟩
  | false =>
   simp only [Bool.false_eq_true, if_false]
   repeat apply Wq
   refine Wp.cF ?_
   repeat apply Wq
   refine Wp.regionAs (is := List.range' 0 1 ++ (1 :: [])) rfl ?_
   refine WpO.rS 1 ?_
   refine WpO.cR (is_does G B H i v o a e r 1 reB st.rd (by omega)) c55 ?_
   rintro _ h9 ⟨rfl, hh9⟩
   obtain rfl := hh9.symm
   clear hh9
   refine pu ?_
   refine WpO.nil ?_
   dsimp only [after, leaving]
   cases hs2 : isS o e 1 reB a with
   | true =>
    simp only [if_true]
    have st2 := st.at (a + 1)
    have gr2 : (rdAt H i v e r (a + 1)).get h.next = some (patRow 0 []) := by unfold rdAt; rw [Heap.gs (by omega)]; exact gr
    have gp2 : (rdAt H i v e r (a + 1)).get (h.next + 1) = some (patRow 1 []) := by unfold rdAt; rw [Heap.gs (by omega)]; exact gp
    repeat apply Wq
    refine Wp.cT ?_
    repeat apply Wq
    refine Wp.r (Aq @p0 (pat_kind gp2)) ?_
    dsimp only [after, leaving]
    exact ⟨rfl, st2.set (by omega) _, by rw [Heap.gs (by omega)]; exact gr2, Heap.gf gp2, by unfold rdAt; simpa using hlo, _, rfl, rfl, rfl, rfl, trivial⟩
   | false =>
    simp only [Bool.false_eq_true, if_false]
    repeat apply Wq
    refine Wp.cF ?_
    repeat apply Wq
    refine Wp.skip ?_
    dsimp only [after, leaving]
    exact ⟨rfl, st, gr, gp, hlo, _, rfl, rfl, rfl, rfl, trivial⟩
 clear st gr gp hlo H
 rintro fr u H ⟨rfl, st, gr, gp, hlo, sl, rfl, hs1⟩
 refine Wp.weaken (Frm.le_of hs1) ?_
 clear hs1 sl
 have hk2 : (patKind o e a).2 ≤ a + 1 := by unfold patKind; split <;> (try split) <;> simp
 unfold patternS
 generalize patKind o e a = pk at st gp hk2 ⊢
 obtain ⟨k, a1⟩ := pk
 simp only at st gp hk2 ⊢
 repeat apply Wq
 refine Wp.regionAs (is := List.range' 0 1 ++ (1 :: (List.range' 2 2 ++ []))) rfl ?_
 refine WpO.rS 1 ?_
 refine WpO.cS c26 ((take_does G B H i v o a1 e r 4 st.rd.g st.rd.t (by omega)).mono ?_)
 intro x h2 hr
 cases ht : takeS o e 4 a1 with
 | error c =>
  obtain ⟨c, p⟩ := c
  rw [ht] at hr
  obtain ⟨rfl, hb⟩ := hr
  exact ⟨rfl, rfl, rfl, st.but.trans hb⟩
 | ok ta =>
  obtain ⟨t, a2⟩ := ta
  rw [ht] at hr
  obtain ⟨rfl, rfl⟩ := hr
  refine pt ?_
  refine WpO.r 2 (Aq @alloc31 @tok_put) ?_
  refine WpO.nil ?_
  dsimp only [after, leaving]
  have st2 := (st.at a2).alloc t.row
  have hjt : h.next + 2 ≤ (rdAt H i v e r a2).next := by rw [rdAt_next]; exact hlo
  have gt : ((rdAt H i v e r a2).alloc t.row).get (rdAt H i v e r a2).next = some t.row := Heap.gn _ _
  have gr2 : ((rdAt H i v e r a2).alloc t.row).get h.next = some (patRow 0 []) := by rw [Heap.go _ _ (by omega)]; unfold rdAt; rw [Heap.gs (by omega)]; exact gr
  have gp2 : ((rdAt H i v e r a2).alloc t.row).get (h.next + 1) = some (patRow k []) := by rw [Heap.go _ _ (by omega)]; unfold rdAt; rw [Heap.gs (by omega)]; exact gp
  have hlo2 : h.next + 3 ≤ ((rdAt H i v e r a2).alloc t.row).next := by rw [Heap.na]; omega
  generalize (rdAt H i v e r a2).alloc t.row = H2 at st2 gt gr2 gp2 hlo2 ⊢
  generalize (rdAt H i v e r a2).next = jt at gt hjt ⊢
  clear st gr gp hlo
  repeat apply Wq
  refine Wp.runS (by simp only [bsg, reduceLT, reduceEqDiff, reduceCtorEq, t1, p1, lc9, Heap.lf gt (k := 1) rfl, show astore prog H2 9 (.pointer (some ⟨h.next + 1, 1, none⟩)) (.string (bs t.text)) = some (H2.set (h.next + 1) (patRow k t.text)) from pat_text gp2 t.text] <;> exact rfl) ?_
  dsimp only [after, leaving]
  have st3 := st2.set (j := h.next + 1) (by omega) (patRow k t.text)
  have gt3 : (H2.set (h.next + 1) (patRow k t.text)).get jt = some t.row := by rw [Heap.gs (by omega)]; exact gt
  have gr3 : (H2.set (h.next + 1) (patRow k t.text)).get h.next = some (patRow 0 []) := by rw [Heap.gs (by omega)]; exact gr2
  have gp3 : (H2.set (h.next + 1) (patRow k t.text)).get (h.next + 1) = some (patRow k t.text) := Heap.gf gp2
  generalize H2.set (h.next + 1) (patRow k t.text) = H3 at st3 gt3 gr3 gp3 ⊢
  clear st2 gt gr2 gp2 hlo2
  repeat apply Wq
  refine Wp.regionAs (is := List.range' 0 1 ++ (1 :: (List.range' 2 7 ++ []))) rfl ?_
  refine WpO.r 1 (pat_load gp3) ?_
  refine WpO.cS c48 ((tree_does G B H3 k t.text).mono ?_)
  rintro x H4 ⟨nv, rfl, hm, hn⟩
  have gz : ((H4.alloc (nodeRow zeroCells)).alloc (spotRow 0 0)).get H4.next = some (nodeRow zeroCells) := by rw [Heap.go _ _ (by simp)]; exact Heap.gn _ _
  have gs : ((H4.alloc (nodeRow zeroCells)).alloc (spotRow 0 0)).get (H4.next + 1) = some (spotRow 0 0) := Heap.gn (H4.alloc (nodeRow zeroCells)) (spotRow 0 0)
  obtain ⟨H5, e1, _, e3, e4, _⟩ := node_fin gz rfl hn (by simp; omega)
  have gs5 : H5.get (H4.next + 1) = some (spotRow 0 0) := by rw [e4 _ (by omega)]; exact gs
  have sA := spot_store' gs5 (treeS k t.text).1 (treeS k t.text).2
  have hm5 : H4.more (H5.set (H4.next + 1) (spotRow (treeS k t.text).1 (treeS k t.text).2)) := ⟨by rw [Heap.ns, e3]; simp; omega, fun j hj => by rw [Heap.gs (by omega), e4 j (by omega), Heap.go _ _ (by simp; omega), Heap.go _ _ hj]⟩
  refine pt ?_
  refine WpO.runS 7 (by simp only [bsd, bsg, reduceLT, reduceEqDiff, reduceCtorEq, List.getElem?_toArray, alloc108', alloc27, Heap.na, e1, sA] <;> exact rfl) (by decide) ?_
  refine WpO.nil ?_
  dsimp only [after, leaving]
  have gs6 : (H5.set (H4.next + 1) (spotRow (treeS k t.text).1 (treeS k t.text).2)).get (H4.next + 1) = some (spotRow (treeS k t.text).1 (treeS k t.text).2) := Heap.gf gs5
  have hmm := hm.trans hm5
  have st6 := st3.more hmm
  have gt6 := hmm.get gt3
  have gr6 := hmm.get gr3
  have gp6 := hmm.get gp3
  generalize H5.set (H4.next + 1) (spotRow (treeS k t.text).1 (treeS k t.text).2) = H6 at gs6 st6 gt6 gr6 gp6 ⊢
  clear hmm hm5 sA gs5 e1 e3 e4 gs gz st3 gt3 gr3 gp3
  by_cases h0 : (treeS k t.text).1 = 0
  ·rw [if_pos h0]
   repeat apply Wq
   refine Wp.runS (by simp only [bsg, reduceLT, reduceEqDiff, reduceCtorEq, s0, lc29, Heap.lf gs6 (k := 0) rfl, show (((treeS k t.text).1 : Int) != 0) = false by rw [h0]; rfl] <;> exact rfl) ?_
   repeat apply Wq
   refine Wp.cF ?_
   repeat apply Wq
   refine Wp.skip ?_
   repeat apply Wq
   refine Wp.r (Aq (pat_load gp6) (pat_put gr6)) ?_
   repeat apply Wq
   refine Wp.ret ?_
   dsimp only [after, leaving]
   have st7 := st6.set (j := h.next) (Nat.le_refl _) (patRow k t.text)
   refine ⟨rfl, rfl, _, ares_cell rfl rfl (pat_load (Heap.gf gr6)), rfl, st7.raw d⟩
  ·rw [if_neg h0]
   repeat apply Wq
   refine Wp.runS (by simp only [bsg, reduceLT, reduceEqDiff, reduceCtorEq, s0, lc29, Heap.lf gs6 (k := 0) rfl, show (((treeS k t.text).1 : Int) != 0) = true by rw [bne_iff_ne]; omega] <;> exact rfl) ?_
   repeat apply Wq
   refine Wp.cT ?_
   repeat apply Wq
   refine Wp.regionAs (is := List.range' 0 4 ++ (4 :: [])) rfl ?_
   refine WpO.r 4 (Aq @s0 (Aq @lc29 (Aq (Heap.lf gs6 (k := 0) rfl) (Aq @t3 (Aq @lc3 (Heap.lf gt6 (k := 3) rfl)))))) ?_
   refine WpO.cS c25 ((fail_spec G H6 (treeS k t.text).1 t.at').mono ?_)
   intro x h2 hr
   obtain ⟨rfl, rfl⟩ := hr
   exact ⟨rfl, rfl, rfl, st6.but⟩
end
section
open Go.Proofs Tryd
theorem takeS_le {o : List Tok} {e k a a' : Nat} {t : Tok} (h : takeS o e k a = .ok (t, a')) (hk : k ≠ 0) : a' = a + 1 ∧ a < o.length := by
 unfold takeS at h
 split at h
 ·rename_i hq
  cases h
  refine ⟨rfl, ?_⟩
  rcases Nat.lt_or_ge a o.length with q | q
  ·exact q
  ·unfold nextS at hq
   rw [List.getElem?_eq_none q] at hq
   exact absurd hq.symm hk
 ·cases h
theorem isS_le {o : List Tok} {e k a : Nat} {w : List UInt8} (h : isS o e k w a = true) (hk : k ≠ 0) : a < o.length := by
 unfold isS at h
 simp only [Bool.and_eq_true, decide_eq_true_eq] at h
 rcases Nat.lt_or_ge a o.length with q | q
 ·exact q
 ·have := h.1
  unfold nextS at this
  rw [List.getElem?_eq_none q] at this
  exact absurd this.symm hk
theorem mustS_le {o : List Tok} {e k a a' : Nat} {w : List UInt8} {u : Unit} (h : mustS o e k w a = .ok (u, a')) (hk : k ≠ 0) : a' = a + 1 ∧ a < o.length := by
 obtain ⟨h1, h2⟩ := mustS_ok h
 exact ⟨h1, isS_le h2 hk⟩
theorem nameRS_le {o : List Tok} {e k a a' : Nat} {s : List UInt8} (h : nameRS o e k a = .ok (s, a')) (hk : k ≠ 0) : a' = a + 1 ∧ a < o.length := by
 unfold nameRS at h
 cases ht : takeS o e k a with
 | error x => rw [ht] at h; cases h
 | ok ta =>
  obtain ⟨t, b⟩ := ta
  rw [ht] at h
  simp only [] at h
  split at h
  ·cases h; exact takeS_le ht hk
  ·cases h
theorem numberS_le {o : List Tok} {e lo hi a a' n : Nat} (h : numberS o e lo hi a = .ok (n, a')) : a' = a + 1 ∧ a < o.length := by
 unfold numberS at h
 cases ht : takeS o e 3 a with
 | error x => rw [ht] at h; cases h
 | ok ta =>
  obtain ⟨t, b⟩ := ta
  rw [ht] at h
  simp only [] at h
  split at h
  ·cases h; exact takeS_le ht (by decide)
  ·cases h
theorem leadsS_le {o : List Tok} {e a a' : Nat} {s : List UInt8} (h : leadsS o e a = .ok (s, a')) : a' = a + 2 ∧ a + 1 < o.length := by
 unfold leadsS at h
 cases ht : mustS o e 1 gotoB a with
 | error x => rw [ht] at h; cases h
 | ok ta =>
  obtain ⟨u, b⟩ := ta
  rw [ht] at h
  obtain ⟨h1, _⟩ := mustS_le ht (by decide)
  obtain ⟨h2, h3⟩ := nameRS_le h (by decide)
  omega
theorem patternS_le {o : List Tok} {e a a' : Nat} {x : Nat × List UInt8} (h : patternS o e a = .ok (x, a')) : a < a' ∧ a' ≤ o.length := by
 have hk : a ≤ (patKind o e a).2 := by unfold patKind; split <;> (try split) <;> simp
 unfold patternS at h
 cases ht : takeS o e 4 (patKind o e a).2 with
 | error x => rw [ht] at h; cases h
 | ok ta =>
  obtain ⟨t, b⟩ := ta
  rw [ht] at h
  simp only [] at h
  obtain ⟨h1, h2⟩ := takeS_le ht (by decide)
  split at h
  ·cases h; omega
  ·cases h
def ArmT.cells (x : ArmT) : List Value := [.int .i64 x.kind, .string (bs x.text), .string (bs x.to)]
def lineCells (x : LineT) (av : Value) : List Value := [.int .i64 x.op, .string (bs x.text), .string (bs x.name), .int .i64 x.n, .string (bs x.to), av, .int .i64 x.wait, .string (bs x.late)]
def lineRow (x : LineT) (av : Value) : AObj := .row { vs := lineCells x av, elem := 49 }
theorem ln (f : Nat) (hf : f < 8) (i k : Nat) : afieldAddr prog 49 (.pointer (some ⟨i, k, none⟩)) f = some (.pointer (some ⟨i, k + f, none⟩)) := by
 match f, hf with
 | 0, _ => exact afieldAddr_eq (f := 0) (o := 0) underlying49 (by rfl) (s := 0) (by kernel_rfl) i k
 | 1, _ => exact afieldAddr_eq underlying49 (by rfl) (s := 0) (by kernel_rfl) i k
 | 2, _ => exact afieldAddr_eq underlying49 (by rfl) (s := 0) (by kernel_rfl) i k
 | 3, _ => exact afieldAddr_eq underlying49 (by rfl) (s := 0) (by kernel_rfl) i k
 | 4, _ => exact afieldAddr_eq underlying49 (by rfl) (s := 0) (by kernel_rfl) i k
 | 5, _ => exact afieldAddr_eq underlying49 (by rfl) (s := 0) (by kernel_rfl) i k
 | 6, _ => exact afieldAddr_eq underlying49 (by rfl) (s := 0) (by kernel_rfl) i k
 | 7, _ => exact afieldAddr_eq underlying49 (by rfl) (s := 0) (by kernel_rfl) i k
theorem ln0 (i k : Nat) : afieldAddr prog 49 (.pointer (some ⟨i, k, none⟩)) 0 = some (.pointer (some ⟨i, k, none⟩)) := ln 0 (by decide) i k
theorem ln1 (i k : Nat) : afieldAddr prog 49 (.pointer (some ⟨i, k, none⟩)) 1 = some (.pointer (some ⟨i, k + 1, none⟩)) := ln 1 (by decide) i k
theorem ln2 (i k : Nat) : afieldAddr prog 49 (.pointer (some ⟨i, k, none⟩)) 2 = some (.pointer (some ⟨i, k + 2, none⟩)) := ln 2 (by decide) i k
theorem ln3 (i k : Nat) : afieldAddr prog 49 (.pointer (some ⟨i, k, none⟩)) 3 = some (.pointer (some ⟨i, k + 3, none⟩)) := ln 3 (by decide) i k
theorem ln4 (i k : Nat) : afieldAddr prog 49 (.pointer (some ⟨i, k, none⟩)) 4 = some (.pointer (some ⟨i, k + 4, none⟩)) := ln 4 (by decide) i k
theorem ln5 (i k : Nat) : afieldAddr prog 49 (.pointer (some ⟨i, k, none⟩)) 5 = some (.pointer (some ⟨i, k + 5, none⟩)) := ln 5 (by decide) i k
theorem ln6 (i k : Nat) : afieldAddr prog 49 (.pointer (some ⟨i, k, none⟩)) 6 = some (.pointer (some ⟨i, k + 6, none⟩)) := ln 6 (by decide) i k
theorem ln7 (i k : Nat) : afieldAddr prog 49 (.pointer (some ⟨i, k, none⟩)) 7 = some (.pointer (some ⟨i, k + 7, none⟩)) := ln 7 (by decide) i k
theorem agg47 : Program.agg prog 47 = some false := by kernel_rfl
theorem sz47 : (prog.info? 47).map (·.size) = some 1 := by kernel_rfl
theorem elem54 : elemOk prog 54 3 40 = true := by kernel_rfl
section
variable {H : Heap} {j : Nat} {x : LineT} {av : Value} (g : H.get j = some (lineRow x av))
include g
theorem ln_op (n : Int) : astore prog H 3 (.pointer (some ⟨j, 0, none⟩)) (.int .i64 n) = some (H.set j (lineRow { x with op := n } av)) := by
 rw [astore_cell sz3 rfl, Heap.sts_of g (by simp [lineCells]) rfl rfl]; rfl
theorem ln_text (s : List UInt8) : astore prog H 9 (.pointer (some ⟨j, 0 + 1, none⟩)) (.string (bs s)) = some (H.set j (lineRow { x with text := s } av)) := by
 rw [astore_cell sz9 rfl, Heap.sts_of g (by simp [lineCells]) rfl rfl]; rfl
theorem ln_name (s : List UInt8) : astore prog H 9 (.pointer (some ⟨j, 0 + 2, none⟩)) (.string (bs s)) = some (H.set j (lineRow { x with name := s } av)) := by
 rw [astore_cell sz9 rfl, Heap.sts_of g (by simp [lineCells]) rfl rfl]; rfl
theorem ln_n (n : Int) : astore prog H 3 (.pointer (some ⟨j, 0 + 3, none⟩)) (.int .i64 n) = some (H.set j (lineRow { x with n := n } av)) := by
 rw [astore_cell sz3 rfl, Heap.sts_of g (by simp [lineCells]) rfl rfl]; rfl
theorem ln_to (s : List UInt8) : astore prog H 9 (.pointer (some ⟨j, 0 + 4, none⟩)) (.string (bs s)) = some (H.set j (lineRow { x with to := s } av)) := by
 rw [astore_cell sz9 rfl, Heap.sts_of g (by simp [lineCells]) rfl rfl]; rfl
theorem ln_arms (s : Option Addr) (l c : Nat) (ar : List ArmT) : astore prog H 47 (.pointer (some ⟨j, 0 + 5, none⟩)) (.slice s l c) = some (H.set j (lineRow { x with arms := ar } (.slice s l c))) := by
 rw [astore_cell sz47 rfl, Heap.sts_of g (by simp [lineCells]) rfl rfl]; rfl
theorem ln_wait (n : Int) : astore prog H 3 (.pointer (some ⟨j, 0 + 6, none⟩)) (.int .i64 n) = some (H.set j (lineRow { x with wait := n } av)) := by
 rw [astore_cell sz3 rfl, Heap.sts_of g (by simp [lineCells]) rfl rfl]; rfl
theorem ln_late (s : List UInt8) : astore prog H 9 (.pointer (some ⟨j, 0 + 7, none⟩)) (.string (bs s)) = some (H.set j (lineRow { x with late := s } av)) := by
 rw [astore_cell sz9 rfl, Heap.sts_of g (by simp [lineCells]) rfl rfl]; rfl
end
structure As (h H : Heap) (i ix : Nat) (v : Value) (o : List Tok) (a e r : Nat) (x : LineT) (av : Value) : Prop where
 rd : Rd H i v o a e r
 gx : H.get ix = some (lineRow x av)
 ow : OwnF h.next H av 54 x.arms.length (x.arms.flatMap ArmT.cells)
 lo : h.next ≤ H.next
 old : ∀ j, j < h.next → j ≠ i → j ≠ ix → H.get j = h.get j
 vb : ∀ b l c, v = .slice (some ⟨b, 0, none⟩) l c → b ≠ ix ∧ b < h.next
 li : i < h.next
 lx : ix < h.next
 ne : ix ≠ i
section
variable {h H : Heap} {i ix : Nat} {v : Value} {o : List Tok} {a e r : Nat} {x : LineT} {av : Value} (st : As h H i ix v o a e r x av)
include st
theorem As.more {H2 : Heap} (hm : H.more H2) : As h H2 i ix v o a e r x av := ⟨⟨hm.get st.rd.g, st.rd.t.more hm, st.rd.ne⟩, hm.get st.gx, st.ow.keep fun j p hq _ => hm.get hq, Nat.le_trans st.lo hm.1,
 fun j hj h1 h2 => by rw [hm.2 j (by have := st.lo; omega)]; exact st.old j hj h1 h2, st.vb, st.li, st.lx, st.ne⟩
theorem As.at (a' : Nat) : As h (rdAt H i v e r a') i ix v o a' e r x av := ⟨st.rd.at a', by unfold rdAt; rw [Heap.gs st.ne]; exact st.gx,
 st.ow.keep fun j p hq hp => by unfold rdAt; rw [Heap.gs (by rintro rfl; rw [st.rd.g] at hq; cases hq; cases hp)]; exact hq, by rw [rdAt_next]; exact st.lo,
 fun j hj h1 h2 => by unfold rdAt; rw [Heap.gs h1]; exact st.old j hj h1 h2, st.vb, st.li, st.lx, st.ne⟩
theorem As.setX {x' : LineT} {av' : Value} (how : OwnF h.next H av' 54 x'.arms.length (x'.arms.flatMap ArmT.cells)) : As h (H.set ix (lineRow x' av')) i ix v o a e r x' av' := by
 refine ⟨⟨by rw [Heap.gs (Ne.symm st.ne)]; exact st.rd.g, ?_, st.rd.ne⟩, Heap.gf st.gx, how.keep fun j p hq hp => ?_, by simpa using st.lo, fun j hj h1 h2 => by rw [Heap.gs h2]; exact st.old j hj h1 h2, st.vb, st.li, st.lx, st.ne⟩
 ·rcases st.rd.t with h1 | ⟨b, r2, hb, hr, hv⟩
  ·exact .inl h1
  ·exact .inr ⟨b, r2, by rw [Heap.gs (st.vb b _ _ hv).1]; exact hb, hr, hv⟩
 ·rw [Heap.gs (by rintro rfl; rw [st.gx] at hq; cases hq; cases hp)]; exact hq
theorem As.push {H2 : Heap} (h1 : H.next ≤ H2.next) (h2 : ∀ j q, H.get j = some q → q.plain = true → H2.get j = some q) (h3 : ∀ j, j < h.next → H2.get j = H.get j) : Rd H2 i v o a e r ∧ H2.get ix = some (lineRow x av) ∧ h.next ≤ H2.next ∧ ∀ j, j < h.next → j ≠ i → j ≠ ix → H2.get j = h.get j := by
 refine ⟨⟨h2 _ _ st.rd.g rfl, ?_, st.rd.ne⟩, h2 _ _ st.gx rfl, Nat.le_trans st.lo h1, fun j hj q1 q2 => by rw [h3 j hj]; exact st.old j hj q1 q2⟩
 rcases st.rd.t with q1 | ⟨b, r2, hb, hr, hv⟩
 ·exact .inl q1
 ·exact .inr ⟨b, r2, by rw [h3 b (st.vb b _ _ hv).2]; exact hb, hr, hv⟩
end
def ArmsR (h : Heap) (i ix : Nat) (v : Value) (o : List Tok) (e r : Nat) (R : RdR LineT) (x : Ending) (h' : Heap) : Prop := match R with
 | .ok (x', a') => ∃ av, x = .returned (.tuple #[]) ∧ As h h' i ix v o a' e r x' av
 | .error (c, p) => x = .panicked (wrongQ c p) ∧ h.next ≤ h'.next ∧ ∀ j, j < h.next → j ≠ i → j ≠ ix → h'.get j = h.get j
theorem As.err {h H H2 : Heap} {i ix : Nat} {v : Value} {o : List Tok} {a e r : Nat} {x : LineT} {av : Value} (st : As h H i ix v o a e r x av) (hb : H.but i H2) : h.next ≤ H2.next ∧ ∀ j, j < h.next → j ≠ i → j ≠ ix → H2.get j = h.get j :=
 ⟨Nat.le_trans st.lo hb.1, fun j hj h1 h2 => by rw [hb.2 j (by have := st.lo; omega) h1]; exact st.old j hj h1 h2⟩
end
end Go.Mini
