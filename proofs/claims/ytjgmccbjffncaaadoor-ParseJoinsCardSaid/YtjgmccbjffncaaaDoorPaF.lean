/-
  PARSE, part F: a pattern, walked.
-/
import Derived.Test.YtjgmccbjffncaaaDoorMiniYLtoV
import Derived.Test.YtjgmccbjffncaaaDoorPaE
import Derived.Test.YtjgmccbjffncaaaDoorPatG
set_option linter.unusedSimpArgs false
set_option maxHeartbeats 8000000
set_option maxRecDepth 100000
namespace Go.Mini
open Go.Proofs

/-- While something is read: the reader, and all else that was there as it was. -/
structure Rs (h H : Heap) (i : Nat) (v : Value) (o : List Tok) (a e r : Nat) : Prop where
  rd : Rd H i v o a e r
  but : h.but i H
  vb : ∀ b l c, v = .slice (some ⟨b, 0, none⟩) l c → b < h.next
  lt : i < h.next
theorem Rd.rs {h : Heap} {i : Nat} {v : Value} {o : List Tok} {a e r : Nat} (d : Rd h i v o a e r) : Rs h h i v o a e r := by
  refine ⟨d, (Heap.more_refl h).but i, ?_, d.lt⟩
  rintro b l c rfl
  rcases d.t with ⟨_, q⟩ | ⟨b', r', hb, _, q⟩
  · cases q
  · cases q; exact Heap.lt_of_get hb
section
variable {h H : Heap} {i : Nat} {v : Value} {o : List Tok} {a e r : Nat} (st : Rs h H i v o a e r)
include st
theorem Rs.lo : h.next ≤ H.next := st.but.1
theorem Rs.more {H2 : Heap} (hm : H.more H2) : Rs h H2 i v o a e r := ⟨⟨hm.get st.rd.g, st.rd.t.more hm, st.rd.ne⟩, st.but.trans (hm.but i), st.vb, st.lt⟩
theorem Rs.alloc (x : AObj) : Rs h (H.alloc x) i v o a e r := st.more (Heap.more_alloc H x)
theorem Rs.at (a' : Nat) : Rs h (rdAt H i v e r a') i v o a' e r := ⟨st.rd.at a', but_set_at st.but _, st.vb, st.lt⟩
theorem Rs.set {j : Nat} (hj : h.next ≤ j) (x : AObj) : Rs h (H.set j x) i v o a e r := by
  refine ⟨⟨by rw [Heap.get_set_ne (by have := st.lt; omega)]; exact st.rd.g, ?_, st.rd.ne⟩, but_set_new st.but hj _, st.vb, st.lt⟩
  rcases st.rd.t with h1 | ⟨b, r2, hb, hr, hv⟩
  · exact .inl h1
  · exact .inr ⟨b, r2, by rw [Heap.get_set_ne (by have := st.vb b _ _ hv; omega)]; exact hb, hr, hv⟩
end
/-- A raw outcome where the reader is at its place and all else is as it was. -/
theorem Rs.raw {h H : Heap} {i : Nat} {v : Value} {o : List Tok} {a a' e r : Nat} (st : Rs h H i v o a' e r) (d : Rd h i v o a e r) : h.next ≤ H.next ∧ ∀ j, j < h.next → H.get j = (rdAt h i v e r a').get j := by
  refine ⟨st.but.1, fun j hj => ?_⟩
  by_cases e2 : j = i
  · subst e2; rw [get_rdAt d.g, st.rd.g]
  · unfold rdAt
    rw [Heap.get_set_ne e2]; exact st.but.2 j hj e2
theorem build52 (k : Int) : abuild Tryd.prog 52 [(0, .int .i64 k)] = some (patVal k []) := by kernel_rfl
theorem alloc52 (h : Heap) : aalloc Tryd.prog h 52 = some (h.new, h.alloc (patRow 0 [])) := aalloc_eq (z := patVal 0 []) (by kernel_rfl) rfl
theorem sz52 : (Tryd.prog.info? 52).map (·.size) = some 2 := by kernel_rfl
theorem agg52 : Program.agg Tryd.prog 52 = some true := by kernel_rfl
theorem agg29 : Program.agg Tryd.prog 29 = some false := by kernel_rfl
theorem pat_put {H : Heap} {j : Nat} {k0 : Int} {s0 : List UInt8} (g : H.get j = some (patRow k0 s0)) (k : Int) (s : List UInt8) : astore Tryd.prog H 52 (.pointer (some ⟨j, 0, none⟩)) (patVal k s) = some (H.set j (patRow k s)) := by
  have := astore_agg (P := Tryd.prog) (h := H) (i := j) (k := 0) (cs := [.int .i64 k, .string (bs s)]) sz52 rfl rfl
  unfold patVal
  rw [this, Heap.sts_of g (by simp) rfl rfl]; rfl
theorem pat_new (H : Heap) (k : Int) (s : List UInt8) : astore Tryd.prog (H.alloc (patRow 0 [])) 52 (.pointer (some ⟨H.next, 0, none⟩)) (patVal k s) = some (H.alloc (patRow k s)) := by
  rw [pat_put (Heap.get_alloc_new H (patRow 0 [])), Heap.set_alloc]
theorem pat_load {H : Heap} {j : Nat} {k : Int} {s : List UInt8} (g : H.get j = some (patRow k s)) : aload Tryd.prog H 52 (.pointer (some ⟨j, 0, none⟩)) = some (patVal k s) := by
  rw [aload_agg agg52 sz52, Heap.lds_of g (by simp)]; rfl
theorem pat_kind {H : Heap} {j : Nat} {k0 : Int} {s : List UInt8} (g : H.get j = some (patRow k0 s)) (k : Int) : astore Tryd.prog H 3 (.pointer (some ⟨j, 0, none⟩)) (.int .i64 k) = some (H.set j (patRow k s)) := by
  rw [astore_cell sz3 rfl, Heap.sts_of g (by simp) rfl rfl]; rfl
theorem pat_text {H : Heap} {j : Nat} {k : Int} {s0 : List UInt8} (g : H.get j = some (patRow k s0)) (s : List UInt8) : astore Tryd.prog H 9 (.pointer (some ⟨j, 0 + 1, none⟩)) (.string (bs s)) = some (H.set j (patRow k s)) := by
  rw [astore_cell sz9 rfl, Heap.sts_of g (by simp) rfl rfl]; rfl
def patPV (x : Nat × List UInt8) : Value := patVal x.1 x.2
theorem pattern_does (G : Nat) (B : Base Tryd.prog G) (h : Heap) (i : Nat) (v : Value) (o : List Tok) (a e r : Nat) (d : Rd h i v o a e r) (ha : a + 1 ≤ 1000000) :
    Does Tryd.prog G (GoodE Tryd.prog B) 56 [.pointer (some ⟨i, 0, none⟩)] h (RdOut patPV h i v e r (patternS o e a)) := by
  refine RdRaw.out (fun _ => rfl) d.g d.t ?_
  have c25 : canEnter Tryd.prog 25 = true := by kernel_rfl
  have c26 : canEnter Tryd.prog 26 = true := by kernel_rfl
  have c48 : canEnter Tryd.prog 48 = true := by kernel_rfl
  have c55 : canEnter Tryd.prog 55 = true := by kernel_rfl
  refine Does.body Tryd.func56 rfl ?_
  have hn : enterF Tryd.f56 [.pointer (some ⟨i, 0, none⟩)] = ⟨33, [(0, .pointer (some ⟨i, 0, none⟩))], []⟩ := rfl
  rw [hn]; clear hn
  repeat refine Wp.seq ?_
  refine Wp.runS (by simp only [bsf, abuiltin, aextract, Nat.reduceLT, Nat.reduceEqDiff, reduceCtorEq, alloc52, Heap.new] <;> exact rfl) ?_
  dsimp only [after, leaving]
  repeat refine Wp.seq ?_
  refine Wp.runS (by simp only [bsf, abuiltin, aextract, Nat.reduceLT, Nat.reduceEqDiff, reduceCtorEq, build52, alloc52, Heap.new, pat_new] <;> exact rfl) ?_
  dsimp only [after, leaving]
  have st := (d.rs.alloc (patRow 0 [])).alloc (patRow 1 [])
  have gr : ((h.alloc (patRow 0 [])).alloc (patRow 1 [])).get h.next = some (patRow 0 []) := by rw [Heap.get_alloc_old _ _ (by simp)]; exact Heap.get_alloc_new _ _
  have gp : ((h.alloc (patRow 0 [])).alloc (patRow 1 [])).get (h.next + 1) = some (patRow 1 []) := Heap.get_alloc_new (h.alloc (patRow 0 [])) (patRow 1 [])
  have hlo : h.next + 2 ≤ ((h.alloc (patRow 0 [])).alloc (patRow 1 [])).next := by simp
  simp only [Heap.next_alloc]
  generalize (h.alloc (patRow 0 [])).alloc (patRow 1 []) = H at st gr gp hlo ⊢
  repeat refine Wp.seq ?_
  refine Wp.regionAs (is := List.range' 0 1 ++ (1 :: [])) rfl ?_
  refine WpO.runS 1 (by simp only [bsd, bsf, abuiltin, aextract, Nat.reduceLT, Nat.reduceEqDiff, reduceCtorEq] <;> exact rfl) (by decide) ?_
  refine WpO.callR (is_does G B H i v o a e r 1 globB st.rd (by omega)) rfl (by simp only [bsf, abuiltin, aextract, Nat.reduceLT, Nat.reduceEqDiff, reduceCtorEq, c55]) (by simp only [calleeOf, fnOf, List.append_nil, List.nil_append, bsf, abuiltin, aextract, Nat.reduceLT, Nat.reduceEqDiff, reduceCtorEq, c55] <;> exact rfl) ?_
  rintro _ h9 ⟨rfl, hh9⟩
  obtain rfl := hh9.symm
  clear hh9
  refine ⟨_, _, rfl, by simp only [bsf, abuiltin, aextract, Nat.reduceLT, Nat.reduceEqDiff, reduceCtorEq]; exact rfl, ?_⟩
  refine WpO.nil ?_
  dsimp only [after, leaving]
  have hi := st.lt
  repeat refine Wp.seq ?_
  refine Wp.cut (fun fr u h' => u = none ∧ Rs h h' i v o (patKind o e a).2 e r ∧ h'.get h.next = some (patRow 0 []) ∧ h'.get (h.next + 1) = some (patRow (patKind o e a).1 []) ∧ h.next + 2 ≤ h'.next ∧ ∃ sl, fr = ⟨33, sl, []⟩ ∧ holds [(0, .pointer (some ⟨i, 0, none⟩)), (2, .pointer (some ⟨h.next, 0, none⟩)), (3, .pointer (some ⟨h.next + 1, 0, none⟩))] sl) ?_ ?_
  rotate_left
  · unfold patKind
    cases hs : isS o e 1 globB a with
    | true =>
      simp only [if_true]
      have st2 := st.at (a + 1)
      have gr2 : (rdAt H i v e r (a + 1)).get h.next = some (patRow 0 []) := by unfold rdAt; rw [Heap.get_set_ne (by omega)]; exact gr
      have gp2 : (rdAt H i v e r (a + 1)).get (h.next + 1) = some (patRow 1 []) := by unfold rdAt; rw [Heap.get_set_ne (by omega)]; exact gp
      repeat refine Wp.seq ?_
      refine Wp.condT (by simp only [bsf, abuiltin, aextract, Nat.reduceLT, Nat.reduceEqDiff, reduceCtorEq]) ?_
      repeat refine Wp.seq ?_
      refine Wp.runS (by simp only [bsf, abuiltin, aextract, Nat.reduceLT, Nat.reduceEqDiff, reduceCtorEq, p0, pat_kind gp2] <;> exact rfl) ?_
      dsimp only [after, leaving]
      exact ⟨rfl, st2.set (by omega) _, by rw [Heap.get_set_ne (by omega)]; exact gr2, Heap.get_set_self gp2, by unfold rdAt; simpa using hlo, _, rfl, rfl, rfl, rfl, trivial⟩
    | false =>
      simp only [Bool.false_eq_true, if_false]
      repeat refine Wp.seq ?_
      refine Wp.condF (by simp only [bsf, abuiltin, aextract, Nat.reduceLT, Nat.reduceEqDiff, reduceCtorEq]) ?_
      repeat refine Wp.seq ?_
      refine Wp.regionAs (is := List.range' 0 1 ++ (1 :: [])) rfl ?_
      refine WpO.runS 1 (by simp only [bsd, bsf, abuiltin, aextract, Nat.reduceLT, Nat.reduceEqDiff, reduceCtorEq] <;> exact rfl) (by decide) ?_
      refine WpO.callR (is_does G B H i v o a e r 1 reB st.rd (by omega)) rfl (by simp only [bsf, abuiltin, aextract, Nat.reduceLT, Nat.reduceEqDiff, reduceCtorEq, c55]) (by simp only [calleeOf, fnOf, List.append_nil, List.nil_append, bsf, abuiltin, aextract, Nat.reduceLT, Nat.reduceEqDiff, reduceCtorEq, c55] <;> exact rfl) ?_
      rintro _ h9 ⟨rfl, hh9⟩
      obtain rfl := hh9.symm
      clear hh9
      refine ⟨_, _, rfl, by simp only [bsf, abuiltin, aextract, Nat.reduceLT, Nat.reduceEqDiff, reduceCtorEq]; exact rfl, ?_⟩
      refine WpO.nil ?_
      dsimp only [after, leaving]
      cases hs2 : isS o e 1 reB a with
      | true =>
        simp only [if_true]
        have st2 := st.at (a + 1)
        have gr2 : (rdAt H i v e r (a + 1)).get h.next = some (patRow 0 []) := by unfold rdAt; rw [Heap.get_set_ne (by omega)]; exact gr
        have gp2 : (rdAt H i v e r (a + 1)).get (h.next + 1) = some (patRow 1 []) := by unfold rdAt; rw [Heap.get_set_ne (by omega)]; exact gp
        repeat refine Wp.seq ?_
        refine Wp.condT (by simp only [bsf, abuiltin, aextract, Nat.reduceLT, Nat.reduceEqDiff, reduceCtorEq]) ?_
        repeat refine Wp.seq ?_
        refine Wp.runS (by simp only [bsf, abuiltin, aextract, Nat.reduceLT, Nat.reduceEqDiff, reduceCtorEq, p0, pat_kind gp2] <;> exact rfl) ?_
        dsimp only [after, leaving]
        exact ⟨rfl, st2.set (by omega) _, by rw [Heap.get_set_ne (by omega)]; exact gr2, Heap.get_set_self gp2, by unfold rdAt; simpa using hlo, _, rfl, rfl, rfl, rfl, trivial⟩
      | false =>
        simp only [Bool.false_eq_true, if_false]
        repeat refine Wp.seq ?_
        refine Wp.condF (by simp only [bsf, abuiltin, aextract, Nat.reduceLT, Nat.reduceEqDiff, reduceCtorEq]) ?_
        repeat refine Wp.seq ?_
        refine Wp.skip ?_
        dsimp only [after, leaving]
        exact ⟨rfl, st, gr, gp, hlo, _, rfl, rfl, rfl, rfl, trivial⟩
  clear st gr gp hlo H
  rintro fr u H ⟨rfl, st, gr, gp, hlo, sl, rfl, hs1⟩
  dsimp only [after, leaving]
  refine Wp.weaken (Frm.le_of hs1) ?_
  clear hs1 sl
  have hk2 : (patKind o e a).2 ≤ a + 1 := by unfold patKind; split <;> (try split) <;> simp
  unfold patternS
  generalize patKind o e a = pk at st gp hk2 ⊢
  obtain ⟨k, a1⟩ := pk
  simp only at st gp hk2 ⊢
  repeat refine Wp.seq ?_
  refine Wp.regionAs (is := List.range' 0 1 ++ (1 :: (List.range' 2 2 ++ []))) rfl ?_
  refine WpO.runS 1 (by simp only [bsd, bsf, abuiltin, aextract, Nat.reduceLT, Nat.reduceEqDiff, reduceCtorEq] <;> exact rfl) (by decide) ?_
  refine WpO.callS rfl (by simp only [bsf, abuiltin, aextract, Nat.reduceLT, Nat.reduceEqDiff, reduceCtorEq, c26]) (by simp only [calleeOf, fnOf, List.append_nil, List.nil_append, bsf, abuiltin, aextract, Nat.reduceLT, Nat.reduceEqDiff, reduceCtorEq, c26] <;> exact rfl) ((take_does G B H i v o a1 e r 4 st.rd.g st.rd.t (by omega)).mono ?_)
  intro x h2 hr
  cases ht : takeS o e 4 a1 with
  | error c =>
    obtain ⟨c, p⟩ := c
    rw [ht] at hr
    obtain ⟨rfl, hb⟩ := hr
    exact ⟨rfl, rfl, rfl, st.but.trans hb⟩
  | ok ta =>
    obtain ⟨t, a2⟩ := ta
    rw [ht] at hr
    obtain ⟨rfl, rfl⟩ := hr
    refine ⟨_, by simp only [bsf, abuiltin, aextract, Nat.reduceLT, Nat.reduceEqDiff, reduceCtorEq] <;> exact rfl, ?_⟩
    refine WpO.runS 2 (by simp only [bsd, bsf, abuiltin, aextract, Nat.reduceLT, Nat.reduceEqDiff, reduceCtorEq, alloc31, Heap.new, tok_put] <;> exact rfl) (by decide) ?_
    refine WpO.nil ?_
    dsimp only [after, leaving]
    have st2 := (st.at a2).alloc t.row
    have hjt : h.next + 2 ≤ (rdAt H i v e r a2).next := by rw [rdAt_next]; exact hlo
    have gt : ((rdAt H i v e r a2).alloc t.row).get (rdAt H i v e r a2).next = some t.row := Heap.get_alloc_new _ _
    have gr2 : ((rdAt H i v e r a2).alloc t.row).get h.next = some (patRow 0 []) := by rw [Heap.get_alloc_old _ _ (by omega)]; unfold rdAt; rw [Heap.get_set_ne (by omega)]; exact gr
    have gp2 : ((rdAt H i v e r a2).alloc t.row).get (h.next + 1) = some (patRow k []) := by rw [Heap.get_alloc_old _ _ (by omega)]; unfold rdAt; rw [Heap.get_set_ne (by omega)]; exact gp
    have hlo2 : h.next + 3 ≤ ((rdAt H i v e r a2).alloc t.row).next := by rw [Heap.next_alloc]; omega
    generalize (rdAt H i v e r a2).alloc t.row = H2 at st2 gt gr2 gp2 hlo2 ⊢
    generalize (rdAt H i v e r a2).next = jt at gt hjt ⊢
    clear st gr gp hlo
    repeat refine Wp.seq ?_
    refine Wp.runS (by simp only [bsf, abuiltin, aextract, Nat.reduceLT, Nat.reduceEqDiff, reduceCtorEq, t1, p1, Nat.zero_add, aload_cell agg9, Heap.ld_of gt (k := 1) rfl, show astore Tryd.prog H2 9 (.pointer (some ⟨h.next + 1, 1, none⟩)) (.string (bs t.text)) = some (H2.set (h.next + 1) (patRow k t.text)) from pat_text gp2 t.text] <;> exact rfl) ?_
    dsimp only [after, leaving]
    have st3 := st2.set (j := h.next + 1) (by omega) (patRow k t.text)
    have gt3 : (H2.set (h.next + 1) (patRow k t.text)).get jt = some t.row := by rw [Heap.get_set_ne (by omega)]; exact gt
    have gr3 : (H2.set (h.next + 1) (patRow k t.text)).get h.next = some (patRow 0 []) := by rw [Heap.get_set_ne (by omega)]; exact gr2
    have gp3 : (H2.set (h.next + 1) (patRow k t.text)).get (h.next + 1) = some (patRow k t.text) := Heap.get_set_self gp2
    generalize H2.set (h.next + 1) (patRow k t.text) = H3 at st3 gt3 gr3 gp3 ⊢
    clear st2 gt gr2 gp2 hlo2
    repeat refine Wp.seq ?_
    refine Wp.regionAs (is := List.range' 0 1 ++ (1 :: (List.range' 2 7 ++ []))) rfl ?_
    refine WpO.runS 1 (by simp only [bsd, bsf, abuiltin, aextract, Nat.reduceLT, Nat.reduceEqDiff, reduceCtorEq, pat_load gp3] <;> exact rfl) (by decide) ?_
    refine WpO.callS rfl (by simp only [bsf, abuiltin, aextract, Nat.reduceLT, Nat.reduceEqDiff, reduceCtorEq, c48]) (by simp only [calleeOf, fnOf, List.append_nil, List.nil_append, bsf, abuiltin, aextract, Nat.reduceLT, Nat.reduceEqDiff, reduceCtorEq, c48] <;> exact rfl) ((tree_does G B H3 k t.text).mono ?_)
    rintro x H4 ⟨nv, rfl, hm, hn⟩
    have gz : ((H4.alloc (nodeRow zeroCells)).alloc (spotRow 0 0)).get H4.next = some (nodeRow zeroCells) := by rw [Heap.get_alloc_old _ _ (by simp)]; exact Heap.get_alloc_new _ _
    have gs : ((H4.alloc (nodeRow zeroCells)).alloc (spotRow 0 0)).get (H4.next + 1) = some (spotRow 0 0) := Heap.get_alloc_new (H4.alloc (nodeRow zeroCells)) (spotRow 0 0)
    obtain ⟨H5, e1, _, e3, e4, _⟩ := node_fin gz rfl hn (by simp; omega)
    have gs5 : H5.get (H4.next + 1) = some (spotRow 0 0) := by rw [e4 _ (by omega)]; exact gs
    have sA := spot_store' gs5 (treeS k t.text).1 (treeS k t.text).2
    have hm5 : H4.more (H5.set (H4.next + 1) (spotRow (treeS k t.text).1 (treeS k t.text).2)) := ⟨by rw [Heap.next_set, e3]; simp; omega, fun j hj => by rw [Heap.get_set_ne (by omega), e4 j (by omega), Heap.get_alloc_old _ _ (by simp; omega), Heap.get_alloc_old _ _ hj]⟩
    refine ⟨_, by simp only [bsf, abuiltin, aextract, Nat.reduceLT, Nat.reduceEqDiff, reduceCtorEq] <;> exact rfl, ?_⟩
    refine WpO.runS 7 (by simp only [bsd, bsf, abuiltin, aextract, Nat.reduceLT, Nat.reduceEqDiff, reduceCtorEq, List.getElem?_toArray, alloc108', alloc27, Heap.new, Heap.next_alloc, e1, sA] <;> exact rfl) (by decide) ?_
    refine WpO.nil ?_
    dsimp only [after, leaving]
    have gs6 : (H5.set (H4.next + 1) (spotRow (treeS k t.text).1 (treeS k t.text).2)).get (H4.next + 1) = some (spotRow (treeS k t.text).1 (treeS k t.text).2) := Heap.get_set_self gs5
    have hmm := hm.trans hm5
    have st6 := st3.more hmm
    have gt6 := hmm.get gt3
    have gr6 := hmm.get gr3
    have gp6 := hmm.get gp3
    generalize H5.set (H4.next + 1) (spotRow (treeS k t.text).1 (treeS k t.text).2) = H6 at gs6 st6 gt6 gr6 gp6 ⊢
    clear hmm hm5 sA gs5 e1 e3 e4 gs gz st3 gt3 gr3 gp3
    by_cases h0 : (treeS k t.text).1 = 0
    · rw [if_pos h0]
      repeat refine Wp.seq ?_
      refine Wp.runS (by simp only [bsf, abuiltin, aextract, Nat.reduceLT, Nat.reduceEqDiff, reduceCtorEq, s0, aload_cell agg29, Heap.ld_of gs6 (k := 0) rfl, abin_int, ai_neq, show (((treeS k t.text).1 : Int) != 0) = false by rw [h0]; rfl] <;> exact rfl) ?_
      dsimp only [after, leaving]
      repeat refine Wp.seq ?_
      refine Wp.condF (by simp only [bsf, abuiltin, aextract, Nat.reduceLT, Nat.reduceEqDiff, reduceCtorEq]) ?_
      repeat refine Wp.seq ?_
      refine Wp.skip ?_
      dsimp only [after, leaving]
      repeat refine Wp.seq ?_
      refine Wp.runS (by simp only [bsf, abuiltin, aextract, Nat.reduceLT, Nat.reduceEqDiff, reduceCtorEq, pat_load gp6, pat_put gr6] <;> exact rfl) ?_
      dsimp only [after, leaving]
      repeat refine Wp.seq ?_
      refine Wp.ret ?_
      dsimp only [after, leaving]
      have st7 := st6.set (j := h.next) (Nat.le_refl _) (patRow k t.text)
      refine ⟨rfl, rfl, _, ares_cell rfl rfl (pat_load (Heap.get_set_self gr6)), rfl, st7.raw d⟩
    · rw [if_neg h0]
      repeat refine Wp.seq ?_
      refine Wp.runS (by simp only [bsf, abuiltin, aextract, Nat.reduceLT, Nat.reduceEqDiff, reduceCtorEq, s0, aload_cell agg29, Heap.ld_of gs6 (k := 0) rfl, abin_int, ai_neq, show (((treeS k t.text).1 : Int) != 0) = true by rw [bne_iff_ne]; omega] <;> exact rfl) ?_
      dsimp only [after, leaving]
      repeat refine Wp.seq ?_
      refine Wp.condT (by simp only [bsf, abuiltin, aextract, Nat.reduceLT, Nat.reduceEqDiff, reduceCtorEq]) ?_
      repeat refine Wp.seq ?_
      refine Wp.regionAs (is := List.range' 0 4 ++ (4 :: [])) rfl ?_
      refine WpO.runS 4 (by simp only [bsd, bsf, abuiltin, aextract, Nat.reduceLT, Nat.reduceEqDiff, reduceCtorEq, s0, aload_cell agg29, Heap.ld_of gs6 (k := 0) rfl, t3, Nat.zero_add, aload_cell agg3, Heap.ld_of gt6 (k := 3) rfl] <;> exact rfl) (by decide) ?_
      refine WpO.callS rfl (by simp only [bsf, abuiltin, aextract, Nat.reduceLT, Nat.reduceEqDiff, reduceCtorEq, c25]) (by simp only [calleeOf, fnOf, List.append_nil, List.nil_append, bsf, abuiltin, aextract, Nat.reduceLT, Nat.reduceEqDiff, reduceCtorEq, c25] <;> exact rfl) ((fail_spec G H6 (treeS k t.text).1 t.at').mono ?_)
      intro x h2 hr
      obtain ⟨rfl, rfl⟩ := hr
      exact ⟨rfl, rfl, rfl, st6.but⟩
end Go.Mini
