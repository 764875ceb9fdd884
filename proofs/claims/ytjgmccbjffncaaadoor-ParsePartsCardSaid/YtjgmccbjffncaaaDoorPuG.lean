import Derived.Test.YtjgmccbjffncaaaDoorPLexZc
import Derived.Test.YtjgmccbjffncaaaDoorMiniYOtoYS
import Derived.Test.YtjgmccbjffncaaaDoorPuCtoPuD
set_option maxHeartbeats 16000000
set_option maxRecDepth 100000
set_option linter.unusedSimpArgs false
namespace Go.Mini
open Nat (reduceLT reduceEqDiff)
open Go.Proofs Tryd
def hadRow (l : List Bool) : AObj := .row { vs := l.map .bool, elem := 4 }
theorem elem4 : elemOk prog 4 1 1 = true := by kernel_rfl
theorem sz4 : (prog.info? 4).map (·.size) = some 1 := by kernel_rfl
theorem agg4 : Program.agg prog 4 = some false := by kernel_rfl
theorem mk39 (h : Heap) (n : Nat) (hn : n ≤ 100000) : amake prog h 39 (.int .i64 n) (.int .i64 n) = some (.slice (some ⟨h.next, 0, none⟩) n n, h.alloc (hadRow (List.replicate n false))) := by
 obtain ⟨i, h1, h2⟩ := info_some sz4
 obtain ⟨i', z, h1', _, h3, h4, h5, h6⟩ := elemOk_info elem4
 obtain rfl : i' = i := Option.some.inj (h1'.symm.trans h1)
 have hz : z = .bool false := by
  have : ((prog.info? 4).bind (·.zero)) = some (.bool false) := by kernel_rfl
  rw [h1, Option.bind_some, h4] at this
  exact Option.some.inj this
 subst hz
 unfold amake
 simp only [underlying39, h1, h4, Option.bind_some, h3, h2]
 rw [if_pos ⟨rfl, by omega, by omega, by omega, by omega⟩]
 simp only [Int.toNat_natCast, Nat.mul_one]
 congr 3
 unfold hadRow
 congr 2
 rw [List.map_replicate]
 unfold madeCells
 simp [Value.cells]
 apply List.ext_getElem
 ·simp
 ·intro j q1 q2
  simp [Nat.mod_one]
theorem had_idx {j n k : Nat} (h : k < n) : aindexAddr prog 39 (.slice (some ⟨j, 0, none⟩) n n) (.int .i64 (k : Nat)) = some (.pointer (some ⟨j, k, none⟩)) := by
 rw [aindexAddr_slice (s := 1) underlying39 sz4 (by omega) (by omega)]
 simp
theorem had_at {h : Heap} {j k : Nat} {l : List Bool} {c : Bool} (g : h.get j = some (hadRow l)) (hc : l[k]? = some c) : aload prog h 4 (.pointer (some ⟨j, k, none⟩)) = some (.bool c) := by
 rw [aload_cell agg4]
 exact Heap.lf g (by simp only [List.getElem?_map, hc]; rfl)
theorem had_put {h : Heap} {j k : Nat} {l : List Bool} (g : h.get j = some (hadRow l)) (hk : k < l.length) (c : Bool) : astore prog h 4 (.pointer (some ⟨j, k, none⟩)) (.bool c) = some (h.set j (hadRow (l.set k c))) := by
 rw [astore_cell sz4 rfl, Heap.sts_of g (by simp; omega) rfl rfl]
 show some (h.set j (.row { vs := splice (l.map Value.bool) k [.bool c], elem := 4 })) = _
 rw [splice_one (by simpa using hk)]
 unfold hadRow
 rw [List.map_set]
theorem num_at {h : Heap} {u : Value} {ns : List Int} (hn : Nums h u .i64 ns) {j : Nat} {n : Int} (hj : ns[j]? = some n) : ∃ p, aindexAddr prog 38 u (.int .i64 (j : Nat)) = some p ∧ aload prog h 3 p = some (.int .i64 n) := by
 obtain ⟨a, c, rfl, q⟩ := hn
 obtain ⟨b, o, sp, rfl, q2⟩ := q j n hj
 have hlt := (List.getElem?_eq_some_iff.1 hj).1
 refine ⟨_, by rw [aindexAddr_slice (s := 1) underlying38 (by kernel_rfl) (by omega) (by omega)], ?_⟩
 rw [lc3]
 simpa using q2
theorem num_len {h H : Heap} {u : Value} {ns : List Int} (hn : Nums h u .i64 ns) : alen prog H 38 u = some (.int .i64 (ns.length : Nat)) := by
 obtain ⟨a, c, rfl, _⟩ := hn
 exact alen_slice underlying38 _ _ _
def PartV (lo : Nat) (h : Heap) (m : List (BlockT × Value)) (bv : Value) : Prop := OwnF lo h bv 42 m.length (blocksC m)
theorem PartV.view {lo : Nat} {h : Heap} {m : List (BlockT × Value)} {bv : Value} (o : PartV lo h m bv) (hl : ∀ p ∈ m, LinesV h p.1.lines p.2) (hb : m.length ≤ maxLen) : BlocksV h (m.map (·.1)) bv := by
 have := OwnF.view (k := 2) (R := BlockC) o (m.map fun p => (p.1, [.string (bs p.1.name), p.2])) (by simp) (by rw [List.flatMap_map]; rfl) (by
  intro q hq
  obtain ⟨a, ha, rfl⟩ := List.mem_map.1 hq
  exact ⟨rfl, a.2, rfl, hl a ha⟩) hb
 rw [List.map_map] at this
 exact this
theorem PartV.push {lo : Nat} {H : Heap} {m : List (BlockT × Value)} {bv : Value} (o : PartV lo H m bv) (hlo : lo ≤ H.next) (hn : m.length ≤ 1000000) (x : BlockT) (lv : Value) (h1 : one lv = true) :
  abuildSlice prog H 22 1 [(0, .agg #[.string (bs x.name), lv])] = some (.slice (some ⟨H.next, 0, none⟩) 1 1, H.alloc (.row { vs := [.string (bs x.name), lv], elem := 42 })) ∧
  ∃ v' H', aappend prog (H.alloc (.row { vs := [.string (bs x.name), lv], elem := 42 })) 22 22 bv (.slice (some ⟨H.next, 0, none⟩) 1 1) = some (v', H') ∧ PartV lo H' (m ++ [(x, lv)]) v' ∧ KeepsE 42 H H' ∧ ∀ j, j < lo → H'.get j = H.get j := by
 have hone : (Value.agg #[.string (bs x.name), lv]).cells.toList.all Mini.one = true := by simp [Value.cells, h1]; rfl
 obtain ⟨q1, v', H', q2, q3, q4, q5⟩ := own_pushK (w := .agg #[.string (bs x.name), lv]) underlying22 elem42 (by omega) o hlo (blocksC_len m) rfl hone (by omega) (by omega)
 refine ⟨q1, v', H', q2, ?_, q4, q5⟩
 have hc : blocksC (m ++ [(x, lv)]) = blocksC m ++ (Value.agg #[.string (bs x.name), lv]).cells.toList := by unfold blocksC; rw [List.flatMap_append]; rfl
 unfold PartV
 rw [hc, List.length_append]; exact q3
structure PrS (h K : Heap) (j3 j5 j6 : Nat) (v : Value) (bl : List BlockT) (H : Heap) (had : List Bool) (m : List (BlockT × Value)) (bv : Value) : Prop where
 old : ∀ j, j < h.next → H.get j = h.get j
 nx : K.next ≤ H.next
 g3 : H.get j3 = some (scriptRow v)
 g5 : H.get j5 = some (scriptRow bv)
 g6 : H.get j6 = some (hadRow had)
 hl : had.length = bl.length
 pm : (m.map (·.1)).Perm (pick bl had)
 pv : PartV K.next H m bv
 lv : ∀ p ∈ m, LinesV h p.1.lines p.2
theorem PrS.more {h K : Heap} {j3 j5 j6 : Nat} {v bv : Value} {bl : List BlockT} {H : Heap} {had : List Bool} {m : List (BlockT × Value)} (st : PrS h K j3 j5 j6 v bl H had m bv) (hk : h.next ≤ K.next) : h.more H := ⟨by have := st.nx; omega, st.old⟩
theorem LinesV.cut {h : Heap} {l : List LineT} {b : Nat} {k : Nat} {sp : Option Nat} {n c : Nat} (s : LinesV h l (.slice (some ⟨b, k, sp⟩) n c)) (hne : l ≠ []) : LinesV h (l.take (l.length - 1)) (.slice (some ⟨b, k, sp⟩) (n - 1) c) := by
 obtain ⟨el, rfl, h2, h0, h3⟩ := s
 rcases h3 with ⟨rfl, _⟩ | ⟨b', k', sp', c', q1, q2, q3⟩
 ·exact absurd rfl hne
 cases q2
 have hpos : 0 < el.length := List.length_pos_iff.2 q1
 have hlen := elems_len el fun p hp => (h2 p hp).1
 have htl := elems_len (el.take (el.length - 1)) fun p hp => (h2 p (List.mem_of_mem_take hp)).1
 rw [List.length_take, Nat.min_eq_left (by omega)] at htl
 obtain ⟨r, hr, h5⟩ := ob q3
 split at h5
 case isFalse => cases h5
 rename_i hle
 have h6 := Option.some.inj h5
 have hm : (el.length - 1) * 8 ≤ el.length * 8 := Nat.mul_le_mul_right _ (by omega)
 have hld : h.lds b k ((el.length - 1) * 8) = some ((el.take (el.length - 1)).flatMap (·.2)) := by
  rw [Heap.lds_of (Heap.row_some.1 hr) (by omega)]
  congr 1
  have e1 : el.flatMap (·.2) = (el.take (el.length - 1)).flatMap (·.2) ++ (el.drop (el.length - 1)).flatMap (·.2) := by rw [← List.flatMap_append, List.take_append_drop]
  have e2 : (el.flatMap (·.2)).take ((el.length - 1) * 8) = (el.take (el.length - 1)).flatMap (·.2) := by rw [e1, ← htl, List.take_left]
  rw [← e2, ← h6, List.take_take, Nat.min_eq_left hm]
 refine ⟨el.take (el.length - 1), by rw [List.map_take, List.length_map], fun p hp => h2 p (List.mem_of_mem_take hp), by rw [List.length_take]; omega, ?_⟩
 by_cases h1 : el.length = 1
 ·left
  rw [h1] at hld ⊢
  refine ⟨rfl, .inl ⟨some ⟨b, k, sp⟩, c, rfl, fun b2 k2 sp2 e => ?_⟩⟩
  cases e
  simpa using hld
 ·right
  refine ⟨b, k, sp, c, ?_, ?_, ?_⟩
  ·intro q
   have := congrArg List.length q
   rw [List.length_take] at this
   simp at this
   omega
  ·rw [List.length_take, Nat.min_eq_left (by omega)]
  ·rw [List.length_take, Nat.min_eq_left (by omega)]; exact hld
theorem slice_cut {H : Heap} {b n : Nat} (hn : 0 < n) (c : Nat) (hc : n ≤ c) : aslice prog H 40 (.slice (some ⟨b, 0, none⟩) n c) none (some (.int .i64 ((n - 1 : Nat) : Int))) none = some (.slice (some ⟨b, 0, none⟩) (n - 1) c, H) := by
 obtain ⟨x, h3, h4⟩ := info_some sz49'
 unfold aslice
 simp only [underlying40, h3, Option.bind_some]
 rw [if_pos hc, abound_int (by omega) (by omega)]
 simp only [Option.bind_some, abound]
 rw [if_pos (.inr trivial)]
 simp
theorem part_roomy {bl part : List BlockT} {had : List Bool} (h : roomy bl) (hp : part.Perm (pick bl had)) : roomy part ∧ part.length ≤ bl.length := by
 have hs := pick_sub bl had
 refine ⟨⟨?_, fun b hb => h.2 b (hs.subset (hp.subset hb))⟩, by rw [hp.length_eq]; exact hs.length_le⟩
 have : linesOf part ≤ linesOf bl := by
  unfold linesOf
  rw [(hp.map _).sum_nat]
  exact sub_sum (fun b => b.lines.length) hs
 exact Nat.le_trans this h.1
theorem part_may {bl part : List BlockT} {had : List Bool} (h : mayS bl = true) (hp : part.Perm (pick bl had)) : mayS part = decide ((0 : Int) < (part.length : Int)) := by
 by_cases hne : part = []
 ·subst hne; rw [may_none]; rfl
 ·rw [may_part h hp hne]
  have := List.length_pos_iff.2 hne
  exact (decide_eq_true (by omega)).symm
theorem block_at {h : Heap} {m : List (BlockT × Value)} {jb k : Nat} {t : BlockT} {lv : Value} (g : h.get jb = some (grownRow 42 (blocksC m))) (hk : m[k]? = some (t, lv)) : aload prog h 42 (.pointer (some ⟨jb, k * 2, none⟩)) = some (.agg #[.string (bs t.name), lv]) := by
 have hlt := (List.getElem?_eq_some_iff.1 hk).1
 have he := elems_at (n := 2) (m.map fun p => (p, cellsB p)) k ((t, lv), cellsB (t, lv)) (by
  intro p hp
  obtain ⟨q, _, rfl⟩ := List.mem_map.1 hp
  rfl) (by rw [List.getElem?_map, hk]; rfl)
 rw [List.flatMap_map] at he
 rw [aload_agg agg42 sz42, Heap.lds_of g (by simp only [blocksC_len]; omega)]
 show (some (((blocksC m).drop (k * 2)).take 2)).map _ = _
 rw [show ((blocksC m).drop (k * 2)).take 2 = cellsB (t, lv) from he]
 rfl
theorem lines_cut : ∀ (bl : List BlockT) (k : Nat) (t : BlockT), bl[k]? = some t → linesOf (bl.set k { t with lines := t.lines.take (t.lines.length - 1) }) ≤ linesOf bl
 | [], _, _, h => by cases h
 | b :: l, 0, t, h => by
  cases h
  simp only [List.set_cons_zero, linesOf, List.map_cons, List.sum_cons, List.length_take]
  omega
 | b :: l, k + 1, t, h => by
  have := lines_cut l k t (by simpa using h)
  simp only [linesOf] at this
  simp only [List.set_cons_succ, linesOf, List.map_cons, List.sum_cons]
  omega
theorem eq_emp (a : List UInt8) : abinS .eql (bs a) ⟨#[]⟩ = some (.bool (decide (a = []))) := eq_txt a []
theorem BlocksN.short {lo : Nat} {h : Heap} {m : List (BlockT × Value)} {bv : Value} {jb k : Nat} {t : BlockT} {jl c : Nat} (o : BlocksN lo h m bv) (hx : fewB (m.map (·.1))) (hb : bv = .slice (some ⟨jb, 0, none⟩) m.length m.length) (g : h.get jb = some (grownRow 42 (blocksC m)))
  (hk : m[k]? = some (t, .slice (some ⟨jl, 0, none⟩) t.lines.length c)) (hne : t.lines ≠ []) :
  BlocksV (h.set jb (grownRow 42 (blocksC (m.set k ({ t with lines := t.lines.take (t.lines.length - 1) }, .slice (some ⟨jl, 0, none⟩) (t.lines.length - 1) c))))) ((m.set k ({ t with lines := t.lines.take (t.lines.length - 1) }, .slice (some ⟨jl, 0, none⟩) (t.lines.length - 1) c)).map (·.1)) bv := by
 obtain ⟨o1, o2, _⟩ := o
 have hlt := (List.getElem?_eq_some_iff.1 hk).1
 have hxl := hx.1
 rw [List.length_map] at hxl
 refine PartV.view (lo := lo) ?_ (fun p hp => ?_) (by rw [List.length_set]; exact hxl)
 ·unfold PartV
  rw [List.length_set]
  rcases o1 with ⟨rfl, _⟩ | ⟨b, q1, q2, rfl, q3⟩
  ·cases hb
  ·cases hb
   exact .inr ⟨jb, q1, q2, rfl, Heap.gf g⟩
 ·have st := fun p hp => (o2 p hp).stay (Stay.grown g (blocksC (m.set k ({ t with lines := t.lines.take (t.lines.length - 1) }, .slice (some ⟨jl, 0, none⟩) (t.lines.length - 1) c)))) (by decide) (by decide)
  have fw := fun p hp => hx.2 p.1 (List.mem_map_of_mem (f := Prod.fst) (a := p) hp)
  rcases List.mem_or_eq_of_mem_set hp with q | rfl
  ·exact (st p q).view (fw p q).1 (fw p q).2
  ·have hm := List.mem_of_getElem? hk
   exact ((st _ hm).view (fw _ hm).1 (fw _ hm).2).cut hne
theorem parseParts_does (h : Heap) (bl : List BlockT) (v : Value) (hv : BlocksV h bl v) (hf : fineD bl) (u : Value) (ns : List Int) (hn : Nums h u .i64 ns) :
  Does prog 0 (GoodE prog (baseM 0)) 5 [.agg #[v], u] h fun e _ => e = .returned (.bool true) := by
 have c8 : canEnter prog 8 = true := by kernel_rfl
 have c9 : canEnter prog 9 = true := by kernel_rfl
 have c11 : canEnter prog 11 = true := by kernel_rfl
 have c12 : canEnter prog 12 = true := by kernel_rfl
 have c16 : canEnter prog 16 = true := by kernel_rfl
 refine Does.body func5 rfl ?_
 have hn : enterF Tryd.f5 [.agg #[v], u] = ⟨115, [(0, .agg #[v]), (1, u)], []⟩ := rfl
 rw [hn]; clear hn
 repeat apply Wq
 refine Wp.r @hbox24 ?_
 have g3 : (h.alloc (scriptRow v)).get h.next = some (scriptRow v) := Heap.gn h _
 have m1 := Heap.ma h (scriptRow v)
 generalize h.alloc (scriptRow v) = H at g3 m1 ⊢
 generalize h.next = j3 at g3 ⊢
 replace hv := hv.more m1
 replace hn := hn.more m1
 clear m1
 repeat apply Wq
 refine Wp.regionAs (is := 0 :: (List.range' 1 1 ++ [])) rfl ?_
 refine WpO.cR (works_does H) c8 ?_
 rintro _ h9 ⟨rfl, hh9⟩
 obtain rfl := hh9.symm
 clear hh9
 refine pu ?_
 refine WpO.runS 1 (by simp only [bsd, bsg, reduceLT, reduceEqDiff, reduceCtorEq, Bool.not_true] <;> exact rfl) (by decide) ?_
 refine WpO.nil ?_
 repeat apply Wq
 refine Wp.cF ?_
 repeat apply Wq
 refine Wp.skip ?_
 repeat apply Wq
 refine Wp.regionAs (is := List.range' 0 7 ++ []) rfl ?_
 refine WpO.r 1 (script_load g3) ?_
 refine WpO.cS c9 ((huge_spec 0 H bl v hv hf).mono ?_)
 intro r H2 hr
 obtain ⟨⟨c, rfl, hc⟩, m2⟩ := hr
 refine pt ?_
 cases c with
 | true =>
  refine WpO.rS 5 ?_
  refine WpO.nil ?_
  repeat apply Wq
  refine Wp.cT ?_
  repeat apply Wq
  refine Wp.rS ?_
  repeat apply Wq
  refine Wp.ret ?_
  exact ⟨rfl, rfl, _, rfl, rfl⟩
 | false =>
 have hro := roomy_of hf (hc rfl)
 clear hc
 replace g3 := m2.get g3
 replace hv := hv.more m2
 replace hn := hn.more m2
 clear m2
 refine WpO.r 2 (script_load g3) ?_
 refine WpO.cS c12 ((may_spec H2 bl v hv hro).mono ?_)
 intro r H3 hr
 obtain ⟨rfl, m3⟩ := hr
 refine pt ?_
 cases hmay : mayS bl with
 | false =>
  refine WpO.rS 2 ?_
  refine WpO.nil ?_
  repeat apply Wq
  refine Wp.cT ?_
  repeat apply Wq
  refine Wp.rS ?_
  repeat apply Wq
  refine Wp.ret ?_
  exact ⟨rfl, rfl, _, rfl, rfl⟩
 | true =>
 refine WpO.rS 2 ?_
 refine WpO.nil ?_
 repeat apply Wq
 refine Wp.cF ?_
 repeat apply Wq
 refine Wp.skip ?_
 replace g3 := m3.get g3
 replace hv := hv.more m3
 replace hn := hn.more m3
 clear m3 hro
 obtain ⟨hfc, hro, hne⟩ := may_fewC hmay
 have hpos : 0 < bl.length := List.length_pos_iff.2 hne
 have hle := hfc.1
 repeat apply Wq
 refine Wp.r @alloc24 ?_
 repeat apply Wq
 refine Wp.runS (by simp only [bsg, reduceLT, reduceEqDiff, reduceCtorEq, sc0, lc22, Heap.lf ((Heap.ma H3 (scriptRow (.slice none 0 0))).get g3) (k := 0) rfl, hv.len, mk39 _ _ hle] <;> exact rfl) ?_
 have e1 := Heap.ma H3 (scriptRow (.slice none 0 0))
 have e2 := Heap.ma (H3.alloc (scriptRow (.slice none 0 0))) (hadRow (List.replicate bl.length false))
 have st0 : PrS H3 ((H3.alloc (scriptRow (.slice none 0 0))).alloc (hadRow (List.replicate bl.length false))) j3 H3.next (H3.next + 1) v bl ((H3.alloc (scriptRow (.slice none 0 0))).alloc (hadRow (List.replicate bl.length false))) (List.replicate bl.length false) [] (.slice none 0 0) := by
  refine ⟨(e1.trans e2).2, Nat.le_refl _, (e1.trans e2).get g3, e2.get (Heap.gn H3 _), Heap.gn (H3.alloc (scriptRow (.slice none 0 0))) _, by simp, by rw [pick_none]; exact List.Perm.refl _, OwnF.nil _ _ 42, by simp⟩
 have hK : H3.next + 2 ≤ ((H3.alloc (scriptRow (.slice none 0 0))).alloc (hadRow (List.replicate bl.length false))).next := Nat.le_refl _
 try simp only [Heap.na]
 generalize (H3.alloc (scriptRow (.slice none 0 0))).alloc (hadRow (List.replicate bl.length false)) = K at st0 hK ⊢
 obtain ⟨j5, ej5⟩ : ∃ j5, j5 = H3.next := ⟨_, rfl⟩
 rw [← ej5] at st0 ⊢
 have hj3 := Heap.lg g3
 clear e1 e2
 repeat apply Wq
 refine Wp.rS ?_
 repeat apply Wq
 refine Wp.cut (fun fr u2 h' => u2 = none ∧ (∃ had m bv, PrS H3 K j3 j5 (j5 + 1) v bl h' had m bv) ∧ ∃ sl, fr = ⟨115, sl, []⟩ ∧ holds [(2, .pointer (some ⟨j3, 0, none⟩)), (5, .pointer (some ⟨j5, 0, none⟩))] sl) ?_ ?_
 rotate_left
 ·repeat apply Wq
  refine Wp.block ?_
  refine Wp.loopI (X := Nat × Heap × List Bool × List (BlockT × Value) × Value) (fun x => [(1, u), (2, .pointer (some ⟨j3, 0, none⟩)), (5, .pointer (some ⟨j5, 0, none⟩)), (6, .slice (some ⟨j5 + 1, 0, none⟩) bl.length bl.length), (7, .int .i64 x.1)]) (fun x => x.2.1)
   (fun x => x.1 ≤ bl.length ∧ PrS H3 K j3 j5 (j5 + 1) v bl x.2.1 x.2.2.1 x.2.2.2.1 x.2.2.2.2) (fun x => bl.length - x.1) (0, K, List.replicate bl.length false, [], .slice none 0 0) ⟨Nat.zero_le _, st0⟩ ⟨rfl, rfl, rfl, rfl, rfl, trivial⟩ rfl ?_
  clear st0
  rintro ⟨i, Q, had, m, bv⟩ ⟨hi, st⟩
  simp only at hi st ⊢
  have mQ := st.more (by omega)
  by_cases hlt1 : (i : Int) < (ns.length : Int)
  case neg =>
   repeat apply Wq
   refine Wp.runS (by simp only [bsg, reduceLT, reduceEqDiff, reduceCtorEq, num_len hn, decide_eq_false hlt1] <;> exact rfl) ?_
   repeat apply Wq
   refine Wp.cF ?_
   repeat apply Wq
   refine Wp.exit ?_
   simp only [bx, Nat.reduceEqDiff]
   exact ⟨by trivial, ⟨had, m, bv, st⟩, _, rfl, ⟨rfl, rfl, trivial⟩⟩
  by_cases hlt : (i : Int) < (bl.length : Int)
  case neg =>
   repeat apply Wq
   refine Wp.runS (by simp only [bsg, reduceLT, reduceEqDiff, reduceCtorEq, num_len hn, sc0, lc22, Heap.lf st.g3 (k := 0) rfl, hv.len, decide_eq_true hlt1, decide_eq_false hlt] <;> exact rfl) ?_
   repeat apply Wq
   refine Wp.cF ?_
   repeat apply Wq
   refine Wp.exit ?_
   simp only [bx, Nat.reduceEqDiff]
   exact ⟨by trivial, ⟨had, m, bv, st⟩, _, rfl, ⟨rfl, rfl, trivial⟩⟩
  repeat apply Wq
  refine Wp.runS (by simp only [bsg, reduceLT, reduceEqDiff, reduceCtorEq, num_len hn, sc0, lc22, Heap.lf st.g3 (k := 0) rfl, hv.len, decide_eq_true hlt1, decide_eq_true hlt] <;> exact rfl) ?_
  repeat apply Wq
  refine Wp.cT ?_
  repeat apply Wq
  refine Wp.skip ?_
  repeat apply Wq
  refine Wp.block ?_
  obtain ⟨n, hnn⟩ : ∃ n, ns[i]? = some n := ⟨_, List.getElem?_eq_getElem (by omega)⟩
  obtain ⟨p, hp1, hp2⟩ := num_at (hn.more mQ) hnn
  obtain ⟨t1, t2⟩ := tmod_in n bl.length hpos
  have hw1 := succ_in (i := i) (n := bl.length) (by omega) (by unfold maxLen; omega)
  repeat apply Wq
  refine Wp.runSD mixed (by kernel_rfl) (by simp only [runSD, stepOD, stepWD, stepVD, isLoud, isPure, isReader, decide_true, bsb, bsg, reduceLT, reduceEqDiff, reduceCtorEq, hp1, hp2, sc0, lc22, Heap.lf st.g3 (k := 0) rfl, hv.len, ai_rem (show ((bl.length : Nat) : Int) ≠ 0 by omega)] <;> exact rfl) ?_
  repeat apply Wq
  refine Wp.rS ?_
  repeat apply Wq
  refine Wp.cut (fun fr u2 h' => u2 = none ∧ h' = Q ∧ ∃ k : Nat, k < bl.length ∧ ∃ sl, fr = ⟨115, sl, []⟩ ∧ holds [(1, u), (2, .pointer (some ⟨j3, 0, none⟩)), (5, .pointer (some ⟨j5, 0, none⟩)), (6, .slice (some ⟨j5 + 1, 0, none⟩) bl.length bl.length), (7, .int .i64 i), (8, .int .i64 k)] sl) ?_ ?_
  rotate_left
  ·by_cases hneg : n.tmod (bl.length : Int) < 0
   ·have w1 : IntKind.i64.wrap (n.tmod (bl.length : Int) + (bl.length : Int)) = ((n.tmod (bl.length : Int) + bl.length).toNat : Int) := by rw [wrap_in (by omega) (by omega)]; omega
    repeat apply Wq
    refine Wp.condT (by simp only [bsg, reduceLT, reduceEqDiff, reduceCtorEq, decide_eq_true hneg]) ?_
    repeat apply Wq
    refine Wp.r (Aq @sc0 (Aq @lc22 (Aq (Heap.lf st.g3 (k := 0) rfl) (Aq hv.len w1)))) ?_
    exact ⟨rfl, rfl, (n.tmod (bl.length : Int) + bl.length).toNat, by omega, _, rfl, ⟨rfl, rfl, rfl, rfl, rfl, rfl, trivial⟩⟩
   ·obtain ⟨b, hb⟩ : ∃ b : Nat, n.tmod (bl.length : Int) = b := ⟨(n.tmod (bl.length : Int)).toNat, by omega⟩
    rw [hb] at t2 hneg ⊢
    repeat apply Wq
    refine Wp.condF (by simp only [bsg, reduceLT, reduceEqDiff, reduceCtorEq, decide_eq_false hneg]) ?_
    repeat apply Wq
    refine Wp.skip ?_
    exact ⟨rfl, rfl, b, by omega, _, rfl, ⟨rfl, rfl, rfl, rfl, rfl, rfl, trivial⟩⟩
  rintro fr u2 h8 ⟨rfl, rfl, k, hk, sl, rfl, hs9⟩
  refine Wp.weaken (Frm.le_of hs9) ?_
  clear hs9 sl t1 t2 hp1 hp2
  obtain ⟨c, hc⟩ : ∃ c, had[k]? = some c := ⟨_, List.getElem?_eq_getElem (by rw [st.hl]; exact hk)⟩
  repeat apply Wq
  refine Wp.runS (by simp only [bsg, reduceLT, reduceEqDiff, reduceCtorEq, had_idx hk, had_at st.g6 hc] <;> exact rfl) ?_
  repeat apply Wq
  refine Wp.cut (fun fr u2 h' => u2 = none ∧ (∃ had m bv, PrS H3 K j3 j5 (j5 + 1) v bl h' had m bv) ∧ ∃ sl, fr = ⟨115, sl, []⟩ ∧ holds [(1, u), (2, .pointer (some ⟨j3, 0, none⟩)), (5, .pointer (some ⟨j5, 0, none⟩)), (6, .slice (some ⟨j5 + 1, 0, none⟩) bl.length bl.length), (7, .int .i64 i)] sl) ?_ ?_
  rotate_left
  ·cases c with
   | true =>
    repeat apply Wq
    refine Wp.cF ?_
    repeat apply Wq
    refine Wp.skip ?_
    exact ⟨rfl, ⟨had, m, bv, st⟩, _, rfl, ⟨rfl, rfl, rfl, rfl, rfl, trivial⟩⟩
   | false =>
   repeat apply Wq
   refine Wp.cT ?_
   have hkl : k < had.length := by rw [st.hl]; exact hk
   repeat apply Wq
   refine Wp.runS (by simp only [bsg, reduceLT, reduceEqDiff, reduceCtorEq, had_idx hk, had_put st.g6 hkl true] <;> exact rfl) ?_
   obtain ⟨t, ht⟩ : ∃ t, bl[k]? = some t := ⟨_, List.getElem?_eq_getElem hk⟩
   obtain ⟨b, o, lv, hb2, hbp, lt, ta, tb⟩ := hv.at ht
   have g6 := st.g6
   have n6 : Heap.next h8 ≤ (h8.set (j5 + 1) (hadRow (had.set k true))).next := by simp
   have s3 : (h8.set (j5 + 1) (hadRow (had.set k true))).get j3 = some (scriptRow v) := by
    rw [Heap.gs (by omega)]
    exact st.g3
   have s5 : (h8.set (j5 + 1) (hadRow (had.set k true))).get j5 = some (scriptRow bv) := by rw [Heap.gs (by omega)]; exact st.g5
   have s6 : (h8.set (j5 + 1) (hadRow (had.set k true))).get (j5 + 1) = some (hadRow (had.set k true)) := Heap.gf g6
   have so : ∀ j, j < H3.next → (h8.set (j5 + 1) (hadRow (had.set k true))).get j = H3.get j := fun j hj => by rw [Heap.gs (by omega)]; exact st.old j hj
   have sm : H3.more (h8.set (j5 + 1) (hadRow (had.set k true))) := ⟨by have := mQ.1; omega, so⟩
   have sp : PartV K.next (h8.set (j5 + 1) (hadRow (had.set k true))) m bv := st.pv.stay (Stay.set 0 g6 rfl rfl) (by decide)
   have sn := st.nx
   have sperm := st.pm
   have slv := st.lv
   have shl := st.hl
   generalize h8.set (j5 + 1) (hadRow (had.set k true)) = L at n6 s3 s5 s6 so sm sp ⊢
   clear st g6 mQ
   have hlen : m.length ≤ bl.length := by
    have := (part_roomy hro sperm).2
    rwa [List.length_map] at this
   obtain ⟨q1, bv2, L2, q2, q3, q4, q5⟩ := sp.push (by omega) (by omega) t lv (SliceR.one lt)
   have r5 : L2.get j5 = some (scriptRow bv) := by rw [q5 _ (by omega)]; exact s5
   have r3 : L2.get j3 = some (scriptRow v) := q4.2 _ _ s3 (AObj.notE_of 42 rfl)
   have r6 : L2.get (j5 + 1) = some (hadRow (had.set k true)) := by rw [q5 _ (by omega)]; exact s6
   have o2 : one bv2 = true := by obtain ⟨a, rfl⟩ := q3.form; rfl
   have s5' := (Heap.ma L (.row { vs := [.string (bs t.name), lv], elem := 42 })).get s5
   repeat apply Wq
   refine Wp.drawAs [61] [] 3 (fun H => H.get j5 = some (scriptRow bv)) mixed (by kernel_rfl) s5 ?_
   refine DrT.run 1 (by simp only [bsd, bss, bsg, reduceLT, reduceEqDiff, reduceCtorEq, sc0] <;> exact rfl) rfl ?_
   try simp only [List.drop_succ_cons, List.drop_zero]
   refine DrT.read rfl rfl (by simp only [bsg, reduceLT, reduceEqDiff, reduceCtorEq]) (by simp only [bsg, reduceLT, reduceEqDiff, reduceCtorEq, lc22, Heap.lf s5 (k := 0) rfl] <;> exact rfl) (fun H hK2 => by simp only [bsg, reduceLT, reduceEqDiff, reduceCtorEq, lc22, Heap.lf hK2 (k := 0) rfl] <;> exact rfl) (by simp only [bsg, reduceLT, reduceEqDiff, reduceCtorEq] <;> exact rfl) ?_
   refine DrT.run 5 (by simp only [bsd, bss, bsg, reduceLT, reduceEqDiff, reduceCtorEq, sc0, lc22, Heap.lf s3 (k := 0) rfl, hbp, ta L sm] <;> exact rfl) rfl ?_
   try simp only [List.drop_succ_cons, List.drop_zero]
   refine DrT.val (aop_bslice rfl (by simp only [evp, aev, look, Option.bind_some, if_true, if_false, Nat.reduceEqDiff] <;> exact rfl) q1) rfl rfl (by simp only [bsg, reduceLT, reduceEqDiff, reduceCtorEq]) (by simp only [bsg, reduceLT, reduceEqDiff, reduceCtorEq] <;> exact rfl) (fun _ => s5') ?_
   try simp only [List.drop_succ_cons, List.drop_zero]
   refine DrT.val (aop_append rfl (by simp only [evs, aev, look, Option.bind_some, if_true, if_false, Nat.reduceEqDiff] <;> exact rfl) q2) rfl rfl (by simp only [bsg, reduceLT, reduceEqDiff, reduceCtorEq]) (by simp only [bsg, reduceLT, reduceEqDiff, reduceCtorEq] <;> exact rfl) (fun hq => absurd hq (by decide)) ?_
   try simp only [List.drop_succ_cons, List.drop_zero]
   refine DrT.run 1 (by simp only [bsd, bss, bsg, reduceLT, reduceEqDiff, reduceCtorEq, sc0] <;> exact rfl) rfl ?_
   try simp only [List.drop_succ_cons, List.drop_zero]
   refine DrT.skip (by simp only [bsg, reduceLT, reduceEqDiff, reduceCtorEq, script_blocks r5 bv2 o2] <;> exact rfl) rfl rfl (by simp only [bsg, reduceLT, reduceEqDiff, reduceCtorEq]) (by simp only [bsg, reduceLT, reduceEqDiff, reduceCtorEq] <;> exact rfl) (fun hq => absurd hq (by decide)) ?_
   refine DrT.nil ?_
   refine ⟨rfl, ⟨had.set k true, m ++ [(t, lv)], bv2, ?_⟩, _, rfl, ⟨rfl, rfl, rfl, rfl, rfl, trivial⟩⟩
   have hnx := q4.1
   refine ⟨fun j hj => ?_, by simp only [Heap.ns]; omega, ?_, Heap.gf r5, ?_, by simpa using shl, ?_, ?_, ?_⟩
   ·rw [Heap.gs (by omega), q5 _ (by omega)]; exact so j hj
   ·rw [Heap.gs (by omega)]; exact r3
   ·rw [Heap.gs (by omega)]; exact r6
   ·rw [List.map_append]
    exact (List.perm_append_comm.trans (sperm.cons t)).trans (pick_set bl had k t ht hc).symm
   ·exact q3.stay (Stay.set 0 r5 rfl rfl) (by decide)
   ·intro p hp
    rcases List.mem_append.1 hp with q | q
    ·exact slv p q
    ·simp only [List.mem_singleton] at q; subst q; exact lt
  rintro fr u2 h9 ⟨rfl, ⟨had2, m2, bv2, st2⟩, sl, rfl, hs9⟩
  refine Wp.weaken (Frm.le_of hs9) ?_
  clear hs9 sl
  repeat apply Wq
  refine Wp.r hw1 ?_
  exact ⟨(i + 1, h9, had2, m2, bv2), _, ⟨by simp only; omega, st2⟩, by simp only; omega, rfl, ⟨rfl, rfl, rfl, rfl, rfl, trivial⟩, rfl, rfl⟩
 rintro fr u2 Q ⟨rfl, ⟨had, m, bv, st⟩, sl, rfl, hs9⟩
 refine Wp.weaken (Frm.le_of hs9) ?_
 clear hs9 sl st0
 have mQ := st.more (by omega)
 obtain ⟨hrp, hlp⟩ := part_roomy hro st.pm
 have hvp := st.pv.view (fun p hp => (st.lv p hp).more mQ) (by rw [List.length_map] at hlp; unfold maxLen; omega)
 have hmp := part_may hmay st.pm
 have g5 := st.g5
 repeat apply Wq
 refine Wp.drawAs [73, 74] [] 3 (fun H => H.get j5 = some (scriptRow bv)) mixed (by kernel_rfl) g5 ?_
 refine DrT.run 1 (by simp only [bsd, bss, bsg, reduceLT, reduceEqDiff, reduceCtorEq, script_load g5] <;> exact rfl) rfl ?_
 try simp only [List.drop_succ_cons, List.drop_zero]
 refine DrT.call (may_spec Q _ bv hvp hrp) rfl rfl (by simp only [bsg, reduceLT, reduceEqDiff, reduceCtorEq]) (by simp only [bsc, bsg, reduceLT, reduceEqDiff, reduceCtorEq, c12] <;> exact rfl) ?_
 intro r Q1 hr
 obtain ⟨rfl, mq⟩ := hr
 rw [hmp]
 refine ⟨_, _, rfl, (fun _ => mq.get g5), by simp only [bsg, reduceLT, reduceEqDiff, reduceCtorEq]; exact rfl, ?_⟩
 refine DrT.run 1 (by simp only [bsd, bss, bsg, reduceLT, reduceEqDiff, reduceCtorEq, sc0] <;> exact rfl) rfl ?_
 try simp only [List.drop_succ_cons, List.drop_zero]
 refine DrT.read rfl rfl (by simp only [bsg, reduceLT, reduceEqDiff, reduceCtorEq]) (by simp only [bsg, reduceLT, reduceEqDiff, reduceCtorEq, lc22, Heap.lf (mq.get g5) (k := 0) rfl] <;> exact rfl) (fun H hK2 => by simp only [bsg, reduceLT, reduceEqDiff, reduceCtorEq, lc22, Heap.lf hK2 (k := 0) rfl] <;> exact rfl) (by simp only [bsg, reduceLT, reduceEqDiff, reduceCtorEq] <;> exact rfl) ?_
 refine DrT.read rfl rfl (by simp only [bsg, reduceLT, reduceEqDiff, reduceCtorEq]) (by simp only [bsg, reduceLT, reduceEqDiff, reduceCtorEq, hvp.len] <;> exact rfl) (fun H hK2 => by simp only [bsg, reduceLT, reduceEqDiff, reduceCtorEq, hvp.len] <;> exact rfl) (by simp only [bsg, reduceLT, reduceEqDiff, reduceCtorEq] <;> exact rfl) ?_
 refine DrT.run 4 (by simp only [bsd, bss, bsg, reduceLT, reduceEqDiff, reduceCtorEq, bneq_self, build24] <;> exact rfl) rfl ?_
 try simp only [List.drop_succ_cons, List.drop_zero]
 refine DrT.call (print_spec Q1 [] (.slice none 0 0) ((BlocksN.nil 0 Q1).view ⟨Nat.zero_le _, by simp⟩) ⟨by simp [linesOf], by simp⟩) rfl rfl (by simp only [bsg, reduceLT, reduceEqDiff, reduceCtorEq]) (by simp only [bsc, bsg, reduceLT, reduceEqDiff, reduceCtorEq, c11] <;> exact rfl) ?_
 intro r Q2 hr
 obtain ⟨rfl, mq2⟩ := hr
 rw [printS_bad may_none]
 refine ⟨_, _, rfl, (fun hq => absurd hq (by decide)), by simp only [bsg, reduceLT, reduceEqDiff, reduceCtorEq]; exact rfl, ?_⟩
 refine DrT.run 2 (by simp only [bsd, bss, bsg, reduceLT, reduceEqDiff, reduceCtorEq, neq_emp, decide_eq_false (show ¬ ([] : List UInt8) ≠ [] from fun q => q rfl)] <;> exact rfl) rfl ?_
 try simp only [List.drop_succ_cons, List.drop_zero]
 refine DrT.nil ?_
 repeat apply Wq
 refine Wp.cF ?_
 repeat apply Wq
 refine Wp.skip ?_
 have mQ2 := mQ.trans (mq.trans mq2)
 replace g3 := mQ2.get g3
 replace hv := hv.more mQ2
 refine Wp.weaken (Frm.le_of (l := [(2, .pointer (some ⟨j3, 0, none⟩))]) ⟨rfl, trivial⟩) ?_
 clear st mQ hrp hlp hvp hmp g5 mq mq2 mQ2
 repeat apply Wq
 refine Wp.regionAs (is := List.range' 0 4 ++ []) rfl ?_
 refine WpO.r 1 (script_load g3) ?_
 refine WpO.cS c16 ((copy_spec 0 Q2 bl v hv hfc).mono ?_)
 intro r N hr
 obtain ⟨m, bw, rfl, hm, bn, mo⟩ := hr
 have o2 : one bw = true := by obtain ⟨q, rfl⟩ := bn.1.form; rfl
 refine pt ?_
 refine WpO.r 2 (Aq @alloc24 (scell0 N o2)) ?_
 refine WpO.nil ?_
 have m5 := Heap.ma N (scriptRow bw)
 have g9 := Heap.gn N (scriptRow bw)
 have n5 : N.next < (N.alloc (scriptRow bw)).next := Nat.lt_succ_self _
 generalize N.alloc (scriptRow bw) = N1 at m5 g9 n5 ⊢
 generalize N.next = j9 at g9 n5 ⊢
 replace bn := bn.more m5
 replace g3 := (mo.trans m5).get g3
 replace hv := hv.more (mo.trans m5)
 have hfw := hfc.few
 rw [← hm] at hfw
 obtain ⟨t, ht⟩ : ∃ t, bl[bl.length - 1]? = some t := ⟨_, List.getElem?_eq_getElem (by omega)⟩
 obtain ⟨lv, hk⟩ : ∃ lv, m[bl.length - 1]? = some (t, lv) := by
  have := ht
  rw [← hm, List.getElem?_map] at this
  obtain ⟨q, hq, rfl⟩ := om this
  exact ⟨q.2, by rw [hm] at hq; exact hq⟩
 obtain ⟨jb, lob, hbv, gb, ib, lb⟩ := bn.at hk
 obtain ⟨h1, _⟩ := may_ok hmay
 obtain ⟨b1, x1, eb, _⟩ := ((progS_few h1).2.2 t (List.mem_of_getElem? ht)).2
 have hlne : t.lines ≠ [] := by rw [eb]; simp
 have hlpos : 0 < t.lines.length := List.length_pos_iff.2 hlne
 obtain ⟨ml, hml, ln⟩ := bn.2.1 (t, lv) (List.mem_of_getElem? hk)
 simp only at hml ln
 obtain ⟨jl, rfl⟩ : ∃ jl, lv = .slice (some ⟨jl, 0, none⟩) t.lines.length t.lines.length := by
  rcases ln.1 with ⟨_, q, _⟩ | ⟨b, _, _, q, _⟩
  ·rw [← hml, List.length_map] at hlpos; omega
  ·exact ⟨b, by rw [q, ← hml, List.length_map]⟩
 have hcm := hfc.2 t (List.mem_of_getElem? ht)
 have w1 : IntKind.i64.wrap ((bl.length : Int) - 1) = ((bl.length - 1 : Nat) : Int) := by rw [wrap_in (by omega) (by omega)]; omega
 have w2 : IntKind.i64.wrap ((t.lines.length : Int) - 1) = ((t.lines.length - 1 : Nat) : Int) := by rw [wrap_in (by omega) (by omega)]; omega
 have bld := block_at gb hk
 repeat apply Wq
 refine Wp.r (Aq @sc0 (Aq @lc22 (Aq (Heap.lf g9 (k := 0) rfl) (Aq (Heap.lf g3 (k := 0) rfl) (Aq hv.len (Aq w1 (Aq ib (Aq bld (Aq @alloc42' (bcell0 N1 t.name (lv := .slice (some ⟨jl, 0, none⟩) t.lines.length t.lines.length) rfl)))))))))) ?_
 have g10 := Heap.gn N1 (blockRow t.name (.slice (some ⟨jl, 0, none⟩) t.lines.length t.lines.length))
 have m6 := Heap.ma N1 (blockRow t.name (.slice (some ⟨jl, 0, none⟩) t.lines.length t.lines.length))
 generalize N1.alloc (blockRow t.name (.slice (some ⟨jl, 0, none⟩) t.lines.length t.lines.length)) = N2 at g10 m6 ⊢
 generalize N1.next = j10 at g10 ⊢
 replace bn := bn.more m6
 replace gb := m6.get gb
 replace g9 := m6.get g9
 replace g3 := m6.get g3
 have pst := blocks_lines gb hk (.slice (some ⟨jl, 0, none⟩) (t.lines.length - 1) t.lines.length) rfl (t.lines.take (t.lines.length - 1))
 repeat apply Wq
 refine Wp.drawAs [] [104] 0 (fun _ => True) mixed (by kernel_rfl) trivial ?_
 refine DrT.run 12 (by simp only [bsd, bss, bsg, reduceLT, reduceEqDiff, reduceCtorEq, sc0, bk1, lc22, lc40, Heap.lf g9 (k := 0) rfl, Heap.lf g3 (k := 0) rfl, Heap.lf g10 (k := 1) rfl, hv.len, alen_slice underlying40, w1, w2] <;> exact rfl) rfl ?_
 try simp only [List.drop_succ_cons, List.drop_zero]
 refine DrT.pure (by simp only [bsg, reduceLT, reduceEqDiff, reduceCtorEq]) (fun H => by simp only [bsg, reduceLT, reduceEqDiff, reduceCtorEq, slice_cut hlpos t.lines.length (Nat.le_refl _)] <;> exact rfl) (by simp only [bsg, reduceLT, reduceEqDiff, reduceCtorEq] <;> exact rfl) ?_
 refine DrT.run 2 (by simp only [bsd, bss, bsg, reduceLT, reduceEqDiff, reduceCtorEq, ib, bk1] <;> exact rfl) rfl ?_
 try simp only [List.drop_succ_cons, List.drop_zero]
 refine DrT.skip (by simp only [bsg, reduceLT, reduceEqDiff, reduceCtorEq, pst] <;> exact rfl) rfl rfl (by simp only [bsg, reduceLT, reduceEqDiff, reduceCtorEq]) (by simp only [bsg, reduceLT, reduceEqDiff, reduceCtorEq] <;> exact rfl) (fun _ => trivial) ?_
 refine DrT.nil ?_
 have hvs := bn.short hfw hbv gb hk hlne
 have es : (m.set (bl.length - 1) ({ t with lines := t.lines.take (t.lines.length - 1) }, .slice (some ⟨jl, 0, none⟩) (t.lines.length - 1) t.lines.length)).map (·.1) = bl.set (bl.length - 1) { t with lines := t.lines.take (t.lines.length - 1) } := by rw [set_map, hm]
 rw [es] at hvs
 have g9' : (N2.set jb (grownRow 42 (blocksC (m.set (bl.length - 1) ({ t with lines := t.lines.take (t.lines.length - 1) }, .slice (some ⟨jl, 0, none⟩) (t.lines.length - 1) t.lines.length))))).get j9 = some (scriptRow bw) := by rw [Heap.gs (plain_ne g9 rfl gb)]; exact g9
 generalize N2.set jb (grownRow 42 (blocksC (m.set (bl.length - 1) ({ t with lines := t.lines.take (t.lines.length - 1) }, .slice (some ⟨jl, 0, none⟩) (t.lines.length - 1) t.lines.length)))) = N3 at hvs g9' ⊢
 have hbad := may_short hmay ht
 have hrs : roomy (bl.set (bl.length - 1) { t with lines := t.lines.take (t.lines.length - 1) }) := by
  refine ⟨?_, fun b hb => ?_⟩
  ·have := hro.1
   have e := lines_cut bl (bl.length - 1) t ht
   omega
  ·rcases List.mem_or_eq_of_mem_set hb with q | rfl
   ·exact hro.2 b q
   ·have := hro.2 t (List.mem_of_getElem? ht)
    exact ⟨this.1, fun x hx => this.2 x (List.mem_of_mem_take hx)⟩
 repeat apply Wq
 refine Wp.regionAs (is := List.range' 0 9 ++ []) rfl ?_
 refine WpO.r 1 (script_load g9') ?_
 refine WpO.cS c12 ((may_spec N3 _ bw hvs hrs).mono ?_)
 intro r N4 hr
 obtain ⟨rfl, mq⟩ := hr
 rw [hbad]
 refine pt ?_
 refine WpO.r 3 (script_load (mq.get g9')) ?_
 refine WpO.cS c11 ((print_spec N4 _ bw (hvs.more mq) hrs).mono ?_)
 intro r N5 hr
 obtain ⟨rfl, mq2⟩ := hr
 rw [printS_bad hbad]
 refine pt ?_
 refine WpO.r 3 @eq_emp ?_
 refine WpO.nil ?_
 repeat apply Wq
 refine Wp.ret ?_
 exact ⟨rfl, rfl, _, rfl, rfl⟩
theorem parseParts_law (h : Heap) (bl : List BlockT) (v u : Value) (ns : List Int) (hv : BlocksV h bl v) (hf : fineD bl) (hn : Nums h u .i64 ns) (_ : ∀ n ∈ ns, (Lit.int .i64 n).wf = true) (_ : ns.length ≤ 4611686018427387904) :
  Does prog 0 (GoodE prog (baseM 0)) 5 [.agg #[v], u] h fun e _ => e = .returned (.bool true) := parseParts_does h bl v hv hf u ns hn
end Go.Mini
