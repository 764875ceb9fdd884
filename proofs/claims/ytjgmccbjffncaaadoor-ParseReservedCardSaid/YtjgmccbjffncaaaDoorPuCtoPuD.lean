import Derived.Test.YtjgmccbjffncaaaDoorPLexZc
import Derived.Test.YtjgmccbjffncaaaDoorMiniYOtoYS
import Derived.Test.YtjgmccbjffncaaaDoorPuAtoPuB
import Derived.Test.YtjgmccbjffncaaaDoorPtFtoPtH
set_option maxHeartbeats 16000000
set_option maxRecDepth 100000
set_option linter.unusedSimpArgs false
namespace Go.Mini
section
open Nat (reduceLT reduceEqDiff)
open Go.Proofs
def cellsB (p : BlockT × Value) : List Value := [.string (bs p.1.name), p.2]
def cellsL (p : LineT × Value) : List Value := lineCells p.1 p.2
theorem set_map {α β : Type} (f : α → β) (l : List α) (k : Nat) (y : α) : (l.set k y).map f = (l.map f).set k (f y) := List.map_set
theorem set_same {α : Type} {l : List α} {k : Nat} {x : α} (h : l[k]? = some x) : l.set k x = l := by
 obtain ⟨h1, rfl⟩ := List.getElem?_eq_some_iff.1 h
 exact List.set_getElem_self h1
theorem set_seconds {α β : Type} {l : List (α × β)} {k : Nat} {x y : α} {v : β} (h : l[k]? = some (x, v)) : (l.set k (y, v)).map (·.2) = l.map (·.2) := by
 rw [set_map]
 exact set_same (by rw [List.getElem?_map, h]; rfl)
section
variable {lo : Nat} {h : Heap}
theorem BlocksN.at {m : List (BlockT × Value)} {bv : Value} (o : BlocksN lo h m bv) {k : Nat} {t : BlockT} {lv : Value} (hk : m[k]? = some (t, lv)) :
  ∃ jb, lo ≤ jb ∧ bv = .slice (some ⟨jb, 0, none⟩) m.length m.length ∧ h.get jb = some (grownRow 42 (blocksC m)) ∧ aindexAddr Tryd.prog 22 bv (.int .i64 (k : Nat)) = some (.pointer (some ⟨jb, k * 2, none⟩)) ∧
   aload Tryd.prog h 40 (.pointer (some ⟨jb, k * 2 + 1, none⟩)) = some lv := by
 have hlt := (List.getElem?_eq_some_iff.1 hk).1
 rcases o.1 with ⟨_, q, _⟩ | ⟨b, hb, _, hv, hg⟩
 ·omega
 ·refine ⟨b, hb, hv, hg, ?_, ?_⟩
  ·rw [hv, aindexAddr_slice Tryd.underlying22 sz42 (by omega) (by omega)]
   simp
  ·rw [lc40]
   refine Heap.lf hg ?_
   show (blocksC m)[k * 2 + 1]? = _
   exact chunk_get (f := cellsB) (n := 2) (fun _ => rfl) m k 1 _ hk (by omega)
theorem blocks_name {m : List (BlockT × Value)} {jb k : Nat} {t : BlockT} {lv : Value} (g : h.get jb = some (grownRow 42 (blocksC m))) (hk : m[k]? = some (t, lv)) (w : List UInt8) :
  astore Tryd.prog h 9 (.pointer (some ⟨jb, k * 2, none⟩)) (.string (bs w)) = some (h.set jb (grownRow 42 (blocksC (m.set k ({ t with name := w }, lv))))) := by
 have hlt := (List.getElem?_eq_some_iff.1 hk).1
 rw [astore_cell sz9 rfl, Heap.sts_of g (by simp only [blocksC_len, List.length_cons, List.length_nil]; omega) rfl rfl]
 exact congrArg (fun cs => some (h.set jb (grownRow 42 cs))) (chunk_set (f := cellsB) (n := 2) (k := k) (j := 0) (fun _ => rfl) hk (by omega) rfl)
theorem BlocksN.renamed {m : List (BlockT × Value)} {bv : Value} {n c jb k : Nat} {t : BlockT} {lv : Value} (o : BlocksN lo h m bv) (hb : bv = .slice (some ⟨jb, 0, none⟩) n c) (g : h.get jb = some (grownRow 42 (blocksC m))) (hk : m[k]? = some (t, lv)) (w : List UInt8) :
  BlocksN lo (h.set jb (grownRow 42 (blocksC (m.set k ({ t with name := w }, lv))))) (m.set k ({ t with name := w }, lv)) bv := by
 obtain ⟨o1, o2, o3⟩ := o
 refine ⟨?_, fun p hp => ?_, by rw [set_seconds hk]; exact o3⟩
 ·rw [List.length_set]
  rcases o1 with ⟨rfl, _⟩ | ⟨b, q1, q2, rfl, q3⟩
  ·cases hb
  ·cases hb
   exact .inr ⟨jb, q1, q2, rfl, Heap.gf g⟩
 ·refine LinesQ.stay (h := h) ?_ (Stay.grown g _) (by decide) (by decide)
  rcases List.mem_or_eq_of_mem_set hp with q | rfl
  ·exact o2 p q
  ·exact o2 (t, lv) (List.mem_of_getElem? hk)
theorem LinesN.at {m : List (LineT × Value)} {lv : Value} (o : LinesN lo h m lv) {i : Nat} {x : LineT} {av : Value} (hi : m[i]? = some (x, av)) :
  ∃ jl, lo ≤ jl ∧ lv = .slice (some ⟨jl, 0, none⟩) m.length m.length ∧ h.get jl = some (grownRow 49 (linesC m)) := by
 have hlt := (List.getElem?_eq_some_iff.1 hi).1
 rcases o.1 with ⟨_, q, _⟩ | ⟨b, hb, _, hv, hg⟩
 ·omega
 ·exact ⟨b, hb, hv, hg⟩
theorem lines_idx {m : List (LineT × Value)} {jl i : Nat} (hi : i < m.length) : aindexAddr Tryd.prog 40 (.slice (some ⟨jl, 0, none⟩) m.length m.length) (.int .i64 (i : Nat)) = some (.pointer (some ⟨jl, i * 8, none⟩)) := by
 rw [aindexAddr_slice Tryd.underlying40 sz49' (by omega) (by omega)]
 simp
theorem lines_load {m : List (LineT × Value)} {jl i : Nat} (g : h.get jl = some (grownRow 49 (linesC m))) {x : LineT} {av : Value} (hi : m[i]? = some (x, av)) :
  aload Tryd.prog h 9 (.pointer (some ⟨jl, i * 8 + 2, none⟩)) = some (.string (bs x.name)) ∧ aload Tryd.prog h 9 (.pointer (some ⟨jl, i * 8 + 4, none⟩)) = some (.string (bs x.to)) := by
 rw [lc9, lc9]
 exact ⟨Heap.lf g (chunk_get (f := cellsL) (n := 8) (fun _ => rfl) m i 2 _ hi (by omega)), Heap.lf g (chunk_get (f := cellsL) (n := 8) (fun _ => rfl) m i 4 _ hi (by omega))⟩
theorem lines_put {m : List (LineT × Value)} {jl i : Nat} (g : h.get jl = some (grownRow 49 (linesC m))) {x y : LineT} {av : Value} (hi : m[i]? = some (x, av)) (f : Nat) (hf : f < 8) (w : List UInt8) (hy : lineCells y av = (lineCells x av).set f (.string (bs w))) :
  astore Tryd.prog h 9 (.pointer (some ⟨jl, i * 8 + f, none⟩)) (.string (bs w)) = some (h.set jl (grownRow 49 (linesC (m.set i (y, av))))) := by
 have hlt := (List.getElem?_eq_some_iff.1 hi).1
 rw [astore_cell sz9 rfl, Heap.sts_of g (by simp only [linesC_len, List.length_cons, List.length_nil]; omega) rfl rfl]
 exact congrArg (fun cs => some (h.set jl (grownRow 49 cs))) (chunk_set (f := cellsL) (n := 8) (k := i) (j := f) (fun _ => rfl) hi hf hy)
theorem BlocksN.relined {m : List (BlockT × Value)} {bv : Value} {jl k n c : Nat} {t : BlockT} {lv : Value} (o : BlocksN lo h m bv) (hk : m[k]? = some (t, lv)) {ml ml' : List (LineT × Value)} (hl : LinesN lo h ml lv) (hv : lv = .slice (some ⟨jl, 0, none⟩) n c) (g : h.get jl = some (grownRow 49 (linesC ml))) (hn : ml'.length = ml.length) (ha : ∀ p ∈ ml', armsN lo h p.1.arms p.2) :
  BlocksN lo (h.set jl (grownRow 49 (linesC ml'))) (m.set k ({ t with lines := ml'.map (·.1) }, lv)) bv ∧ LinesN lo (h.set jl (grownRow 49 (linesC ml'))) ml' lv := by
 obtain ⟨o1, o2, o3⟩ := o
 have hs := Stay.grown g (linesC ml')
 have hln : LinesN lo (h.set jl (grownRow 49 (linesC ml'))) ml' lv := by
  refine ⟨?_, fun p hp => (ha p hp).stay hs (by decide)⟩
  rcases hl.1 with ⟨rfl, _⟩ | ⟨b, q1, q2, rfl, q3⟩
  ·cases hv
  ·cases hv
   exact .inr ⟨jl, q1, by omega, by rw [hn], Heap.gf g⟩
 refine ⟨⟨?_, fun p hp => ?_, by rw [set_seconds hk]; exact o3⟩, hln⟩
 ·have hc : blocksC (m.set k ({ t with lines := ml'.map (·.1) }, lv)) = blocksC m := by
   show (m.set k ({ t with lines := ml'.map (·.1) }, lv)).flatMap cellsB = m.flatMap cellsB
   rw [List.flatMap_def, List.flatMap_def, set_map, set_same (by rw [List.getElem?_map, hk]; rfl)]
  rw [List.length_set, hc]
  exact o1.stay hs (by decide)
 ·obtain ⟨q, hq⟩ := List.getElem?_of_mem hp
  by_cases hqk : q = k
  ·subst hqk
   rw [List.getElem?_set_self' , hk] at hq
   cases hq
   exact ⟨ml', rfl, hln⟩
  ·rw [List.getElem?_set_ne (Ne.symm hqk)] at hq
   obtain ⟨m2, e1, e2, e3⟩ := o2 p (List.mem_of_getElem? hq)
   refine ⟨m2, e1, ?_, fun p hp => (e3 p hp).stay hs (by decide)⟩
   rcases e2 with r | ⟨b, r1, r2, r3, r4⟩
   ·exact .inl r
   ·refine .inr ⟨b, r1, r2, r3, ?_⟩
    have hne : b ≠ jl := by
     rintro rfl
     have hp1 : (m.map (·.2))[q]? = some p.2 := by rw [List.getElem?_map, hq]; rfl
     have hp2 : (m.map (·.2))[k]? = some lv := by rw [List.getElem?_map, hk]; rfl
     obtain ⟨hx1, hy1⟩ := List.getElem?_eq_some_iff.1 hp1
     obtain ⟨hx2, hy2⟩ := List.getElem?_eq_some_iff.1 hp2
     have pw := List.pairwise_iff_getElem.1 o3
     rcases Nat.lt_or_gt_of_ne hqk with hlt | hlt
     ·have := pw q k hx1 hx2 hlt b
      rw [hy1, hy2] at this
      exact this ⟨_, _, r3⟩ ⟨_, _, hv⟩
     ·have := pw k q hx2 hx1 hlt b
      rw [hy1, hy2] at this
      exact this ⟨_, _, hv⟩ ⟨_, _, r3⟩
    rw [Heap.gs hne]
    exact r4
end
def resL : List (List UInt8) := [sendW, setW, incW, ifW, gotoB, exitW, expectW, timeoutB, globB, reB]
theorem words_bad {w : List UInt8} (h : w ∈ resL) : nameS w = false ∧ w ≠ [] ∧ w.length ≤ 10 := by
 have : (resL.all fun w => !nameS w && !w.isEmpty && decide (w.length ≤ 10)) = true := by kernel_rfl
 have := List.all_eq_true.1 this w h
 simp only [Bool.and_eq_true, Bool.not_eq_true', decide_eq_true_eq] at this
 refine ⟨this.1.1, ?_, this.2⟩
 rintro rfl
 exact absurd this.1.2 (by decide)
theorem wb10 (H : Heap) : abuildSlice Tryd.prog H 45 10 [(0, .string ⟨#[115, 101, 110, 100]⟩), (1, .string ⟨#[115, 101, 116]⟩), (2, .string ⟨#[105, 110, 99]⟩), (3, .string ⟨#[105, 102]⟩), (4, .string ⟨#[103, 111, 116, 111]⟩), (5, .string ⟨#[101, 120, 105, 116]⟩), (6, .string ⟨#[101, 120, 112, 101, 99, 116]⟩), (7, .string ⟨#[116, 105, 109, 101, 111, 117, 116]⟩), (8, .string ⟨#[103, 108, 111, 98]⟩), (9, .string ⟨#[114, 101]⟩)] = some (.slice (some ⟨H.next, 0, none⟩) 10 10, H.alloc (wordsRow resL)) := by kernel_rfl
theorem words_spec {E : EXT} (G : Nat) (h : Heap) : Does Tryd.prog G E 17 [] h fun r h' => r = .returned (.slice (some ⟨h.next, 0, none⟩) 10 10) ∧ h' = h.alloc (wordsRow resL) := by
 refine Does.body Tryd.func17 rfl ?_
 have hn : enterF Tryd.f17 [] = ⟨2, [], []⟩ := rfl
 rw [hn]; clear hn
 repeat apply Wq
 refine Wp.rS ?_
 repeat apply Wq
 refine Wp.r @wb10 ?_
 repeat apply Wq
 refine Wp.ret ?_
 exact ⟨rfl, rfl, _, rfl, rfl, rfl⟩
theorem word_at {h : Heap} {jw kk : Nat} {w : List UInt8} (g : h.get jw = some (wordsRow resL)) (hw : resL[kk]? = some w) : aload Tryd.prog h 9 (.pointer (some ⟨jw, kk, none⟩)) = some (.string (bs w)) := by
 rw [lc9]
 exact Heap.lf g (by simp only [List.getElem?_map, hw]; rfl)
theorem word_idx {jw kk : Nat} (h : kk < 10) : aindexAddr Tryd.prog 45 (.slice (some ⟨jw, 0, none⟩) 10 10) (.int .i64 (kk : Nat)) = some (.pointer (some ⟨jw, kk, none⟩)) := by
 rw [aindexAddr_slice (s := 1) Tryd.underlying45 (by kernel_rfl) (by omega) (by omega)]
 simp
theorem tmod_in (a : Int) (n : Nat) (hn : 0 < n) : -(n : Int) < a.tmod n ∧ a.tmod n < n := by
 refine ⟨?_, Int.tmod_lt_of_pos a (by omega)⟩
 have := Int.tmod_lt_of_pos (-a) (b := (n : Int)) (by omega)
 rw [Int.neg_tmod] at this
 omega
theorem may_good {bl : List BlockT} (h : mayS bl = true) : ∀ b ∈ bl, b.good := by
 obtain ⟨h1, _⟩ := may_ok h
 obtain ⟨o, _, _, _, g⟩ := progS_toks h1
 exact g
theorem may_bad_name {bl : List BlockT} {b : BlockT} (hb : b ∈ bl) (hw : nameS b.name = false) : mayS bl = false := by
 cases h : mayS bl with
 | false => rfl
 | true => have := (may_good h b hb).1; rw [hw] at this; cases this
theorem may_bad_line {bl : List BlockT} {b : BlockT} {x : LineT} (hb : b ∈ bl) (hx : x ∈ b.lines) (hw : (nameS x.name = false ∧ x.name ≠ []) ∨ (nameS x.to = false ∧ x.to ≠ [])) : mayS bl = false := by
 cases h : mayS bl with
 | false => rfl
 | true =>
  have g := (may_good h b hb).2 x hx
  rcases hw with ⟨q1, q2⟩ | ⟨q1, q2⟩
  ·rcases g.name with r | r
   ·exact absurd r q2
   ·rw [q1] at r; cases r
  ·rcases g.to with r | r
   ·exact absurd r q2
   ·rw [q1] at r; cases r
theorem linesOf_set {bl : List BlockT} {k : Nat} {t t' : BlockT} (hk : bl[k]? = some t) (hl : t'.lines.length = t.lines.length) : linesOf (bl.set k t') = linesOf bl := by
 unfold linesOf
 rw [set_map, set_same (by rw [List.getElem?_map, hk, hl]; rfl)]
theorem may_fewC {bl : List BlockT} (h : mayS bl = true) : fewC bl ∧ roomy bl ∧ bl ≠ [] := by
 obtain ⟨h1, _⟩ := may_ok h
 have f := progS_few h1
 refine ⟨⟨by have := f.1; omega, fun b hb => ⟨?_, fun x hx => by have := ((f.2.2 b hb).1 x hx).1; omega⟩⟩, roomy_read h1, progS_ne h1⟩
 have := (f.few.2 b hb).1
 have h2 : b.lines.length ≤ linesOf bl := mem_sum (fun b : BlockT => b.lines.length) hb
 have := f.2.1
 omega
theorem fewC.few {bl : List BlockT} (h : fewC bl) : fewB bl := ⟨by have := h.1; unfold maxLen; omega, fun b hb => ⟨by have := (h.2 b hb).1; unfold maxLen; omega, fun x hx => by have := (h.2 b hb).2 x hx; unfold LineT.few maxLen; omega⟩⟩
theorem fewC.set {bl : List BlockT} (h : fewC bl) (k : Nat) {t' : BlockT} (h1 : t'.lines.length ≤ 100000) (h2 : ∀ x ∈ t'.lines, x.arms.length ≤ 100000) : fewC (bl.set k t') := by
 refine ⟨by rw [List.length_set]; exact h.1, fun b hb => ?_⟩
 rcases List.mem_or_eq_of_mem_set hb with q | rfl
 ·exact h.2 b q
 ·exact ⟨h1, h2⟩
end
section
open Nat (reduceLT reduceEqDiff)
open Go.Proofs
theorem scell0 (H : Heap) {bv : Value} (hb : one bv = true) : astore Tryd.prog (H.alloc (scriptRow (.slice none 0 0))) 24 (.pointer (some ⟨H.next, 0, none⟩)) (.agg #[bv]) = some (H.alloc (scriptRow bv)) := by
 rw [script_put (Heap.gn H (scriptRow (.slice none 0 0))) hb, Heap.set_alloc]
theorem roomy.set {bl : List BlockT} (h : roomy bl) {k : Nat} {t t' : BlockT} (hk : bl[k]? = some t) (hl : t'.lines.length = t.lines.length) (hn : t'.name.length ≤ 100000)
  (hx : ∀ x ∈ t'.lines, x.text.length ≤ 100000 ∧ x.name.length ≤ 100000 ∧ x.to.length ≤ 100000 ∧ x.late.length ≤ 100000 ∧ (-9223372036854775808 ≤ x.n ∧ x.n ≤ 9223372036854775807) ∧ (-9223372036854775808 ≤ x.wait ∧ x.wait ≤ 9223372036854775807) ∧ ∀ a ∈ x.arms, a.to.length ≤ 100000) : roomy (bl.set k t') := by
 refine ⟨by rw [linesOf_set hk hl]; exact h.1, fun b hb => ?_⟩
 rcases List.mem_or_eq_of_mem_set hb with q | rfl
 ·exact h.2 b q
 ·exact ⟨hn, hx⟩
theorem plain_ne {h : Heap} {i j : Nat} {o : AObj} {e : TypeId} {cs : List Value} (g : h.get i = some o) (hp : o.plain = true) (g2 : h.get j = some (grownRow e cs)) : i ≠ j := by
 rintro rfl
 rw [g] at g2
 cases Option.some.inj g2
 cases hp
theorem printS_bad {bl : List BlockT} (h : mayS bl = false) : printS bl = [] := by unfold printS; rw [h]; rfl
structure Rz (lo : Nat) (H : Heap) (j9 jw : Nat) (m : List (BlockT × Value)) (bw : Value) (ml : List (LineT × Value)) (lv : Value) : Prop where
 g9 : H.get j9 = some (scriptRow bw)
 gw : H.get jw = some (wordsRow resL)
 bn : BlocksN lo H m bw
 ln : LinesN lo H ml lv
theorem Rz.more {lo : Nat} {H H' : Heap} {j9 jw : Nat} {m : List (BlockT × Value)} {bw lv : Value} {ml : List (LineT × Value)} (st : Rz lo H j9 jw m bw ml lv) (hm : H.more H') : Rz lo H' j9 jw m bw ml lv := ⟨hm.get st.g9, hm.get st.gw, st.bn.more hm, st.ln.stay (Stay.more (e := 0) hm) (by decide) (by decide)⟩
theorem Rz.over {lo : Nat} {H : Heap} {j9 jw jl b i : Nat} {m : List (BlockT × Value)} {bw lv : Value} {ml : List (LineT × Value)} (st : Rz lo H j9 jw m bw ml lv) {t : BlockT} (hk : m[b]? = some (t, lv)) {n c : Nat} (hv : lv = .slice (some ⟨jl, 0, none⟩) n c) (gl : H.get jl = some (grownRow 49 (linesC ml))) {x : LineT} {av : Value} (hi : ml[i]? = some (x, av)) (y : LineT) (hy : y.arms = x.arms) :
  Rz lo (H.set jl (grownRow 49 (linesC (ml.set i (y, av))))) j9 jw (m.set b ({ t with lines := (ml.set i (y, av)).map (·.1) }, lv)) bw (ml.set i (y, av)) lv := by
 obtain ⟨q1, q2⟩ := st.bn.relined hk st.ln hv gl (ml' := ml.set i (y, av)) (by rw [List.length_set]) (by
  intro p hp
  rcases List.mem_or_eq_of_mem_set hp with r | rfl
  ·exact st.ln.2 p r
  ·have := st.ln.2 (x, av) (List.mem_of_getElem? hi)
   simp only [hy]
   exact this)
 refine ⟨?_, ?_, q1, q2⟩
 ·rw [Heap.gs (plain_ne st.g9 rfl gl)]; exact st.g9
 ·rw [Heap.gs (plain_ne st.gw rfl gl)]; exact st.gw
theorem Rz.back {lo : Nat} {H : Heap} {j9 jw jl b i : Nat} {m : List (BlockT × Value)} {bw lv : Value} {ml : List (LineT × Value)} {t : BlockT} {x y : LineT} {av : Value} (hk : m[b]? = some (t, lv)) (ht : t.lines = ml.map (·.1)) (hi : ml[i]? = some (x, av))
  (st : Rz lo H j9 jw (m.set b ({ t with lines := (ml.set i (y, av)).map (·.1) }, lv)) bw (ml.set i (y, av)) lv) {n c : Nat} (hv : lv = .slice (some ⟨jl, 0, none⟩) n c) (gl : H.get jl = some (grownRow 49 (linesC (ml.set i (y, av))))) (hy : y.arms = x.arms) :
  (ml.set i (y, av))[i]? = some (y, av) ∧ (ml.set i (y, av)).set i (x, av) = ml ∧ Rz lo (H.set jl (grownRow 49 (linesC ml))) j9 jw m bw ml lv := by
 have hlt := (List.getElem?_eq_some_iff.1 hi).1
 have hlk := (List.getElem?_eq_some_iff.1 hk).1
 have h1 : (ml.set i (y, av))[i]? = some (y, av) := by rw [List.getElem?_set_self hlt]
 have h2 : (ml.set i (y, av)).set i (x, av) = ml := by rw [List.set_set]; exact set_same hi
 have := st.over (b := b) (t := { t with lines := (ml.set i (y, av)).map (·.1) }) (by rw [List.getElem?_set_self hlk]) hv gl h1 x hy.symm
 rw [h2, List.set_set] at this
 have e : ({ ({ t with lines := (ml.set i (y, av)).map (·.1) } : BlockT) with lines := ml.map (·.1) } : BlockT) = t := by cases t; simp only at ht ⊢; rw [ht]
 rw [e, set_same hk] at this
 exact ⟨h1, h2, this⟩
theorem parseReserved_does (h : Heap) (bl : List BlockT) (v : Value) (hv : BlocksV h bl v) (hf : fineD bl) (a p : Int) :
  Does Tryd.prog 0 (GoodE Tryd.prog (baseM 0)) 6 [.agg #[v], .int .i64 a, .int .i64 p] h fun e _ => e = .returned (.bool true) := by
 have c8 : canEnter Tryd.prog 8 = true := by kernel_rfl
 have c9 : canEnter Tryd.prog 9 = true := by kernel_rfl
 have c11 : canEnter Tryd.prog 11 = true := by kernel_rfl
 have c12 : canEnter Tryd.prog 12 = true := by kernel_rfl
 have c16 : canEnter Tryd.prog 16 = true := by kernel_rfl
 have c17 : canEnter Tryd.prog 17 = true := by kernel_rfl
 refine Does.body Tryd.func6 rfl ?_
 have hn : enterF Tryd.f6 [.agg #[v], .int .i64 a, .int .i64 p] = ⟨133, [(0, .agg #[v]), (1, .int .i64 a), (2, .int .i64 p)], []⟩ := rfl
 rw [hn]; clear hn
 repeat apply Wq
 refine Wp.r @hbox24 ?_
 have g3 : (h.alloc (scriptRow v)).get h.next = some (scriptRow v) := Heap.gn h _
 have m1 := Heap.ma h (scriptRow v)
 generalize h.alloc (scriptRow v) = H at g3 m1 ⊢
 generalize h.next = j3 at g3 ⊢
 replace hv := hv.more m1
 clear m1
 repeat apply Wq
 refine Wp.regionAs (is := 0 :: (List.range' 1 1 ++ [])) rfl ?_
 refine WpO.callR (works_does H) rfl (by simp only [bsg, reduceLT, reduceEqDiff, reduceCtorEq, c8]) (by simp only [bsc, bsg, reduceLT, reduceEqDiff, reduceCtorEq, c8] <;> exact rfl) ?_
 rintro _ h9 ⟨rfl, hh9⟩
 obtain rfl := hh9.symm
 clear hh9
 refine pu ?_
 refine WpO.runS 1 (by simp only [bsd, bsg, reduceLT, reduceEqDiff, reduceCtorEq, Bool.not_true] <;> exact rfl) (by decide) ?_
 refine WpO.nil ?_
 repeat apply Wq
 refine Wp.cF ?_
 repeat apply Wq
 refine Wp.skip ?_
 repeat apply Wq
 refine Wp.regionAs (is := List.range' 0 7 ++ []) rfl ?_
 refine WpO.r 1 (script_load g3) ?_
 refine WpO.callS rfl (by simp only [bsg, reduceLT, reduceEqDiff, reduceCtorEq, c9]) (by simp only [bsc, bsg, reduceLT, reduceEqDiff, reduceCtorEq, c9] <;> exact rfl) ((huge_spec 0 H bl v hv hf).mono ?_)
 intro r H2 hr
 obtain ⟨⟨c, rfl, hc⟩, m2⟩ := hr
 refine pt ?_
 cases c with
 | true =>
  refine WpO.rS 5 ?_
  refine WpO.nil ?_
  repeat apply Wq
  refine Wp.cT ?_
  repeat apply Wq
  refine Wp.rS ?_
  repeat apply Wq
  refine Wp.ret ?_
  exact ⟨rfl, rfl, _, rfl, rfl⟩
 | false =>
 have hro := roomy_of hf (hc rfl)
 clear hc
 replace g3 := m2.get g3
 replace hv := hv.more m2
 clear m2
 refine WpO.r 2 (script_load g3) ?_
 refine WpO.callS rfl (by simp only [bsg, reduceLT, reduceEqDiff, reduceCtorEq, c12]) (by simp only [bsc, bsg, reduceLT, reduceEqDiff, reduceCtorEq, c12] <;> exact rfl) ((may_spec H2 bl v hv hro).mono ?_)
 intro r H3 hr
 obtain ⟨rfl, m3⟩ := hr
 refine pt ?_
 cases hmay : mayS bl with
 | false =>
  refine WpO.rS 2 ?_
  refine WpO.nil ?_
  repeat apply Wq
  refine Wp.cT ?_
  repeat apply Wq
  refine Wp.rS ?_
  repeat apply Wq
  refine Wp.ret ?_
  exact ⟨rfl, rfl, _, rfl, rfl⟩
 | true =>
 refine WpO.rS 2 ?_
 refine WpO.nil ?_
 repeat apply Wq
 refine Wp.cF ?_
 repeat apply Wq
 refine Wp.skip ?_
 replace g3 := m3.get g3
 replace hv := hv.more m3
 clear m3 hro
 obtain ⟨hfc, hro, hne⟩ := may_fewC hmay
 repeat apply Wq
 refine Wp.regionAs (is := List.range' 0 2 ++ []) rfl ?_
 refine WpO.callS rfl (by simp only [bsg, reduceLT, reduceEqDiff, reduceCtorEq, c17]) (by simp only [bsc, bsg, reduceLT, reduceEqDiff, reduceCtorEq, c17] <;> exact rfl) ((words_spec 0 H3).mono ?_)
 intro r H4 hr
 obtain ⟨rfl, e4⟩ := hr
 refine pt ?_
 refine WpO.rS 1 ?_
 refine WpO.nil ?_
 have m4 := Heap.ma H3 (wordsRow resL)
 have gw := Heap.gn H3 (wordsRow resL)
 rw [← e4] at m4 gw
 clear e4
 generalize H3.next = jw at gw ⊢
 replace g3 := m4.get g3
 replace hv := hv.more m4
 clear m4
 obtain ⟨t1, t2⟩ := tmod_in a 10 (by omega)
 repeat apply Wq
 refine Wp.runS (by simp only [bsg, reduceLT, reduceEqDiff, reduceCtorEq, alen_slice Tryd.underlying45, ai_rem (show ((10 : Nat) : Int) ≠ 0 by decide)] <;> exact rfl) ?_
 repeat apply Wq
 refine Wp.rS ?_
 repeat apply Wq
 refine Wp.cut (fun fr u h' => u = none ∧ h' = H4 ∧ ∃ kk : Nat, kk < 10 ∧ ∃ sl, fr = ⟨133, sl, []⟩ ∧ holds [(2, .int .i64 p), (3, .pointer (some ⟨j3, 0, none⟩)), (7, .slice (some ⟨jw, 0, none⟩) 10 10), (8, .int .i64 kk)] sl) ?_ ?_
 rotate_left
 ·by_cases hneg : a.tmod ((10 : Nat) : Int) < 0
  ·have w1 : IntKind.i64.wrap (a.tmod ((10 : Nat) : Int) + ((10 : Nat) : Int)) = ((a.tmod ((10 : Nat) : Int) + 10).toNat : Int) := by rw [wrap_in (by omega) (by omega)]; omega
   repeat apply Wq
   refine Wp.condT (by simp only [bsg, reduceLT, reduceEqDiff, reduceCtorEq, decide_eq_true hneg]) ?_
   repeat apply Wq
   refine Wp.runS (by simp only [bsg, reduceLT, reduceEqDiff, reduceCtorEq, alen_slice Tryd.underlying45, w1] <;> exact rfl) ?_
   exact ⟨rfl, rfl, (a.tmod ((10 : Nat) : Int) + 10).toNat, by omega, _, rfl, ⟨rfl, rfl, rfl, rfl, trivial⟩⟩
  ·obtain ⟨kk, hkk⟩ : ∃ kk : Nat, a.tmod ((10 : Nat) : Int) = kk := ⟨(a.tmod ((10 : Nat) : Int)).toNat, by omega⟩
   rw [hkk] at t2 hneg ⊢
   repeat apply Wq
   refine Wp.condF (by simp only [bsg, reduceLT, reduceEqDiff, reduceCtorEq, decide_eq_false hneg]) ?_
   repeat apply Wq
   refine Wp.skip ?_
   exact ⟨rfl, rfl, kk, by omega, _, rfl, ⟨rfl, rfl, rfl, rfl, trivial⟩⟩
 rintro fr u h9 ⟨rfl, rfl, kk, hk10, sl, rfl, hs9⟩
 refine Wp.weaken (Frm.le_of hs9) ?_
 clear hs9 sl t1 t2
 obtain ⟨w, hw⟩ : ∃ w, resL[kk]? = some w := ⟨_, List.getElem?_eq_getElem (show kk < resL.length from hk10)⟩
 obtain ⟨wb, wn, wl⟩ := words_bad (List.mem_of_getElem? hw)
 repeat apply Wq
 refine Wp.regionAs (is := List.range' 0 4 ++ []) rfl ?_
 refine WpO.r 1 (script_load g3) ?_
 refine WpO.callS rfl (by simp only [bsg, reduceLT, reduceEqDiff, reduceCtorEq, c16]) (by simp only [bsc, bsg, reduceLT, reduceEqDiff, reduceCtorEq, c16] <;> exact rfl) ((copy_spec 0 h9 bl v hv hfc).mono ?_)
 intro r K hr
 obtain ⟨m, bw, rfl, hm, bn, mo⟩ := hr
 have o2 : one bw = true := by obtain ⟨q, rfl⟩ := bn.1.form; rfl
 refine pt ?_
 refine WpO.r 2 (Aq @alloc24 (scell0 K o2)) ?_
 refine WpO.nil ?_
 have m5 := Heap.ma K (scriptRow bw)
 have g9 := Heap.gn K (scriptRow bw)
 have n5 : K.next < (K.alloc (scriptRow bw)).next := Nat.lt_succ_self _
 generalize K.alloc (scriptRow bw) = K1 at m5 g9 n5 ⊢
 generalize K.next = j9 at g9 n5 ⊢
 replace bn := bn.more m5
 have hb1 := (bn.view (by rw [hm]; exact hfc.few))
 rw [hm] at hb1
 have gw1 := (mo.trans m5).get gw
 have hpos : 0 < bl.length := List.length_pos_iff.2 hne
 obtain ⟨t1, t2⟩ := tmod_in p bl.length hpos
 have hle := hfc.1
 repeat apply Wq
 refine Wp.runS (by simp only [bsg, reduceLT, reduceEqDiff, reduceCtorEq, sc0, lc22, Heap.lf g9 (k := 0) rfl, hb1.len, ai_rem (show ((bl.length : Nat) : Int) ≠ 0 by omega)] <;> exact rfl) ?_
 repeat apply Wq
 refine Wp.rS ?_
 repeat apply Wq
 refine Wp.cut (fun fr u h' => u = none ∧ h' = K1 ∧ ∃ b : Nat, b < bl.length ∧ ∃ sl, fr = ⟨133, sl, []⟩ ∧ holds [(3, .pointer (some ⟨j3, 0, none⟩)), (7, .slice (some ⟨jw, 0, none⟩) 10 10), (8, .int .i64 kk), (9, .pointer (some ⟨j9, 0, none⟩)), (10, .int .i64 b)] sl) ?_ ?_
 rotate_left
 ·by_cases hneg : p.tmod (bl.length : Int) < 0
  ·have w1 : IntKind.i64.wrap (p.tmod (bl.length : Int) + (bl.length : Int)) = ((p.tmod (bl.length : Int) + bl.length).toNat : Int) := by rw [wrap_in (by omega) (by omega)]; omega
   repeat apply Wq
   refine Wp.condT (by simp only [bsg, reduceLT, reduceEqDiff, reduceCtorEq, decide_eq_true hneg]) ?_
   repeat apply Wq
   refine Wp.r (Aq @sc0 (Aq @lc22 (Aq (Heap.lf g9 (k := 0) rfl) (Aq hb1.len w1)))) ?_
   exact ⟨rfl, rfl, (p.tmod (bl.length : Int) + bl.length).toNat, by omega, _, rfl, ⟨rfl, rfl, rfl, rfl, rfl, trivial⟩⟩
  ·obtain ⟨b, hb⟩ : ∃ b : Nat, p.tmod (bl.length : Int) = b := ⟨(p.tmod (bl.length : Int)).toNat, by omega⟩
   rw [hb] at t2 hneg ⊢
   repeat apply Wq
   refine Wp.condF (by simp only [bsg, reduceLT, reduceEqDiff, reduceCtorEq, decide_eq_false hneg]) ?_
   repeat apply Wq
   refine Wp.skip ?_
   exact ⟨rfl, rfl, b, by omega, _, rfl, ⟨rfl, rfl, rfl, rfl, rfl, trivial⟩⟩
 rintro fr u h8 ⟨rfl, rfl, b, hbl, sl, rfl, hs9⟩
 refine Wp.weaken (Frm.le_of hs9) ?_
 clear hs9 sl t1 t2
 obtain ⟨t, ht⟩ : ∃ t, bl[b]? = some t := ⟨_, List.getElem?_eq_getElem hbl⟩
 obtain ⟨lv, hk⟩ : ∃ lv, m[b]? = some (t, lv) := by
  have := ht
  rw [← hm, List.getElem?_map] at this
  obtain ⟨q, hq, rfl⟩ := om this
  exact ⟨q.2, hq⟩
 obtain ⟨jb, lob, hbv, gb, ib, lb⟩ := bn.at hk
 repeat apply Wq
 refine Wp.runSD mixed (by kernel_rfl) (by simp only [runSD, stepOD, stepWD, stepVD, isLoud, isPure, isReader, decide_true, bsb, bsg, reduceLT, reduceEqDiff, reduceCtorEq, sc0, bk0, lc22, Heap.lf g9 (k := 0) rfl, word_idx hk10, word_at gw1 hw, ib, blocks_name gb hk w] <;> exact rfl) ?_
 have bn2 := bn.renamed hbv gb hk w
 have g9' : (h8.set jb (grownRow 42 (blocksC (m.set b ({ t with name := w }, lv))))).get j9 = some (scriptRow bw) := by rw [Heap.gs (plain_ne g9 rfl gb)]; exact g9
 have gw' : (h8.set jb (grownRow 42 (blocksC (m.set b ({ t with name := w }, lv))))).get jw = some (wordsRow resL) := by rw [Heap.gs (plain_ne gw1 rfl gb)]; exact gw1
 have mo' : h9.more (h8.set jb (grownRow 42 (blocksC (m.set b ({ t with name := w }, lv))))) := by
  have q := mo.trans m5
  refine ⟨by rw [Heap.ns]; exact q.1, fun j hj => ?_⟩
  rw [Heap.gs (by omega)]
  exact q.2 j hj
 generalize h8.set jb (grownRow 42 (blocksC (m.set b ({ t with name := w }, lv)))) = L at bn2 g9' gw' mo' ⊢
 have hm2 : (m.set b ({ t with name := w }, lv)).map (·.1) = bl.set b { t with name := w } := by rw [set_map, hm]
 have htm := hro.2 t (List.mem_of_getElem? ht)
 have hcm := hfc.2 t (List.mem_of_getElem? ht)
 have hf2 : fewC (bl.set b { t with name := w }) := hfc.set b hcm.1 hcm.2
 have hr2 : roomy (bl.set b { t with name := w }) := hro.set ht rfl (by simp only; omega) htm.2
 have hb2 := bn2.view (by rw [hm2]; exact hf2.few)
 rw [hm2] at hb2
 have hbad : mayS (bl.set b { t with name := w }) = false := may_bad_name (b := { t with name := w }) (List.mem_of_getElem? (List.getElem?_set_self hbl)) wb
 repeat apply Wq
 refine Wp.regionAs (is := List.range' 0 7 ++ []) rfl ?_
 refine WpO.r 1 (script_load g9') ?_
 refine WpO.callS rfl (by simp only [bsg, reduceLT, reduceEqDiff, reduceCtorEq, c12]) (by simp only [bsc, bsg, reduceLT, reduceEqDiff, reduceCtorEq, c12] <;> exact rfl) ((may_spec L _ bw hb2 hr2).mono ?_)
 intro r L2 hr
 obtain ⟨rfl, m6⟩ := hr
 rw [hbad]
 refine pt ?_
 refine WpO.r 2 (script_load (m6.get g9')) ?_
 refine WpO.callS rfl (by simp only [bsg, reduceLT, reduceEqDiff, reduceCtorEq, c11]) (by simp only [bsc, bsg, reduceLT, reduceEqDiff, reduceCtorEq, c11] <;> exact rfl) ((print_spec L2 _ bw (hb2.more m6) hr2).mono ?_)
 intro r L3 hr
 obtain ⟨rfl, m7⟩ := hr
 rw [printS_bad hbad]
 refine pt ?_
 refine WpO.r 2 (Aq @neq_emp (decide_eq_false (show ¬ ([] : List UInt8) ≠ [] from fun q => q rfl))) ?_
 refine WpO.nil ?_
 repeat apply Wq
 refine Wp.cF ?_
 repeat apply Wq
 refine Wp.skip ?_
 have m8 := mo'.trans (m6.trans m7)
 replace g3 := m8.get g3
 replace hv := hv.more m8
 replace gw := m8.get gw
 replace g9 := (m6.trans m7).get g9'
 refine Wp.weaken (Frm.le_of (l := [(3, .pointer (some ⟨j3, 0, none⟩)), (7, .slice (some ⟨jw, 0, none⟩) 10 10), (8, .int .i64 kk), (9, .pointer (some ⟨j9, 0, none⟩)), (10, .int .i64 b)]) ⟨rfl, rfl, rfl, rfl, rfl, trivial⟩) ?_
 clear hb2 hbad hr2 hf2 hm2 bn2 g9' gw' mo' m6 m7 m8 hk gb ib lb lob hbv jb gw1 hb1 bn hm
 repeat apply Wq
 refine Wp.regionAs (is := List.range' 0 3 ++ []) rfl ?_
 refine WpO.r 1 (script_load g3) ?_
 refine WpO.callS rfl (by simp only [bsg, reduceLT, reduceEqDiff, reduceCtorEq, c16]) (by simp only [bsc, bsg, reduceLT, reduceEqDiff, reduceCtorEq, c16] <;> exact rfl) ((copy_spec 0 L3 bl v hv hfc).mono ?_)
 intro r K2 hr
 obtain ⟨m, bw2, rfl, hm, bn, mo2⟩ := hr
 have o3 : one bw2 = true := by obtain ⟨q, rfl⟩ := bn.1.form; rfl
 have g9k := mo2.get g9
 refine pt ?_
 refine WpO.r 1 (script_put g9k o3) ?_
 refine WpO.nil ?_
 have g9n : (K2.set j9 (scriptRow bw2)).get j9 = some (scriptRow bw2) := Heap.gf g9k
 have gwn : (K2.set j9 (scriptRow bw2)).get jw = some (wordsRow resL) := by
  rw [Heap.gs (by
   rintro rfl
   have := mo2.get gw
   rw [g9k] at this
   have := congrArg (fun o : Option AObj => match o with | some (.row r) => r.elem | _ => 0) this
   simp [scriptRow, wordsRow] at this)]
  exact mo2.get gw
 replace bn := bn.stay (Stay.set (r := { vs := [bw], elem := 24 }) (r' := { vs := [bw2], elem := 24 }) 0 g9k rfl rfl) (by decide) (by decide) (by decide)
 generalize L3.next = lo at bn
 have bn : BlocksN lo (K2.set j9 (scriptRow bw2)) m bw2 := bn
 generalize K2.set j9 (scriptRow bw2) = N at g9n gwn bn ⊢
 obtain ⟨lv, hk⟩ : ∃ lv, m[b]? = some (t, lv) := by
  have := ht
  rw [← hm, List.getElem?_map] at this
  obtain ⟨q, hq, rfl⟩ := om this
  exact ⟨q.2, hq⟩
 obtain ⟨jb, lob, hbv, gb, ib, lb⟩ := bn.at hk
 repeat apply Wq
 refine Wp.r (Aq @sc0 (Aq @bk1 (Aq @lc22 (Aq (Heap.lf g9n (k := 0) rfl) (Aq ib lb))))) ?_
 obtain ⟨ml, hml, ln0⟩ := bn.2.1 (t, lv) (List.mem_of_getElem? hk)
 simp only at hml
 have st0 : Rz lo N j9 jw m bw2 ml lv := ⟨g9n, gwn, bn, ln0⟩
 have hlen : ml.length = t.lines.length := by rw [← hml, List.length_map]
 have hcm := hfc.2 t (List.mem_of_getElem? ht)
 have htm := hro.2 t (List.mem_of_getElem? ht)
 have hvl : ∀ H, alen Tryd.prog H 40 lv = some (.int .i64 (ml.length : Nat)) := by
  intro H
  obtain ⟨q, rfl⟩ := ln0.1.form
  exact alen_slice Tryd.underlying40 _ _ _
 refine Wp.weaken (Frm.le_of (l := [(7, .slice (some ⟨jw, 0, none⟩) 10 10), (8, .int .i64 kk), (9, .pointer (some ⟨j9, 0, none⟩)), (11, lv)]) ⟨rfl, rfl, rfl, rfl, trivial⟩) ?_
 clear gb ib lb lob hbv jb g9n gwn bn ln0
 have bad : ∀ (i : Nat) (x y : LineT) (av : Value), ml[i]? = some (x, av) → y.arms = x.arms → ((nameS y.name = false ∧ y.name ≠ []) ∨ (nameS y.to = false ∧ y.to ≠ [])) → (∀ x ∈ t.lines.set i y, x.text.length ≤ 100000 ∧ x.name.length ≤ 100000 ∧ x.to.length ≤ 100000 ∧ x.late.length ≤ 100000 ∧ (-9223372036854775808 ≤ x.n ∧ x.n ≤ 9223372036854775807) ∧ (-9223372036854775808 ≤ x.wait ∧ x.wait ≤ 9223372036854775807) ∧ ∀ a ∈ x.arms, a.to.length ≤ 100000) →
   (m.set b ({ t with lines := (ml.set i (y, av)).map (·.1) }, lv)).map (·.1) = bl.set b { t with lines := t.lines.set i y } ∧ fewC (bl.set b { t with lines := t.lines.set i y }) ∧ roomy (bl.set b { t with lines := t.lines.set i y }) ∧ mayS (bl.set b { t with lines := t.lines.set i y }) = false := by
  intro i x y av hi hya hbad hrx
  have hlt := (List.getElem?_eq_some_iff.1 hi).1
  have hxt : t.lines[i]? = some x := by rw [← hml, List.getElem?_map, hi]; rfl
  have e1 : (ml.set i (y, av)).map (·.1) = t.lines.set i y := by rw [set_map, hml]
  refine ⟨by rw [e1, set_map, hm], hfc.set b (by simp only [List.length_set]; exact hcm.1) (fun z hz => ?_), hro.set ht (by simp only [List.length_set]) htm.1 hrx, ?_⟩
  ·rcases List.mem_or_eq_of_mem_set hz with q | rfl
   ·exact hcm.2 z q
   ·rw [hya]; exact hcm.2 x (List.mem_of_getElem? hxt)
  ·exact may_bad_line (b := { t with lines := t.lines.set i y }) (List.mem_of_getElem? (List.getElem?_set_self hbl)) (List.mem_of_getElem? (List.getElem?_set_self (by omega))) hbad
 have rx : ∀ (i : Nat) (x y : LineT), t.lines[i]? = some x → y.text = x.text ∧ y.late = x.late ∧ y.n = x.n ∧ y.wait = x.wait ∧ y.arms = x.arms → (y.name = x.name ∨ y.name = w) → (y.to = x.to ∨ y.to = w) → ∀ z ∈ t.lines.set i y, z.text.length ≤ 100000 ∧ z.name.length ≤ 100000 ∧ z.to.length ≤ 100000 ∧ z.late.length ≤ 100000 ∧ (-9223372036854775808 ≤ z.n ∧ z.n ≤ 9223372036854775807) ∧ (-9223372036854775808 ≤ z.wait ∧ z.wait ≤ 9223372036854775807) ∧ ∀ a ∈ z.arms, a.to.length ≤ 100000 := by
  intro i x y hx ⟨e1, e2, e3, e4, e5⟩ hn hto z hz
  rcases List.mem_or_eq_of_mem_set hz with q | rfl
  ·exact htm.2 z q
  ·obtain ⟨q1, q2, q3, q4, q5, q6, q7⟩ := htm.2 x (List.mem_of_getElem? hx)
   rw [e1, e2, e3, e4, e5]
   refine ⟨q1, ?_, ?_, q4, q5, q6, q7⟩
   ·rcases hn with r | r <;> rw [r]
    ·exact q2
    ·omega
   ·rcases hto with r | r <;> rw [r]
    ·exact q3
    ·omega
 repeat apply Wq
 refine Wp.rS ?_
 repeat apply Wq
 refine Wp.block ?_
 refine Wp.loopI (X := Nat × Heap) (fun x => [(7, .slice (some ⟨jw, 0, none⟩) 10 10), (8, .int .i64 kk), (9, .pointer (some ⟨j9, 0, none⟩)), (11, lv), (12, .int .i64 x.1)]) (fun x => x.2)
  (fun x => x.1 ≤ ml.length ∧ Rz lo x.2 j9 jw m bw2 ml lv) (fun x => ml.length - x.1) (0, N) ⟨Nat.zero_le _, st0⟩ ⟨rfl, rfl, rfl, rfl, rfl, trivial⟩ rfl ?_
 clear st0
 rintro ⟨i, Q⟩ ⟨hle2, st⟩
 simp only at hle2 st ⊢
 by_cases hlt : (i : Int) < (ml.length : Int)
 ·repeat apply Wq
  refine Wp.r (Aq hvl (decide_eq_true hlt)) ?_
  repeat apply Wq
  refine Wp.cT ?_
  repeat apply Wq
  refine Wp.skip ?_
  repeat apply Wq
  refine Wp.block ?_
  obtain ⟨⟨x, av⟩, hi⟩ : ∃ q, ml[i]? = some q := ⟨_, List.getElem?_eq_getElem (by omega)⟩
  have hxt : t.lines[i]? = some x := by rw [← hml, List.getElem?_map, hi]; rfl
  have hw1 := succ_in (i := i) (n := ml.length) (by omega) (by unfold maxLen; have := hcm.1; omega)
  obtain ⟨jl, lol, hlv, gl⟩ := st.ln.at hi
  have ix : aindexAddr Tryd.prog 40 lv (.int .i64 (i : Nat)) = some (.pointer (some ⟨jl, i * 8, none⟩)) := by rw [hlv]; exact lines_idx (by omega)
  repeat apply Wq
  refine Wp.r (Aq ix (Aq @ln2 (Aq ((lines_load gl hi).1) @neq_emp))) ?_
  repeat apply Wq
  refine Wp.cut (fun fr u h' => u = none ∧ Rz lo h' j9 jw m bw2 ml lv ∧ ∃ sl, fr = ⟨133, sl, []⟩ ∧ holds [(7, .slice (some ⟨jw, 0, none⟩) 10 10), (8, .int .i64 kk), (9, .pointer (some ⟨j9, 0, none⟩)), (11, lv), (12, .int .i64 i)] sl) ?_ ?_
  rotate_left
  ·by_cases hne : x.name = []
   ·repeat apply Wq
    refine Wp.condF (by simp only [bsg, reduceLT, reduceEqDiff, reduceCtorEq, decide_eq_false (not_not_intro hne)]) ?_
    repeat apply Wq
    refine Wp.skip ?_
    exact ⟨rfl, st, _, rfl, ⟨rfl, rfl, rfl, rfl, rfl, trivial⟩⟩
   repeat apply Wq
   refine Wp.condT (by simp only [bsg, reduceLT, reduceEqDiff, reduceCtorEq, decide_eq_true hne]) ?_
   repeat apply Wq
   refine Wp.r (Aq ix (Aq @ln2 ((lines_load gl hi).1))) ?_
   repeat apply Wq
   refine Wp.runS (by simp only [bsg, reduceLT, reduceEqDiff, reduceCtorEq, word_idx hk10, word_at st.gw hw, ix, ln2, lines_put gl hi (y := { x with name := w }) 2 (by decide) w rfl] <;> exact rfl) ?_
   have s1 := st.over hk hlv gl hi { x with name := w } rfl
   have gl1 : (Q.set jl (grownRow 49 (linesC (ml.set i ({ x with name := w }, av))))).get jl = some (grownRow 49 (linesC (ml.set i ({ x with name := w }, av)))) := Heap.gf gl
   generalize Q.set jl (grownRow 49 (linesC (ml.set i ({ x with name := w }, av)))) = Q1 at s1 gl1 ⊢
   obtain ⟨b1, b2, b3, b4⟩ := bad i x { x with name := w } av hi rfl (.inl ⟨wb, wn⟩) (rx i x _ hxt ⟨rfl, rfl, rfl, rfl, rfl⟩ (.inr rfl) (.inl rfl))
   have hvw := s1.bn.view (by rw [b1]; exact b2.few)
   rw [b1] at hvw
   repeat apply Wq
   refine Wp.regionAs (is := List.range' 0 2 ++ []) rfl ?_
   refine WpO.r 1 (script_load s1.g9) ?_
   refine WpO.callS rfl (by simp only [bsg, reduceLT, reduceEqDiff, reduceCtorEq, c12]) (by simp only [bsc, bsg, reduceLT, reduceEqDiff, reduceCtorEq, c12] <;> exact rfl) ((may_spec Q1 _ bw2 hvw b3).mono ?_)
   intro r Q2 hr
   obtain ⟨rfl, mq⟩ := hr
   rw [b4]
   refine pt ?_
   refine WpO.nil ?_
   repeat apply Wq
   refine Wp.cF ?_
   repeat apply Wq
   refine Wp.skip ?_
   have gl2 := mq.get gl1
   obtain ⟨r1, r2, r3⟩ := Rz.back hk hml.symm hi (s1.more mq) hlv gl2 rfl
   have pb := lines_put gl2 r1 (y := x) 2 (by decide) x.name rfl
   rw [r2] at pb
   repeat apply Wq
   refine Wp.r (Aq ix (Aq @ln2 pb)) ?_
   exact ⟨rfl, r3, _, rfl, ⟨rfl, rfl, rfl, rfl, rfl, trivial⟩⟩
  rintro fr u Q0 ⟨rfl, st, sl, rfl, hs9⟩
  refine Wp.weaken (Frm.le_of hs9) ?_
  clear hs9 sl gl
  obtain ⟨jl', _, hlv', gl⟩ := st.ln.at hi
  obtain rfl : jl' = jl := by rw [hlv'] at hlv; cases hlv; rfl
  clear hlv'
  repeat apply Wq
  refine Wp.r (Aq ix (Aq @ln4 (Aq ((lines_load gl hi).2) @neq_emp))) ?_
  repeat apply Wq
  refine Wp.cut (fun fr u h' => u = none ∧ Rz lo h' j9 jw m bw2 ml lv ∧ ∃ sl, fr = ⟨133, sl, []⟩ ∧ holds [(7, .slice (some ⟨jw, 0, none⟩) 10 10), (8, .int .i64 kk), (9, .pointer (some ⟨j9, 0, none⟩)), (11, lv), (12, .int .i64 i)] sl) ?_ ?_
  rotate_left
  ·by_cases hne : x.to = []
   ·repeat apply Wq
    refine Wp.condF (by simp only [bsg, reduceLT, reduceEqDiff, reduceCtorEq, decide_eq_false (not_not_intro hne)]) ?_
    repeat apply Wq
    refine Wp.skip ?_
    exact ⟨rfl, st, _, rfl, ⟨rfl, rfl, rfl, rfl, rfl, trivial⟩⟩
   repeat apply Wq
   refine Wp.condT (by simp only [bsg, reduceLT, reduceEqDiff, reduceCtorEq, decide_eq_true hne]) ?_
   repeat apply Wq
   refine Wp.r (Aq ix (Aq @ln4 ((lines_load gl hi).2))) ?_
   repeat apply Wq
   refine Wp.runS (by simp only [bsg, reduceLT, reduceEqDiff, reduceCtorEq, word_idx hk10, word_at st.gw hw, ix, ln4, lines_put gl hi (y := { x with to := w }) 4 (by decide) w rfl] <;> exact rfl) ?_
   have s1 := st.over hk hlv gl hi { x with to := w } rfl
   have gl1 : (Q0.set jl' (grownRow 49 (linesC (ml.set i ({ x with to := w }, av))))).get jl' = some (grownRow 49 (linesC (ml.set i ({ x with to := w }, av)))) := Heap.gf gl
   generalize Q0.set jl' (grownRow 49 (linesC (ml.set i ({ x with to := w }, av)))) = Q1 at s1 gl1 ⊢
   obtain ⟨b1, b2, b3, b4⟩ := bad i x { x with to := w } av hi rfl (.inr ⟨wb, wn⟩) (rx i x _ hxt ⟨rfl, rfl, rfl, rfl, rfl⟩ (.inl rfl) (.inr rfl))
   have hvw := s1.bn.view (by rw [b1]; exact b2.few)
   rw [b1] at hvw
   repeat apply Wq
   refine Wp.regionAs (is := List.range' 0 2 ++ []) rfl ?_
   refine WpO.r 1 (script_load s1.g9) ?_
   refine WpO.callS rfl (by simp only [bsg, reduceLT, reduceEqDiff, reduceCtorEq, c12]) (by simp only [bsc, bsg, reduceLT, reduceEqDiff, reduceCtorEq, c12] <;> exact rfl) ((may_spec Q1 _ bw2 hvw b3).mono ?_)
   intro r Q2 hr
   obtain ⟨rfl, mq⟩ := hr
   rw [b4]
   refine pt ?_
   refine WpO.nil ?_
   repeat apply Wq
   refine Wp.cF ?_
   repeat apply Wq
   refine Wp.skip ?_
   have gl2 := mq.get gl1
   obtain ⟨r1, r2, r3⟩ := Rz.back hk hml.symm hi (s1.more mq) hlv gl2 rfl
   have pb := lines_put gl2 r1 (y := x) 4 (by decide) x.to rfl
   rw [r2] at pb
   repeat apply Wq
   refine Wp.r (Aq ix (Aq @ln4 pb)) ?_
   exact ⟨rfl, r3, _, rfl, ⟨rfl, rfl, rfl, rfl, rfl, trivial⟩⟩
  rintro fr u Q0 ⟨rfl, st, sl, rfl, hs9⟩
  refine Wp.weaken (Frm.le_of hs9) ?_
  clear hs9 sl
  repeat apply Wq
  refine Wp.r hw1 ?_
  exact ⟨(i + 1, Q0), _, ⟨by simp only; omega, st⟩, by simp only; omega, rfl, ⟨rfl, rfl, rfl, rfl, rfl, trivial⟩, rfl, rfl⟩
 ·repeat apply Wq
  refine Wp.r (Aq hvl (decide_eq_false hlt)) ?_
  repeat apply Wq
  refine Wp.cF ?_
  repeat apply Wq
  refine Wp.exit ?_
  simp only [bx, Nat.reduceEqDiff]
  have hvw := st.bn.view (by rw [hm]; exact hfc.few)
  rw [hm] at hvw
  repeat apply Wq
  refine Wp.regionAs (is := List.range' 0 3 ++ []) rfl ?_
  refine WpO.r 1 (script_load st.g9) ?_
  refine WpO.callS rfl (by simp only [bsg, reduceLT, reduceEqDiff, reduceCtorEq, c12]) (by simp only [bsc, bsg, reduceLT, reduceEqDiff, reduceCtorEq, c12] <;> exact rfl) ((may_spec Q bl bw2 hvw hro).mono ?_)
  intro r Q2 hr
  obtain ⟨rfl, mq⟩ := hr
  rw [hmay]
  refine pt ?_
  refine WpO.rS 1 ?_
  refine WpO.nil ?_
  repeat apply Wq
  refine Wp.ret ?_
  exact ⟨rfl, rfl, _, rfl, rfl⟩
theorem parseReserved_law (h : Heap) (bl : List BlockT) (v : Value) (a p : Int) (hv : BlocksV h bl v) (hf : fineD bl) :
  Does Tryd.prog 0 (GoodE Tryd.prog (baseM 0)) 6 [.agg #[v], .int .i64 a, .int .i64 p] h fun e _ => e = .returned (.bool true) := parseReserved_does h bl v hv hf a p
end
end Go.Mini
