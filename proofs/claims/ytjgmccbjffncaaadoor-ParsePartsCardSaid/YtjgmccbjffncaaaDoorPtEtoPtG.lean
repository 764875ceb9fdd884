import Derived.Test.YtjgmccbjffncaaaDoorPtD
import Derived.Test.YtjgmccbjffncaaaDoorPLexZc
import Derived.Test.YtjgmccbjffncaaaDoorMiniYOtoYS
set_option maxHeartbeats 16000000
set_option maxRecDepth 100000
set_option linter.unusedSimpArgs false
namespace Go.Mini
section
open Go.Proofs Tryd
open Go.ChangeShapes Go.WideShapes Go.RowKit
def i64ok (n : Int) : Prop := -9223372036854775808 ≤ n ∧ n ≤ 9223372036854775807
theorem i64_wf {n : Int} (h : (Lit.int .i64 n).wf = true) : i64ok n := by
 have : IntKind.i64.min ≤ n ∧ n ≤ IntKind.i64.max := by
  simp only [Lit.wf, Bool.and_eq_true, decide_eq_true_eq] at h
  exact h
 exact ⟨Int.le_trans (by decide) this.1, Int.le_trans this.2 (by decide)⟩
def ArmT.fine (a : ArmT) : Prop := a.text.length ≤ reachBytes ∧ a.to.length ≤ reachBytes
def LineT.fine (x : LineT) : Prop := x.text.length ≤ reachBytes ∧ x.name.length ≤ reachBytes ∧ x.to.length ≤ reachBytes ∧ x.late.length ≤ reachBytes ∧ i64ok x.n ∧ i64ok x.wait ∧ ∀ a ∈ x.arms, a.fine
def BlockT.fine (b : BlockT) : Prop := b.name.length ≤ reachBytes ∧ ∀ x ∈ b.lines, x.fine
def fineD (bl : List BlockT) : Prop := ∀ b ∈ bl, b.fine
def ArmW (h : Heap) (x : ArmT) (cs : List Value) : Prop := ArmC h x cs ∧ x.fine
def LineW (h : Heap) (x : LineT) (cs : List Value) : Prop := ∃ av, cs = lineCells x av ∧ SliceR 3 ArmW h x.arms av ∧ x.fine
def BlockW (h : Heap) (x : BlockT) (cs : List Value) : Prop := ∃ lv, cs = [.string (bs x.name), lv] ∧ SliceR 8 LineW h x.lines lv ∧ x.fine
theorem growsW_arm : Grows ArmW := fun _ _ _ _ _ q => q
theorem growsW_line : Grows LineW := fun _ _ _ _ hm ⟨av, q1, q2, q3⟩ => ⟨av, q1, q2.more growsW_arm hm, q3⟩
theorem growsW_block : Grows BlockW := fun _ _ _ _ hm ⟨av, q1, q2, q3⟩ => ⟨av, q1, q2.more growsW_line hm, q3⟩
theorem map_id' {α : Type} (l : List α) : l.map (fun x => x) = l := List.map_id l
theorem ArmW.view {h : Heap} {l : List ArmT} {v : Value} (s : SliceR 3 ArmW h l v) : ArmsV h l v ∧ ∀ a ∈ l, a.fine := by
 refine ⟨?_, fun a ha => ?_⟩
 ·have := SliceR.imp (R' := ArmC) (fun x => x) s fun x cs q => q.1
  rw [map_id'] at this
  exact this
 ·obtain ⟨cs, q⟩ := SliceR.all s a ha
  exact q.2
theorem LineW.view {h : Heap} {l : List LineT} {v : Value} (s : SliceR 8 LineW h l v) : LinesV h l v ∧ ∀ a ∈ l, a.fine := by
 refine ⟨?_, fun a ha => ?_⟩
 ·have := SliceR.imp (R' := LineC) (fun x => x) s fun x cs ⟨av, q1, q2, q3⟩ => ⟨av, q1, (ArmW.view q2).1⟩
  rw [map_id'] at this
  exact this
 ·obtain ⟨cs, av, _, _, q⟩ := SliceR.all s a ha
  exact q
theorem BlockW.view {h : Heap} {l : List BlockT} {v : Value} (s : SliceR 2 BlockW h l v) : BlocksV h l v ∧ fineD l := by
 refine ⟨?_, fun a ha => ?_⟩
 ·have := SliceR.imp (R' := BlockC) (fun x => x) s fun x cs ⟨av, q1, q2, q3⟩ => ⟨av, q1, (LineW.view q2).1⟩
  rw [map_id'] at this
  exact this
 ·obtain ⟨cs, av, _, _, q⟩ := SliceR.all s a ha
  exact q
section
variable {H : Type} {enc : TypeId × Value → H} {W : World} {G : Nat}
theorem str_in {fuel : Nat} {c : Value} {y : DataW H × List MemPlace} (h : DataW.trod enc prog W 0 (fun _ => true) true fuel 9 [c] = some y) (hw : ∀ w ∈ DataW.weights prog 9 y.1, w ≤ reachBytes) : ∃ l : List UInt8, c = .string (bs l) ∧ l.length ≤ reachBytes := by
 obtain ⟨s, e, rfl, _⟩ := DataW.trod_string underlying9 h
 refine ⟨s.data.toList, by rw [bs_data]; simpa using e, hw _ ?_⟩
 simp [DataW.weights]
theorem int_in {fuel : Nat} {c : Value} {y : DataW H × List MemPlace} (h : DataW.trod enc prog W 0 (fun _ => true) true fuel 3 [c] = some y) : ∃ n, c = .int .i64 n ∧ i64ok n := by
 obtain ⟨z, e, _, w⟩ := DataW.trod_int underlying3 h
 exact ⟨z, by simpa using e, i64_wf w⟩
theorem cell3 : prog.cellsOf 3 = 1 := by kernel_rfl
theorem cell9 : prog.cellsOf 9 = 1 := by kernel_rfl
theorem cell47 : prog.cellsOf 47 = 1 := by kernel_rfl
theorem cell40 : prog.cellsOf 40 = 1 := by kernel_rfl
theorem cell22 : prog.cellsOf 22 = 1 := by kernel_rfl
theorem cell52 : prog.cellsOf 52 = 2 := by kernel_rfl
theorem cell54 : prog.cellsOf 54 = 3 := by kernel_rfl
theorem cell49 : prog.cellsOf 49 = 8 := by kernel_rfl
theorem cell42 : prog.cellsOf 42 = 2 := by kernel_rfl
theorem arm_opens (fuel : Nat) (cs : List Value) (y : DataW H × List MemPlace) (hl : cs.length = 3) (h : DataW.trod enc prog W 0 (fun _ => true) true fuel 54 cs = some y) (hw : ∀ w ∈ DataW.weights prog 54 y.1, w ≤ reachBytes) : Opens prog W G ArmW cs := by
 obtain ⟨xs, n, _, rfl, _, hxl, hf⟩ := DataW.trod_struct underlying54 h
 match cs, hl with
 | [c0, c1, c2], _ =>
 have hx2 : xs.length = 2 := hxl
 match xs, hx2 with
 | [x0, x1], _ =>
 simp only [DataW.weights, underlying54, List.map_cons, List.map_nil, DataW.weightsEach, List.mem_append, List.append_nil] at hw
 have f0 := hf 0 _ rfl
 have f1 := hf 1 _ rfl
 simp only [cell52, cell9, List.drop_zero, List.drop_succ_cons, List.take_succ_cons, List.take_zero, List.getElem?_cons_zero, List.getElem?_cons_succ] at f0 f1
 obtain ⟨l1, rfl, b1⟩ := str_in f1 fun w q => hw w (.inr q)
 obtain ⟨zs, n2, _, rfl, _, hzl, hg⟩ := DataW.trod_struct underlying52 f0
 have hz2 : zs.length = 2 := hzl
 match zs, hz2 with
 | [z0, z1], _ =>
 simp only [DataW.weights, underlying52, List.map_cons, List.map_nil, DataW.weightsEach, List.mem_append, List.append_nil] at hw
 have g0 := hg 0 _ rfl
 have g1 := hg 1 _ rfl
 simp only [cell3, cell9, List.drop_zero, List.drop_succ_cons, List.take_succ_cons, List.take_zero, List.getElem?_cons_zero, List.getElem?_cons_succ] at g0 g1
 obtain ⟨k, rfl, _⟩ := int_in g0
 obtain ⟨l2, rfl, b2⟩ := str_in g1 fun w q => hw w (.inl (.inr q))
 exact Opens.flat ⟨k, l2, l1⟩ (by intro v hv; simp only [List.mem_cons, List.not_mem_nil, or_false] at hv; rcases hv with rfl | rfl | rfl <;> rfl) fun h => ⟨rfl, b2, b1⟩
theorem line_opens (fuel : Nat) (cs : List Value) (y : DataW H × List MemPlace) (hl : cs.length = 8) (h : DataW.trod enc prog W 0 (fun _ => true) true fuel 49 cs = some y) (hw : ∀ w ∈ DataW.weights prog 49 y.1, w ≤ reachBytes) : Opens prog W G LineW cs := by
 obtain ⟨xs, n, _, rfl, _, hxl, hf⟩ := DataW.trod_struct underlying49 h
 match cs, hl with
 | [c0, c1, c2, c3, c4, c5, c6, c7], _ =>
 have hx8 : xs.length = 8 := hxl
 match xs, hx8 with
 | [x0, x1, x2, x3, x4, x5, x6, x7], _ =>
 simp only [DataW.weights, underlying49, List.map_cons, List.map_nil, DataW.weightsEach, List.mem_append, List.append_nil] at hw
 have f0 := hf 0 _ rfl
 have f1 := hf 1 _ rfl
 have f2 := hf 2 _ rfl
 have f3 := hf 3 _ rfl
 have f4 := hf 4 _ rfl
 have f5 := hf 5 _ rfl
 have f6 := hf 6 _ rfl
 have f7 := hf 7 _ rfl
 simp only [cell3, cell9, cell47, List.drop_zero, List.drop_succ_cons, List.take_succ_cons, List.take_zero, List.getElem?_cons_zero, List.getElem?_cons_succ] at f0 f1 f2 f3 f4 f5 f6 f7
 obtain ⟨n0, rfl, _⟩ := int_in f0
 obtain ⟨l1, rfl, b1⟩ := str_in f1 fun w q => hw w (.inr (.inl q))
 obtain ⟨l2, rfl, b2⟩ := str_in f2 fun w q => hw w (.inr (.inr (.inl q)))
 obtain ⟨n3, rfl, w3⟩ := int_in f3
 obtain ⟨l4, rfl, b4⟩ := str_in f4 fun w q => hw w (.inr (.inr (.inr (.inr (.inl q)))))
 obtain ⟨n6, rfl, w6⟩ := int_in f6
 obtain ⟨l7, rfl, b7⟩ := str_in f7 fun w q => hw w (.inr (.inr (.inr (.inr (.inr (.inr (.inr q)))))))
 have o := Opens.slice (P := prog) (W := W) (G := G) (R := ArmW) (enc := enc) (n := 3) growsW_arm underlying47 cell54 (by omega) (fun h x cs q => by rw [q.1]; rfl) (fun fuel cs y q1 q2 q3 => arm_opens fuel cs y q1 q2 q3) (fun w q => hw w (.inr (.inr (.inr (.inr (.inr (.inl q)))))) ) f5
 have o2 := o.within (pre := [.int .i64 n0, .string (bs l1), .string (bs l2), .int .i64 n3, .string (bs l4)]) (post := [.int .i64 n6, .string (bs l7)]) (by intro v hv; simp only [List.mem_cons, List.not_mem_nil, or_false] at hv; rcases hv with rfl | rfl | rfl | rfl | rfl <;> rfl) (by intro v hv; simp only [List.mem_cons, List.not_mem_nil, or_false] at hv; rcases hv with rfl | rfl <;> rfl)
 refine Opens.mono o2 (fun a => ⟨n0, l1, l2, n3, l4, a, n6, l7⟩) ?_
 rintro h a cs ⟨c', rfl, v, rfl, s⟩
 exact ⟨v, rfl, s, b1, b2, b4, b7, w3, w6, (ArmW.view s).2⟩
theorem block_opens (fuel : Nat) (cs : List Value) (y : DataW H × List MemPlace) (hl : cs.length = 2) (h : DataW.trod enc prog W 0 (fun _ => true) true fuel 42 cs = some y) (hw : ∀ w ∈ DataW.weights prog 42 y.1, w ≤ reachBytes) : Opens prog W G BlockW cs := by
 obtain ⟨xs, n, _, rfl, _, hxl, hf⟩ := DataW.trod_struct underlying42 h
 match cs, hl with
 | [c0, c1], _ =>
 have hx2 : xs.length = 2 := hxl
 match xs, hx2 with
 | [x0, x1], _ =>
 simp only [DataW.weights, underlying42, List.map_cons, List.map_nil, DataW.weightsEach, List.mem_append, List.append_nil] at hw
 have f0 := hf 0 _ rfl
 have f1 := hf 1 _ rfl
 simp only [cell9, cell40, List.drop_zero, List.drop_succ_cons, List.take_succ_cons, List.take_zero, List.getElem?_cons_zero, List.getElem?_cons_succ] at f0 f1
 obtain ⟨l0, rfl, b0⟩ := str_in f0 fun w q => hw w (.inl q)
 have o := Opens.slice (P := prog) (W := W) (G := G) (R := LineW) (enc := enc) (n := 8) growsW_line underlying40 cell49 (by omega) (fun h x cs q => by obtain ⟨av, rfl, _⟩ := q; rfl) (fun fuel cs y q1 q2 q3 => line_opens fuel cs y q1 q2 q3) (fun w q => hw w (.inr q)) f1
 have o2 := o.within (pre := [.string (bs l0)]) (post := []) (by intro v hv; simp only [List.mem_cons, List.not_mem_nil, or_false] at hv; subst hv; rfl) (by simp)
 refine Opens.mono o2 (fun a => ⟨l0, a⟩) ?_
 rintro h a cs ⟨c', rfl, v, rfl, s⟩
 exact ⟨v, rfl, s, b0, (LineW.view s).2⟩
theorem open_script {v : Value} {d : DataW H} {ps : List MemPlace} {base : Nat} {m : Ren} {h : Heap} (hok : Value.okWide prog W .any base 24 v) (h0 : DataW.Trod enc prog W 0 (fun _ => true) true 24 v d ps) (hwt : ∀ w ∈ DataW.weights prog 24 d, w ≤ reachBytes) (hr : HRel prog ⟨G, W.heap.size, W⟩ m h W) :
  ∃ m' h' bv bl, HRel prog ⟨G, W.heap.size, W⟩ m' h' W ∧ m.agree h.next m' ∧ h.more h' ∧ ren m' (.agg #[bv]) = v ∧ sc h'.next (.agg #[bv]) ∧ BlocksV h' bl bv ∧ fineD bl := by
 obtain ⟨cs, rfl, hsz⟩ := okWide_struct underlying24 hok
 obtain ⟨fuel, hf⟩ := h0
 have hc : prog.cellsOf 24 = 1 := by kernel_rfl
 obtain ⟨l⟩ := cs
 have hl1 : l.length = 1 := by rw [hc] at hsz; exact hsz
 match l, hl1 with
 | [c], _ =>
 simp only [Value.cells] at hf
 obtain ⟨xs, n, _, hx, _, hxl, hg⟩ := DataW.trod_struct underlying24 hf
 have hx1 : xs.length = 1 := hxl
 match xs, hx1 with
 | [x0], _ =>
 simp only [List.map_cons, List.map_nil, Prod.mk.injEq] at hx
 obtain ⟨rfl, _⟩ := hx
 simp only [DataW.weights, underlying24, List.map_cons, List.map_nil, DataW.weightsEach, List.append_nil] at hwt
 have f0 : DataW.trod enc prog W 0 (fun _ => true) true n 22 (([c].drop 0).take (prog.cellsOf 22)) = [x0][0]? := hg 0 _ rfl
 simp only [cell22, List.drop_zero, List.take_succ_cons, List.take_zero, List.getElem?_cons_zero] at f0
 have o := Opens.slice (P := prog) (W := W) (G := G) (R := BlockW) (enc := enc) (n := 2) growsW_block underlying22 cell42 (by omega) (fun h x cs q => by obtain ⟨av, rfl, _⟩ := q; rfl) (fun fuel cs y q1 q2 q3 => block_opens fuel cs y q1 q2 q3) hwt f0
 obtain ⟨m', h', bl, cs', a, b, e, f, g, v, rfl, s⟩ := o m h hr
 obtain ⟨s1, s2⟩ := BlockW.view s
 refine ⟨m', h', v, bl, a, b, e, ?_, ?_, s1, s2⟩
 ·simp only [ren, renA, renL]
  simp only [List.map_cons, List.map_nil, List.cons.injEq, and_true] at f
  rw [f]
 ·simp only [sc, scA, scL, and_true]
  exact g v (by simp)
end
end
section
open Nat (reduceLT reduceEqDiff)
open Go.Proofs Tryd
def sizeA (a : ArmT) : Nat := 1 + a.text.length + a.to.length
def armsSz (l : List ArmT) : Nat := (l.map sizeA).sum
def sizeX (x : LineT) : Nat := 1 + x.text.length + x.name.length + x.to.length + x.late.length
def sizeL (x : LineT) : Nat := sizeX x + armsSz x.arms
def linesSz (l : List LineT) : Nat := (l.map sizeL).sum
def sizeB (b : BlockT) : Nat := 1 + b.name.length + linesSz b.lines
def sizeS (l : List BlockT) : Nat := (l.map sizeB).sum
theorem sum_take {α : Type} (f : α → Nat) {l : List α} {i : Nat} {t : α} (ht : l[i]? = some t) : ((l.take (i + 1)).map f).sum = ((l.take i).map f).sum + f t := by
 rw [List.take_add_one, ht, List.map_append, List.sum_append]
 simp
theorem wadd {a b : Nat} (h : a + b ≤ 4611686018427387904) : IntKind.i64.wrap ((a : Int) + (b : Int)) = ((a + b : Nat) : Int) := by rw [wrap_in (by omega) (by omega)]; omega
theorem wadd1 {b : Nat} (h : b ≤ 4611686018427387904) : IntKind.i64.wrap ((1 : Int) + (b : Int)) = ((1 + b : Nat) : Int) := by rw [wrap_in (by omega) (by omega)]; omega
theorem reach_eq : reachBytes = 140737488351232 := rfl
theorem arm_cells {H : Heap} {b k : Nat} {x : ArmT} (h : aload prog H 54 (.pointer (some ⟨b, k, none⟩)) = some x.val) : aload prog H 9 (.pointer (some ⟨b, k + 1, none⟩)) = some (.string (bs x.text)) ∧ aload prog H 9 (.pointer (some ⟨b, k + 2, none⟩)) = some (.string (bs x.to)) := by
 rw [aload_agg agg54 sz54] at h
 obtain ⟨l, h1, h2⟩ := om h
 have hl : l = x.cells := by
  have := congrArg (fun v => match v with | .agg a => a.toList | _ => []) h2
  simpa [ArmT.val] using this
 subst hl
 obtain ⟨r, hr, h7⟩ := ob h1
 rw [lc9, lc9]
 split at h7
 case isFalse => cases h7
 have h8 := congrArg (fun l => l[1]?) (Option.some.inj h7)
 have h9 := congrArg (fun l => l[2]?) (Option.some.inj h7)
 simp only [List.getElem?_take, List.getElem?_drop] at h8 h9
 exact ⟨Heap.lf (Heap.row_some.1 hr) h8, Heap.lf (Heap.row_some.1 hr) h9⟩
theorem huge_spec {E : EXT} (G : Nat) (h : Heap) (bl : List BlockT) (v : Value) (hv : BlocksV h bl v) (hf : fineD bl) :
  Does prog G E 9 [.agg #[v]] h fun r h' => (∃ c, r = .returned (.bool c) ∧ (c = false → sizeS bl ≤ 65536)) ∧ h.more h' := by
 have hre := reach_eq
 refine Does.body func9 rfl ?_
 have hn : enterF Tryd.f9 [.agg #[v]] = ⟨95, [(0, .agg #[v])], []⟩ := rfl
 rw [hn]; clear hn
 repeat apply Wq
 refine Wp.r @hbox24 ?_
 have g1 : (h.alloc (scriptRow v)).get h.next = some (scriptRow v) := Heap.gn h _
 have m1 := Heap.ma h (scriptRow v)
 generalize h.alloc (scriptRow v) = H at g1 m1 ⊢
 generalize h.next = j1 at g1 ⊢
 have hmax := SliceR.le hv
 repeat apply Wq
 refine Wp.rS ?_
 repeat apply Wq
 refine Wp.rS ?_
 repeat apply Wq
 refine Wp.block ?_
 refine Wp.loopI (X := Nat × Heap) (fun x => [(1, .pointer (some ⟨j1, 0, none⟩)), (3, .int .i64 (sizeS (bl.take x.1) : Nat)), (4, .int .i64 x.1)]) (fun x => x.2)
  (fun x => x.1 ≤ bl.length ∧ H.more x.2 ∧ sizeS (bl.take x.1) ≤ 65536) (fun x => bl.length - x.1) (0, H) ⟨Nat.zero_le _, Heap.mr _, Nat.zero_le _⟩ ⟨rfl, rfl, rfl, trivial⟩ rfl ?_
 rintro ⟨i, K⟩ ⟨hle, hm, hn⟩
 simp only at hle hm hn ⊢
 have k1 := hm.get g1
 by_cases hlt : (i : Int) < (bl.length : Int)
 ·repeat apply Wq
  refine Wp.r (Aq @sc0 (Aq @lc22 (Aq (Heap.lf k1 (k := 0) rfl) (Aq hv.len (decide_eq_true hlt))))) ?_
  repeat apply Wq
  refine Wp.cT ?_
  repeat apply Wq
  refine Wp.skip ?_
  repeat apply Wq
  refine Wp.block ?_
  obtain ⟨t, ht⟩ : ∃ t, bl[i]? = some t := ⟨_, List.getElem?_eq_getElem (by omega)⟩
  obtain ⟨b, k, lv, hb2, hp, lt, ta, tb⟩ := hv.at ht
  have hw1 := succ_in (i := i) (n := bl.length) (by omega) hmax
  obtain ⟨hfn, hfl⟩ := hf t (List.mem_of_getElem? ht)
  have hst : sizeS (bl.take (i + 1)) = sizeS (bl.take i) + sizeB t := sum_take sizeB ht
  obtain ⟨n0, hn0⟩ : ∃ n0, n0 = sizeS (bl.take i) := ⟨_, rfl⟩
  rw [← hn0] at hn hst
  have tn := lds_cells (ta K (m1.trans hm))
  have tl := tb K (m1.trans hm)
  have v1 := wadd1 (b := t.name.length) (by omega)
  have v2 := wadd (a := n0) (b := 1 + t.name.length) (by omega)
  rw [← hn0]
  repeat apply Wq
  refine Wp.r (Aq @sc0 (Aq @bk0 (Aq @lc22 (Aq (Heap.lf k1 (k := 0) rfl) (Aq hp (Aq tn (Aq @ls9 (Aq v1 v2)))))))) ?_
  repeat apply Wq
  refine Wp.rS ?_
  obtain ⟨n1, hn1⟩ : ∃ n1, n1 = n0 + (1 + t.name.length) := ⟨_, rfl⟩
  rw [← hn1]
  have hlm := SliceR.le lt
  repeat apply Wq
  refine Wp.block ?_
  refine Wp.loopI (X := Nat × Heap) (fun x => [(1, .pointer (some ⟨j1, 0, none⟩)), (3, .int .i64 (n1 + linesSz (t.lines.take x.1) : Nat)), (4, .int .i64 i), (5, .int .i64 x.1)]) (fun x => x.2)
   (fun x => x.1 ≤ t.lines.length ∧ K.more x.2 ∧ n1 + linesSz (t.lines.take x.1) ≤ 200000000000000) (fun x => t.lines.length - x.1) (0, K) ⟨Nat.zero_le _, Heap.mr _, by simp only [List.take_zero, linesSz, List.map_nil, List.sum_nil]; omega⟩ ⟨rfl, rfl, rfl, rfl, trivial⟩ rfl ?_
  rintro ⟨n, L⟩ ⟨hle2, hm2, hn2⟩
  simp only at hle2 hm2 hn2 ⊢
  have l1 := hm2.get k1
  have tl2 := tb L (m1.trans (hm.trans hm2))
  by_cases hlt2 : (n : Int) < (t.lines.length : Int)
  ·repeat apply Wq
   refine Wp.r (Aq @sc0 (Aq @bk1 (Aq @lc22 (Aq (Heap.lf l1 (k := 0) rfl) (Aq hp (Aq tl2 (Aq lt.len (decide_eq_true hlt2)))))))) ?_
   repeat apply Wq
   refine Wp.cT ?_
   repeat apply Wq
   refine Wp.skip ?_
   repeat apply Wq
   refine Wp.block ?_
   obtain ⟨x, hx⟩ : ∃ x, t.lines[n]? = some x := ⟨_, List.getElem?_eq_getElem (by omega)⟩
   obtain ⟨b1, k1', av, _, hp1, aa, ta1⟩ := lt.at hx
   have hw2 := succ_in (i := n) (n := t.lines.length) (by omega) hlm
   obtain ⟨f1, f2, f3, f4, _, _, f7⟩ := hfl x (List.mem_of_getElem? hx)
   have hlt' : linesSz (t.lines.take (n + 1)) = linesSz (t.lines.take n) + sizeL x := sum_take sizeL hx
   obtain ⟨n2, hn2'⟩ : ∃ n2, n2 = n1 + linesSz (t.lines.take n) := ⟨_, rfl⟩
   rw [← hn2'] at hn2 ⊢
   repeat apply Wq
   refine Wp.r (Aq @sc0 (Aq @bk1 (Aq @lc22 (Aq (Heap.lf l1 (k := 0) rfl) (Aq hp (Aq tl2 (Aq hp1 (Aq (ta1 L (m1.trans (hm.trans hm2))) (Aq @alloc49' (lcell0 L x (SliceR.one aa))))))))))) ?_
   have g6 : (L.alloc (lineRow x av)).get L.next = some (lineRow x av) := Heap.gn L _
   replace l1 := (Heap.ma L (lineRow x av)).get l1
   have hm3 := hm2.trans (Heap.ma L (lineRow x av))
   generalize L.alloc (lineRow x av) = L1 at g6 l1 hm3 ⊢
   generalize L.next = j6 at g6 ⊢
   have u1 := wadd1 (b := x.text.length) (by omega)
   have u2 := wadd (a := 1 + x.text.length) (b := x.name.length) (by omega)
   have u3 := wadd (a := 1 + x.text.length + x.name.length) (b := x.to.length) (by omega)
   have u4 := wadd (a := 1 + x.text.length + x.name.length + x.to.length) (b := x.late.length) (by omega)
   have u5 := wadd (a := n2) (b := 1 + x.text.length + x.name.length + x.to.length + x.late.length) (by omega)
   repeat apply Wq
   refine Wp.r (Aq @ln1 (Aq @ln2 (Aq @ln4 (Aq @ln7 (Aq @lc9 (Aq (Heap.lf g6 (k := 1) rfl) (Aq (Heap.lf g6 (k := 2) rfl) (Aq (Heap.lf g6 (k := 4) rfl) (Aq (Heap.lf g6 (k := 7) rfl) (Aq @ls9 (Aq u1 (Aq u2 (Aq u3 (Aq u4 u5)))))))))))))) ?_
   repeat apply Wq
   refine Wp.rS ?_
   obtain ⟨n3, hn3⟩ : ∃ n3, n3 = n2 + (1 + x.text.length + x.name.length + x.to.length + x.late.length) := ⟨_, rfl⟩
   rw [← hn3]
   have ham := SliceR.le aa
   have hb3 : n3 ≤ 1000000000000000 := by omega
   repeat apply Wq
   refine Wp.cut (fun fr u h' => u = none ∧ h' = L1 ∧ n3 + armsSz x.arms ≤ 2000000000000000 ∧ ∃ sl, fr = ⟨95, sl, []⟩ ∧ holds [(1, .pointer (some ⟨j1, 0, none⟩)), (3, .int .i64 (n3 + armsSz x.arms : Nat)), (4, .int .i64 i), (5, .int .i64 n)] sl) ?_ ?_
   rotate_left
   ·repeat apply Wq
    refine Wp.block ?_
    refine Wp.loopI (X := Nat) (fun m => [(1, .pointer (some ⟨j1, 0, none⟩)), (3, .int .i64 (n3 + armsSz (x.arms.take m) : Nat)), (4, .int .i64 i), (5, .int .i64 n), (6, .pointer (some ⟨j6, 0, none⟩)), (7, .int .i64 m)]) (fun _ => L1)
     (fun m => m ≤ x.arms.length ∧ n3 + armsSz (x.arms.take m) ≤ 1000000000000000) (fun m => x.arms.length - m) 0 ⟨Nat.zero_le _, by simp only [List.take_zero, armsSz, List.map_nil, List.sum_nil]; omega⟩ ⟨rfl, rfl, rfl, rfl, rfl, rfl, trivial⟩ rfl ?_
    rintro m ⟨hle3, hn4⟩
    by_cases hlt3 : (m : Int) < (x.arms.length : Int)
    ·repeat apply Wq
     refine Wp.r (Aq @ln5 (Aq @lc47 (Aq (Heap.lf g6 (k := 5) rfl) (Aq aa.len (decide_eq_true hlt3))))) ?_
     repeat apply Wq
     refine Wp.cT ?_
     repeat apply Wq
     refine Wp.skip ?_
     repeat apply Wq
     refine Wp.block ?_
     obtain ⟨y, hy⟩ : ∃ y, x.arms[m]? = some y := ⟨_, List.getElem?_eq_getElem (by omega)⟩
     obtain ⟨b2, k2, _, hp2, ta2⟩ := aa.at hy
     obtain ⟨y1, y2⟩ := arm_cells (ta2 L1 (m1.trans (hm.trans hm3)))
     have hw3 := succ_in (i := m) (n := x.arms.length) (by omega) ham
     obtain ⟨e1, e2⟩ := f7 y (List.mem_of_getElem? hy)
     have hat : armsSz (x.arms.take (m + 1)) = armsSz (x.arms.take m) + sizeA y := sum_take sizeA hy
     have hsa : sizeA y = 1 + y.text.length + y.to.length := rfl
     have u6 := wadd1 (b := y.text.length) (by omega)
     have u7 := wadd (a := 1 + y.text.length) (b := y.to.length) (by omega)
     have u8 := wadd (a := n3 + armsSz (x.arms.take m)) (b := 1 + y.text.length + y.to.length) (by omega)
     have u9 : n3 + armsSz (x.arms.take m) + (1 + y.text.length + y.to.length) = n3 + armsSz (x.arms.take (m + 1)) := by omega
     rw [u9] at u8
     repeat apply Wq
     refine Wp.runSD mixed (by kernel_rfl) (by simp only [runSD, stepOD, stepWD, stepVD, isLoud, isPure, isReader, decide_true, bsb, bsg, reduceLT, reduceEqDiff, reduceCtorEq, ln5, a0, a1, p1, lc47, Heap.lf g6 (k := 5) rfl, hp2, y1, y2, ls9, u6, u7, u8] <;> exact rfl) ?_
     by_cases hbig : (65536 : Int) < ((n3 + armsSz (x.arms.take (m + 1)) : Nat) : Int)
     ·repeat apply Wq
      refine Wp.r (decide_eq_true hbig) ?_
      repeat apply Wq
      refine Wp.cT ?_
      repeat apply Wq
      refine Wp.rS ?_
      repeat apply Wq
      refine Wp.ret ?_
      exact ⟨rfl, rfl, _, rfl, ⟨true, rfl, fun q => by cases q⟩, m1.trans (hm.trans hm3)⟩
     ·repeat apply Wq
      refine Wp.r (decide_eq_false hbig) ?_
      repeat apply Wq
      refine Wp.cF ?_
      repeat apply Wq
      refine Wp.skip ?_
      repeat apply Wq
      refine Wp.r hw3 ?_
      exact ⟨m + 1, _, ⟨by omega, by omega⟩, by omega, rfl, ⟨rfl, rfl, rfl, rfl, rfl, rfl, trivial⟩, rfl, rfl⟩
    ·repeat apply Wq
     refine Wp.r (Aq @ln5 (Aq @lc47 (Aq (Heap.lf g6 (k := 5) rfl) (Aq aa.len (decide_eq_false hlt3))))) ?_
     repeat apply Wq
     refine Wp.cF ?_
     repeat apply Wq
     refine Wp.exit ?_
     simp only [bx, Nat.reduceEqDiff]
     rw [List.take_of_length_le (by omega)] at hn4 ⊢
     exact ⟨by trivial, by trivial, by omega, _, rfl, ⟨rfl, rfl, rfl, rfl, trivial⟩⟩
   rintro fr u h9 ⟨rfl, rfl, hn5, sl, rfl, hs9⟩
   refine Wp.weaken (Frm.le_of hs9) ?_
   clear hs9 sl
   have hsl : n3 + armsSz x.arms = n1 + linesSz (t.lines.take (n + 1)) := by
    rw [hlt', hn3, hn2']
    simp only [sizeL, sizeX]
    omega
   rw [hsl] at hn5 ⊢
   by_cases hbig : (65536 : Int) < ((n1 + linesSz (t.lines.take (n + 1)) : Nat) : Int)
   ·repeat apply Wq
    refine Wp.r (decide_eq_true hbig) ?_
    repeat apply Wq
    refine Wp.cT ?_
    repeat apply Wq
    refine Wp.rS ?_
    repeat apply Wq
    refine Wp.ret ?_
    exact ⟨rfl, rfl, _, rfl, ⟨true, rfl, fun q => by cases q⟩, m1.trans (hm.trans hm3)⟩
   ·repeat apply Wq
    refine Wp.r (decide_eq_false hbig) ?_
    repeat apply Wq
    refine Wp.cF ?_
    repeat apply Wq
    refine Wp.skip ?_
    repeat apply Wq
    refine Wp.r hw2 ?_
    exact ⟨(n + 1, h9), _, ⟨by simp only; omega, hm3, by simp only; omega⟩, by simp only; omega, rfl, ⟨rfl, rfl, rfl, rfl, trivial⟩, rfl, rfl⟩
  ·repeat apply Wq
   refine Wp.r (Aq @sc0 (Aq @bk1 (Aq @lc22 (Aq (Heap.lf l1 (k := 0) rfl) (Aq hp (Aq tl2 (Aq lt.len (decide_eq_false hlt2)))))))) ?_
   repeat apply Wq
   refine Wp.cF ?_
   repeat apply Wq
   refine Wp.exit ?_
   simp only [bx, Nat.reduceEqDiff]
   rw [List.take_of_length_le (by omega)] at hn2 ⊢
   have hsb : n1 + linesSz t.lines = sizeS (bl.take (i + 1)) := by rw [hst, hn1]; simp only [sizeB]; omega
   rw [hsb] at hn2 ⊢
   by_cases hbig : (65536 : Int) < ((sizeS (bl.take (i + 1)) : Nat) : Int)
   ·repeat apply Wq
    refine Wp.r (decide_eq_true hbig) ?_
    repeat apply Wq
    refine Wp.cT ?_
    repeat apply Wq
    refine Wp.rS ?_
    repeat apply Wq
    refine Wp.ret ?_
    exact ⟨rfl, rfl, _, rfl, ⟨true, rfl, fun q => by cases q⟩, m1.trans (hm.trans hm2)⟩
   ·repeat apply Wq
    refine Wp.r (decide_eq_false hbig) ?_
    repeat apply Wq
    refine Wp.cF ?_
    repeat apply Wq
    refine Wp.skip ?_
    repeat apply Wq
    refine Wp.r hw1 ?_
    exact ⟨(i + 1, L), _, ⟨by simp only; omega, hm.trans hm2, by simp only; omega⟩, by simp only; omega, rfl, ⟨rfl, rfl, rfl, trivial⟩, rfl, rfl⟩
 ·repeat apply Wq
  refine Wp.r (Aq @sc0 (Aq @lc22 (Aq (Heap.lf k1 (k := 0) rfl) (Aq hv.len (decide_eq_false hlt))))) ?_
  repeat apply Wq
  refine Wp.cF ?_
  repeat apply Wq
  refine Wp.exit ?_
  simp only [bx, Nat.reduceEqDiff]
  repeat apply Wq
  refine Wp.rS ?_
  repeat apply Wq
  refine Wp.ret ?_
  rw [List.take_of_length_le (by omega)] at hn
  exact ⟨rfl, rfl, _, rfl, ⟨false, rfl, fun _ => hn⟩, m1.trans hm⟩
end
end Go.Mini
