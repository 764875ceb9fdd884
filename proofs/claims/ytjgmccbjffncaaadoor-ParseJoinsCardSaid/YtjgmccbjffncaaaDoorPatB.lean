/-
  PATTERN, part B: a byte's set, the set of all bytes, parts under one node.
-/
import Derived.Test.YtjgmccbjffncaaaDoorMiniYLtoV
import Derived.Test.YtjgmccbjffncaaaDoorPLexK
import Derived.Test.YtjgmccbjffncaaaDoorPatA
set_option linter.unusedSimpArgs false
set_option maxHeartbeats 8000000
set_option maxRecDepth 100000
namespace Go.Mini
open Go.Proofs

/-- A node of a tree: all but its kids is of no account. -/
structure NodeOk (n : Nat) (v : Value) : Prop where
  form : ∃ op s0 s1 s2 s3 : Int, ∃ a : Option Addr, ∃ l c : Nat, v = .agg #[.int .i64 op, .int .u64 s0, .int .u64 s1, .int .u64 s2, .int .u64 s3, .slice a l c]
  scope : sc n v
theorem NodeOk.mono {n m : Nat} {v : Value} (h : NodeOk n v) (hnm : n ≤ m) : NodeOk m v := ⟨h.form, sc_mono hnm v h.scope⟩
def nodeV (op s0 s1 s2 s3 : Int) (kids : Value) : Value := .agg #[.int .i64 op, .int .u64 s0, .int .u64 s1, .int .u64 s2, .int .u64 s3, kids]
def oneV (b : UInt8) : Value :=
  let w (i : Nat) : Int := if b.toNat / 64 = i then ((2 ^ (b.toNat % 64) : Nat) : Int) else 0
  nodeV 2 (w 0) (w 1) (w 2) (w 3) (.slice none 0 0)
def everyV : Value := nodeV 2 18446744073709551615 18446744073709551615 18446744073709551615 18446744073709551615 (.slice none 0 0)
theorem one_ok : byteOk Tryd.prog (fun _ _ _ => none) 66 oneV 256 = true := by kernel_rfl
theorem one_does {G : Nat} (B : Base Tryd.prog G) (b : UInt8) (h : Heap) : Does Tryd.prog G (GoodE Tryd.prog B) 66 [byteV b] h fun r h' => r = .returned (oneV b) ∧ h' = h := byteFn (noKnown _ _ _) one_ok b h
theorem every_ok : flatly Tryd.prog (fun _ _ _ => none) 200 78 [] = some everyV := by kernel_rfl
theorem every_does {G : Nat} (B : Base Tryd.prog G) (h : Heap) : Does Tryd.prog G (GoodE Tryd.prog B) 78 [] h fun r h' => r = .returned everyV ∧ h' = h :=
  (FlatC.any (flatly_ok (n := 200) (noKnown _ _ _) rfl every_ok)).does h
theorem oneV_node (b : UInt8) (n : Nat) : NodeOk n (oneV b) := ⟨⟨_, _, _, _, _, _, _, _, rfl⟩, sc_flat _ _ rfl⟩
theorem everyV_node (n : Nat) : NodeOk n everyV := ⟨⟨_, _, _, _, _, _, _, _, rfl⟩, sc_flat _ _ rfl⟩

theorem agg108 : Program.agg Tryd.prog 108 = some true := by kernel_rfl
theorem sz108 : (Tryd.prog.info? 108).map (·.size) = some 6 := by kernel_rfl
theorem elem108 : elemOk Tryd.prog 108 6 64 = true := by kernel_rfl
def nodeRow (cs : List Value) : AObj := .row { vs := cs, elem := 108 }
theorem alloc108 (h : Heap) : aalloc Tryd.prog h 108 = some (h.new, h.alloc (nodeRow [.int .i64 0, .int .u64 0, .int .u64 0, .int .u64 0, .int .u64 0, .slice none 0 0])) :=
  aalloc_eq (z := .agg #[.int .i64 0, .int .u64 0, .int .u64 0, .int .u64 0, .int .u64 0, .slice none 0 0]) (by kernel_rfl) rfl
theorem build108k (a : Int) (x : Option Addr) (l c : Nat) : abuild Tryd.prog 108 [(0, .int .i64 a), (2, .slice x l c)] = some (nodeV a 0 0 0 0 (.slice x l c)) := by kernel_rfl
theorem build108o (a : Int) : abuild Tryd.prog 108 [(0, .int .i64 a)] = some (nodeV a 0 0 0 0 (.slice none 0 0)) := by kernel_rfl
theorem build108z : abuild Tryd.prog 108 [] = some (nodeV 0 0 0 0 0 (.slice none 0 0)) := by kernel_rfl
theorem build108s (a s0 s1 s2 s3 : Int) : abuild Tryd.prog 108 [(0, .int .i64 a), (1, .agg #[.int .u64 s0, .int .u64 s1, .int .u64 s2, .int .u64 s3])] = some (nodeV a s0 s1 s2 s3 (.slice none 0 0)) := by kernel_rfl
/-- A node put where one was. -/
theorem node_put {H : Heap} {j : Nat} {cs : List Value} (g : H.get j = some (nodeRow cs)) (hl : cs.length = 6) {n : Nat} {v : Value} (hv : NodeOk n v) :
    ∃ cs', astore Tryd.prog H 108 (.pointer (some ⟨j, 0, none⟩)) v = some (H.set j (nodeRow cs')) ∧ v = .agg cs'.toArray ∧ cs'.length = 6 := by
  obtain ⟨⟨op, s0, s1, s2, s3, a, l, c, rfl⟩, _⟩ := hv
  refine ⟨[.int .i64 op, .int .u64 s0, .int .u64 s1, .int .u64 s2, .int .u64 s3, .slice a l c], ?_, rfl, rfl⟩
  have := astore_agg (P := Tryd.prog) (h := H) (i := j) (k := 0) (cs := [.int .i64 op, .int .u64 s0, .int .u64 s1, .int .u64 s2, .int .u64 s3, .slice a l c]) sz108 rfl rfl
  rw [this, Heap.sts_of g (by simp [hl]) rfl rfl]
  unfold splice nodeRow
  simp [List.drop_eq_nil_of_le, hl]
theorem node_load {H : Heap} {j : Nat} {cs : List Value} (g : H.get j = some (nodeRow cs)) (hl : cs.length = 6) : aload Tryd.prog H 108 (.pointer (some ⟨j, 0, none⟩)) = some (.agg cs.toArray) := by
  rw [aload_agg agg108 sz108, Heap.lds_of g (by simp [hl])]
  simp [List.take_of_length_le, hl]
/-- Parts: nodes in a list of this call's own, in memory from 'lo' on. -/
def Parts (lo : Nat) (H : Heap) (v : Value) (ns : List Value) : Prop := (∀ x ∈ ns, NodeOk H.next x) ∧ OwnF lo H v 108 ns.length (ns.flatMap fun x => x.cells.toList)
theorem nodes_len {n : Nat} : ∀ {ns : List Value}, (∀ x ∈ ns, NodeOk n x) → (ns.flatMap fun x => x.cells.toList).length = ns.length * 6
  | [], _ => rfl
  | x :: ns, h => by
    obtain ⟨⟨op, s0, s1, s2, s3, a, l, c, rfl⟩, _⟩ := h x (by simp)
    rw [List.flatMap_cons, List.length_append, nodes_len fun y hy => h y (by simp [hy]), List.length_cons]
    simp [Value.cells]; omega
theorem node_cells {n : Nat} {v : Value} (h : NodeOk n v) : v.cells.size = 6 ∧ v.cells.toList.all one = true ∧ v = .agg v.cells := by
  obtain ⟨⟨op, s0, s1, s2, s3, a, l, c, rfl⟩, _⟩ := h
  exact ⟨rfl, rfl, rfl⟩
/-- One part more. -/
theorem Parts.push {lo : Nat} {H : Heap} {v w : Value} {ns : List Value} (hp : Parts lo H v ns) (hw : NodeOk H.next w) (hlo : lo ≤ H.next) (hb : ns.length ≤ 1000000) :
    abuildSlice Tryd.prog H 106 1 [(0, w)] = some (.slice (some ⟨H.next, 0, none⟩) 1 1, H.alloc (nodeRow w.cells.toList)) ∧
    ∃ v' H', aappend Tryd.prog (H.alloc (nodeRow w.cells.toList)) 106 106 v (.slice (some ⟨H.next, 0, none⟩) 1 1) = some (v', H') ∧ Parts lo H' v' (ns ++ [w]) ∧ H.next ≤ H'.next ∧
      (∀ j o, H.get j = some o → o.plain = true → H'.get j = some o) ∧ ∀ j, j < lo → H'.get j = H.get j := by
  obtain ⟨c1, c2, _⟩ := node_cells hw
  obtain ⟨h1, v', H', h2, h3, h4, h5, h6⟩ := own_pushF (w := w) Tryd.underlying106 elem108 (by omega) hp.2 hlo (nodes_len hp.1) c1 c2 (by omega) (by omega)
  refine ⟨h1, v', H', h2, ⟨fun x hx => ?_, ?_⟩, h4, h5, h6⟩
  · rcases List.mem_append.1 hx with hx | hx
    · exact (hp.1 x hx).mono h4
    · rw [List.mem_singleton.1 hx]; exact hw.mono h4
  · rw [List.length_append, List.flatMap_append]
    simpa using h3
theorem Parts.nil (lo : Nat) (H : Heap) : Parts lo H (.slice none 0 0) [] := ⟨by simp, OwnF.nil lo H 108⟩
theorem Parts.keep {lo : Nat} {H H' : Heap} {v : Value} {ns : List Value} (hp : Parts lo H v ns) (hn : H.next ≤ H'.next) (k : ∀ j p, H.get j = some p → p.plain = false → H'.get j = some p) : Parts lo H' v ns :=
  ⟨fun x hx => (hp.1 x hx).mono hn, hp.2.keep k⟩

theorem ares_cellP {P : Program} {fn : Func} {fr : Frm} {h : Heap} {c : Nat} {ty : TypeId} {p v : Value} (hr : fn.results.toList = [.cell c ty]) (s : look c fr.slots = some p) (l : aload P h ty p = some v) : ares P fn fr h = some v := by
  unfold ares
  rw [hr]
  simp only [aresults, aresult, s, Option.bind_some, l]
/-- A result's cell, filled. -/
theorem node_fin {h : Heap} {cs : List Value} {j n : Nat} {w : Value} (gz : h.get j = some (nodeRow cs)) (hl : cs.length = 6) (hw : NodeOk n w) (hn : n ≤ h.next) :
    ∃ H', astore Tryd.prog h 108 (.pointer (some ⟨j, 0, none⟩)) w = some H' ∧ aload Tryd.prog H' 108 (.pointer (some ⟨j, 0, none⟩)) = some w ∧ H'.next = h.next ∧ (∀ k, k ≠ j → H'.get k = h.get k) ∧ NodeOk H'.next w ∧ ∃ cs', H'.get j = some (nodeRow cs') ∧ cs'.length = 6 ∧ w = .agg cs'.toArray := by
  obtain ⟨cs', e1, e2, e3⟩ := node_put gz hl hw
  refine ⟨_, e1, by rw [node_load (Heap.get_set_self gz) e3, e2], by simp, fun k hk => Heap.get_set_ne hk, by simpa using hw.mono hn, cs', Heap.get_set_self gz, e3, e2⟩
def zeroCells : List Value := [.int .i64 0, .int .u64 0, .int .u64 0, .int .u64 0, .int .u64 0, .slice none 0 0]
theorem alloc108' (h : Heap) : aalloc Tryd.prog h 108 = some (h.new, h.alloc (nodeRow zeroCells)) := alloc108 h

/-- Parts, as they may be read. -/
def PartsR (H : Heap) (v : Value) (ns : List Value) : Prop := (∀ x ∈ ns, NodeOk H.next x) ∧
  ((v = .slice none 0 0 ∧ ns = []) ∨ ∃ b r, H.get b = some (.row r) ∧ r.vs = (ns.flatMap fun x => x.cells.toList) ∧ v = .slice (some ⟨b, 0, none⟩) ns.length ns.length)
theorem Parts.read {lo : Nat} {H : Heap} {v : Value} {ns : List Value} (hp : Parts lo H v ns) : PartsR H v ns := by
  refine ⟨hp.1, ?_⟩
  rcases hp.2 with ⟨h1, h2, _⟩ | ⟨b, _, _, h1, hg⟩
  · exact .inl ⟨h1, List.length_eq_zero_iff.1 h2⟩
  · exact .inr ⟨b, _, hg, rfl, h1⟩
theorem PartsR.form {H : Heap} {v : Value} {ns : List Value} (hp : PartsR H v ns) : ∃ a, v = .slice a ns.length ns.length ∧ sc H.next v := by
  rcases hp.2 with ⟨rfl, rfl⟩ | ⟨b, r, hg, _, rfl⟩
  · exact ⟨none, rfl, by simp [sc]⟩
  · exact ⟨_, rfl, by simp only [sc]; exact Heap.lt_of_get hg⟩
/-- A list told outright, of one part. -/
def PartsP (lo : Nat) (H : Heap) (v : Value) (ns : List Value) : Prop := (∀ x ∈ ns, NodeOk H.next x) ∧ ∃ b, lo ≤ b ∧ 0 < ns.length ∧ v = .slice (some ⟨b, 0, none⟩) ns.length ns.length ∧ H.get b = some (nodeRow (ns.flatMap fun x => x.cells.toList))
theorem PartsP.read {lo : Nat} {H : Heap} {v : Value} {ns : List Value} (hp : PartsP lo H v ns) : PartsR H v ns := by
  obtain ⟨b, _, _, h1, hg⟩ := hp.2
  exact ⟨hp.1, .inr ⟨b, _, hg, rfl, h1⟩⟩
theorem PartsP.push {lo : Nat} {H : Heap} {v w : Value} {ns : List Value} (hp : PartsP lo H v ns) (hw : NodeOk H.next w) (hlo : lo ≤ H.next) (hb : ns.length ≤ 1000000) :
    abuildSlice Tryd.prog H 106 1 [(0, w)] = some (.slice (some ⟨H.next, 0, none⟩) 1 1, H.alloc (nodeRow w.cells.toList)) ∧
    ∃ v' H', aappend Tryd.prog (H.alloc (nodeRow w.cells.toList)) 106 106 v (.slice (some ⟨H.next, 0, none⟩) 1 1) = some (v', H') ∧ Parts lo H' v' (ns ++ [w]) ∧ H.next ≤ H'.next ∧
      (∀ j o, H.get j = some o → H'.get j = some o) ∧ ∀ j, j < lo → H'.get j = H.get j := by
  obtain ⟨c1, c2, c3⟩ := node_cells hw
  obtain ⟨b, hlb, hpos, rfl, hg⟩ := hp.2
  refine ⟨(own_push (n := 0) (cs := []) Tryd.underlying106 elem108 (by omega) (Own.nil H 108) (by simp) c1 c2 (by omega) (by omega)).1, ?_⟩
  have hlen := nodes_len hp.1
  have hg1 : (H.alloc (nodeRow w.cells.toList)).get b = some (nodeRow (ns.flatMap fun x => x.cells.toList)) := by rw [Heap.get_alloc_old _ _ (Heap.lt_of_get hg)]; exact hg
  have hg2 : (H.alloc (nodeRow w.cells.toList)).get H.next = some (nodeRow w.cells.toList) := Heap.get_alloc_new _ _
  obtain ⟨i, z, h1, h2, h3, h4, h5, h6⟩ := elemOk_info elem108
  have hlds : (H.alloc (nodeRow w.cells.toList)).lds b 0 (ns.length * 6) = some (ns.flatMap fun x => x.cells.toList) := by
    rw [Heap.lds_of hg1 (by simp [hlen])]
    rw [List.drop_zero, List.take_of_length_le (by simp [hlen])]
  have hnew : (H.alloc (nodeRow w.cells.toList)).lds H.next 0 (1 * 6) = some w.cells.toList := by
    rw [Heap.lds_of hg2 (by simp [c1])]
    rw [List.drop_zero, List.take_of_length_le (by simp [c1])]
  refine ⟨.slice (some ⟨H.next + 1, 0, none⟩) (ns.length + 1) (ns.length + 1), (H.alloc (nodeRow w.cells.toList)).alloc (grownRow 108 ((ns.flatMap fun x => x.cells.toList) ++ w.cells.toList)), ?_, ⟨?_, ?_⟩, by simp; omega, ?_, ?_⟩
  · unfold aappend
    have hal : alenOf (.slice (some ⟨H.next, 0, none⟩) 1 1) = some 1 := rfl
    have haf : afirst (H.alloc (nodeRow w.cells.toList)) 6 1 (.slice (some ⟨H.next, 0, none⟩) 1 1) = some w.cells.toList := hnew
    simp only [Tryd.underlying106, h1, h2, hal, haf, Option.bind_some, seqD, Bool.not_true, Bool.false_eq_true, if_false]
    rw [if_neg (by omega)]
    simp only [hlds, Heap.row_of hg1, Option.bind_some, Option.isSome_none, Bool.not_false, Bool.or_true, if_true]
    have := agrow_eq (h := H.alloc (nodeRow w.cells.toList)) (need := ns.length + 1) (cs := (ns.flatMap fun x => x.cells.toList) ++ w.cells.toList) elem108 (by omega) (by omega) (by rw [List.length_append, hlen]; simp [c1]; omega)
    simpa using this
  · intro x hx
    rcases List.mem_append.1 hx with hx | hx
    · exact (hp.1 x hx).mono (by simp; omega)
    · rw [List.mem_singleton.1 hx]; exact hw.mono (by simp; omega)
  · refine .inr ⟨H.next + 1, by omega, by simp, by simp, ?_⟩
    rw [List.flatMap_append]
    have := Heap.get_alloc_new (H.alloc (nodeRow w.cells.toList)) (grownRow 108 ((ns.flatMap fun x => x.cells.toList) ++ w.cells.toList))
    simpa using this
  · intro j o hj
    have hlt := Heap.lt_of_get hj
    rw [Heap.get_alloc_old _ _ (by simp; omega), Heap.get_alloc_old _ _ hlt]
    exact hj
  · intro j hj
    rw [Heap.get_alloc_old _ _ (by simp; omega), Heap.get_alloc_old _ _ (by omega)]

/-! ### joined -/
theorem joined_spec {E : EXT} (G : Nat) (h : Heap) (op : Int) (v : Value) (ns : List Value) (hp : PartsR h v ns) : Does Tryd.prog G E 67 [.int .i64 op, v] h fun r h' => ∃ nv, r = .returned nv ∧ h.more h' ∧ NodeOk h'.next nv := by
  obtain ⟨a, hv, hsc⟩ := hp.form
  have gz : (h.alloc (nodeRow zeroCells)).get h.next = some (nodeRow zeroCells) := Heap.get_alloc_new _ _
  have hmore : ∀ H' : Heap, H'.next = (h.alloc (nodeRow zeroCells)).next → (∀ k, k ≠ h.next → H'.get k = (h.alloc (nodeRow zeroCells)).get k) → h.more H' := fun H' e1 e2 =>
    ⟨by rw [e1]; simp, fun j hj => by rw [e2 j (by omega), Heap.get_alloc_old _ _ hj]⟩
  have hvl : alen Tryd.prog (h.alloc (nodeRow zeroCells)) 106 v = some (.int .i64 (ns.length : Nat)) := by rw [hv]; exact alen_slice Tryd.underlying106 _ _ _
  refine Does.body Tryd.func67 rfl ?_
  have hn : enterF Tryd.f67 [.int .i64 op, v] = ⟨18, [(0, .int .i64 op), (1, v)], []⟩ := rfl
  rw [hn]; clear hn
  repeat refine Wp.seq ?_
  refine Wp.runS (by simp only [bsf, abuiltin, aextract, Nat.reduceLT, Nat.reduceEqDiff, reduceCtorEq, alloc108', Heap.new] <;> exact rfl) ?_
  dsimp only [after, leaving]
  repeat refine Wp.seq ?_
  refine Wp.runS (by simp only [bsf, abuiltin, aextract, Nat.reduceLT, Nat.reduceEqDiff, reduceCtorEq, hvl] <;> exact rfl) ?_
  dsimp only [after, leaving]
  repeat refine Wp.seq ?_
  refine Wp.block ?_
  by_cases h0 : (ns.length : Int) = 0
  · obtain ⟨H', e1, e2, e3, e4, e5, _⟩ := node_fin (n := 0) (w := nodeV 1 0 0 0 0 (.slice none 0 0)) gz rfl ⟨⟨_, _, _, _, _, _, _, _, rfl⟩, sc_flat _ _ rfl⟩ (by simp)
    repeat refine Wp.seq ?_
    refine Wp.runS (by simp only [bsf, abuiltin, aextract, Nat.reduceLT, Nat.reduceEqDiff, reduceCtorEq, abin_int, ai_eql, show ((ns.length : Int) == 0) = true by rw [h0]; rfl] <;> exact rfl) ?_
    dsimp only [after, leaving]
    repeat refine Wp.seq ?_
    refine Wp.condT (by simp only [bsf, abuiltin, aextract, Nat.reduceLT, Nat.reduceEqDiff, reduceCtorEq]) ?_
    repeat refine Wp.seq ?_
    refine Wp.runS (by simp only [bsf, abuiltin, aextract, Nat.reduceLT, Nat.reduceEqDiff, reduceCtorEq, build108o, e1] <;> exact rfl) ?_
    dsimp only [after, leaving]
    repeat refine Wp.seq ?_
    refine Wp.ret ?_
    dsimp only [after, leaving]
    exact ⟨rfl, rfl, _, ares_cellP rfl rfl e2, _, rfl, hmore _ e3 e4, e5⟩
  repeat refine Wp.seq ?_
  refine Wp.runS (by simp only [bsf, abuiltin, aextract, Nat.reduceLT, Nat.reduceEqDiff, reduceCtorEq, abin_int, ai_eql, show ((ns.length : Int) == 0) = false by simpa using h0] <;> exact rfl) ?_
  dsimp only [after, leaving]
  repeat refine Wp.seq ?_
  refine Wp.condF (by simp only [bsf, abuiltin, aextract, Nat.reduceLT, Nat.reduceEqDiff, reduceCtorEq]) ?_
  by_cases h1 : (ns.length : Int) = 1
  · obtain ⟨w, hw⟩ : ∃ w, ns = [w] := by
      match ns, h1 with
      | [w], _ => exact ⟨w, rfl⟩
      | [], h => simp at h
      | _ :: _ :: _, h => simp at h; omega
    subst hw
    have hwn := hp.1 w (by simp)
    rcases hp.2 with ⟨_, q⟩ | ⟨b, r, hg, hrv, hvb⟩
    · simp at q
    have hld : aload Tryd.prog (h.alloc (nodeRow zeroCells)) 108 (.pointer (some ⟨b, 0, none⟩)) = some w := by
      have hg2 : (h.alloc (nodeRow zeroCells)).get b = some (.row r) := by
        rw [Heap.get_alloc_old _ _ (Heap.lt_of_get hg), hg]
      have hrv' : r.vs = w.cells.toList := by rw [hrv]; simp only [List.flatMap_cons, List.flatMap_nil, List.append_nil]
      obtain ⟨c1, _, c3⟩ := node_cells hwn
      rw [aload_agg agg108 sz108, Heap.lds_of hg2 (by rw [hrv']; simp [c1]), hrv', List.drop_zero, List.take_of_length_le (by simp [c1])]
      rw [c3]
      simp [Value.cells]
    obtain ⟨H', e1, e2, e3, e4, e5, _⟩ := node_fin (n := h.next) (w := w) gz rfl hwn (by simp)
    have hix : ∀ kd, aindexAddr Tryd.prog 106 v (.int kd 0) = some (.pointer (some ⟨b, 0, none⟩)) := fun kd => by
      rw [hvb]
      have := aindexAddr_slice (i := b) (k := 0) (len := 1) (cap := 1) (sp := none) (kd := kd) (j := 0) Tryd.underlying106 sz108 (by omega) (by omega)
      simpa using this
    repeat refine Wp.seq ?_
    refine Wp.runS (by simp only [bsf, abuiltin, aextract, Nat.reduceLT, Nat.reduceEqDiff, reduceCtorEq, abin_int, ai_eql, show ((([w].length : Nat) : Int) == 1) = true from rfl] <;> exact rfl) ?_
    dsimp only [after, leaving]
    repeat refine Wp.seq ?_
    refine Wp.condT (by simp only [bsf, abuiltin, aextract, Nat.reduceLT, Nat.reduceEqDiff, reduceCtorEq]) ?_
    repeat refine Wp.seq ?_
    refine Wp.runS (by simp only [bsf, abuiltin, aextract, Nat.reduceLT, Nat.reduceEqDiff, reduceCtorEq, hix, hld, e1] <;> exact rfl) ?_
    dsimp only [after, leaving]
    repeat refine Wp.seq ?_
    refine Wp.ret ?_
    dsimp only [after, leaving]
    exact ⟨rfl, rfl, _, ares_cellP rfl rfl e2, _, rfl, hmore _ e3 e4, e5⟩
  repeat refine Wp.seq ?_
  refine Wp.runS (by simp only [bsf, abuiltin, aextract, Nat.reduceLT, Nat.reduceEqDiff, reduceCtorEq, abin_int, ai_eql, show ((ns.length : Int) == 1) = false by simpa using h1] <;> exact rfl) ?_
  dsimp only [after, leaving]
  repeat refine Wp.seq ?_
  refine Wp.condF (by simp only [bsf, abuiltin, aextract, Nat.reduceLT, Nat.reduceEqDiff, reduceCtorEq]) ?_
  repeat refine Wp.seq ?_
  refine Wp.skip ?_
  dsimp only [after, leaving]
  have hb : abuild Tryd.prog 108 [(0, .int .i64 op), (2, v)] = some (nodeV op 0 0 0 0 v) := by rw [hv]; exact build108k _ _ _ _
  obtain ⟨H', e1, e2, e3, e4, e5, _⟩ := node_fin (n := h.next) (w := nodeV op 0 0 0 0 v) gz rfl ⟨⟨_, _, _, _, _, _, _, _, by rw [hv]; rfl⟩, by simp [nodeV, sc, scA, scL, hsc]⟩ (by simp)
  repeat refine Wp.seq ?_
  refine Wp.runS (by simp only [bsf, abuiltin, aextract, Nat.reduceLT, Nat.reduceEqDiff, reduceCtorEq, hb, e1] <;> exact rfl) ?_
  dsimp only [after, leaving]
  repeat refine Wp.seq ?_
  refine Wp.ret ?_
  dsimp only [after, leaving]
  exact ⟨rfl, rfl, _, ares_cellP rfl rfl e2, _, rfl, hmore _ e3 e4, e5⟩
end Go.Mini
