import Derived.Test.YtjgmccbjffncaaaDoorPLexZc
import Derived.Test.YtjgmccbjffncaaaDoorMiniYOtoYS
import Derived.Test.YtjgmccbjffncaaaDoorPLexJtoPLexN
import Derived.Test.YtjgmccbjffncaaaDoorPatA
set_option maxHeartbeats 8000000
set_option maxRecDepth 100000
set_option linter.unusedSimpArgs false
namespace Go.Mini
section
open Nat (reduceLT reduceEqDiff)
open Go.Proofs Tryd
structure NodeOk (n : Nat) (v : Value) : Prop where
 form : ∃ op s0 s1 s2 s3 : Int, ∃ a : Option Addr, ∃ l c : Nat, v = .agg #[.int .i64 op, .int .u64 s0, .int .u64 s1, .int .u64 s2, .int .u64 s3, .slice a l c]
 scope : sc n v
theorem NodeOk.mono {n m : Nat} {v : Value} (h : NodeOk n v) (hnm : n ≤ m) : NodeOk m v := ⟨h.form, sc_mono hnm v h.scope⟩
def nodeV (op s0 s1 s2 s3 : Int) (kids : Value) : Value := .agg #[.int .i64 op, .int .u64 s0, .int .u64 s1, .int .u64 s2, .int .u64 s3, kids]
def oneV (b : UInt8) : Value :=
 let w (i : Nat) : Int := if b.toNat / 64 = i then ((2 ^ (b.toNat % 64) : Nat) : Int) else 0
 nodeV 2 (w 0) (w 1) (w 2) (w 3) (.slice none 0 0)
def everyV : Value := nodeV 2 18446744073709551615 18446744073709551615 18446744073709551615 18446744073709551615 (.slice none 0 0)
theorem one_ok : byteOk prog (fun _ _ _ => none) 66 oneV 256 = true := by kernel_rfl
theorem one_does {G : Nat} (B : Base prog G) (b : UInt8) (h : Heap) : Does prog G (GoodE prog B) 66 [byteV b] h fun r h' => r = .returned (oneV b) ∧ h' = h := byteFn (noKnown _ _ _) one_ok b h
theorem every_ok : flatly prog (fun _ _ _ => none) 200 78 [] = some everyV := by kernel_rfl
theorem every_does {G : Nat} (B : Base prog G) (h : Heap) : Does prog G (GoodE prog B) 78 [] h fun r h' => r = .returned everyV ∧ h' = h :=
 (FlatC.any (flatly_ok (n := 200) (noKnown _ _ _) rfl every_ok)).does h
theorem oneV_node (b : UInt8) (n : Nat) : NodeOk n (oneV b) := ⟨⟨_, _, _, _, _, _, _, _, rfl⟩, sc_flat _ _ rfl⟩
theorem everyV_node (n : Nat) : NodeOk n everyV := ⟨⟨_, _, _, _, _, _, _, _, rfl⟩, sc_flat _ _ rfl⟩
theorem agg108 : Program.agg prog 108 = some true := by kernel_rfl
theorem sz108 : (prog.info? 108).map (·.size) = some 6 := by kernel_rfl
theorem elem108 : elemOk prog 108 6 64 = true := by kernel_rfl
def nodeRow (cs : List Value) : AObj := .row { vs := cs, elem := 108 }
theorem alloc108 (h : Heap) : aalloc prog h 108 = some (h.new, h.alloc (nodeRow [.int .i64 0, .int .u64 0, .int .u64 0, .int .u64 0, .int .u64 0, .slice none 0 0])) :=
 aalloc_eq (z := .agg #[.int .i64 0, .int .u64 0, .int .u64 0, .int .u64 0, .int .u64 0, .slice none 0 0]) (by kernel_rfl) rfl
theorem build108k (a : Int) (x : Option Addr) (l c : Nat) : abuild prog 108 [(0, .int .i64 a), (2, .slice x l c)] = some (nodeV a 0 0 0 0 (.slice x l c)) := by kernel_rfl
theorem build108o (a : Int) : abuild prog 108 [(0, .int .i64 a)] = some (nodeV a 0 0 0 0 (.slice none 0 0)) := by kernel_rfl
theorem build108z : abuild prog 108 [] = some (nodeV 0 0 0 0 0 (.slice none 0 0)) := by kernel_rfl
theorem build108s (a s0 s1 s2 s3 : Int) : abuild prog 108 [(0, .int .i64 a), (1, .agg #[.int .u64 s0, .int .u64 s1, .int .u64 s2, .int .u64 s3])] = some (nodeV a s0 s1 s2 s3 (.slice none 0 0)) := by kernel_rfl
theorem node_put {H : Heap} {j : Nat} {cs : List Value} (g : H.get j = some (nodeRow cs)) (hl : cs.length = 6) {n : Nat} {v : Value} (hv : NodeOk n v) :
  ∃ cs', astore prog H 108 (.pointer (some ⟨j, 0, none⟩)) v = some (H.set j (nodeRow cs')) ∧ v = .agg cs'.toArray ∧ cs'.length = 6 := by
 obtain ⟨⟨op, s0, s1, s2, s3, a, l, c, rfl⟩, _⟩ := hv
 refine ⟨[.int .i64 op, .int .u64 s0, .int .u64 s1, .int .u64 s2, .int .u64 s3, .slice a l c], ?_, rfl, rfl⟩
 have := astore_agg (P := prog) (h := H) (i := j) (k := 0) (cs := [.int .i64 op, .int .u64 s0, .int .u64 s1, .int .u64 s2, .int .u64 s3, .slice a l c]) sz108 rfl rfl
 rw [this, Heap.sts_of g (by simp [hl]) rfl rfl]
 unfold splice nodeRow
 simp [List.drop_eq_nil_of_le, hl]
theorem node_load {H : Heap} {j : Nat} {cs : List Value} (g : H.get j = some (nodeRow cs)) (hl : cs.length = 6) : aload prog H 108 (.pointer (some ⟨j, 0, none⟩)) = some (.agg cs.toArray) := by
 rw [aload_agg agg108 sz108, Heap.lds_of g (by simp [hl])]
 simp [List.take_of_length_le, hl]
def Parts (lo : Nat) (H : Heap) (v : Value) (ns : List Value) : Prop := (∀ x ∈ ns, NodeOk H.next x) ∧ OwnF lo H v 108 ns.length (ns.flatMap fun x => x.cells.toList)
theorem nodes_len {n : Nat} : ∀ {ns : List Value}, (∀ x ∈ ns, NodeOk n x) → (ns.flatMap fun x => x.cells.toList).length = ns.length * 6
 | [], _ => rfl
 | x :: ns, h => by
  obtain ⟨⟨op, s0, s1, s2, s3, a, l, c, rfl⟩, _⟩ := h x (by simp)
  rw [List.flatMap_cons, List.length_append, nodes_len fun y hy => h y (by simp [hy]), List.length_cons]
  simp [Value.cells]; omega
theorem node_cells {n : Nat} {v : Value} (h : NodeOk n v) : v.cells.size = 6 ∧ v.cells.toList.all one = true ∧ v = .agg v.cells := by
 obtain ⟨⟨op, s0, s1, s2, s3, a, l, c, rfl⟩, _⟩ := h
 exact ⟨rfl, rfl, rfl⟩
theorem Parts.push {lo : Nat} {H : Heap} {v w : Value} {ns : List Value} (hp : Parts lo H v ns) (hw : NodeOk H.next w) (hlo : lo ≤ H.next) (hb : ns.length ≤ 1000000) :
  abuildSlice prog H 106 1 [(0, w)] = some (.slice (some ⟨H.next, 0, none⟩) 1 1, H.alloc (nodeRow w.cells.toList)) ∧
  ∃ v' H', aappend prog (H.alloc (nodeRow w.cells.toList)) 106 106 v (.slice (some ⟨H.next, 0, none⟩) 1 1) = some (v', H') ∧ Parts lo H' v' (ns ++ [w]) ∧ H.next ≤ H'.next ∧
   (∀ j o, H.get j = some o → o.plain = true → H'.get j = some o) ∧ ∀ j, j < lo → H'.get j = H.get j := by
 obtain ⟨c1, c2, _⟩ := node_cells hw
 obtain ⟨h1, v', H', h2, h3, h4, h5, h6⟩ := own_pushF (w := w) underlying106 elem108 (by omega) hp.2 hlo (nodes_len hp.1) c1 c2 (by omega) (by omega)
 refine ⟨h1, v', H', h2, ⟨fun x hx => ?_, ?_⟩, h4, h5, h6⟩
 ·rcases List.mem_append.1 hx with hx | hx
  ·exact (hp.1 x hx).mono h4
  ·rw [List.mem_singleton.1 hx]; exact hw.mono h4
 ·rw [List.length_append, List.flatMap_append]
  simpa using h3
theorem Parts.nil (lo : Nat) (H : Heap) : Parts lo H (.slice none 0 0) [] := ⟨by simp, OwnF.nil lo H 108⟩
theorem Parts.keep {lo : Nat} {H H' : Heap} {v : Value} {ns : List Value} (hp : Parts lo H v ns) (hn : H.next ≤ H'.next) (k : ∀ j p, H.get j = some p → p.plain = false → H'.get j = some p) : Parts lo H' v ns :=
 ⟨fun x hx => (hp.1 x hx).mono hn, hp.2.keep k⟩
theorem ares_cellP {P : Program} {fn : Func} {fr : Frm} {h : Heap} {c : Nat} {ty : TypeId} {p v : Value} (hr : fn.results.toList = [.cell c ty]) (s : look c fr.slots = some p) (l : aload P h ty p = some v) : ares P fn fr h = some v := by
 unfold ares
 rw [hr]
 simp only [aresults, aresult, s, Option.bind_some, l]
theorem node_fin {h : Heap} {cs : List Value} {j n : Nat} {w : Value} (gz : h.get j = some (nodeRow cs)) (hl : cs.length = 6) (hw : NodeOk n w) (hn : n ≤ h.next) :
  ∃ H', astore prog h 108 (.pointer (some ⟨j, 0, none⟩)) w = some H' ∧ aload prog H' 108 (.pointer (some ⟨j, 0, none⟩)) = some w ∧ H'.next = h.next ∧ (∀ k, k ≠ j → H'.get k = h.get k) ∧ NodeOk H'.next w ∧ ∃ cs', H'.get j = some (nodeRow cs') ∧ cs'.length = 6 ∧ w = .agg cs'.toArray := by
 obtain ⟨cs', e1, e2, e3⟩ := node_put gz hl hw
 refine ⟨_, e1, by rw [node_load (Heap.gf gz) e3, e2], by simp, fun k hk => Heap.gs hk, by simpa using hw.mono hn, cs', Heap.gf gz, e3, e2⟩
def zeroCells : List Value := [.int .i64 0, .int .u64 0, .int .u64 0, .int .u64 0, .int .u64 0, .slice none 0 0]
theorem alloc108' (h : Heap) : aalloc prog h 108 = some (h.new, h.alloc (nodeRow zeroCells)) := alloc108 h
def PartsR (H : Heap) (v : Value) (ns : List Value) : Prop := (∀ x ∈ ns, NodeOk H.next x) ∧
 ((v = .slice none 0 0 ∧ ns = []) ∨ ∃ b r, H.get b = some (.row r) ∧ r.vs = (ns.flatMap fun x => x.cells.toList) ∧ v = .slice (some ⟨b, 0, none⟩) ns.length ns.length)
theorem Parts.read {lo : Nat} {H : Heap} {v : Value} {ns : List Value} (hp : Parts lo H v ns) : PartsR H v ns := by
 refine ⟨hp.1, ?_⟩
 rcases hp.2 with ⟨h1, h2, _⟩ | ⟨b, _, _, h1, hg⟩
 ·exact .inl ⟨h1, List.length_eq_zero_iff.1 h2⟩
 ·exact .inr ⟨b, _, hg, rfl, h1⟩
theorem PartsR.form {H : Heap} {v : Value} {ns : List Value} (hp : PartsR H v ns) : ∃ a, v = .slice a ns.length ns.length ∧ sc H.next v := by
 rcases hp.2 with ⟨rfl, rfl⟩ | ⟨b, r, hg, _, rfl⟩
 ·exact ⟨none, rfl, by simp [sc]⟩
 ·exact ⟨_, rfl, by simp only [sc]; exact Heap.lg hg⟩
def PartsP (lo : Nat) (H : Heap) (v : Value) (ns : List Value) : Prop := (∀ x ∈ ns, NodeOk H.next x) ∧ ∃ b, lo ≤ b ∧ 0 < ns.length ∧ v = .slice (some ⟨b, 0, none⟩) ns.length ns.length ∧ H.get b = some (nodeRow (ns.flatMap fun x => x.cells.toList))
theorem PartsP.read {lo : Nat} {H : Heap} {v : Value} {ns : List Value} (hp : PartsP lo H v ns) : PartsR H v ns := by
 obtain ⟨b, _, _, h1, hg⟩ := hp.2
 exact ⟨hp.1, .inr ⟨b, _, hg, rfl, h1⟩⟩
theorem PartsP.push {lo : Nat} {H : Heap} {v w : Value} {ns : List Value} (hp : PartsP lo H v ns) (hw : NodeOk H.next w) (hlo : lo ≤ H.next) (hb : ns.length ≤ 1000000) :
  abuildSlice prog H 106 1 [(0, w)] = some (.slice (some ⟨H.next, 0, none⟩) 1 1, H.alloc (nodeRow w.cells.toList)) ∧
  ∃ v' H', aappend prog (H.alloc (nodeRow w.cells.toList)) 106 106 v (.slice (some ⟨H.next, 0, none⟩) 1 1) = some (v', H') ∧ Parts lo H' v' (ns ++ [w]) ∧ H.next ≤ H'.next ∧
   (∀ j o, H.get j = some o → H'.get j = some o) ∧ ∀ j, j < lo → H'.get j = H.get j := by
 obtain ⟨c1, c2, c3⟩ := node_cells hw
 obtain ⟨b, hlb, hpos, rfl, hg⟩ := hp.2
 refine ⟨(own_push (n := 0) (cs := []) underlying106 elem108 (by omega) (Own.nil H 108) (by simp) c1 c2 (by omega) (by omega)).1, ?_⟩
 have hlen := nodes_len hp.1
 have hg1 : (H.alloc (nodeRow w.cells.toList)).get b = some (nodeRow (ns.flatMap fun x => x.cells.toList)) := by rw [Heap.go _ _ (Heap.lg hg)]; exact hg
 have hg2 : (H.alloc (nodeRow w.cells.toList)).get H.next = some (nodeRow w.cells.toList) := Heap.gn _ _
 obtain ⟨i, z, h1, h2, h3, h4, h5, h6⟩ := elemOk_info elem108
 have hlds : (H.alloc (nodeRow w.cells.toList)).lds b 0 (ns.length * 6) = some (ns.flatMap fun x => x.cells.toList) := by
  rw [Heap.lds_of hg1 (by simp [hlen])]
  rw [List.drop_zero, List.take_of_length_le (by simp [hlen])]
 have hnew : (H.alloc (nodeRow w.cells.toList)).lds H.next 0 (1 * 6) = some w.cells.toList := by
  rw [Heap.lds_of hg2 (by simp [c1])]
  rw [List.drop_zero, List.take_of_length_le (by simp [c1])]
 refine ⟨.slice (some ⟨H.next + 1, 0, none⟩) (ns.length + 1) (ns.length + 1), (H.alloc (nodeRow w.cells.toList)).alloc (grownRow 108 ((ns.flatMap fun x => x.cells.toList) ++ w.cells.toList)), ?_, ⟨?_, ?_⟩, by simp; omega, ?_, ?_⟩
 ·unfold aappend
  have hal : alenOf (.slice (some ⟨H.next, 0, none⟩) 1 1) = some 1 := rfl
  have haf : afirst (H.alloc (nodeRow w.cells.toList)) 6 1 (.slice (some ⟨H.next, 0, none⟩) 1 1) = some w.cells.toList := hnew
  simp only [underlying106, h1, h2, hal, haf, Option.bind_some, seqD, Bool.not_true, Bool.false_eq_true, if_false]
  rw [if_neg (by omega)]
  simp only [hlds, Heap.row_of hg1, Option.bind_some, Option.isSome_none, Bool.not_false, Bool.or_true, if_true]
  have := agrow_eq (h := H.alloc (nodeRow w.cells.toList)) (need := ns.length + 1) (cs := (ns.flatMap fun x => x.cells.toList) ++ w.cells.toList) elem108 (by omega) (by omega) (by rw [List.length_append, hlen]; simp [c1]; omega)
  simpa using this
 ·intro x hx
  rcases List.mem_append.1 hx with hx | hx
  ·exact (hp.1 x hx).mono (by simp; omega)
  ·rw [List.mem_singleton.1 hx]; exact hw.mono (by simp; omega)
 ·refine .inr ⟨H.next + 1, by omega, by simp, by simp, ?_⟩
  rw [List.flatMap_append]
  have := Heap.gn (H.alloc (nodeRow w.cells.toList)) (grownRow 108 ((ns.flatMap fun x => x.cells.toList) ++ w.cells.toList))
  simpa using this
 ·intro j o hj
  have hlt := Heap.lg hj
  rw [Heap.go _ _ (by simp; omega), Heap.go _ _ hlt]
  exact hj
 ·intro j hj
  rw [Heap.go _ _ (by simp; omega), Heap.go _ _ (by omega)]
theorem joined_spec {E : EXT} (G : Nat) (h : Heap) (op : Int) (v : Value) (ns : List Value) (hp : PartsR h v ns) : Does prog G E 67 [.int .i64 op, v] h fun r h' => ∃ nv, r = .returned nv ∧ h.more h' ∧ NodeOk h'.next nv := by
 obtain ⟨a, hv, hsc⟩ := hp.form
 have gz : (h.alloc (nodeRow zeroCells)).get h.next = some (nodeRow zeroCells) := Heap.gn _ _
 have hmore : ∀ H' : Heap, H'.next = (h.alloc (nodeRow zeroCells)).next → (∀ k, k ≠ h.next → H'.get k = (h.alloc (nodeRow zeroCells)).get k) → h.more H' := fun H' e1 e2 =>
  ⟨by rw [e1]; simp, fun j hj => by rw [e2 j (by omega), Heap.go _ _ hj]⟩
 have hvl : alen prog (h.alloc (nodeRow zeroCells)) 106 v = some (.int .i64 (ns.length : Nat)) := by rw [hv]; exact alen_slice underlying106 _ _ _
 refine Does.body func67 rfl ?_
 have hn : enterF Tryd.f67 [.int .i64 op, v] = ⟨18, [(0, .int .i64 op), (1, v)], []⟩ := rfl
 rw [hn]; clear hn
 repeat apply Wq
 refine Wp.r @alloc108' ?_
 repeat apply Wq
 refine Wp.r hvl ?_
 repeat apply Wq
 refine Wp.block ?_
 by_cases h0 : (ns.length : Int) = 0
 ·obtain ⟨H', e1, e2, e3, e4, e5, _⟩ := node_fin (n := 0) (w := nodeV 1 0 0 0 0 (.slice none 0 0)) gz rfl ⟨⟨_, _, _, _, _, _, _, _, rfl⟩, sc_flat _ _ rfl⟩ (by simp)
  repeat apply Wq
  refine Wp.runS (by simp only [bsg, reduceLT, reduceEqDiff, reduceCtorEq, show ((ns.length : Int) == 0) = true by rw [h0]; rfl] <;> exact rfl) ?_
  repeat apply Wq
  refine Wp.cT ?_
  repeat apply Wq
  refine Wp.r (Aq @build108o e1) ?_
  repeat apply Wq
  refine Wp.ret ?_
  exact ⟨rfl, rfl, _, ares_cellP rfl rfl e2, _, rfl, hmore _ e3 e4, e5⟩
 repeat apply Wq
 refine Wp.runS (by simp only [bsg, reduceLT, reduceEqDiff, reduceCtorEq, show ((ns.length : Int) == 0) = false by simpa using h0] <;> exact rfl) ?_
 repeat apply Wq
 refine Wp.cF ?_
 by_cases h1 : (ns.length : Int) = 1
 ·obtain ⟨w, hw⟩ : ∃ w, ns = [w] := by
   match ns, h1 with
   | [w], _ => exact ⟨w, rfl⟩
   | [], h => simp at h
   | _ :: _ :: _, h => simp at h; omega
  subst hw
  have hwn := hp.1 w (by simp)
  rcases hp.2 with ⟨_, q⟩ | ⟨b, r, hg, hrv, hvb⟩
  ·simp at q
  have hld : aload prog (h.alloc (nodeRow zeroCells)) 108 (.pointer (some ⟨b, 0, none⟩)) = some w := by
   have hg2 : (h.alloc (nodeRow zeroCells)).get b = some (.row r) := by
    rw [Heap.go _ _ (Heap.lg hg), hg]
   have hrv' : r.vs = w.cells.toList := by rw [hrv]; simp only [List.flatMap_cons, List.flatMap_nil, List.append_nil]
   obtain ⟨c1, _, c3⟩ := node_cells hwn
   rw [aload_agg agg108 sz108, Heap.lds_of hg2 (by rw [hrv']; simp [c1]), hrv', List.drop_zero, List.take_of_length_le (by simp [c1])]
   rw [c3]
   simp [Value.cells]
  obtain ⟨H', e1, e2, e3, e4, e5, _⟩ := node_fin (n := h.next) (w := w) gz rfl hwn (by simp)
  have hix : ∀ kd, aindexAddr prog 106 v (.int kd 0) = some (.pointer (some ⟨b, 0, none⟩)) := fun kd => by
   rw [hvb]
   have := aindexAddr_slice (i := b) (k := 0) (len := 1) (cap := 1) (sp := none) (kd := kd) (j := 0) underlying106 sz108 (by omega) (by omega)
   simpa using this
  repeat apply Wq
  refine Wp.runS (by simp only [bsg, reduceLT, reduceEqDiff, reduceCtorEq, show ((([w].length : Nat) : Int) == 1) = true from rfl] <;> exact rfl) ?_
  repeat apply Wq
  refine Wp.cT ?_
  repeat apply Wq
  refine Wp.r (Aq hix (Aq hld e1)) ?_
  repeat apply Wq
  refine Wp.ret ?_
  exact ⟨rfl, rfl, _, ares_cellP rfl rfl e2, _, rfl, hmore _ e3 e4, e5⟩
 repeat apply Wq
 refine Wp.runS (by simp only [bsg, reduceLT, reduceEqDiff, reduceCtorEq, show ((ns.length : Int) == 1) = false by simpa using h1] <;> exact rfl) ?_
 repeat apply Wq
 refine Wp.cF ?_
 repeat apply Wq
 refine Wp.skip ?_
 have hb : abuild prog 108 [(0, .int .i64 op), (2, v)] = some (nodeV op 0 0 0 0 v) := by rw [hv]; exact build108k _ _ _ _
 obtain ⟨H', e1, e2, e3, e4, e5, _⟩ := node_fin (n := h.next) (w := nodeV op 0 0 0 0 v) gz rfl ⟨⟨_, _, _, _, _, _, _, _, by rw [hv]; rfl⟩, by simp [nodeV, sc, scA, scL, hsc]⟩ (by simp)
 repeat apply Wq
 refine Wp.r (Aq hb e1) ?_
 repeat apply Wq
 refine Wp.ret ?_
 exact ⟨rfl, rfl, _, ares_cellP rfl rfl e2, _, rfl, hmore _ e3 e4, e5⟩
end
section
open Nat (reduceLT reduceEqDiff)
open Go.Proofs Tryd
def regRow (T : List UInt8) (a : Nat) : AObj := .row { vs := [.string (bs T), .int .i64 a], elem := 130 }
theorem g0 (i k : Nat) : afieldAddr prog 130 (.pointer (some ⟨i, k, none⟩)) 0 = some (.pointer (some ⟨i, k, none⟩)) := afieldAddr_eq (f := 0) (o := 0) underlying130 (by rfl) (s := 0) (by kernel_rfl) i k
theorem g1 (i k : Nat) : afieldAddr prog 130 (.pointer (some ⟨i, k, none⟩)) 1 = some (.pointer (some ⟨i, k + 1, none⟩)) := afieldAddr_eq underlying130 (by rfl) (s := 0) (by kernel_rfl) i k
theorem reg_store {H : Heap} {i : Nat} {T : List UInt8} {a : Nat} (hg : H.get i = some (regRow T a)) (a' : Nat) : astore prog H 3 (.pointer (some ⟨i, 0 + 1, none⟩)) (.int .i64 (a' : Nat)) = some (H.set i (regRow T a')) := by
 rw [astore_cell sz3 rfl, Heap.sts_of hg (by simp) rfl rfl]; rfl
theorem wrapN {a : Nat} (ha : a ≤ 1000000) : IntKind.i64.wrap ((a : Int) + 1) = ((a + 1 : Nat) : Int) := by rw [wrap_in (by omega) (by omega)]; omega
theorem wrapM {a : Nat} (ha : a ≤ 1000000) : IntKind.i64.wrap (((a + 1 : Nat) : Int) - 1) = ((a : Nat) : Int) := by rw [wrap_in (by omega) (by omega)]; omega
def nextV (T : List UInt8) (a : Nat) : Value := .tuple #[byteV ((T[a]?).getD 0), .bool (T[a]?).isSome]
theorem nextR_does {E : EXT} (G : Nat) (h : Heap) (i : Nat) (T : List UInt8) (a : Nat) (hg : h.get i = some (regRow T a)) :
  Does prog G E 65 [.pointer (some ⟨i, 0, none⟩)] h fun r h' => r = .returned (nextV T a) ∧ h' = h := by
 have l0 := Heap.lf hg (k := 0) rfl
 have l1 := Heap.lf hg (k := 0 + 1) rfl
 refine Does.body func65 rfl ?_
 have hn : enterF Tryd.f65 [.pointer (some ⟨i, 0, none⟩)] = ⟨23, [(0, .pointer (some ⟨i, 0, none⟩))], []⟩ := rfl
 rw [hn]; clear hn
 repeat apply Wq
 refine Wp.rS ?_
 dsimp only [after, leaving]
 by_cases hlt : (T.length : Int) ≤ (a : Int)
 ·repeat apply Wq
  refine Wp.runSD mixed (by kernel_rfl) (by simp only [runSD, stepOD, stepWD, stepVD, isLoud, isPure, isReader, decide_true, bsb, bsg, reduceLT, reduceEqDiff, reduceCtorEq, g0, g1, lc3, lc9, l0, l1, ls9, decide_eq_true hlt] <;> exact rfl) ?_
  dsimp only [after, leaving]
  repeat apply Wq
  refine Wp.cT ?_
  repeat apply Wq
  refine Wp.rS ?_
  dsimp only [after, leaving]
  repeat apply Wq
  refine Wp.ret ?_
  dsimp only [after, leaving]
  have : T[a]? = none := List.getElem?_eq_none (by omega)
  exact ⟨rfl, rfl, _, rfl, by unfold nextV; rw [this]; rfl, rfl⟩
 ·obtain ⟨c, hc⟩ : ∃ c, T[a]? = some c := ⟨_, List.getElem?_eq_getElem (by omega)⟩
  repeat apply Wq
  refine Wp.runSD mixed (by kernel_rfl) (by simp only [runSD, stepOD, stepWD, stepVD, isLoud, isPure, isReader, decide_true, bsb, bsg, reduceLT, reduceEqDiff, reduceCtorEq, g0, g1, lc3, lc9, l0, l1, ls9, decide_eq_false hlt] <;> exact rfl) ?_
  dsimp only [after, leaving]
  repeat apply Wq
  refine Wp.cF ?_
  repeat apply Wq
  refine Wp.skip ?_
  dsimp only [after, leaving]
  repeat apply Wq
  refine Wp.runSD mixed (by kernel_rfl) (by simp only [runSD, stepOD, stepWD, stepVD, isLoud, isPure, isReader, decide_true, bsb, bsg, reduceLT, reduceEqDiff, reduceCtorEq, g0, g1, lc3, lc9, l0, l1, aindex_bs underlying9 hc] <;> exact rfl) ?_
  dsimp only [after, leaving]
  repeat apply Wq
  refine Wp.ret ?_
  dsimp only [after, leaving]
  exact ⟨rfl, rfl, _, rfl, by unfold nextV; rw [hc]; rfl, rfl⟩
def regAt (h : Heap) (i : Nat) (T : List UInt8) (a : Nat) : Heap := h.set i (regRow T a)
theorem regAt_but {h : Heap} {i : Nat} {T : List UInt8} {a : Nat} (hg : h.get i = some (regRow T a)) (b : Nat) : h.but i (regAt h i T b) := Heap.but_set h i _ (by rw [hg]; rfl)
theorem regAt_get {h : Heap} {i : Nat} {T : List UInt8} {a : Nat} (hg : h.get i = some (regRow T a)) (b : Nat) : (regAt h i T b).get i = some (regRow T b) := Heap.gf hg
theorem regAt_regAt (h : Heap) (i : Nat) (T : List UInt8) (a b : Nat) : regAt (regAt h i T a) i T b = regAt h i T b := Heap.set_set _ _ _ _
def RegB (h : Heap) (i : Nat) (T : List UInt8) (R : Except Nat (UInt8 × Nat)) (r : Ending) (h' : Heap) : Prop := match R with
 | .ok (c, b) => r = .returned (byteV c) ∧ h' = regAt h i T b
 | .error p => r = .panicked (wrongP 125 p) ∧ h.but i h'
def takeR (T : List UInt8) (a : Nat) : Except Nat (UInt8 × Nat) := match T[a]? with | some c => .ok (c, a + 1) | none => .error a
theorem takeR_does {E : EXT} (G : Nat) (h : Heap) (i : Nat) (T : List UInt8) (a : Nat) (hg : h.get i = some (regRow T a)) (ha : a ≤ 1000000) :
  Does prog G E 99 [.pointer (some ⟨i, 0, none⟩)] h (RegB h i T (takeR T a)) := by
 have c65 : canEnter prog 65 = true := by kernel_rfl
 have l1 := Heap.lf hg (k := 0 + 1) rfl
 refine Does.body func99 rfl ?_
 have hn : enterF Tryd.f99 [.pointer (some ⟨i, 0, none⟩)] = ⟨25, [(0, .pointer (some ⟨i, 0, none⟩))], []⟩ := rfl
 rw [hn]; clear hn
 repeat apply Wq
 refine Wp.rS ?_
 dsimp only [after, leaving]
 repeat apply Wq
 refine Wp.regionAs (is := List.range' 0 1 ++ (1 :: (List.range' 2 5 ++ []))) rfl ?_
 refine WpO.rS 1 ?_
 refine WpO.cR (nextR_does G h i T a hg) c65 ?_
 rintro _ h9 ⟨rfl, hh9⟩
 obtain rfl := hh9.symm
 clear hh9
 refine pu ?_
 refine WpO.runS 5 (by simp only [bsd, bsg, reduceLT, reduceEqDiff, reduceCtorEq, nextV, List.getElem?_toArray] <;> exact rfl) (by decide) ?_
 refine WpO.nil ?_
 dsimp only [after, leaving]
 unfold takeR
 cases hc : T[a]? with
 | none =>
  repeat apply Wq
  refine Wp.runS (by simp only [bsg, reduceLT, reduceEqDiff, reduceCtorEq, Option.isSome] <;> exact rfl) ?_
  dsimp only [after, leaving]
  repeat apply Wq
  refine Wp.cT ?_
  repeat apply Wq
  refine Wp.regionAs (is := List.range' 0 5 ++ (5 :: [])) rfl ?_
  refine WpO.runS 5 (by simp only [bsd, bsg, reduceLT, reduceEqDiff, reduceCtorEq, g1, lc3, l1, underlying125] <;> exact rfl) (by decide) ?_
  refine WpO.panicS (by simp only [bsg, reduceLT, reduceEqDiff, reduceCtorEq] <;> exact rfl) rfl (by simp only [bsg, reduceLT, reduceEqDiff, reduceCtorEq]) ?_
  dsimp only [after, leaving]
  exact ⟨rfl, rfl, rfl, (Heap.mr h).but i⟩
 | some c =>
  repeat apply Wq
  refine Wp.runS (by simp only [bsg, reduceLT, reduceEqDiff, reduceCtorEq, Option.isSome] <;> exact rfl) ?_
  dsimp only [after, leaving]
  repeat apply Wq
  refine Wp.cF ?_
  repeat apply Wq
  refine Wp.skip ?_
  dsimp only [after, leaving]
  repeat apply Wq
  refine Wp.r (Aq @g1 (Aq @lc3 (Aq l1 (Aq (wrapN ha) (reg_store hg))))) ?_
  dsimp only [after, leaving]
  repeat apply Wq
  refine Wp.rS ?_
  dsimp only [after, leaving]
  repeat apply Wq
  refine Wp.ret ?_
  dsimp only [after, leaving]
  exact ⟨rfl, rfl, _, rfl, rfl, rfl⟩
theorem memberR_does {E : EXT} (G : Nat) (h : Heap) (i : Nat) (T : List UInt8) (a : Nat) (hg : h.get i = some (regRow T a)) (ha : a + 1 ≤ 1000000) :
  Does prog G E 102 [.pointer (some ⟨i, 0, none⟩)] h (RegB h i T (memberS T a)) := by
 have c99 : canEnter prog 99 = true := by kernel_rfl
 refine Does.body func102 rfl ?_
 have hn : enterF Tryd.f102 [.pointer (some ⟨i, 0, none⟩)] = ⟨23, [(0, .pointer (some ⟨i, 0, none⟩))], []⟩ := rfl
 rw [hn]; clear hn
 repeat apply Wq
 refine Wp.rS ?_
 dsimp only [after, leaving]
 repeat apply Wq
 refine Wp.regionAs (is := List.range' 0 1 ++ (1 :: (List.range' 2 1 ++ []))) rfl ?_
 refine WpO.rS 1 ?_
 refine WpO.cS c99 ((takeR_does G h i T a hg (by omega)).mono ?_)
 intro x h2 hr
 unfold memberS
 unfold takeR at hr
 cases hc : T[a]? with
 | none =>
  rw [hc] at hr
  obtain ⟨rfl, hb⟩ := hr
  exact ⟨rfl, rfl, rfl, hb⟩
 | some c =>
  rw [hc] at hr
  obtain ⟨rfl, rfl⟩ := hr
  have g2 := regAt_get hg (a + 1)
  have b2 := regAt_but hg (a + 1)
  refine pt ?_
  refine WpO.rS 1 ?_
  refine WpO.nil ?_
  dsimp only [after, leaving]
  repeat apply Wq
  refine Wp.rS ?_
  dsimp only [after, leaving]
  repeat apply Wq
  refine Wp.block ?_
  have en : ∀ n : Nat, n < 256 → ((c.toNat : Int) == (n : Int)) = decide (c = n.toUInt8) := by
   intro n hn
   rw [Bool.eq_iff_iff, beq_iff_eq, decide_eq_true_iff, byte_eq c n hn]
   omega
  by_cases h92 : c = 92
  ·repeat apply Wq
   refine Wp.runS (by simp only [bsg, reduceLT, reduceEqDiff, reduceCtorEq, byteV, show ((c.toNat : Int) == 92) = true by rw [h92]; rfl] <;> exact rfl) ?_
   dsimp only [after, leaving]
   repeat apply Wq
   refine Wp.cT ?_
   repeat apply Wq
   refine Wp.regionAs (is := List.range' 0 1 ++ (1 :: (List.range' 2 1 ++ []))) rfl ?_
   refine WpO.rS 1 ?_
   refine WpO.cS c99 ((takeR_does G (regAt h i T (a + 1)) i T (a + 1) g2 ha).mono ?_)
   intro x h3 hr
   rw [if_pos h92]
   unfold takeR at hr
   cases hd : T[a + 1]? with
   | none =>
    rw [hd] at hr
    obtain ⟨rfl, hb⟩ := hr
    exact ⟨rfl, rfl, rfl, b2.trans hb⟩
   | some d =>
    rw [hd] at hr
    obtain ⟨rfl, rfl⟩ := hr
    refine pt ?_
    refine WpO.rS 1 ?_
    refine WpO.nil ?_
    dsimp only [after, leaving]
    repeat apply Wq
    refine Wp.ret ?_
    dsimp only [after, leaving]
    exact ⟨rfl, rfl, _, rfl, rfl, regAt_regAt _ _ _ _ _⟩
  have l1 := Heap.lf g2 (k := 0 + 1) rfl
  repeat apply Wq
  refine Wp.runS (by simp only [bsg, reduceLT, reduceEqDiff, reduceCtorEq, byteV, show ((c.toNat : Int) == 92) = false by have := en 92 (by omega); simpa [h92] using this] <;> exact rfl) ?_
  dsimp only [after, leaving]
  repeat apply Wq
  refine Wp.cF ?_
  rw [if_neg h92]
  repeat apply Wq
  refine Wp.runS (by simp only [bsg, reduceLT, reduceEqDiff, reduceCtorEq, byteV, show ((c.toNat : Int) == 91) = decide (c = 91) from en 91 (by omega)] <;> exact rfl) ?_
  dsimp only [after, leaving]
  repeat apply Wq
  refine Wp.cut (fun fr u h' => u = none ∧ h' = regAt h i T (a + 1) ∧ ∃ sl, fr = ⟨23, sl, []⟩ ∧ holds [(0, .pointer (some ⟨i, 0, none⟩)), (3, byteV c), (12, .bool (decide (c = 91 ∨ c = 93 ∨ c = 94 ∨ c = 45)))] sl) ?_ ?_
  rotate_left
  ·by_cases h91 : c = 91
   ·rw [decide_eq_true h91, decide_eq_true (show c = 91 ∨ c = 93 ∨ c = 94 ∨ c = 45 from .inl h91)]
    repeat apply Wq
    refine Wp.cT ?_
    repeat apply Wq
    refine Wp.skip ?_
    dsimp only [after, leaving]
    exact ⟨rfl, rfl, _, rfl, rfl, rfl, rfl, trivial⟩
   rw [decide_eq_false h91]
   repeat apply Wq
   refine Wp.cF ?_
   repeat apply Wq
   refine Wp.runS (by simp only [bsg, reduceLT, reduceEqDiff, reduceCtorEq, byteV, show ((c.toNat : Int) == 93) = decide (c = 93) from en 93 (by omega)] <;> exact rfl) ?_
   dsimp only [after, leaving]
   by_cases h93 : c = 93
   ·rw [decide_eq_true h93, decide_eq_true (show c = 91 ∨ c = 93 ∨ c = 94 ∨ c = 45 from .inr (.inl h93))]
    repeat apply Wq
    refine Wp.cT ?_
    repeat apply Wq
    refine Wp.skip ?_
    dsimp only [after, leaving]
    exact ⟨rfl, rfl, _, rfl, rfl, rfl, rfl, trivial⟩
   rw [decide_eq_false h93]
   repeat apply Wq
   refine Wp.cF ?_
   repeat apply Wq
   refine Wp.runS (by simp only [bsg, reduceLT, reduceEqDiff, reduceCtorEq, byteV, show ((c.toNat : Int) == 94) = decide (c = 94) from en 94 (by omega)] <;> exact rfl) ?_
   dsimp only [after, leaving]
   by_cases h94 : c = 94
   ·rw [decide_eq_true h94, decide_eq_true (show c = 91 ∨ c = 93 ∨ c = 94 ∨ c = 45 from .inr (.inr (.inl h94)))]
    repeat apply Wq
    refine Wp.cT ?_
    repeat apply Wq
    refine Wp.skip ?_
    dsimp only [after, leaving]
    exact ⟨rfl, rfl, _, rfl, rfl, rfl, rfl, trivial⟩
   rw [decide_eq_false h94]
   repeat apply Wq
   refine Wp.cF ?_
   repeat apply Wq
   refine Wp.runS (by simp only [bsg, reduceLT, reduceEqDiff, reduceCtorEq, byteV, show ((c.toNat : Int) == 45) = decide (c = 45) from en 45 (by omega)] <;> exact rfl) ?_
   dsimp only [after, leaving]
   refine ⟨rfl, rfl, _, rfl, rfl, rfl, ?_, trivial⟩
   have : decide (c = 91 ∨ c = 93 ∨ c = 94 ∨ c = 45) = decide (c = 45) := decide_eq_decide.2 ⟨fun q => by rcases q with q | q | q | q; exact absurd q h91; exact absurd q h93; exact absurd q h94; exact q, fun q => .inr (.inr (.inr q))⟩
   rw [this]; rfl
  rintro fr u h9 ⟨rfl, hH, sl, rfl, hs1⟩
  obtain rfl := hH.symm
  clear hH
  dsimp only [after, leaving]
  refine Wp.weaken (Frm.le_of hs1) ?_
  clear hs1 sl
  by_cases hbad : c = 91 ∨ c = 93 ∨ c = 94 ∨ c = 45
  ·rw [decide_eq_true hbad, if_pos hbad]
   repeat apply Wq
   refine Wp.cT ?_
   repeat apply Wq
   refine Wp.regionAs (is := List.range' 0 6 ++ (6 :: [])) rfl ?_
   refine WpO.runS 6 (by simp only [bsd, bsg, reduceLT, reduceEqDiff, reduceCtorEq, g1, lc3, l1, wrapM (show a ≤ 1000000 by omega), underlying125] <;> exact rfl) (by decide) ?_
   refine WpO.panicS (by simp only [bsg, reduceLT, reduceEqDiff, reduceCtorEq] <;> exact rfl) rfl (by simp only [bsg, reduceLT, reduceEqDiff, reduceCtorEq]) ?_
   dsimp only [after, leaving]
   exact ⟨rfl, rfl, rfl, b2⟩
  ·rw [decide_eq_false hbad, if_neg hbad]
   repeat apply Wq
   refine Wp.cF ?_
   repeat apply Wq
   refine Wp.rS ?_
   dsimp only [after, leaving]
   repeat apply Wq
   refine Wp.ret ?_
   dsimp only [after, leaving]
   exact ⟨rfl, rfl, _, rfl, rfl, rfl⟩
end
end Go.Mini
