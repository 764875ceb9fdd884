/-
  PARSE, part K: a dialogue, walked: what catches, what is in memory.
-/
import Derived.Test.YtjgmccbjffncaaaDoorMiniYQtoZ
import Derived.Test.YtjgmccbjffncaaaDoorPaJ
set_option linter.unusedSimpArgs false
set_option maxHeartbeats 8000000
set_option maxRecDepth 100000
namespace Go.Mini
open Go.Proofs

/-- Pushing onto what one owns leaves all other elements' rows. -/
theorem own_pushK {P : Program} {h : Heap} {st e : TypeId} {sz by' n lo : Nat} {v w : Value} {cs : List Value} (hst : P.underlying st = some (.slice e)) (he : elemOk P e sz by' = true)
    (hs2 : sz ≤ 16777216) (hv : OwnF lo h v e n cs) (hlo : lo ≤ h.next) (hc : cs.length = n * sz) (hw : w.cells.size = sz) (hone : w.cells.toList.all one = true)
    (hb : (n + 1) * by' ≤ 140737488355328) (hb2 : n + 1 ≤ 140737488355328) :
    abuildSlice P h st 1 [(0, w)] = some (.slice (some ⟨h.next, 0, none⟩) 1 1, h.alloc (.row { vs := w.cells.toList, elem := e })) ∧
    ∃ v' h', aappend P (h.alloc (.row { vs := w.cells.toList, elem := e })) st st v (.slice (some ⟨h.next, 0, none⟩) 1 1) = some (v', h') ∧ OwnF lo h' v' e (n + 1) (cs ++ w.cells.toList) ∧ KeepsE e h h' ∧ ∀ j, j < lo → h'.get j = h.get j := by
  obtain ⟨a1, v', h', a2, a3, a4, a5, a6, a7⟩ := own_push hst he hs2 hv.own hc hw hone hb hb2
  refine ⟨a1, v', h', a2, ?_, a4, fun j hj => a7 j (by omega) ?_⟩
  · rcases a3 with ⟨_, h1, _⟩ | ⟨b, h1, h2⟩
    · omega
    · rw [a6] at h1
      simp only [Value.slice.injEq, Option.some.injEq, Addr.mk.injEq] at h1
      exact .inr ⟨b, by omega, by omega, by rw [a6, ← h1.1.1], h2⟩
  · rintro b l c hvb rfl
    rcases hv with ⟨h1, _⟩ | ⟨b', hb', _, h1, _⟩
    · rw [h1] at hvb; cases hvb
    · rw [h1] at hvb; cases hvb; omega
def scriptRow (bv : Value) : AObj := .row { vs := [bv], elem := 24 }
def wrongRow (k p : Int) : AObj := .row { vs := [.int .i64 k, .int .i64 p], elem := 59 }
theorem szS : (Tryd.prog.info? 24).map (·.size) = some 1 := by kernel_rfl
theorem aggS : Program.agg Tryd.prog 24 = some true := by kernel_rfl
theorem sz59 : (Tryd.prog.info? 59).map (·.size) = some 2 := by kernel_rfl
theorem agg59 : Program.agg Tryd.prog 59 = some true := by kernel_rfl
theorem build24 : abuild Tryd.prog 24 [] = some (.agg #[.slice none 0 0]) := by kernel_rfl
theorem alloc24 (h : Heap) : aalloc Tryd.prog h 24 = some (h.new, h.alloc (scriptRow (.slice none 0 0))) := aalloc_eq (z := .agg #[.slice none 0 0]) (by kernel_rfl) rfl
theorem alloc59 (h : Heap) : aalloc Tryd.prog h 59 = some (h.new, h.alloc (wrongRow 0 0)) := aalloc_eq (z := .agg #[.int .i64 0, .int .i64 0]) (by kernel_rfl) rfl
theorem script_put {H : Heap} {j : Nat} {bv0 : Value} (g : H.get j = some (scriptRow bv0)) {bv : Value} (hb : one bv = true) : astore Tryd.prog H 24 (.pointer (some ⟨j, 0, none⟩)) (.agg #[bv]) = some (H.set j (scriptRow bv)) := by
  have := astore_agg (P := Tryd.prog) (h := H) (i := j) (k := 0) (cs := [bv]) szS rfl (by simp [hb])
  rw [this, Heap.sts_of g (by simp) rfl rfl]; rfl
theorem script_load {H : Heap} {j : Nat} {bv : Value} (g : H.get j = some (scriptRow bv)) : aload Tryd.prog H 24 (.pointer (some ⟨j, 0, none⟩)) = some (.agg #[bv]) := by
  rw [aload_agg aggS szS, Heap.lds_of g (by simp)]; rfl
theorem wrong_new (H : Heap) (k p : Int) : astore Tryd.prog (H.alloc (wrongRow 0 0)) 59 (.pointer (some ⟨H.next, 0, none⟩)) (.agg #[.int .i64 k, .int .i64 p]) = some (H.alloc (wrongRow k p)) := by
  have := astore_agg (P := Tryd.prog) (h := H.alloc (wrongRow 0 0)) (i := H.next) (k := 0) (cs := [.int .i64 k, .int .i64 p]) sz59 rfl rfl
  rw [this, Heap.sts_of (Heap.get_alloc_new H (wrongRow 0 0)) (by simp) rfl rfl]
  show some ((H.alloc (wrongRow 0 0)).set H.next (wrongRow k p)) = _
  rw [Heap.set_alloc]
theorem wrong_load {H : Heap} {j : Nat} {k p : Int} (g : H.get j = some (wrongRow k p)) : aload Tryd.prog H 59 (.pointer (some ⟨j, 0, none⟩)) = some (.agg #[.int .i64 k, .int .i64 p]) := by
  rw [aload_agg agg59 sz59, Heap.lds_of g (by simp)]; rfl
theorem progCatch_spec {E : EXT} (G : Nat) (h : Heap) (a c : Nat) (bv : Value) (e0 p0 : Int) (hac : c ≠ a) (ga : h.get a = some (scriptRow bv)) (gc : h.get c = some (spotRow e0 p0)) (k p : Nat) :
    DoesD Tryd.prog G E 22 [.pointer (some ⟨a, 0, none⟩), .pointer (some ⟨c, 0, none⟩)] (.panicking (wrongQ k p)) h (fun r u h' => r = .returned (.tuple #[]) ∧ u = .panicking [{ v := .iface 59 (.agg #[.int .i64 (k : Nat), .int .i64 (p : Nat)]), recovered := true }] ∧
      h'.get a = some (scriptRow (.slice none 0 0)) ∧ h'.get c = some (spotRow k p) ∧ h.next ≤ h'.next ∧ ∀ j, j < h.next → j ≠ a → j ≠ c → h'.get j = h.get j) := by
  refine DoesD.body Tryd.func22 rfl ?_
  have hn : enterF Tryd.f22 [.pointer (some ⟨a, 0, none⟩), .pointer (some ⟨c, 0, none⟩)] = ⟨12, [(0, .pointer (some ⟨a, 0, none⟩)), (1, .pointer (some ⟨c, 0, none⟩))], []⟩ := rfl
  rw [hn]; clear hn
  repeat refine Wp.seq ?_
  refine Wp.regionAs (is := 0 :: (List.range' 1 7 ++ [])) rfl ?_
  refine WpO.recoverS (by simp only [bsf, abuiltin, aextract, Nat.reduceLT, Nat.reduceEqDiff, reduceCtorEq] <;> exact rfl) rfl (by simp only [bsf, abuiltin, aextract, Nat.reduceLT, Nat.reduceEqDiff, reduceCtorEq]) (by simp only [bsf, abuiltin, aextract, Nat.reduceLT, Nat.reduceEqDiff, reduceCtorEq] <;> exact rfl) ?_
  refine WpO.runS 7 (by simp only [bsd, bsf, abuiltin, aextract, Nat.reduceLT, Nat.reduceEqDiff, reduceCtorEq, aassert, Tryd.underlying59, List.getElem?_toArray, alloc59, Heap.new, wrong_new] <;> exact rfl) (by decide) ?_
  refine WpO.nil ?_
  dsimp only [after, leaving]
  repeat refine Wp.seq ?_
  refine Wp.runS (by simp only [bsf, abuiltin, aextract, Nat.reduceLT, Nat.reduceEqDiff, reduceCtorEq] <;> exact rfl) ?_
  dsimp only [after, leaving]
  repeat refine Wp.seq ?_
  refine Wp.condT (by simp only [bsf, abuiltin, aextract, Nat.reduceLT, Nat.reduceEqDiff, reduceCtorEq]) ?_
  have ga1 : (h.alloc (wrongRow k p)).get a = some (scriptRow bv) := by rw [Heap.get_alloc_old _ _ (Heap.lt_of_get ga)]; exact ga
  have gc1 : (h.alloc (wrongRow k p)).get c = some (spotRow e0 p0) := by rw [Heap.get_alloc_old _ _ (Heap.lt_of_get gc)]; exact gc
  have gw : (h.alloc (wrongRow k p)).get h.next = some (wrongRow k p) := Heap.get_alloc_new _ _
  have han := Heap.lt_of_get ga
  have hcn := Heap.lt_of_get gc
  have hold : ∀ j, j < h.next → (h.alloc (wrongRow k p)).get j = h.get j := fun j hj => Heap.get_alloc_old _ _ hj
  have hnn : h.next ≤ (h.alloc (wrongRow k p)).next := by simp
  generalize h.alloc (wrongRow k p) = H at ga1 gc1 gw hold hnn ⊢
  have gw2 : (H.set a (scriptRow (.slice none 0 0))).get h.next = some (wrongRow k p) := by rw [Heap.get_set_ne (by omega)]; exact gw
  have gc2 : (H.set a (scriptRow (.slice none 0 0))).get c = some (spotRow e0 p0) := by rw [Heap.get_set_ne hac]; exact gc1
  repeat refine Wp.seq ?_
  refine Wp.drawAs [11] [] 1 (fun H => H.get h.next = some (wrongRow k p)) mixed (by kernel_rfl) gw ?_
  refine DrT.run 1 (by simp only [List.take_succ_cons, List.take_zero, runSD, stepOD, stepWD, stepVD, isLoud, isPure, isReader, isEqOp, isConstO, decide_true, bsb, bsf, abuiltin, aextract, Nat.reduceLT, Nat.reduceEqDiff, reduceCtorEq, build24] <;> exact rfl) rfl ?_
  try simp only [List.drop_succ_cons, List.drop_zero]
  refine DrT.read rfl rfl (by simp only [bsf, abuiltin, aextract, Nat.reduceLT, Nat.reduceEqDiff, reduceCtorEq]) (by simp only [bsf, abuiltin, aextract, Nat.reduceLT, Nat.reduceEqDiff, reduceCtorEq, wrong_load gw] <;> exact rfl) (fun H hK2 => by simp only [bsf, abuiltin, aextract, Nat.reduceLT, Nat.reduceEqDiff, reduceCtorEq, wrong_load hK2] <;> exact rfl) (by simp only [bsf, abuiltin, aextract, Nat.reduceLT, Nat.reduceEqDiff, reduceCtorEq] <;> exact rfl) ?_
  refine DrT.skip (by simp only [bsf, abuiltin, aextract, Nat.reduceLT, Nat.reduceEqDiff, reduceCtorEq, script_put ga1 (bv := .slice none 0 0) rfl] <;> exact rfl) rfl rfl (by simp only [bsf, abuiltin, aextract, Nat.reduceLT, Nat.reduceEqDiff, reduceCtorEq]) (by simp only [bsf, abuiltin, aextract, Nat.reduceLT, Nat.reduceEqDiff, reduceCtorEq] <;> exact rfl) (fun _ => gw2) ?_
  refine DrT.skip (by simp only [bsf, abuiltin, aextract, Nat.reduceLT, Nat.reduceEqDiff, reduceCtorEq, spot_store' gc2] <;> exact rfl) rfl rfl (by simp only [bsf, abuiltin, aextract, Nat.reduceLT, Nat.reduceEqDiff, reduceCtorEq]) (by simp only [bsf, abuiltin, aextract, Nat.reduceLT, Nat.reduceEqDiff, reduceCtorEq] <;> exact rfl) (fun q => absurd q (by decide)) ?_
  refine DrT.nil ?_
  dsimp only [after, leaving]
  refine ⟨rfl, _, rfl, _, rfl, rfl, rfl, ?_, Heap.get_set_self gc2, by simp [hnn], fun j hj h1 h2 => ?_⟩
  · rw [Heap.get_set_ne (Ne.symm hac)]; exact Heap.get_set_self ga1
  · rw [Heap.get_set_ne h2, Heap.get_set_ne h1]; exact hold j hj
theorem progNo_spec {E : EXT} (G : Nat) (h : Heap) (a c : Value) :
    DoesD Tryd.prog G E 22 [a, c] .returning h (fun r u h' => r = .returned (.tuple #[]) ∧ u = .returning ∧ h.next ≤ h'.next ∧ ∀ j, j < h.next → h'.get j = h.get j) := by
  have no52 : aassert Tryd.prog .nilIface 59 true = some (.tuple #[.agg #[.int .i64 0, .int .i64 0], .bool false]) := by kernel_rfl
  refine DoesD.body Tryd.func22 rfl ?_
  have hn : enterF Tryd.f22 [a, c] = ⟨12, [(0, a), (1, c)], []⟩ := rfl
  rw [hn]; clear hn
  repeat refine Wp.seq ?_
  refine Wp.regionAs (is := 0 :: (List.range' 1 7 ++ [])) rfl ?_
  refine WpO.recoverN (by simp only [bsf, abuiltin, aextract, Nat.reduceLT, Nat.reduceEqDiff, reduceCtorEq] <;> exact rfl) rfl (by simp only [bsf, abuiltin, aextract, Nat.reduceLT, Nat.reduceEqDiff, reduceCtorEq]) (by simp only [bsf, abuiltin, aextract, Nat.reduceLT, Nat.reduceEqDiff, reduceCtorEq] <;> exact rfl) ?_
  refine WpO.runS 7 (by simp only [bsd, bsf, abuiltin, aextract, Nat.reduceLT, Nat.reduceEqDiff, reduceCtorEq, no52, List.getElem?_toArray, alloc59, Heap.new, wrong_new] <;> exact rfl) (by decide) ?_
  refine WpO.nil ?_
  dsimp only [after, leaving]
  repeat refine Wp.seq ?_
  refine Wp.runS (by simp only [bsf, abuiltin, aextract, Nat.reduceLT, Nat.reduceEqDiff, reduceCtorEq] <;> exact rfl) ?_
  dsimp only [after, leaving]
  repeat refine Wp.seq ?_
  refine Wp.condF (by simp only [bsf, abuiltin, aextract, Nat.reduceLT, Nat.reduceEqDiff, reduceCtorEq]) ?_
  repeat refine Wp.seq ?_
  refine Wp.skip ?_
  dsimp only [after, leaving]
  exact ⟨rfl, _, rfl, _, rfl, rfl, rfl, by simp, fun j hj => Heap.get_alloc_old _ _ hj⟩
end Go.Mini
