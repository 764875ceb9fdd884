/-
  RING, part D2: Copy.
-/
import Derived.Test.YtcmijnchfejohaaRingD
import Derived.Test.YtcmijnchfejohaaMiniU
set_option linter.unusedSimpArgs false
set_option maxHeartbeats 2000000
namespace Go.Mini
open Go.Proofs
open Go.Lib (strCells strCells_length strCells_oneCell)

theorem load47 {h : Heap} {i : Nat} {vs : List Value} (hl : vs.length = 1026) (hg : h.get i = some (.row { vs := vs, elem := 47 })) :
    aload Try.prog h 47 (.pointer (some ⟨i, 0, none⟩)) = some (.agg vs.toArray) := by
  rw [aload_agg agg47 sz47, Heap.lds_of hg (by simp only [hl]; omega)]
  simp only [List.drop_zero, Option.map_some]
  rw [List.take_of_length_le (by omega)]
theorem alloc47 (h : Heap) {z : List Value} (hz : (Try.prog.info? 47).bind (·.zero) = some (.agg z.toArray)) (hf : flat (.agg z.toArray) = true) : aalloc Try.prog h 47 = some (.pointer (some ⟨h.next, 0, none⟩), h.alloc (.row { vs := z, elem := 47 })) := by
  obtain ⟨x, hx, hz⟩ := Option.bind_eq_some_iff.1 hz
  unfold aalloc
  simp only [hx, hz, Option.bind_some, hf, if_true, Value.cells, Heap.new]
theorem store47 {h : Heap} {i : Nat} {vs us : List Value} (hl : vs.length = 1026) (hl2 : us.length = 1026) (ho : vs.all one = true) (hg : h.get i = some (.row { vs := us, elem := 47 })) :
    astore Try.prog h 47 (.pointer (some ⟨i, 0, none⟩)) (.agg vs.toArray) = some (h.set i (.row { vs := vs, elem := 47 })) := by
  refine (astore_agg sz47 hl ho).trans ((Heap.sts_of hg (by simp only [hl, hl2]; omega) rfl rfl).trans ?_)
  have : splice us 0 vs = vs := by
    unfold splice
    rw [List.drop_of_length_le (by omega)]
    simp
  simp only [this]
theorem zero47 : (Try.prog.info? 47).bind (·.zero) = some (.agg (ringVs (fun _ => 0) 0 0).toArray) := by kernel_rfl
theorem flat47 : flat (.agg (ringVs (fun _ => 0) 0 0).toArray) = true := by kernel_rfl

theorem copy_spec (G : Nat) (h : Heap) (i : Nat) (ks : Nat → UInt8) (lim e : Nat) (hg : h.get i = some (ringRow ks lim e)) :
    Does Try.prog G NoExt 19 [.pointer (some ⟨i, 0, none⟩)] h (fun r h' => r = .returned (.pointer (some ⟨h.next, 0, none⟩)) ∧ h' = h.alloc (ringRow ks lim e)) := by
  refine Does.body Try.func19 rfl ?_
  have hn : enterF Try.f19 [.pointer (some ⟨i, 0, none⟩)] = ⟨9, [(0, .pointer (some ⟨i, 0, none⟩))], []⟩ := rfl
  rw [hn]; clear hn
  repeat refine Wp.seq ?_
  refine Wp.runS (by simp only [runS, stepO, stepW, stepV, keep, guardOf, wantG, wantV, aop, binA, aev, flat, if_true, if_false, Option.bind_some, Option.map_some, Frm.put, look, setk, Nat.reduceLT, Nat.reduceEqDiff, evs, evp, evo, List.getElem?_toArray, List.getElem?_cons_succ, List.getElem?_cons_zero, Bool.false_eq_true, Bool.true_eq_false, beq_self_eq_true, beq_ft, beq_tf, notNil, Bool.not_true, Bool.not_false, reduceCtorEq, abuiltin, aextract] <;> exact rfl) ?_
  dsimp only [after, leaving]
  repeat refine Wp.seq ?_
  refine Wp.runS (by simp only [runS, stepO, stepW, stepV, keep, guardOf, wantG, wantV, aop, binA, aev, flat, if_true, if_false, Option.bind_some, Option.map_some, Frm.put, look, setk, Nat.reduceLT, Nat.reduceEqDiff, evs, evp, evo, List.getElem?_toArray, List.getElem?_cons_succ, List.getElem?_cons_zero, Bool.false_eq_true, Bool.true_eq_false, beq_self_eq_true, beq_ft, beq_tf, notNil, Bool.not_true, Bool.not_false, reduceCtorEq, abuiltin, aextract, abin_ptr_nil Try.underlying26, Option.isNone] <;> exact rfl) ?_
  dsimp only [after, leaving]
  repeat refine Wp.seq ?_
  refine Wp.condF (by simp only [runS, stepO, stepW, stepV, keep, guardOf, wantG, wantV, aop, binA, aev, flat, if_true, if_false, Option.bind_some, Option.map_some, Frm.put, look, setk, Nat.reduceLT, Nat.reduceEqDiff, evs, evp, evo, List.getElem?_toArray, List.getElem?_cons_succ, List.getElem?_cons_zero, Bool.false_eq_true, Bool.true_eq_false, beq_self_eq_true, beq_ft, beq_tf, notNil, Bool.not_true, Bool.not_false, reduceCtorEq, abuiltin, aextract]) ?_
  repeat refine Wp.seq ?_
  refine Wp.skip ?_
  dsimp only [after, leaving]
  unfold ringRow at hg ⊢
  generalize hV : ringVs ks lim e = vs at hg ⊢
  have hl : vs.length = 1026 := by rw [← hV]; exact ringVs_length ks lim e
  have ho : vs.all one = true := by rw [← hV]; exact one_ring ks lim e
  have hz := zero47
  have hf := flat47
  have hzl := ringVs_length (fun _ => 0) 0 0
  generalize ringVs (fun _ => 0) 0 0 = z at hz hf hzl
  have hst := store47 hl hzl ho (Heap.get_alloc_new h (.row { vs := z, elem := 47 }))
  rw [Heap.set_alloc] at hst
  repeat refine Wp.seq ?_
  refine Wp.regionAs (is := List.range' 0 2 ++ (2 :: (3 :: (4 :: [])))) rfl ?_
  refine WpO.runS 2 (by simp only [List.drop_succ_cons, List.drop_zero, List.take_succ_cons, List.take_zero, runS, stepO, stepW, stepV, keep, guardOf, wantG, wantV, aop, binA, aev, flat, if_true, if_false, Option.bind_some, Option.map_some, Frm.put, look, setk, Nat.reduceLT, Nat.reduceEqDiff, evs, evp, evo, List.getElem?_toArray, List.getElem?_cons_succ, List.getElem?_cons_zero, Bool.false_eq_true, Bool.true_eq_false, beq_self_eq_true, beq_ft, beq_tf, notNil, Bool.not_true, Bool.not_false, reduceCtorEq, abuiltin, aextract] <;> exact rfl) (by decide) ?_
  refine WpO.valS (aop_load rfl (by simp only [aev, look, flat, if_true, if_false, Nat.reduceEqDiff, reduceCtorEq]) (load47 hl hg)) rfl rfl (by simp only [runS, stepO, stepW, stepV, keep, guardOf, wantG, wantV, aop, binA, aev, flat, if_true, if_false, Option.bind_some, Option.map_some, Frm.put, look, setk, Nat.reduceLT, Nat.reduceEqDiff, evs, evp, evo, List.getElem?_toArray, List.getElem?_cons_succ, List.getElem?_cons_zero, Bool.false_eq_true, Bool.true_eq_false, beq_self_eq_true, beq_ft, beq_tf, notNil, Bool.not_true, Bool.not_false, reduceCtorEq, abuiltin, aextract] <;> exact rfl) ?_
  refine WpO.valS (aop_alloc rfl (alloc47 h hz hf)) rfl rfl (by simp only [runS, stepO, stepW, stepV, keep, guardOf, wantG, wantV, aop, binA, aev, flat, if_true, if_false, Option.bind_some, Option.map_some, Frm.put, look, setk, Nat.reduceLT, Nat.reduceEqDiff, evs, evp, evo, List.getElem?_toArray, List.getElem?_cons_succ, List.getElem?_cons_zero, Bool.false_eq_true, Bool.true_eq_false, beq_self_eq_true, beq_ft, beq_tf, notNil, Bool.not_true, Bool.not_false, reduceCtorEq, abuiltin, aextract] <;> exact rfl) ?_
  refine WpO.skipS (aop_store rfl (by simp only [aev, look, flat, if_true, if_false, Nat.reduceEqDiff, reduceCtorEq]) (by simp only [aev, look, flat, if_true, if_false, Nat.reduceEqDiff, reduceCtorEq]) hst) rfl rfl (by simp only [runS, stepO, stepW, stepV, keep, guardOf, wantG, wantV, aop, binA, aev, flat, if_true, if_false, Option.bind_some, Option.map_some, Frm.put, look, setk, Nat.reduceLT, Nat.reduceEqDiff, evs, evp, evo, List.getElem?_toArray, List.getElem?_cons_succ, List.getElem?_cons_zero, Bool.false_eq_true, Bool.true_eq_false, beq_self_eq_true, beq_ft, beq_tf, notNil, Bool.not_true, Bool.not_false, reduceCtorEq, abuiltin, aextract] <;> exact rfl) ?_
  refine WpO.nil ?_
  dsimp only [after, leaving]
  repeat refine Wp.seq ?_
  refine Wp.runS (by simp only [runS, stepO, stepW, stepV, keep, guardOf, wantG, wantV, aop, binA, aev, flat, if_true, if_false, Option.bind_some, Option.map_some, Frm.put, look, setk, Nat.reduceLT, Nat.reduceEqDiff, evs, evp, evo, List.getElem?_toArray, List.getElem?_cons_succ, List.getElem?_cons_zero, Bool.false_eq_true, Bool.true_eq_false, beq_self_eq_true, beq_ft, beq_tf, notNil, Bool.not_true, Bool.not_false, reduceCtorEq, abuiltin, aextract] <;> exact rfl) ?_
  dsimp only [after, leaving]
  repeat refine Wp.seq ?_
  refine Wp.ret ?_
  dsimp only [after, leaving]
  exact ⟨rfl, rfl, _, rfl, rfl, rfl⟩
theorem copy_nil (G : Nat) (h : Heap) :
    Does Try.prog G NoExt 19 [.pointer none] h (fun r h' => r = .returned (.pointer none) ∧ h' = h) := by
  refine Does.body Try.func19 rfl ?_
  have hn : enterF Try.f19 [.pointer none] = ⟨9, [(0, .pointer none)], []⟩ := rfl
  rw [hn]; clear hn
  repeat refine Wp.seq ?_
  refine Wp.runS (by simp only [runS, stepO, stepW, stepV, keep, guardOf, wantG, wantV, aop, binA, aev, flat, if_true, if_false, Option.bind_some, Option.map_some, Frm.put, look, setk, Nat.reduceLT, Nat.reduceEqDiff, evs, evp, evo, List.getElem?_toArray, List.getElem?_cons_succ, List.getElem?_cons_zero, Bool.false_eq_true, Bool.true_eq_false, beq_self_eq_true, beq_ft, beq_tf, notNil, Bool.not_true, Bool.not_false, reduceCtorEq, abuiltin, aextract] <;> exact rfl) ?_
  dsimp only [after, leaving]
  repeat refine Wp.seq ?_
  refine Wp.runS (by simp only [runS, stepO, stepW, stepV, keep, guardOf, wantG, wantV, aop, binA, aev, flat, if_true, if_false, Option.bind_some, Option.map_some, Frm.put, look, setk, Nat.reduceLT, Nat.reduceEqDiff, evs, evp, evo, List.getElem?_toArray, List.getElem?_cons_succ, List.getElem?_cons_zero, Bool.false_eq_true, Bool.true_eq_false, beq_self_eq_true, beq_ft, beq_tf, notNil, Bool.not_true, Bool.not_false, reduceCtorEq, abuiltin, aextract, abin_ptr_nil Try.underlying26, Option.isNone] <;> exact rfl) ?_
  dsimp only [after, leaving]
  repeat refine Wp.seq ?_
  refine Wp.condT (by simp only [runS, stepO, stepW, stepV, keep, guardOf, wantG, wantV, aop, binA, aev, flat, if_true, if_false, Option.bind_some, Option.map_some, Frm.put, look, setk, Nat.reduceLT, Nat.reduceEqDiff, evs, evp, evo, List.getElem?_toArray, List.getElem?_cons_succ, List.getElem?_cons_zero, Bool.false_eq_true, Bool.true_eq_false, beq_self_eq_true, beq_ft, beq_tf, notNil, Bool.not_true, Bool.not_false, reduceCtorEq, abuiltin, aextract]) ?_
  repeat refine Wp.seq ?_
  refine Wp.runS (by simp only [runS, stepO, stepW, stepV, keep, guardOf, wantG, wantV, aop, binA, aev, flat, if_true, if_false, Option.bind_some, Option.map_some, Frm.put, look, setk, Nat.reduceLT, Nat.reduceEqDiff, evs, evp, evo, List.getElem?_toArray, List.getElem?_cons_succ, List.getElem?_cons_zero, Bool.false_eq_true, Bool.true_eq_false, beq_self_eq_true, beq_ft, beq_tf, notNil, Bool.not_true, Bool.not_false, reduceCtorEq, abuiltin, aextract] <;> exact rfl) ?_
  dsimp only [after, leaving]
  repeat refine Wp.seq ?_
  refine Wp.ret ?_
  dsimp only [after, leaving]
  exact ⟨rfl, rfl, _, rfl, rfl, rfl⟩
end Go.Mini
