/-
  RING, part E: From.
-/
import Derived.Test.YtcmijnchfejohaaRingD
set_option linter.unusedSimpArgs false
set_option maxHeartbeats 2000000
namespace Go.Mini
open Go.Proofs
open Go.Lib (strCells strCells_length strCells_oneCell)

/-- A buffer of bytes that is being filled. -/
def bufRow (l : List UInt8) (c : Nat) : AObj := .row { vs := l.map byteV ++ List.replicate (c - l.length) (byteV 0), elem := 5 }
theorem zero5 : (Try.prog.info? 5).bind (·.zero) = some (byteV 0) := by kernel_rfl
theorem bytes5 : (Try.prog.info? 5).map (·.bytes) = some 1 := by kernel_rfl
theorem info5 : ∃ x, Try.prog.info? 5 = some x ∧ x.size = 1 ∧ x.zero = some (byteV 0) ∧ x.bytes = 1 := by
  obtain ⟨x, h1, h2⟩ := info_some sz5
  have h3 := zero5
  have h4 := bytes5
  rw [h1] at h3 h4
  simp only [Option.bind_some, Option.map_some, Option.some.injEq] at h3 h4
  exact ⟨x, h1, h2, h3, h4⟩
theorem madeCells_byte (n : Nat) : (madeCells (byteV 0).cells n).toList = List.replicate n (byteV 0) := by
  apply List.ext_getElem
  · simp [madeCells]
  · intro j h1 h2
    simp [madeCells, byteV, Value.cells, Nat.mod_one]
theorem make42 (h : Heap) (c : Nat) (hc : c ≤ 281474976710656) : amake Try.prog h 42 (.int .i64 0) (.int .i64 c) = some (.slice (some ⟨h.next, 0, none⟩) 0 c, h.alloc (bufRow [] c)) := by
  obtain ⟨x, h1, h2, h3, h4⟩ := info5
  unfold amake
  simp only [Try.underlying42, h1, Option.bind_some, h3, h4, h2]
  rw [if_pos ⟨rfl, by omega, by omega, by omega, by omega⟩]
  simp only [Int.toNat_natCast, Nat.mul_one, madeCells_byte, bufRow, List.map_nil, List.nil_append, List.length_nil, Nat.sub_zero]
  rfl
theorem build42 (h : Heap) (b : UInt8) : abuildSlice Try.prog h 42 1 [(0, byteV b)] = some (.slice (some ⟨h.next, 0, none⟩) 1 1, h.alloc (.row { vs := [byteV b], elem := 5 })) := by
  obtain ⟨x, h1, h2, h3, h4⟩ := info5
  unfold abuildSlice
  simp only [Try.underlying42, h1, Option.bind_some, h3, h2]
  rw [if_pos ⟨rfl, by omega⟩]
  have : (byteV b).cells = #[byteV b] := rfl
  simp only [madeCells_byte, fillL, this]
  rfl
theorem splice_buf (l m : List UInt8) (c : Nat) (hc : l.length + m.length ≤ c) : splice (l.map byteV ++ List.replicate (c - l.length) (byteV 0)) l.length (m.map byteV) = (l ++ m).map byteV ++ List.replicate (c - (l ++ m).length) (byteV 0) := by
  unfold splice
  rw [List.take_append, List.take_of_length_le (by simp)]
  simp only [List.length_map, Nat.sub_self, List.take_zero, List.append_nil, List.map_append, List.length_append]
  rw [List.drop_append, List.drop_of_length_le (by simp)]
  simp only [List.nil_append, List.length_map, List.drop_replicate]
  congr 2
  omega
theorem app_slice {H : Heap} {b b2 c : Nat} {l : List UInt8} {x : UInt8} (hb : H.get b = some (bufRow l c)) (hb2 : H.get b2 = some (.row { vs := [byteV x], elem := 5 })) (hc : l.length + 1 ≤ c) :
    aappend Try.prog H 42 42 (.slice (some ⟨b, 0, none⟩) l.length c) (.slice (some ⟨b2, 0, none⟩) 1 1) = some (.slice (some ⟨b, 0, none⟩) (l.length + 1) c, H.set b (bufRow (l ++ [x]) c)) := by
  obtain ⟨y, h1, h2, h3, h4⟩ := info5
  unfold aappend
  simp only [Try.underlying42, h1, Option.bind_some, alenOf, afirst, h2, Nat.mul_one]
  rw [Heap.lds_of hb2 (by simp)]
  simp only [Option.bind_some, seqD, Bool.not_true, Bool.false_eq_true, if_false]
  rw [if_pos hc]
  simp only [List.drop_zero, List.take_succ_cons, List.take_nil, List.take_zero, reduceCtorEq, if_false, Nat.zero_add]
  rw [if_pos (by rfl)]
  have := splice_buf l [x] c (by simpa using hc)
  simp only [List.map_cons, List.map_nil] at this
  refine (congrArg _ (Heap.sts_of hb (by simp; omega) rfl rfl)).trans ?_
  simp only [Option.map_some, this, bufRow]
theorem app_str {H : Heap} {b c : Nat} {l m : List UInt8} (hb : H.get b = some (bufRow l c)) (hc : l.length + m.length ≤ c) :
    aappend Try.prog H 42 9 (.slice (some ⟨b, 0, none⟩) l.length c) (.string (bs m)) = some (.slice (some ⟨b, 0, none⟩) (l.length + m.length) c, H.set b (bufRow (l ++ m) c)) := by
  obtain ⟨y, h1, h2, h3, h4⟩ := info5
  unfold aappend
  simp only [Try.underlying42, Try.underlying9, h1, Option.bind_some, alenOf, afirst, h2, Nat.mul_one, strCells_bs, bs_size]
  rw [List.take_of_length_le (by simp)]
  simp only [seqD, Bool.not_true, Bool.false_eq_true, if_false]
  rw [if_pos hc]
  by_cases hm : m = []
  · subst hm
    simp only [List.map_nil, if_true, List.append_nil, Heap.set_same hb]
  · rw [if_neg (by simpa using hm), if_pos (by rw [List.all_map, List.all_eq_true]; intro x _; rfl)]
    have := splice_buf l m c hc
    refine (congrArg _ (Heap.sts_of (vs := m.map byteV) hb (by simp; omega) rfl rfl)).trans ?_
    simp only [Option.map_some, Nat.zero_add, this, bufRow]
theorem bytesOf_bytes : ∀ l : List UInt8, bytesOf (l.map byteV) = some (l.map fun b => (b.toNat : Int))
  | [] => rfl
  | b :: l => by
    have := bytesOf_bytes l
    show (bytesOf (l.map byteV)).map ((b.toNat : Int) :: ·) = _
    rw [this]; rfl
theorem strOfNums_map (l : List UInt8) : strOfNums (l.map fun b => (b.toNat : Int)) = bs l := by
  unfold strOfNums bs
  rw [List.map_map]
  congr 2
  conv => rhs; rw [← List.map_id l]
  apply List.map_congr_left
  intro b _
  simp
theorem conv_buf {H : Heap} {b c : Nat} {l : List UInt8} (hb : H.get b = some (bufRow l c)) : aconvB Try.prog H 42 9 (.slice (some ⟨b, 0, none⟩) l.length c) = some (.string (bs l), H) := by
  have u5 : Try.prog.underlying 5 = some (.int .u8) := by kernel_rfl
  unfold aconvB
  simp only [Try.underlying42, Try.underlying9, u5]
  rw [Heap.lds_of hb (by simp)]
  simp only [Option.bind_some, List.drop_zero]
  rw [List.take_append, List.take_of_length_le (by simp)]
  simp only [List.length_map, Nat.sub_self, List.take_zero, List.append_nil, bytesOf_bytes]
  show some (Value.string (strOfNums (l.map fun b => (b.toNat : Int))), H) = _
  rw [strOfNums_map]
theorem noconv (a : Option Addr) (l c : Nat) : aconv Try.prog 42 9 (.slice a l c) = none := by
  unfold aconv
  simp only [Try.underlying42, Try.underlying9]

theorem from_nil (G : Nat) (h : Heap) (at' most : Int) :
    Does Try.prog G NoExt 13 [.pointer none, .int .i64 at', .int .i64 most] h (fun r h' => r = .returned (.tuple #[.string (bs []), .int .i64 0, .int .i64 1]) ∧ h' = h) := by
  refine Does.body Try.func13 rfl ?_
  have hn : enterF Try.f13 [.pointer none, .int .i64 at', .int .i64 most] = ⟨64, [(0, .pointer none), (1, .int .i64 at'), (2, .int .i64 most)], []⟩ := rfl
  rw [hn]; clear hn
  repeat refine Wp.seq ?_
  refine Wp.runS (by simp only [runS, stepO, stepW, stepV, keep, guardOf, wantG, wantV, aop, binA, aev, flat, if_true, if_false, Option.bind_some, Option.map_some, Frm.put, look, setk, Nat.reduceLT, Nat.reduceEqDiff, evs, evp, evo, List.getElem?_toArray, List.getElem?_cons_succ, List.getElem?_cons_zero, Bool.false_eq_true, Bool.true_eq_false, beq_self_eq_true, beq_ft, beq_tf, notNil, Bool.not_true, Bool.not_false, reduceCtorEq, abuiltin, aextract] <;> exact rfl) ?_
  dsimp only [after, leaving]
  repeat refine Wp.seq ?_
  refine Wp.block ?_
  repeat refine Wp.seq ?_
  refine Wp.runS (by simp only [runS, stepO, stepW, stepV, keep, guardOf, wantG, wantV, aop, binA, aev, flat, if_true, if_false, Option.bind_some, Option.map_some, Frm.put, look, setk, Nat.reduceLT, Nat.reduceEqDiff, evs, evp, evo, List.getElem?_toArray, List.getElem?_cons_succ, List.getElem?_cons_zero, Bool.false_eq_true, Bool.true_eq_false, beq_self_eq_true, beq_ft, beq_tf, notNil, Bool.not_true, Bool.not_false, reduceCtorEq, abuiltin, aextract, abin_ptr_nil Try.underlying26, Option.isNone] <;> exact rfl) ?_
  dsimp only [after, leaving]
  repeat refine Wp.seq ?_
  refine Wp.condT (by simp only [runS, stepO, stepW, stepV, keep, guardOf, wantG, wantV, aop, binA, aev, flat, if_true, if_false, Option.bind_some, Option.map_some, Frm.put, look, setk, Nat.reduceLT, Nat.reduceEqDiff, evs, evp, evo, List.getElem?_toArray, List.getElem?_cons_succ, List.getElem?_cons_zero, Bool.false_eq_true, Bool.true_eq_false, beq_self_eq_true, beq_ft, beq_tf, notNil, Bool.not_true, Bool.not_false, reduceCtorEq, abuiltin, aextract]) ?_
  repeat refine Wp.seq ?_
  refine Wp.runS (by simp only [runS, stepO, stepW, stepV, keep, guardOf, wantG, wantV, aop, binA, aev, flat, if_true, if_false, Option.bind_some, Option.map_some, Frm.put, look, setk, Nat.reduceLT, Nat.reduceEqDiff, evs, evp, evo, List.getElem?_toArray, List.getElem?_cons_succ, List.getElem?_cons_zero, Bool.false_eq_true, Bool.true_eq_false, beq_self_eq_true, beq_ft, beq_tf, notNil, Bool.not_true, Bool.not_false, reduceCtorEq, abuiltin, aextract] <;> exact rfl) ?_
  dsimp only [after, leaving]
  repeat refine Wp.seq ?_
  refine Wp.ret ?_
  dsimp only [after, leaving]
  exact ⟨rfl, rfl, _, rfl, rfl, rfl⟩

theorem from_spec (G : Nat) (h : Heap) (i : Nat) (ks : Nat → UInt8) (lim : Nat) (T : List UInt8) (at' most : Int) (h1 : 1 ≤ lim) (h2 : lim ≤ 1024) (hT : T.length ≤ 2000000) (hg : h.get i = some (ringRow ks lim T.length)) (hk : Kept ks lim T) :
    Does Try.prog G NoExt 13 [.pointer (some ⟨i, 0, none⟩), .int .i64 at', .int .i64 most] h (fun r h' => r = .returned (tellV T lim at' most) ∧ h.more h') := by
  refine Does.body Try.func13 rfl ?_
  have hn : enterF Try.f13 [.pointer (some ⟨i, 0, none⟩), .int .i64 at', .int .i64 most] = ⟨64, [(0, .pointer (some ⟨i, 0, none⟩)), (1, .int .i64 at'), (2, .int .i64 most)], []⟩ := rfl
  rw [hn]; clear hn
  repeat refine Wp.seq ?_
  refine Wp.runS (by simp only [runS, stepO, stepW, stepV, keep, guardOf, wantG, wantV, aop, binA, aev, flat, if_true, if_false, Option.bind_some, Option.map_some, Frm.put, look, setk, Nat.reduceLT, Nat.reduceEqDiff, evs, evp, evo, List.getElem?_toArray, List.getElem?_cons_succ, List.getElem?_cons_zero, Bool.false_eq_true, Bool.true_eq_false, beq_self_eq_true, beq_ft, beq_tf, notNil, Bool.not_true, Bool.not_false, reduceCtorEq, abuiltin, aextract] <;> exact rfl) ?_
  dsimp only [after, leaving]
  refine Wp.join (fun fr u h' => u = none ∧ h = h' ∧ ¬ ((T.length : Int) < at') ∧ ¬ (most < 0) ∧ ∃ s, fr = ⟨64, s, []⟩ ∧ look 0 s = some (.pointer (some ⟨i, 0, none⟩)) ∧ look 1 s = some (.int .i64 at') ∧ look 2 s = some (.int .i64 most)) ?_ ?_
  · rintro fr u h' ⟨rfl, rfl, hc, hn, s, rfl, s0, s1, s2⟩
    refine Wp.weaken (fr' := ⟨64, [(0, .pointer (some ⟨i, 0, none⟩)), (1, .int .i64 at'), (2, .int .i64 most)], []⟩) (Frm.le_of ⟨s0, s1, s2, trivial⟩) ?_
    have ht : tell T lim at' most = ((T.drop (max at'.toNat (T.length - lim))).take most.toNat, ((max at'.toNat (T.length - lim) : Nat) : Int), 0) := by unfold tell; rw [if_neg (by omega)]
    generalize hA : max at'.toNat (T.length - lim) = A at ht
    have hmx : max at' ((T.length - lim : Nat) : Int) = (A : Int) := by omega
    have c16 : canEnter Try.prog 16 = true := by kernel_rfl
    repeat refine Wp.seq ?_
    refine Wp.regionAs (is := List.range' 0 2 ++ (2 :: (List.range' 3 2 ++ []))) rfl ?_
    refine WpO.runS 2 (by simp only [List.drop_succ_cons, List.drop_zero, List.take_succ_cons, List.take_zero, runS, stepO, stepW, stepV, keep, guardOf, wantG, wantV, aop, binA, aev, flat, if_true, if_false, Option.bind_some, Option.map_some, Frm.put, look, setk, Nat.reduceLT, Nat.reduceEqDiff, evs, evp, evo, List.getElem?_toArray, List.getElem?_cons_succ, List.getElem?_cons_zero, Bool.false_eq_true, Bool.true_eq_false, beq_self_eq_true, beq_ft, beq_tf, notNil, Bool.not_true, Bool.not_false, reduceCtorEq, abuiltin, aextract] <;> exact rfl) (by decide) ?_
    refine WpO.callR (first_spec G h i ks lim T.length h2 hT hg) rfl (by simp only [runS, stepO, stepW, stepV, keep, guardOf, wantG, wantV, aop, binA, aev, flat, if_true, if_false, Option.bind_some, Option.map_some, Frm.put, look, setk, Nat.reduceLT, Nat.reduceEqDiff, evs, evp, evo, List.getElem?_toArray, List.getElem?_cons_succ, List.getElem?_cons_zero, Bool.false_eq_true, Bool.true_eq_false, beq_self_eq_true, beq_ft, beq_tf, notNil, Bool.not_true, Bool.not_false, reduceCtorEq, abuiltin, aextract, c16]) (by simp only [calleeOf, fnOf, List.append_nil, List.nil_append, runS, stepO, stepW, stepV, keep, guardOf, wantG, wantV, aop, binA, aev, flat, if_true, if_false, Option.bind_some, Option.map_some, Frm.put, look, setk, Nat.reduceLT, Nat.reduceEqDiff, evs, evp, evo, List.getElem?_toArray, List.getElem?_cons_succ, List.getElem?_cons_zero, Bool.false_eq_true, Bool.true_eq_false, beq_self_eq_true, beq_ft, beq_tf, notNil, Bool.not_true, Bool.not_false, reduceCtorEq, abuiltin, aextract, c16] <;> exact rfl) ?_
    rintro _ h9 ⟨rfl, hh9⟩
    obtain rfl := hh9.symm
    clear hh9
    refine ⟨_, _, rfl, by simp only [runS, stepO, stepW, stepV, keep, guardOf, wantG, wantV, aop, binA, aev, flat, if_true, if_false, Option.bind_some, Option.map_some, Frm.put, look, setk, Nat.reduceLT, Nat.reduceEqDiff, evs, evp, evo, List.getElem?_toArray, List.getElem?_cons_succ, List.getElem?_cons_zero, Bool.false_eq_true, Bool.true_eq_false, beq_self_eq_true, beq_ft, beq_tf, notNil, Bool.not_true, Bool.not_false, reduceCtorEq, abuiltin, aextract]; exact rfl, ?_⟩
    refine WpO.runS 2 (by simp only [List.drop_succ_cons, List.drop_zero, List.take_succ_cons, List.take_zero, runS, stepO, stepW, stepV, keep, guardOf, wantG, wantV, aop, binA, aev, flat, if_true, if_false, Option.bind_some, Option.map_some, Frm.put, look, setk, Nat.reduceLT, Nat.reduceEqDiff, evs, evp, evo, List.getElem?_toArray, List.getElem?_cons_succ, List.getElem?_cons_zero, Bool.false_eq_true, Bool.true_eq_false, beq_self_eq_true, beq_ft, beq_tf, notNil, Bool.not_true, Bool.not_false, reduceCtorEq, abuiltin, aextract, amm_two, hmx] <;> exact rfl) (by decide) ?_
    refine WpO.nil ?_
    dsimp only [after, leaving]
    have hwr : IntKind.i64.wrap ((T.length : Int) - (A : Int)) = ((T.length - A : Nat) : Int) := by rw [wrap_in (by omega) (by omega)]; omega
    generalize hN : min most.toNat (T.length - A) = N
    have hmn : min most ((T.length - A : Nat) : Int) = (N : Int) := by omega
    repeat refine Wp.seq ?_
    refine Wp.runS (by simp only [runS, stepO, stepW, stepV, keep, guardOf, wantG, wantV, aop, binA, aev, flat, if_true, if_false, Option.bind_some, Option.map_some, Frm.put, look, setk, Nat.reduceLT, Nat.reduceEqDiff, evs, evp, evo, List.getElem?_toArray, List.getElem?_cons_succ, List.getElem?_cons_zero, Bool.false_eq_true, Bool.true_eq_false, beq_self_eq_true, beq_ft, beq_tf, notNil, Bool.not_true, Bool.not_false, reduceCtorEq, abuiltin, aextract, fa2, Nat.zero_add, aload_cell agg3, Heap.ld_of hg (ringVs_end ks lim T.length), abin_int, ai_sub, hwr, amm_two, hmn] <;> exact rfl) ?_
    dsimp only [after, leaving]
    repeat refine Wp.seq ?_
    refine Wp.runS (by simp only [runS, stepO, stepW, stepV, keep, guardOf, wantG, wantV, aop, binA, aev, flat, if_true, if_false, Option.bind_some, Option.map_some, Frm.put, look, setk, Nat.reduceLT, Nat.reduceEqDiff, evs, evp, evo, List.getElem?_toArray, List.getElem?_cons_succ, List.getElem?_cons_zero, Bool.false_eq_true, Bool.true_eq_false, beq_self_eq_true, beq_ft, beq_tf, notNil, Bool.not_true, Bool.not_false, reduceCtorEq, abuiltin, aextract, make42 h N (by omega)] <;> exact rfl) ?_
    dsimp only [after, leaving]
    repeat refine Wp.seq ?_
    refine Wp.runS (by simp only [runS, stepO, stepW, stepV, keep, guardOf, wantG, wantV, aop, binA, aev, flat, if_true, if_false, Option.bind_some, Option.map_some, Frm.put, look, setk, Nat.reduceLT, Nat.reduceEqDiff, evs, evp, evo, List.getElem?_toArray, List.getElem?_cons_succ, List.getElem?_cons_zero, Bool.false_eq_true, Bool.true_eq_false, beq_self_eq_true, beq_ft, beq_tf, notNil, Bool.not_true, Bool.not_false, reduceCtorEq, abuiltin, aextract] <;> exact rfl) ?_
    dsimp only [after, leaving]
    generalize hR : (T.drop A).take most.toNat = R at ht
    have hRN : R.length = N := by rw [← hR]; simp only [List.length_take, List.length_drop]; omega
    refine Wp.cut (fun fr u h' => u = none ∧ h.more h' ∧ h'.get h.next = some (bufRow R N) ∧ ∃ s, fr = ⟨64, s, []⟩ ∧ look 10 s = some (.slice (some ⟨h.next, 0, none⟩) N N) ∧ look 1 s = some (.int .i64 (A : Nat))) ?_ ?_
    · rintro fr u h' ⟨rfl, hmore, hbuf, s, rfl, s10, s1⟩
      dsimp only [after, leaving]
      refine Wp.weaken (fr' := ⟨64, [(10, .slice (some ⟨h.next, 0, none⟩) N N), (1, .int .i64 (A : Nat))], []⟩) (Frm.le_of ⟨s10, s1, trivial⟩) ?_
      have hcv := conv_buf hbuf
      rw [hRN] at hcv
      repeat refine Wp.seq ?_
      refine Wp.runS (by simp only [runS, stepO, stepW, stepV, keep, guardOf, wantG, wantV, aop, binA, aev, flat, if_true, if_false, Option.bind_some, Option.map_some, Frm.put, look, setk, Nat.reduceLT, Nat.reduceEqDiff, evs, evp, evo, List.getElem?_toArray, List.getElem?_cons_succ, List.getElem?_cons_zero, Bool.false_eq_true, Bool.true_eq_false, beq_self_eq_true, beq_ft, beq_tf, notNil, Bool.not_true, Bool.not_false, reduceCtorEq, abuiltin, aextract, noconv, hcv] <;> exact rfl) ?_
      dsimp only [after, leaving]
      repeat refine Wp.seq ?_
      refine Wp.ret ?_
      dsimp only [after, leaving]
      exact ⟨rfl, rfl, _, rfl, by unfold tellV; rw [ht], hmore⟩
    · refine Wp.block ?_
      refine Wp.loopI (X := Heap × Nat) (fun x => [(0, .pointer (some ⟨i, 0, none⟩)), (1, .int .i64 (A : Nat)), (40, .int .i64 (N : Nat)), (41, .int .i64 (x.2 : Nat)), (10, .slice (some ⟨h.next, 0, none⟩) x.2 N)]) (fun x => x.1)
        (fun x => x.2 ≤ N ∧ h.more x.1 ∧ x.1.get h.next = some (bufRow (R.take x.2) N)) (fun x => N - x.2) (h.alloc (bufRow [] N), 0) ⟨by dsimp only; omega, Heap.more_alloc _ _, by simp [Heap.get_alloc_new]⟩ ⟨rfl, rfl, rfl, rfl, rfl, trivial⟩ rfl ?_
      rintro ⟨H, j⟩ ⟨hj, hmore, hbuf⟩
      dsimp only at hj hmore hbuf ⊢
      repeat refine Wp.seq ?_
      refine Wp.runS (by simp only [runS, stepO, stepW, stepV, keep, guardOf, wantG, wantV, aop, binA, aev, flat, if_true, if_false, Option.bind_some, Option.map_some, Frm.put, look, setk, Nat.reduceLT, Nat.reduceEqDiff, evs, evp, evo, List.getElem?_toArray, List.getElem?_cons_succ, List.getElem?_cons_zero, Bool.false_eq_true, Bool.true_eq_false, beq_self_eq_true, beq_ft, beq_tf, notNil, Bool.not_true, Bool.not_false, reduceCtorEq, abuiltin, aextract, abin_int, ai_lss] <;> exact rfl) ?_
      dsimp only [after, leaving]
      by_cases hlt : (j : Int) < (N : Int)
      · repeat refine Wp.seq ?_
        refine Wp.condT (by simp only [runS, stepO, stepW, stepV, keep, guardOf, wantG, wantV, aop, binA, aev, flat, if_true, if_false, Option.bind_some, Option.map_some, Frm.put, look, setk, Nat.reduceLT, Nat.reduceEqDiff, evs, evp, evo, List.getElem?_toArray, List.getElem?_cons_succ, List.getElem?_cons_zero, Bool.false_eq_true, Bool.true_eq_false, beq_self_eq_true, beq_ft, beq_tf, notNil, Bool.not_true, Bool.not_false, reduceCtorEq, abuiltin, aextract, decide_eq_true hlt]) ?_
        repeat refine Wp.seq ?_
        refine Wp.skip ?_
        dsimp only [after, leaving]
        refine Wp.join (fun fr u h' => u = none ∧ h.more h' ∧ h'.get h.next = some (bufRow (R.take (j + 1)) N) ∧ ∃ s, fr = ⟨64, s, []⟩ ∧ look 10 s = some (.slice (some ⟨h.next, 0, none⟩) (j + 1) N) ∧ look 0 s = some (.pointer (some ⟨i, 0, none⟩)) ∧ look 1 s = some (.int .i64 (A : Nat)) ∧ look 40 s = some (.int .i64 (N : Nat)) ∧ look 41 s = some (.int .i64 (j : Nat))) ?_ ?_
        · rintro fr u h' ⟨rfl, hmore, hbuf, s, rfl, s10, s0, s1, s40, s41⟩
          have hwj : IntKind.i64.wrap ((j : Int) + 1) = ((j + 1 : Nat) : Int) := by rw [wrap_in (by omega) (by omega)]; omega
          refine Wp.weaken (fr' := ⟨64, [(10, .slice (some ⟨h.next, 0, none⟩) (j + 1) N), (0, .pointer (some ⟨i, 0, none⟩)), (1, .int .i64 (A : Nat)), (40, .int .i64 (N : Nat)), (41, .int .i64 (j : Nat))], []⟩) (Frm.le_of ⟨s10, s0, s1, s40, s41, trivial⟩) ?_
          repeat refine Wp.seq ?_
          refine Wp.runS (by simp only [runS, stepO, stepW, stepV, keep, guardOf, wantG, wantV, aop, binA, aev, flat, if_true, if_false, Option.bind_some, Option.map_some, Frm.put, look, setk, Nat.reduceLT, Nat.reduceEqDiff, evs, evp, evo, List.getElem?_toArray, List.getElem?_cons_succ, List.getElem?_cons_zero, Bool.false_eq_true, Bool.true_eq_false, beq_self_eq_true, beq_ft, beq_tf, notNil, Bool.not_true, Bool.not_false, reduceCtorEq, abuiltin, aextract, abin_int, ai_add, hwj] <;> exact rfl) ?_
          dsimp only [after, leaving]
          refine ⟨(h', j + 1), _, ⟨by dsimp only; omega, hmore, hbuf⟩, by dsimp only; omega, rfl, ⟨rfl, rfl, rfl, rfl, rfl, trivial⟩, rfl, rfl⟩
        · refine Wp.block ?_
          repeat refine Wp.seq ?_
          refine Wp.runS (by simp only [runS, stepO, stepW, stepV, keep, guardOf, wantG, wantV, aop, binA, aev, flat, if_true, if_false, Option.bind_some, Option.map_some, Frm.put, look, setk, Nat.reduceLT, Nat.reduceEqDiff, evs, evp, evo, List.getElem?_toArray, List.getElem?_cons_succ, List.getElem?_cons_zero, Bool.false_eq_true, Bool.true_eq_false, beq_self_eq_true, beq_ft, beq_tf, notNil, Bool.not_true, Bool.not_false, reduceCtorEq, abuiltin, aextract] <;> exact rfl) ?_
          dsimp only [after, leaving]
          have hgH := hmore.get hg
          have hwaj : IntKind.i64.wrap ((A : Int) + (j : Int)) = ((A + j : Nat) : Int) := by rw [wrap_in (by omega) (by omega)]; omega
          have hrem : (((A + j : Nat) : Int)).tmod (lim : Int) = (((A + j) % lim : Nat) : Int) := by rw [Int.ofNat_tmod]
          have hll : ¬ (lim : Int) = 0 := by omega
          have hm : (A + j) % lim < lim := Nat.mod_lt _ (by omega)
          have hix : aindexAddr Try.prog 45 (.pointer (some ⟨i, 0, none⟩)) (.int .i64 (((A + j) % lim : Nat) : Int)) = some (.pointer (some ⟨i, (A + j) % lim, none⟩)) := by
            rw [aindexAddr_array Try.underlying45 sz5 (by omega) (by omega)]
            simp only [Int.toNat_natCast, Nat.mul_one, Nat.zero_add]
          have hbuf2 : (H.alloc (.row { vs := [byteV (ks ((A + j) % lim))], elem := 5 })).get h.next = some (bufRow (R.take j) N) := by
            rw [Heap.get_alloc_old _ _ (Heap.lt_of_get hbuf)]; exact hbuf
          have hlen : (R.take j).length = j := by rw [List.length_take]; omega
          have hap := app_slice hbuf2 (Heap.get_alloc_new H _) (by omega)
          rw [hlen] at hap
          have hnext : R.take j ++ [ks ((A + j) % lim)] = R.take (j + 1) := by
            rw [List.take_add_one]
            refine congrArg (fun z => R.take j ++ z) ?_
            have hjR : j < R.length := by omega
            have : R[j]? = T[A + j]? := by rw [← hR, List.getElem?_take, if_pos (by omega), List.getElem?_drop]
            rw [this, hk (A + j) (by omega) (by omega)]
            simp only [Option.toList_some]
          rw [hnext] at hap
          repeat refine Wp.seq ?_
          refine Wp.runSD mixed (by kernel_rfl) (by simp only [runSD, stepOD, stepWD, stepVD, isLoud, isPure, isReader, decide_true, Bool.or_true, Bool.true_or, Bool.or_self, Bool.and_self, Bool.and_true, Bool.and_false, Heap.next_set, Heap.next_alloc, runS, stepO, stepW, stepV, keep, guardOf, wantG, wantV, aop, binA, aev, flat, if_true, if_false, Option.bind_some, Option.map_some, Frm.put, look, setk, Nat.reduceLT, Nat.reduceEqDiff, evs, evp, evo, List.getElem?_toArray, List.getElem?_cons_succ, List.getElem?_cons_zero, Bool.false_eq_true, Bool.true_eq_false, beq_self_eq_true, beq_ft, beq_tf, notNil, Bool.not_true, Bool.not_false, reduceCtorEq, abuiltin, aextract, abin_int, ai_add, ai_rem hll, hwaj, hrem, fa0, fa1, Nat.zero_add, aload_cell agg3, aload_cell agg5, Heap.ld_of hgH (ringVs_lim ks lim T.length), hix, Heap.ld_of hgH (ringVs_kept ks lim T.length (show (A + j) % lim < 1024 by omega)), build42, hap] <;> exact rfl) ?_
          dsimp only [after, leaving]
          refine ⟨rfl, ?_, ?_, _, rfl, rfl, rfl, rfl, rfl, rfl⟩
          · exact Heap.more_set_new (hmore.trans (Heap.more_alloc _ _)) (Nat.le_refl _) _
          · exact Heap.get_set_self hbuf2
      · repeat refine Wp.seq ?_
        refine Wp.condF (by simp only [runS, stepO, stepW, stepV, keep, guardOf, wantG, wantV, aop, binA, aev, flat, if_true, if_false, Option.bind_some, Option.map_some, Frm.put, look, setk, Nat.reduceLT, Nat.reduceEqDiff, evs, evp, evo, List.getElem?_toArray, List.getElem?_cons_succ, List.getElem?_cons_zero, Bool.false_eq_true, Bool.true_eq_false, beq_self_eq_true, beq_ft, beq_tf, notNil, Bool.not_true, Bool.not_false, reduceCtorEq, abuiltin, aextract, decide_eq_false hlt]) ?_
        repeat refine Wp.seq ?_
        refine Wp.exit ?_
        simp only [after, leaving, blockExit, if_true, if_false, Nat.reduceEqDiff]
        obtain rfl : j = N := by omega
        have : R.take R.length = R := List.take_length
        rw [hRN] at this
        rw [this] at hbuf
        refine ⟨trivial, hmore, hbuf, _, rfl, rfl, rfl⟩
  · refine Wp.block ?_
    repeat refine Wp.seq ?_
    refine Wp.runS (by simp only [runS, stepO, stepW, stepV, keep, guardOf, wantG, wantV, aop, binA, aev, flat, if_true, if_false, Option.bind_some, Option.map_some, Frm.put, look, setk, Nat.reduceLT, Nat.reduceEqDiff, evs, evp, evo, List.getElem?_toArray, List.getElem?_cons_succ, List.getElem?_cons_zero, Bool.false_eq_true, Bool.true_eq_false, beq_self_eq_true, beq_ft, beq_tf, notNil, Bool.not_true, Bool.not_false, reduceCtorEq, abuiltin, aextract, abin_ptr_nil Try.underlying26, Option.isNone] <;> exact rfl) ?_
    dsimp only [after, leaving]
    repeat refine Wp.seq ?_
    refine Wp.condF (by simp only [runS, stepO, stepW, stepV, keep, guardOf, wantG, wantV, aop, binA, aev, flat, if_true, if_false, Option.bind_some, Option.map_some, Frm.put, look, setk, Nat.reduceLT, Nat.reduceEqDiff, evs, evp, evo, List.getElem?_toArray, List.getElem?_cons_succ, List.getElem?_cons_zero, Bool.false_eq_true, Bool.true_eq_false, beq_self_eq_true, beq_ft, beq_tf, notNil, Bool.not_true, Bool.not_false, reduceCtorEq, abuiltin, aextract]) ?_
    by_cases hc : (T.length : Int) < at'
    · repeat refine Wp.seq ?_
      refine Wp.runS (by simp only [runS, stepO, stepW, stepV, keep, guardOf, wantG, wantV, aop, binA, aev, flat, if_true, if_false, Option.bind_some, Option.map_some, Frm.put, look, setk, Nat.reduceLT, Nat.reduceEqDiff, evs, evp, evo, List.getElem?_toArray, List.getElem?_cons_succ, List.getElem?_cons_zero, Bool.false_eq_true, Bool.true_eq_false, beq_self_eq_true, beq_ft, beq_tf, notNil, Bool.not_true, Bool.not_false, reduceCtorEq, abuiltin, aextract, fa2, Nat.zero_add, aload_cell agg3, Heap.ld_of hg (ringVs_end ks lim T.length), abin_int, ai_gtr, ai_lss, decide_eq_true hc] <;> exact rfl) ?_
      dsimp only [after, leaving]
      repeat refine Wp.seq ?_
      refine Wp.condT (by simp only [runS, stepO, stepW, stepV, keep, guardOf, wantG, wantV, aop, binA, aev, flat, if_true, if_false, Option.bind_some, Option.map_some, Frm.put, look, setk, Nat.reduceLT, Nat.reduceEqDiff, evs, evp, evo, List.getElem?_toArray, List.getElem?_cons_succ, List.getElem?_cons_zero, Bool.false_eq_true, Bool.true_eq_false, beq_self_eq_true, beq_ft, beq_tf, notNil, Bool.not_true, Bool.not_false, reduceCtorEq, abuiltin, aextract]) ?_
      repeat refine Wp.seq ?_
      refine Wp.runS (by simp only [runS, stepO, stepW, stepV, keep, guardOf, wantG, wantV, aop, binA, aev, flat, if_true, if_false, Option.bind_some, Option.map_some, Frm.put, look, setk, Nat.reduceLT, Nat.reduceEqDiff, evs, evp, evo, List.getElem?_toArray, List.getElem?_cons_succ, List.getElem?_cons_zero, Bool.false_eq_true, Bool.true_eq_false, beq_self_eq_true, beq_ft, beq_tf, notNil, Bool.not_true, Bool.not_false, reduceCtorEq, abuiltin, aextract] <;> exact rfl) ?_
      dsimp only [after, leaving]
      repeat refine Wp.seq ?_
      refine Wp.ret ?_
      dsimp only [after, leaving]
      exact ⟨rfl, rfl, _, rfl, by simp [tellV, tell, hc]; rfl, Heap.more_refl _⟩
    by_cases hn : most < 0
    · repeat refine Wp.seq ?_
      refine Wp.runS (by simp only [runS, stepO, stepW, stepV, keep, guardOf, wantG, wantV, aop, binA, aev, flat, if_true, if_false, Option.bind_some, Option.map_some, Frm.put, look, setk, Nat.reduceLT, Nat.reduceEqDiff, evs, evp, evo, List.getElem?_toArray, List.getElem?_cons_succ, List.getElem?_cons_zero, Bool.false_eq_true, Bool.true_eq_false, beq_self_eq_true, beq_ft, beq_tf, notNil, Bool.not_true, Bool.not_false, reduceCtorEq, abuiltin, aextract, fa2, Nat.zero_add, aload_cell agg3, Heap.ld_of hg (ringVs_end ks lim T.length), abin_int, ai_gtr, ai_lss, decide_eq_false hc, decide_eq_true hn] <;> exact rfl) ?_
      dsimp only [after, leaving]
      repeat refine Wp.seq ?_
      refine Wp.condT (by simp only [runS, stepO, stepW, stepV, keep, guardOf, wantG, wantV, aop, binA, aev, flat, if_true, if_false, Option.bind_some, Option.map_some, Frm.put, look, setk, Nat.reduceLT, Nat.reduceEqDiff, evs, evp, evo, List.getElem?_toArray, List.getElem?_cons_succ, List.getElem?_cons_zero, Bool.false_eq_true, Bool.true_eq_false, beq_self_eq_true, beq_ft, beq_tf, notNil, Bool.not_true, Bool.not_false, reduceCtorEq, abuiltin, aextract]) ?_
      repeat refine Wp.seq ?_
      refine Wp.runS (by simp only [runS, stepO, stepW, stepV, keep, guardOf, wantG, wantV, aop, binA, aev, flat, if_true, if_false, Option.bind_some, Option.map_some, Frm.put, look, setk, Nat.reduceLT, Nat.reduceEqDiff, evs, evp, evo, List.getElem?_toArray, List.getElem?_cons_succ, List.getElem?_cons_zero, Bool.false_eq_true, Bool.true_eq_false, beq_self_eq_true, beq_ft, beq_tf, notNil, Bool.not_true, Bool.not_false, reduceCtorEq, abuiltin, aextract] <;> exact rfl) ?_
      dsimp only [after, leaving]
      repeat refine Wp.seq ?_
      refine Wp.ret ?_
      dsimp only [after, leaving]
      exact ⟨rfl, rfl, _, rfl, by simp [tellV, tell, hn]; rfl, Heap.more_refl _⟩
    repeat refine Wp.seq ?_
    refine Wp.runS (by simp only [runS, stepO, stepW, stepV, keep, guardOf, wantG, wantV, aop, binA, aev, flat, if_true, if_false, Option.bind_some, Option.map_some, Frm.put, look, setk, Nat.reduceLT, Nat.reduceEqDiff, evs, evp, evo, List.getElem?_toArray, List.getElem?_cons_succ, List.getElem?_cons_zero, Bool.false_eq_true, Bool.true_eq_false, beq_self_eq_true, beq_ft, beq_tf, notNil, Bool.not_true, Bool.not_false, reduceCtorEq, abuiltin, aextract, fa2, Nat.zero_add, aload_cell agg3, Heap.ld_of hg (ringVs_end ks lim T.length), abin_int, ai_gtr, ai_lss, decide_eq_false hc, decide_eq_false hn] <;> exact rfl) ?_
    dsimp only [after, leaving]
    repeat refine Wp.seq ?_
    refine Wp.condF (by simp only [runS, stepO, stepW, stepV, keep, guardOf, wantG, wantV, aop, binA, aev, flat, if_true, if_false, Option.bind_some, Option.map_some, Frm.put, look, setk, Nat.reduceLT, Nat.reduceEqDiff, evs, evp, evo, List.getElem?_toArray, List.getElem?_cons_succ, List.getElem?_cons_zero, Bool.false_eq_true, Bool.true_eq_false, beq_self_eq_true, beq_ft, beq_tf, notNil, Bool.not_true, Bool.not_false, reduceCtorEq, abuiltin, aextract]) ?_
    repeat refine Wp.seq ?_
    refine Wp.skip ?_
    dsimp only [after, leaving]
    exact ⟨rfl, rfl, hc, hn, _, rfl, rfl, rfl, rfl⟩
end Go.Mini
