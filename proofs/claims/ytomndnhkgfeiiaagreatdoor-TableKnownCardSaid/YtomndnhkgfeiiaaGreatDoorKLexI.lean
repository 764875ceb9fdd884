/-
  LEX, part I: a token, walked.
-/
import Derived.Test.YtomndnhkgfeiiaaGreatDoorKLexH
import Derived.Test.YtomndnhkgfeiiaaGreatDoorMiniZE
set_option linter.unusedSimpArgs false
set_option maxHeartbeats 8000000
set_option maxRecDepth 100000
namespace Go.Mini
open Go.Proofs

theorem runP_le (p : UInt8 → Bool) (most : Nat) (T : List UInt8) (a : Nat) (ha : a ≤ T.length) : (runP p most T a).2.2 ≤ T.length := by
  have h1 := (List.takeWhile_prefix p (l := T.drop a)).length_le
  rw [List.length_drop] at h1
  unfold runP
  split
  · simp only []; omega
  · simp only []; omega
theorem peek_lt {T : List UInt8} {a : Nat} (h : peekB T a ≠ 10) : a < T.length := by
  rcases Nat.lt_or_ge a T.length with q | q
  · exact q
  · exfalso; apply h; unfold peekB; rw [List.getElem?_eq_none q]; rfl

theorem ai_mul {k : IntKind} {a b : Int} : abinI .mul k a k b = some (.int k (k.wrap (a * b))) := by simp [abinI]
theorem conv53 (n : Int) : aconv Tryz.prog 5 3 (.int .u8 n) = some (.int .i64 (IntKind.i64.wrap n)) := by unfold aconv; rw [Tryz.underlying3, Tryz.underlying5]
theorem numOf_lt : ∀ (w : List UInt8), (∀ b ∈ w, digitB b = true) → ∀ n, w.foldl (fun n b => 10 * n + (b.toNat - 48)) n < (n + 1) * 10 ^ w.length
  | [], _, n => by simp
  | b :: w, h, n => by
    have hb : b.toNat - 48 ≤ 9 := by have := h b (by simp); unfold digitB at this; simp only [Bool.and_eq_true, decide_eq_true_eq] at this; omega
    have := numOf_lt w (fun c hc => h c (by simp [hc])) (10 * n + (b.toNat - 48))
    rw [List.foldl_cons, List.length_cons, Nat.pow_succ]
    refine Nat.lt_of_lt_of_le this ?_
    rw [Nat.mul_comm (10 ^ w.length) 10, ← Nat.mul_assoc]
    exact Nat.mul_le_mul_right _ (by omega)
theorem runP_digits (T : List UInt8) (a : Nat) : (runP digitB 4 T a).1.length ≤ 4 ∧ ∀ b ∈ (runP digitB 4 T a).1, digitB b = true := by
  unfold runP
  split
  · simp
  · refine ⟨by simp only []; omega, fun b hb => ?_⟩
    simp only [] at hb
    exact List.all_eq_true.1 List.all_takeWhile b hb
/-- The place of which scan tells lies in the text. -/
def SR.place : SR → Nat
  | .bad k => k
  | .long k => k
  | .ok _ k => k + 1
theorem signAt_le (s : List UInt8) : match signAt s with | .inl j => j ≤ s.length | .inr (_, n) => n ≤ s.length := by
  cases s with
  | nil => simp [signAt]
  | cons c r =>
    rw [signAt_cons]
    by_cases h1 : c = 92
    · rw [if_pos h1]
      cases r with
      | nil => simp
      | cons e r =>
        simp only []
        by_cases h2 : escB e = true
        · rw [if_pos h2]
          by_cases h3 : e = 120
          · rw [if_pos h3]
            cases r with
            | nil => simp
            | cons hi r =>
              simp only []
              by_cases h4 : highB hi = true
              · rw [if_pos h4]
                cases r with
                | nil => simp
                | cons lo r =>
                  simp only []
                  by_cases h5 : lowB hi lo = true
                  · rw [if_pos h5]; simp
                  · rw [if_neg h5]; simp
              · rw [if_neg h4]; simp
          · rw [if_neg h3]; simp
        · rw [if_neg h2]; simp
    · rw [if_neg h1]
      by_cases h2 : plainB c = true
      · rw [if_pos h2]; simp
      · rw [if_neg h2]; simp
theorem scanF_le (most : Int) : ∀ (f : Nat) (s : List UInt8) (k : Nat) (o : List UInt8), (scanF most f s k o).place ≤ k + s.length
  | 0, s, k, o => by simp [scanF, SR.place]
  | f + 1, s, k, o => by
    unfold scanF
    split
    · simp [SR.place]
    · split
      · rename_i h
        cases s with
        | nil => cases h
        | cons c s => simp [SR.place]
      · have hs := signAt_le s
        split
        · rename_i j hj
          rw [hj] at hs
          simp only [SR.place]; omega
        · rename_i c n hj
          rw [hj] at hs
          have := scanF_le most f (s.drop n) (k + n) (o ++ [c])
          rw [List.length_drop] at this
          simp only [] at hs
          omega
theorem scanQ_le (most : Int) (T : List UInt8) : (scanQ most T).place ≤ T.length := by
  unfold scanQ
  split
  · rename_i h
    have := scanF_le most (T.length + 1) (T.drop 1) 1 []
    rw [List.length_drop] at this
    cases T with
    | nil => cases h
    | cons c T => simp only [List.length_cons] at this ⊢; omega
  · simp [SR.place]
theorem sign_region {G : Nat} {E : EXT} {ops : List Oper} {id : Nat} {u : Option FrameMode} {Q : Exit → Frm → Option FrameMode → Heap → Prop} (H : Heap) (y : Nat) (b : UInt8) (k n a : Nat) (s : List UInt8) (sl : List (Nat × Value))
    (hc : calm ops = true) (hlen : ops.length = 7) (ho : ops.map (fun o => (o.dst, o.op, o.guard)) = [(some 146, .move (.tmp 6), none), (some 147, .buildSlice 70 1 #[(0, .tmp 146)], none), (some 148, .convert 70 9 (.tmp 147), none), (some 149, .fieldAddr 217 (.tmp 4) 0, none),
      (none, .store 3 (.tmp 149) (.const (.int .i64 5)), none), (some 150, .fieldAddr 217 (.tmp 4) 1, none), (none, .store 9 (.tmp 150) (.tmp 148), none)])
    (he : (edge ops 2 1 && edge ops 6 4 && edge ops 6 1 && edge ops 6 2) = true)
    (l4 : look 4 sl = some (.pointer (some ⟨y, 0, none⟩))) (l6 : look 6 sl = some (byteV b)) (hy : H.get y = some (Tok.row ⟨k, s, n, a⟩))
    (hq : Q .normal ⟨172, setk 150 (.pointer (some ⟨y, 0 + 1, none⟩)) (setk 149 (.pointer (some ⟨y, 0, none⟩)) (setk 148 (.string (bs [b])) (setk 147 (.slice (some ⟨H.next, 0, none⟩) 1 1) (setk 146 (byteV b) sl)))), []⟩ u ((H.set y (Tok.row ⟨5, [b], n, a⟩)).alloc (.row { vs := [byteV b], elem := 5 }))) :
    Wp Tryz.prog G E (.region id ops.toArray true) ⟨172, sl, []⟩ u H Q := by
  simp only [Bool.and_eq_true] at he
  obtain ⟨⟨⟨e21, e64⟩, e61⟩, e62⟩ := he
  have hylt := Heap.lt_of_get hy
  have get : ∀ i o, ops[i]? = some o → i < 7 ∧ [(some 146, Op.move (.tmp 6), (none : Option (Nat × Bool))), (some 147, .buildSlice 70 1 #[(0, .tmp 146)], none), (some 148, .convert 70 9 (.tmp 147), none), (some 149, .fieldAddr 217 (.tmp 4) 0, none),
      (none, .store 3 (.tmp 149) (.const (.int .i64 5)), none), (some 150, .fieldAddr 217 (.tmp 4) 1, none), (none, .store 9 (.tmp 150) (.tmp 148), none)][i]? = some (o.dst, o.op, o.guard) := by
    intro i o h
    refine ⟨by have := lt_length h; omega, ?_⟩
    rw [← ho, List.getElem?_map, h]; rfl
  let V : Nat → Value := fun i => match i with | 0 => byteV b | 1 => .slice (some ⟨H.next, 0, none⟩) 1 1 | 2 => .string (bs [b]) | 3 => .pointer (some ⟨y, 0, none⟩) | 5 => .pointer (some ⟨y, 0 + 1, none⟩) | _ => undef
  let K : (Nat → Bool) → Heap := fun L => if L 6 then H.set y (Tok.row ⟨5, [b], n, a⟩) else if L 4 then H.set y (Tok.row ⟨5, s, n, a⟩) else H
  let HS : (Nat → Bool) → Heap := fun L => if L 1 then (K L).alloc (.row { vs := [byteV b], elem := 5 }) else K L
  let S : Nat → List (Nat × Value) := fun i => match i with | 0 => sl | 1 => setk 146 (byteV b) sl | 2 => setk 147 (.slice (some ⟨H.next, 0, none⟩) 1 1) (setk 146 (byteV b) sl) | 3 => setk 148 (.string (bs [b])) (setk 147 (.slice (some ⟨H.next, 0, none⟩) 1 1) (setk 146 (byteV b) sl)) | 4 => setk 149 (.pointer (some ⟨y, 0, none⟩)) (setk 148 (.string (bs [b])) (setk 147 (.slice (some ⟨H.next, 0, none⟩) 1 1) (setk 146 (byteV b) sl))) | 5 => setk 149 (.pointer (some ⟨y, 0, none⟩)) (setk 148 (.string (bs [b])) (setk 147 (.slice (some ⟨H.next, 0, none⟩) 1 1) (setk 146 (byteV b) sl))) | _ => setk 150 (.pointer (some ⟨y, 0 + 1, none⟩)) (setk 149 (.pointer (some ⟨y, 0, none⟩)) (setk 148 (.string (bs [b])) (setk 147 (.slice (some ⟨H.next, 0, none⟩) 1 1) (setk 146 (byteV b) sl))))
  have hKn : ∀ L, (K L).next = H.next := by
    intro L
    simp only [K]
    repeat' split
    all_goals simp
  have want : ∀ (o : Oper) (F : Frm), o.guard = none → awanted ops.toArray F o = some true := fun o F h => by unfold awanted; rw [h]
  have hd : Drawn Tryz.prog G E ops V HS (fun i => ⟨172, S i, []⟩) := {
    back := calm_back hc
    slot := calm_slot hc
    ext := by
      intro L L' h
      have h1 := h 1 (by omega)
      have h4 := h 4 (by omega)
      have h6 := h 6 (by omega)
      simp only [HS, K, h1, h4, h6]
    put := by
      intro i o h
      obtain ⟨hi, h⟩ := get i o h
      match i, hi with
      | 0, _ | 1, _ | 2, _ | 3, _ | 4, _ | 5, _ | 6, _ =>
        simp only [List.getElem?_cons_succ, List.getElem?_cons_zero, Option.some.injEq, Prod.mk.injEq] at h
        rw [← h.1]
        rfl
    st := by
      intro L i o hL h hnot hpre
      obtain ⟨hi, h'⟩ := get i o h
      match i, hi with
      | 0, _ =>
        simp only [List.getElem?_cons_succ, List.getElem?_cons_zero, Option.some.injEq, Prod.mk.injEq] at h'
        obtain ⟨hd, hop, hgd⟩ := h'
        refine .val (want o _ hgd.symm) ?_
        unfold aop; rw [← hop]
        simp only [aev, S, l6, Option.bind_some, V]
        rfl
      | 1, _ =>
        simp only [List.getElem?_cons_succ, List.getElem?_cons_zero, Option.some.injEq, Prod.mk.injEq] at h'
        obtain ⟨hd, hop, hgd⟩ := h'
        refine .val (want o _ hgd.symm) ?_
        refine aop_bslice hop.symm (ps := [(0, byteV b)]) (by simp only [evp, aev, S, look_setk, if_true, Option.bind_some]) ?_
        have hH : HS L = K L := by simp only [HS, hnot, Bool.false_eq_true, if_false]
        have hH2 : HS (also L 1) = (K L).alloc (.row { vs := [byteV b], elem := 5 }) := by
          simp only [HS, K, also, if_true]
          rfl
        rw [hH, hH2, abuildSlice_one Tryz.underlying70 elem5 (by omega) rfl, hKn]
        rfl
      | 2, _ =>
        simp only [List.getElem?_cons_succ, List.getElem?_cons_zero, Option.some.injEq, Prod.mk.injEq] at h'
        obtain ⟨hd, hop, hgd⟩ := h'
        have hL1 := edge_met e21 h hpre
        have hH : HS L = (K L).alloc (.row { vs := [byteV b], elem := 5 }) := by simp only [HS, hL1, if_true]
        have hH2 : HS (also L 2) = (K L).alloc (.row { vs := [byteV b], elem := 5 }) := by
          have : also L 2 1 = true := hL1
          simp only [HS, this, if_true]
          rfl
        obtain ⟨q1, q2⟩ := conv_one (P := Tryz.prog) (h := (K L).alloc (.row { vs := [byteV b], elem := 5 })) (i := H.next) (g := 5) (b := b) Tryz.underlying70 Tryz.underlying9 Tryz.underlying5 (by rw [← hKn L]; exact Heap.get_alloc_new _ _)
        refine .val (want o _ hgd.symm) ?_
        rw [hH, hH2]
        exact aop_convB hop.symm (by simp only [aev, S, look_setk, if_true]) q1 q2
      | 3, _ =>
        simp only [List.getElem?_cons_succ, List.getElem?_cons_zero, Option.some.injEq, Prod.mk.injEq] at h'
        obtain ⟨hd, hop, hgd⟩ := h'
        refine .val (want o _ hgd.symm) ?_
        unfold aop; rw [← hop]
        simp only [aev, S, look_setk, Nat.reduceEqDiff, if_false, l4, Option.bind_some, t0, V]
        rfl
      | 4, _ =>
        simp only [List.getElem?_cons_succ, List.getElem?_cons_zero, Option.some.injEq, Prod.mk.injEq] at h'
        obtain ⟨hd, hop, hgd⟩ := h'
        have hL6 : L 6 = false := by
          cases q : L 6 with
          | false => rfl
          | true =>
            obtain ⟨o6, ho6⟩ : ∃ o6, ops[6]? = some o6 := ⟨_, List.getElem?_eq_getElem (by omega)⟩
            have := edge_met e64 ho6 (hL 6 o6 ho6 q)
            rw [hnot] at this; cases this
        refine .skip (want o _ hgd.symm) ?_
        refine aop_store hop.symm (p := .pointer (some ⟨y, 0, none⟩)) (v := .int .i64 5) (by simp only [aev, S, look_setk, if_true]) rfl ?_
        have a1 : also L 4 6 = false := hL6
        have a2 : also L 4 4 = true := rfl
        have a3 : also L 4 1 = L 1 := rfl
        cases q : L 1 with
        | false =>
          simp only [HS, K, hL6, hnot, q, a1, a2, a3, Bool.false_eq_true, if_false, if_true]
          exact tok_kind' hy 5 5 rfl
        | true =>
          simp only [HS, K, hL6, hnot, q, a1, a2, a3, Bool.false_eq_true, if_false, if_true]
          have hy2 : (H.alloc (.row { vs := [byteV b], elem := 5 })).get y = some (Tok.row ⟨k, s, n, a⟩) := by rw [Heap.get_alloc_old _ _ hylt]; exact hy
          rw [tok_kind' hy2 5 5 rfl, Heap.alloc_set _ _ _ hylt]
      | 5, _ =>
        simp only [List.getElem?_cons_succ, List.getElem?_cons_zero, Option.some.injEq, Prod.mk.injEq] at h'
        obtain ⟨hd, hop, hgd⟩ := h'
        refine .val (want o _ hgd.symm) ?_
        unfold aop; rw [← hop]
        simp only [aev, S, look_setk, Nat.reduceEqDiff, if_false, l4, Option.bind_some, t1, V]
        rfl
      | 6, _ =>
        simp only [List.getElem?_cons_succ, List.getElem?_cons_zero, Option.some.injEq, Prod.mk.injEq] at h'
        obtain ⟨hd, hop, hgd⟩ := h'
        have hL1 := edge_met e61 h hpre
        have hL4 := edge_met e64 h hpre
        refine .skip (want o _ hgd.symm) ?_
        refine aop_store hop.symm (p := .pointer (some ⟨y, 0 + 1, none⟩)) (v := .string (bs [b])) (by simp only [aev, S, look_setk, if_true]) (by simp only [aev, S, look_setk, Nat.reduceEqDiff, if_false, if_true]) ?_
        have a1 : also L 6 6 = true := rfl
        have a2 : also L 6 4 = L 4 := rfl
        have a3 : also L 6 1 = L 1 := rfl
        simp only [HS, K, hL1, hL4, hnot, a1, a2, a3, Bool.false_eq_true, if_false, if_true]
        have hy1 : (H.set y (Tok.row ⟨5, s, n, a⟩)).get y = some (Tok.row ⟨5, s, n, a⟩) := Heap.get_set_self hy
        have hy2 : ((H.set y (Tok.row ⟨5, s, n, a⟩)).alloc (.row { vs := [byteV b], elem := 5 })).get y = some (Tok.row ⟨5, s, n, a⟩) := by rw [Heap.get_alloc_old _ _ (by simpa using hylt)]; exact hy1
        rw [tok_text hy2 [b], Heap.alloc_set _ _ _ (by simpa using hylt), Heap.set_set] }
  have hb := hd.big (id := id) (u := u) mixed
  refine ⟨_, _, _, _, hb, ?_⟩
  rw [hlen]
  exact hq
theorem token_spec (G : Nat) (B : Base Tryz.prog G) (h : Heap) (i : Nat) (T : List UInt8) (a : Nat) (out : Value) (hT : T.length ≤ 65536) (ha : a ≤ T.length) (hg : h.get i = some (readerRow T a out)) :
    Does Tryz.prog G (GoodE Tryz.prog B) 134 [.pointer (some ⟨i, 0, none⟩)] h (TokR h i T out (tokS T a)) := by
  have c13 : canEnter Tryz.prog 132 = true := by kernel_rfl
  have c23 : canEnter Tryz.prog 155 = true := by kernel_rfl
  have c25 : canEnter Tryz.prog 158 = true := by kernel_rfl
  have c18 : canEnter Tryz.prog 156 = true := by kernel_rfl
  have c24 : canEnter Tryz.prog 157 = true := by kernel_rfl
  have hi := Heap.lt_of_get hg
  refine Does.body Tryz.func134 rfl ?_
  have hn : enterF Tryz.f134 [.pointer (some ⟨i, 0, none⟩)] = ⟨172, [(0, .pointer (some ⟨i, 0, none⟩))], []⟩ := rfl
  rw [hn]; clear hn
  repeat refine Wp.seq ?_
  refine Wp.runS (by simp only [runS, stepO, stepW, stepV, keep, guardOf, wantG, wantV, aop, binA, aev, flat, if_true, if_false, Option.bind_some, Option.map_some, Frm.put, look, setk, Nat.reduceLT, Nat.reduceEqDiff, evs, evp, evo, List.getElem?_toArray, List.getElem?_cons_succ, List.getElem?_cons_zero, Bool.false_eq_true, Bool.true_eq_false, beq_self_eq_true, beq_ft, beq_tf, notNil, Bool.not_true, Bool.not_false, reduceCtorEq, abuiltin, aextract, alloc31, Heap.new] <;> exact rfl) ?_
  dsimp only [after, leaving]
  have hg1 : (h.alloc (Tok.row ⟨0, [], 0, 0⟩)).get i = some (readerRow T a out) := by rw [Heap.get_alloc_old _ _ hi]; exact hg
  have hal : astore Tryz.prog ((h.alloc (Tok.row ⟨0, [], 0, 0⟩)).alloc (Tok.row ⟨0, [], 0, 0⟩)) 217 (.pointer (some ⟨h.next + 1, 0, none⟩)) (Tok.val ⟨0, [], 0, a⟩) = some ((h.alloc (Tok.row ⟨0, [], 0, 0⟩)).alloc (Tok.row ⟨0, [], 0, a⟩)) := by
    have g := Heap.get_alloc_new (h.alloc (Tok.row ⟨0, [], 0, 0⟩)) (Tok.row ⟨0, [], 0, 0⟩)
    rw [Heap.next_alloc] at g
    rw [tok_all g]
    exact congrArg some (Heap.set_alloc _ _ _)
  repeat refine Wp.seq ?_
  refine Wp.runS (by simp only [runS, stepO, stepW, stepV, keep, guardOf, wantG, wantV, aop, binA, aev, flat, if_true, if_false, Option.bind_some, Option.map_some, Frm.put, look, setk, Nat.reduceLT, Nat.reduceEqDiff, evs, evp, evo, List.getElem?_toArray, List.getElem?_cons_succ, List.getElem?_cons_zero, Bool.false_eq_true, Bool.true_eq_false, beq_self_eq_true, beq_ft, beq_tf, notNil, Bool.not_true, Bool.not_false, reduceCtorEq, abuiltin, aextract, r1, aload_cell agg3, Nat.zero_add, Heap.ld_of hg1 (k := 1) rfl, build31, alloc31, Heap.new, Heap.next_alloc, hal] <;> exact rfl) ?_
  dsimp only [after, leaving]
  have st : TokSt h ((h.alloc (Tok.row ⟨0, [], 0, 0⟩)).alloc (Tok.row ⟨0, [], 0, a⟩)) i T a out ⟨0, [], 0, 0⟩ ⟨0, [], 0, a⟩ :=
    ⟨by rw [Heap.get_alloc_old _ _ (by simp; omega)]; exact hg1, by rw [Heap.get_alloc_old _ _ (by simp)]; exact Heap.get_alloc_new _ _, by have := Heap.get_alloc_new (h.alloc (Tok.row ⟨0, [], 0, 0⟩)) (Tok.row ⟨0, [], 0, a⟩); simpa using this, hi,
      ⟨by simp; omega, fun l hl _ => by rw [Heap.get_alloc_old _ _ (by simp; omega), Heap.get_alloc_old _ _ hl]⟩⟩
  generalize (h.alloc (Tok.row ⟨0, [], 0, 0⟩)).alloc (Tok.row ⟨0, [], 0, a⟩) = H at st ⊢
  clear hg1 hal
  repeat refine Wp.seq ?_
  refine Wp.runS (by simp only [runS, stepO, stepW, stepV, keep, guardOf, wantG, wantV, aop, binA, aev, flat, if_true, if_false, Option.bind_some, Option.map_some, Frm.put, look, setk, Nat.reduceLT, Nat.reduceEqDiff, evs, evp, evo, List.getElem?_toArray, List.getElem?_cons_succ, List.getElem?_cons_zero, Bool.false_eq_true, Bool.true_eq_false, beq_self_eq_true, beq_ft, beq_tf, notNil, Bool.not_true, Bool.not_false, reduceCtorEq, abuiltin, aextract] <;> exact rfl) ?_
  dsimp only [after, leaving]
  repeat refine Wp.seq ?_
  refine Wp.regionAs (is := List.range' 0 1 ++ (1 :: (List.range' 2 1 ++ []))) rfl ?_
  refine WpO.runS 1 (by simp only [List.drop_succ_cons, List.drop_zero, List.take_succ_cons, List.take_zero, runS, stepO, stepW, stepV, keep, guardOf, wantG, wantV, aop, binA, aev, flat, if_true, if_false, Option.bind_some, Option.map_some, Frm.put, look, setk, Nat.reduceLT, Nat.reduceEqDiff, evs, evp, evo, List.getElem?_toArray, List.getElem?_cons_succ, List.getElem?_cons_zero, Bool.false_eq_true, Bool.true_eq_false, beq_self_eq_true, beq_ft, beq_tf, notNil, Bool.not_true, Bool.not_false, reduceCtorEq, abuiltin, aextract] <;> exact rfl) (by decide) ?_
  refine WpO.callR (peek_spec G H i T a out st.r) rfl (by simp only [runS, stepO, stepW, stepV, keep, guardOf, wantG, wantV, aop, binA, aev, flat, if_true, if_false, Option.bind_some, Option.map_some, Frm.put, look, setk, Nat.reduceLT, Nat.reduceEqDiff, evs, evp, evo, List.getElem?_toArray, List.getElem?_cons_succ, List.getElem?_cons_zero, Bool.false_eq_true, Bool.true_eq_false, beq_self_eq_true, beq_ft, beq_tf, notNil, Bool.not_true, Bool.not_false, reduceCtorEq, abuiltin, aextract, c13]) (by simp only [calleeOf, fnOf, List.append_nil, List.nil_append, runS, stepO, stepW, stepV, keep, guardOf, wantG, wantV, aop, binA, aev, flat, if_true, if_false, Option.bind_some, Option.map_some, Frm.put, look, setk, Nat.reduceLT, Nat.reduceEqDiff, evs, evp, evo, List.getElem?_toArray, List.getElem?_cons_succ, List.getElem?_cons_zero, Bool.false_eq_true, Bool.true_eq_false, beq_self_eq_true, beq_ft, beq_tf, notNil, Bool.not_true, Bool.not_false, reduceCtorEq, abuiltin, aextract, c13] <;> exact rfl) ?_
  rintro _ h9 ⟨rfl, hh9⟩
  obtain rfl := hh9.symm
  clear hh9
  refine ⟨_, _, rfl, by simp only [runS, stepO, stepW, stepV, keep, guardOf, wantG, wantV, aop, binA, aev, flat, if_true, if_false, Option.bind_some, Option.map_some, Frm.put, look, setk, Nat.reduceLT, Nat.reduceEqDiff, evs, evp, evo, List.getElem?_toArray, List.getElem?_cons_succ, List.getElem?_cons_zero, Bool.false_eq_true, Bool.true_eq_false, beq_self_eq_true, beq_ft, beq_tf, notNil, Bool.not_true, Bool.not_false, reduceCtorEq, abuiltin, aextract]; exact rfl, ?_⟩
  refine WpO.runS 1 (by simp only [List.drop_succ_cons, List.drop_zero, List.take_succ_cons, List.take_zero, runS, stepO, stepW, stepV, keep, guardOf, wantG, wantV, aop, binA, aev, flat, if_true, if_false, Option.bind_some, Option.map_some, Frm.put, look, setk, Nat.reduceLT, Nat.reduceEqDiff, evs, evp, evo, List.getElem?_toArray, List.getElem?_cons_succ, List.getElem?_cons_zero, Bool.false_eq_true, Bool.true_eq_false, beq_self_eq_true, beq_ft, beq_tf, notNil, Bool.not_true, Bool.not_false, reduceCtorEq, abuiltin, aextract] <;> exact rfl) (by decide) ?_
  refine WpO.nil ?_
  dsimp only [after, leaving]
  refine Wp.cut (fun fr u h' => u = none ∧ ∃ kd s n to, tokBody T a = .ok (kd, s, n, to) ∧ TokSt h h' i T to out ⟨0, [], 0, 0⟩ ⟨kd, s, n, a⟩ ∧ to ≤ T.length ∧ ∃ sl, fr = ⟨172, sl, []⟩ ∧ holds [(0, .pointer (some ⟨i, 0, none⟩)), (2, .pointer (some ⟨h.next, 0, none⟩)), (3, .int .i64 0), (4, .pointer (some ⟨h.next + 1, 0, none⟩))] sl) ?_ ?_
  · rintro fr u H' ⟨rfl, kd, s, n, to, hb, st, hto, sl, rfl, hs⟩
    dsimp only [after, leaving]
    refine Wp.weaken (Frm.le_of hs) ?_
    clear hs sl
    repeat refine Wp.seq ?_
    refine Wp.regionAs (is := List.range' 0 1 ++ (1 :: (List.range' 2 1 ++ []))) rfl ?_
    refine WpO.runS 1 (by simp only [List.drop_succ_cons, List.drop_zero, List.take_succ_cons, List.take_zero, runS, stepO, stepW, stepV, keep, guardOf, wantG, wantV, aop, binA, aev, flat, if_true, if_false, Option.bind_some, Option.map_some, Frm.put, look, setk, Nat.reduceLT, Nat.reduceEqDiff, evs, evp, evo, List.getElem?_toArray, List.getElem?_cons_succ, List.getElem?_cons_zero, Bool.false_eq_true, Bool.true_eq_false, beq_self_eq_true, beq_ft, beq_tf, notNil, Bool.not_true, Bool.not_false, reduceCtorEq, abuiltin, aextract] <;> exact rfl) (by decide) ?_
    refine WpO.callR (peek_spec G H' i T to out st.r) rfl (by simp only [runS, stepO, stepW, stepV, keep, guardOf, wantG, wantV, aop, binA, aev, flat, if_true, if_false, Option.bind_some, Option.map_some, Frm.put, look, setk, Nat.reduceLT, Nat.reduceEqDiff, evs, evp, evo, List.getElem?_toArray, List.getElem?_cons_succ, List.getElem?_cons_zero, Bool.false_eq_true, Bool.true_eq_false, beq_self_eq_true, beq_ft, beq_tf, notNil, Bool.not_true, Bool.not_false, reduceCtorEq, abuiltin, aextract, c13]) (by simp only [calleeOf, fnOf, List.append_nil, List.nil_append, runS, stepO, stepW, stepV, keep, guardOf, wantG, wantV, aop, binA, aev, flat, if_true, if_false, Option.bind_some, Option.map_some, Frm.put, look, setk, Nat.reduceLT, Nat.reduceEqDiff, evs, evp, evo, List.getElem?_toArray, List.getElem?_cons_succ, List.getElem?_cons_zero, Bool.false_eq_true, Bool.true_eq_false, beq_self_eq_true, beq_ft, beq_tf, notNil, Bool.not_true, Bool.not_false, reduceCtorEq, abuiltin, aextract, c13] <;> exact rfl) ?_
    rintro _ h9 ⟨rfl, hh9⟩
    obtain rfl := hh9.symm
    clear hh9
    refine ⟨_, _, rfl, by simp only [runS, stepO, stepW, stepV, keep, guardOf, wantG, wantV, aop, binA, aev, flat, if_true, if_false, Option.bind_some, Option.map_some, Frm.put, look, setk, Nat.reduceLT, Nat.reduceEqDiff, evs, evp, evo, List.getElem?_toArray, List.getElem?_cons_succ, List.getElem?_cons_zero, Bool.false_eq_true, Bool.true_eq_false, beq_self_eq_true, beq_ft, beq_tf, notNil, Bool.not_true, Bool.not_false, reduceCtorEq, abuiltin, aextract]; exact rfl, ?_⟩
    refine WpO.runS 1 (by simp only [List.drop_succ_cons, List.drop_zero, List.take_succ_cons, List.take_zero, runS, stepO, stepW, stepV, keep, guardOf, wantG, wantV, aop, binA, aev, flat, if_true, if_false, Option.bind_some, Option.map_some, Frm.put, look, setk, Nat.reduceLT, Nat.reduceEqDiff, evs, evp, evo, List.getElem?_toArray, List.getElem?_cons_succ, List.getElem?_cons_zero, Bool.false_eq_true, Bool.true_eq_false, beq_self_eq_true, beq_ft, beq_tf, notNil, Bool.not_true, Bool.not_false, reduceCtorEq, abuiltin, aextract] <;> exact rfl) (by decide) ?_
    refine WpO.nil ?_
    dsimp only [after, leaving]
    have hR : tokS T a = if blankB (peekB T to) then .ok (⟨kd, s, n, a⟩, to) else .error (6, to) := by unfold tokS; rw [hb]
    generalize peekB T to = d at hR ⊢
    rw [hR]
    repeat refine Wp.seq ?_
    refine Wp.cut (fun fr u h' => u = none ∧ h' = H' ∧ ∃ sl, fr = ⟨172, sl, []⟩ ∧ holds [(0, .pointer (some ⟨i, 0, none⟩)), (2, .pointer (some ⟨h.next, 0, none⟩)), (3, .int .i64 0), (4, .pointer (some ⟨h.next + 1, 0, none⟩)), (169, .bool (!blankB d))] sl) ?_ ?_
    · rintro fr u h9 ⟨rfl, hH, sl, rfl, hs⟩
      obtain rfl := hH.symm
      clear hH
      dsimp only [after, leaving]
      refine Wp.weaken (Frm.le_of hs) ?_
      clear hs sl
      cases hbl : blankB d with
      | true =>
        repeat refine Wp.seq ?_
        refine Wp.condF (by simp only [runS, stepO, stepW, stepV, keep, guardOf, wantG, wantV, aop, binA, aev, flat, if_true, if_false, Option.bind_some, Option.map_some, Frm.put, look, setk, Nat.reduceLT, Nat.reduceEqDiff, evs, evp, evo, List.getElem?_toArray, List.getElem?_cons_succ, List.getElem?_cons_zero, Bool.false_eq_true, Bool.true_eq_false, beq_self_eq_true, beq_ft, beq_tf, notNil, Bool.not_true, Bool.not_false, reduceCtorEq, abuiltin, aextract, hbl]) ?_
        repeat refine Wp.seq ?_
        refine Wp.skip ?_
        dsimp only [after, leaving]
        have hs2 := tok_all st.x ⟨kd, s, n, a⟩
        have st2 := st.setX ⟨kd, s, n, a⟩
        repeat refine Wp.seq ?_
        refine Wp.runS (by simp only [runS, stepO, stepW, stepV, keep, guardOf, wantG, wantV, aop, binA, aev, flat, if_true, if_false, Option.bind_some, Option.map_some, Frm.put, look, setk, Nat.reduceLT, Nat.reduceEqDiff, evs, evp, evo, List.getElem?_toArray, List.getElem?_cons_succ, List.getElem?_cons_zero, Bool.false_eq_true, Bool.true_eq_false, beq_self_eq_true, beq_ft, beq_tf, notNil, Bool.not_true, Bool.not_false, reduceCtorEq, abuiltin, aextract, tok_load st.y, hs2] <;> exact rfl) ?_
        dsimp only [after, leaving]
        repeat refine Wp.seq ?_
        refine Wp.ret ?_
        dsimp only [after, leaving]
        exact ⟨rfl, rfl, _, ares15 rfl rfl st2.x, rfl, st2.r, st2.but, hto⟩
      | false =>
        repeat refine Wp.seq ?_
        refine Wp.condT (by simp only [runS, stepO, stepW, stepV, keep, guardOf, wantG, wantV, aop, binA, aev, flat, if_true, if_false, Option.bind_some, Option.map_some, Frm.put, look, setk, Nat.reduceLT, Nat.reduceEqDiff, evs, evp, evo, List.getElem?_toArray, List.getElem?_cons_succ, List.getElem?_cons_zero, Bool.false_eq_true, Bool.true_eq_false, beq_self_eq_true, beq_ft, beq_tf, notNil, Bool.not_true, Bool.not_false, reduceCtorEq, abuiltin, aextract, hbl]) ?_
        have hs2 := tok_all st.x ⟨kd, s, n, a⟩
        have st2 := st.setX ⟨kd, s, n, a⟩
        repeat refine Wp.seq ?_
        refine Wp.runS (by simp only [runS, stepO, stepW, stepV, keep, guardOf, wantG, wantV, aop, binA, aev, flat, if_true, if_false, Option.bind_some, Option.map_some, Frm.put, look, setk, Nat.reduceLT, Nat.reduceEqDiff, evs, evp, evo, List.getElem?_toArray, List.getElem?_cons_succ, List.getElem?_cons_zero, Bool.false_eq_true, Bool.true_eq_false, beq_self_eq_true, beq_ft, beq_tf, notNil, Bool.not_true, Bool.not_false, reduceCtorEq, abuiltin, aextract, tok_load st.y, hs2] <;> exact rfl) ?_
        dsimp only [after, leaving]
        repeat refine Wp.seq ?_
        refine Wp.ret ?_
        dsimp only [after, leaving]
        exact ⟨rfl, rfl, _, ares15 rfl rfl st2.x, _, rfl, st2.r, st2.but, hto⟩
    · by_cases e1 : d.toNat = 32
      · have b1 : ((d.toNat : Int) != 32) = false := by rw [bne_eq_false_iff_eq]; omega
        repeat refine Wp.seq ?_
        refine Wp.runS (by simp only [runS, stepO, stepW, stepV, keep, guardOf, wantG, wantV, aop, binA, aev, flat, if_true, if_false, Option.bind_some, Option.map_some, Frm.put, look, setk, Nat.reduceLT, Nat.reduceEqDiff, evs, evp, evo, List.getElem?_toArray, List.getElem?_cons_succ, List.getElem?_cons_zero, Bool.false_eq_true, Bool.true_eq_false, beq_self_eq_true, beq_ft, beq_tf, notNil, Bool.not_true, Bool.not_false, reduceCtorEq, abuiltin, aextract, byteV, abin_int, ai_neq, b1] <;> exact rfl) ?_
        dsimp only [after, leaving]
        refine ⟨rfl, rfl, _, rfl, rfl, rfl, rfl, rfl, ?_, trivial⟩
        unfold blankB; rw [e1]; rfl
      have b1 : ((d.toNat : Int) != 32) = true := by rw [bne_iff_ne]; omega
      by_cases e2 : d.toNat = 9
      · have b2 : ((d.toNat : Int) != 9) = false := by rw [bne_eq_false_iff_eq]; omega
        repeat refine Wp.seq ?_
        refine Wp.runS (by simp only [runS, stepO, stepW, stepV, keep, guardOf, wantG, wantV, aop, binA, aev, flat, if_true, if_false, Option.bind_some, Option.map_some, Frm.put, look, setk, Nat.reduceLT, Nat.reduceEqDiff, evs, evp, evo, List.getElem?_toArray, List.getElem?_cons_succ, List.getElem?_cons_zero, Bool.false_eq_true, Bool.true_eq_false, beq_self_eq_true, beq_ft, beq_tf, notNil, Bool.not_true, Bool.not_false, reduceCtorEq, abuiltin, aextract, byteV, abin_int, ai_neq, b1, b2] <;> exact rfl) ?_
        dsimp only [after, leaving]
        refine ⟨rfl, rfl, _, rfl, rfl, rfl, rfl, rfl, ?_, trivial⟩
        unfold blankB; rw [e2]; rfl
      have b2 : ((d.toNat : Int) != 9) = true := by rw [bne_iff_ne]; omega
      by_cases e3 : d.toNat = 10
      · have b3 : ((d.toNat : Int) != 10) = false := by rw [bne_eq_false_iff_eq]; omega
        repeat refine Wp.seq ?_
        refine Wp.runS (by simp only [runS, stepO, stepW, stepV, keep, guardOf, wantG, wantV, aop, binA, aev, flat, if_true, if_false, Option.bind_some, Option.map_some, Frm.put, look, setk, Nat.reduceLT, Nat.reduceEqDiff, evs, evp, evo, List.getElem?_toArray, List.getElem?_cons_succ, List.getElem?_cons_zero, Bool.false_eq_true, Bool.true_eq_false, beq_self_eq_true, beq_ft, beq_tf, notNil, Bool.not_true, Bool.not_false, reduceCtorEq, abuiltin, aextract, byteV, abin_int, ai_neq, b1, b2, b3] <;> exact rfl) ?_
        dsimp only [after, leaving]
        refine ⟨rfl, rfl, _, rfl, rfl, rfl, rfl, rfl, ?_, trivial⟩
        unfold blankB; rw [e3]; rfl
      have b3 : ((d.toNat : Int) != 10) = true := by rw [bne_iff_ne]; omega
      repeat refine Wp.seq ?_
      refine Wp.runS (by simp only [runS, stepO, stepW, stepV, keep, guardOf, wantG, wantV, aop, binA, aev, flat, if_true, if_false, Option.bind_some, Option.map_some, Frm.put, look, setk, Nat.reduceLT, Nat.reduceEqDiff, evs, evp, evo, List.getElem?_toArray, List.getElem?_cons_succ, List.getElem?_cons_zero, Bool.false_eq_true, Bool.true_eq_false, beq_self_eq_true, beq_ft, beq_tf, notNil, Bool.not_true, Bool.not_false, reduceCtorEq, abuiltin, aextract, byteV, abin_int, ai_neq, b1, b2, b3] <;> exact rfl) ?_
      dsimp only [after, leaving]
      refine ⟨rfl, rfl, _, rfl, rfl, rfl, rfl, rfl, ?_, trivial⟩
      have hb : blankB d = false := by unfold blankB; simp [e1, e2, e3]
      rw [hb]; rfl
  · generalize hb : peekB T a = b
    have hbt : tokBody T a = tokBody T a := rfl
    conv at hbt => rhs; unfold tokBody; simp only [hb]
    have lt10 : ∀ c : Nat, c ≠ 10 → b.toNat = c → a < T.length := fun c hc hq => peek_lt (by rw [hb]; rintro rfl; exact hc hq.symm)
    repeat refine Wp.seq ?_
    refine Wp.block ?_
    by_cases k1 : 97 ≤ b.toNat ∧ b.toNat ≤ 122
    · -- a word
      have d1 : decide ((97 : Int) ≤ (b.toNat : Int)) = true := decide_eq_true (by omega)
      have d2 : decide ((b.toNat : Int) ≤ 122) = true := decide_eq_true (by omega)
      rw [if_pos k1] at hbt
      repeat refine Wp.seq ?_
      refine Wp.runS (by simp only [runS, stepO, stepW, stepV, keep, guardOf, wantG, wantV, aop, binA, aev, flat, if_true, if_false, Option.bind_some, Option.map_some, Frm.put, look, setk, Nat.reduceLT, Nat.reduceEqDiff, evs, evp, evo, List.getElem?_toArray, List.getElem?_cons_succ, List.getElem?_cons_zero, Bool.false_eq_true, Bool.true_eq_false, beq_self_eq_true, beq_ft, beq_tf, notNil, Bool.not_true, Bool.not_false, reduceCtorEq, abuiltin, aextract, byteV, abin_int, ai_geq, ai_leq, d1, d2] <;> exact rfl) ?_
      dsimp only [after, leaving]
      repeat refine Wp.seq ?_
      refine Wp.condT (by simp only [runS, stepO, stepW, stepV, keep, guardOf, wantG, wantV, aop, binA, aev, flat, if_true, if_false, Option.bind_some, Option.map_some, Frm.put, look, setk, Nat.reduceLT, Nat.reduceEqDiff, evs, evp, evo, List.getElem?_toArray, List.getElem?_cons_succ, List.getElem?_cons_zero, Bool.false_eq_true, Bool.true_eq_false, beq_self_eq_true, beq_ft, beq_tf, notNil, Bool.not_true, Bool.not_false, reduceCtorEq, abuiltin, aextract]) ?_
      repeat refine Wp.seq ?_
      refine Wp.runS (by simp only [runS, stepO, stepW, stepV, keep, guardOf, wantG, wantV, aop, binA, aev, flat, if_true, if_false, Option.bind_some, Option.map_some, Frm.put, look, setk, Nat.reduceLT, Nat.reduceEqDiff, evs, evp, evo, List.getElem?_toArray, List.getElem?_cons_succ, List.getElem?_cons_zero, Bool.false_eq_true, Bool.true_eq_false, beq_self_eq_true, beq_ft, beq_tf, notNil, Bool.not_true, Bool.not_false, reduceCtorEq, abuiltin, aextract, t0, tok_kind' st.y 1 1 rfl] <;> exact rfl) ?_
      dsimp only [after, leaving]
      have st1 := st.setY ⟨1, [], 0, a⟩
      generalize H.set (h.next + 1) (Tok.row ⟨1, [], 0, a⟩) = H1 at st1 ⊢
      clear st
      have hrl := runP_le smallB 16 T a ha
      repeat refine Wp.seq ?_
      refine Wp.regionAs (is := List.range' 0 1 ++ (1 :: (List.range' 2 6 ++ []))) rfl ?_
      refine WpO.runS 1 (by simp only [List.drop_succ_cons, List.drop_zero, List.take_succ_cons, List.take_zero, runS, stepO, stepW, stepV, keep, guardOf, wantG, wantV, aop, binA, aev, flat, if_true, if_false, Option.bind_some, Option.map_some, Frm.put, look, setk, Nat.reduceLT, Nat.reduceEqDiff, evs, evp, evo, List.getElem?_toArray, List.getElem?_cons_succ, List.getElem?_cons_zero, Bool.false_eq_true, Bool.true_eq_false, beq_self_eq_true, beq_ft, beq_tf, notNil, Bool.not_true, Bool.not_false, reduceCtorEq, abuiltin, aextract] <;> exact rfl) (by decide) ?_
      refine WpO.callR (run_spec G H1 i T a 16 out 156 smallB (by omega) ha (by omega) st1.r c18 (fun c h => byteFn (noKnown _ _ _) small_ok (B := B) c h)) rfl (by simp only [runS, stepO, stepW, stepV, keep, guardOf, wantG, wantV, aop, binA, aev, flat, if_true, if_false, Option.bind_some, Option.map_some, Frm.put, look, setk, Nat.reduceLT, Nat.reduceEqDiff, evs, evp, evo, List.getElem?_toArray, List.getElem?_cons_succ, List.getElem?_cons_zero, Bool.false_eq_true, Bool.true_eq_false, beq_self_eq_true, beq_ft, beq_tf, notNil, Bool.not_true, Bool.not_false, reduceCtorEq, abuiltin, aextract, c23]) (by simp only [calleeOf, fnOf, List.append_nil, List.nil_append, runS, stepO, stepW, stepV, keep, guardOf, wantG, wantV, aop, binA, aev, flat, if_true, if_false, Option.bind_some, Option.map_some, Frm.put, look, setk, Nat.reduceLT, Nat.reduceEqDiff, evs, evp, evo, List.getElem?_toArray, List.getElem?_cons_succ, List.getElem?_cons_zero, Bool.false_eq_true, Bool.true_eq_false, beq_self_eq_true, beq_ft, beq_tf, notNil, Bool.not_true, Bool.not_false, reduceCtorEq, abuiltin, aextract, c23] <;> exact rfl) ?_
      rintro _ h9 ⟨rfl, hh9⟩
      obtain rfl := hh9.symm
      clear hh9
      refine ⟨_, _, rfl, by simp only [runS, stepO, stepW, stepV, keep, guardOf, wantG, wantV, aop, binA, aev, flat, if_true, if_false, Option.bind_some, Option.map_some, Frm.put, look, setk, Nat.reduceLT, Nat.reduceEqDiff, evs, evp, evo, List.getElem?_toArray, List.getElem?_cons_succ, List.getElem?_cons_zero, Bool.false_eq_true, Bool.true_eq_false, beq_self_eq_true, beq_ft, beq_tf, notNil, Bool.not_true, Bool.not_false, reduceCtorEq, abuiltin, aextract]; exact rfl, ?_⟩
      have st2 := st1.at (runP smallB 16 T a).2.2
      generalize H1.set i (readerRow T (runP smallB 16 T a).2.2 out) = H2 at st2 ⊢
      clear st1
      generalize runP smallB 16 T a = R at st2 hrl hbt ⊢
      obtain ⟨w, ok, to⟩ := R
      simp only [] at st2 hrl hbt ⊢
      have st3 := st2.setY ⟨1, w, 0, a⟩
      refine WpO.runS 6 (by simp only [List.drop_succ_cons, List.drop_zero, List.take_succ_cons, List.take_zero, runS, stepO, stepW, stepV, keep, guardOf, wantG, wantV, aop, binA, aev, flat, if_true, if_false, Option.bind_some, Option.map_some, Frm.put, look, setk, Nat.reduceLT, Nat.reduceEqDiff, evs, evp, evo, List.getElem?_toArray, List.getElem?_cons_succ, List.getElem?_cons_zero, Bool.false_eq_true, Bool.true_eq_false, beq_self_eq_true, beq_ft, beq_tf, notNil, Bool.not_true, Bool.not_false, reduceCtorEq, abuiltin, aextract, t1, tok_text st2.y w] <;> exact rfl) (by decide) ?_
      refine WpO.nil ?_
      dsimp only [after, leaving]
      generalize H2.set (h.next + 1) (Tok.row ⟨1, w, 0, a⟩) = H3 at st3 ⊢
      clear st2
      cases ok with
      | false =>
        repeat refine Wp.seq ?_
        refine Wp.runS (by simp only [runS, stepO, stepW, stepV, keep, guardOf, wantG, wantV, aop, binA, aev, flat, if_true, if_false, Option.bind_some, Option.map_some, Frm.put, look, setk, Nat.reduceLT, Nat.reduceEqDiff, evs, evp, evo, List.getElem?_toArray, List.getElem?_cons_succ, List.getElem?_cons_zero, Bool.false_eq_true, Bool.true_eq_false, beq_self_eq_true, beq_ft, beq_tf, notNil, Bool.not_true, Bool.not_false, reduceCtorEq, abuiltin, aextract, aun] <;> exact rfl) ?_
        dsimp only [after, leaving]
        repeat refine Wp.seq ?_
        refine Wp.condT (by simp only [runS, stepO, stepW, stepV, keep, guardOf, wantG, wantV, aop, binA, aev, flat, if_true, if_false, Option.bind_some, Option.map_some, Frm.put, look, setk, Nat.reduceLT, Nat.reduceEqDiff, evs, evp, evo, List.getElem?_toArray, List.getElem?_cons_succ, List.getElem?_cons_zero, Bool.false_eq_true, Bool.true_eq_false, beq_self_eq_true, beq_ft, beq_tf, notNil, Bool.not_true, Bool.not_false, reduceCtorEq, abuiltin, aextract]) ?_
        have hs2 := tok_all st3.x ⟨1, w, 0, a⟩
        have st4 := st3.setX ⟨1, w, 0, a⟩
        repeat refine Wp.seq ?_
        refine Wp.runS (by simp only [runS, stepO, stepW, stepV, keep, guardOf, wantG, wantV, aop, binA, aev, flat, if_true, if_false, Option.bind_some, Option.map_some, Frm.put, look, setk, Nat.reduceLT, Nat.reduceEqDiff, evs, evp, evo, List.getElem?_toArray, List.getElem?_cons_succ, List.getElem?_cons_zero, Bool.false_eq_true, Bool.true_eq_false, beq_self_eq_true, beq_ft, beq_tf, notNil, Bool.not_true, Bool.not_false, reduceCtorEq, abuiltin, aextract, tok_load st3.y, hs2] <;> exact rfl) ?_
        dsimp only [after, leaving]
        repeat refine Wp.seq ?_
        refine Wp.ret ?_
        dsimp only [after, leaving]
        have hR : tokS T a = .error (3, to) := by unfold tokS; rw [hbt]; rfl
        rw [hR]
        exact ⟨rfl, rfl, _, ares15 rfl rfl st4.x, _, rfl, st4.r, st4.but, hrl⟩
      | true =>
        simp only [if_true] at hbt
        repeat refine Wp.seq ?_
        refine Wp.runS (by simp only [runS, stepO, stepW, stepV, keep, guardOf, wantG, wantV, aop, binA, aev, flat, if_true, if_false, Option.bind_some, Option.map_some, Frm.put, look, setk, Nat.reduceLT, Nat.reduceEqDiff, evs, evp, evo, List.getElem?_toArray, List.getElem?_cons_succ, List.getElem?_cons_zero, Bool.false_eq_true, Bool.true_eq_false, beq_self_eq_true, beq_ft, beq_tf, notNil, Bool.not_true, Bool.not_false, reduceCtorEq, abuiltin, aextract, aun] <;> exact rfl) ?_
        dsimp only [after, leaving]
        repeat refine Wp.seq ?_
        refine Wp.condF (by simp only [runS, stepO, stepW, stepV, keep, guardOf, wantG, wantV, aop, binA, aev, flat, if_true, if_false, Option.bind_some, Option.map_some, Frm.put, look, setk, Nat.reduceLT, Nat.reduceEqDiff, evs, evp, evo, List.getElem?_toArray, List.getElem?_cons_succ, List.getElem?_cons_zero, Bool.false_eq_true, Bool.true_eq_false, beq_self_eq_true, beq_ft, beq_tf, notNil, Bool.not_true, Bool.not_false, reduceCtorEq, abuiltin, aextract]) ?_
        repeat refine Wp.seq ?_
        refine Wp.skip ?_
        dsimp only [after, leaving]
        repeat refine Wp.seq ?_
        refine Wp.regionAs (is := List.range' 0 1 ++ (1 :: (List.range' 2 1 ++ []))) rfl ?_
        refine WpO.runS 1 (by simp only [List.drop_succ_cons, List.drop_zero, List.take_succ_cons, List.take_zero, runS, stepO, stepW, stepV, keep, guardOf, wantG, wantV, aop, binA, aev, flat, if_true, if_false, Option.bind_some, Option.map_some, Frm.put, look, setk, Nat.reduceLT, Nat.reduceEqDiff, evs, evp, evo, List.getElem?_toArray, List.getElem?_cons_succ, List.getElem?_cons_zero, Bool.false_eq_true, Bool.true_eq_false, beq_self_eq_true, beq_ft, beq_tf, notNil, Bool.not_true, Bool.not_false, reduceCtorEq, abuiltin, aextract] <;> exact rfl) (by decide) ?_
        refine WpO.callR (peek_spec G H3 i T to out st3.r) rfl (by simp only [runS, stepO, stepW, stepV, keep, guardOf, wantG, wantV, aop, binA, aev, flat, if_true, if_false, Option.bind_some, Option.map_some, Frm.put, look, setk, Nat.reduceLT, Nat.reduceEqDiff, evs, evp, evo, List.getElem?_toArray, List.getElem?_cons_succ, List.getElem?_cons_zero, Bool.false_eq_true, Bool.true_eq_false, beq_self_eq_true, beq_ft, beq_tf, notNil, Bool.not_true, Bool.not_false, reduceCtorEq, abuiltin, aextract, c13]) (by simp only [calleeOf, fnOf, List.append_nil, List.nil_append, runS, stepO, stepW, stepV, keep, guardOf, wantG, wantV, aop, binA, aev, flat, if_true, if_false, Option.bind_some, Option.map_some, Frm.put, look, setk, Nat.reduceLT, Nat.reduceEqDiff, evs, evp, evo, List.getElem?_toArray, List.getElem?_cons_succ, List.getElem?_cons_zero, Bool.false_eq_true, Bool.true_eq_false, beq_self_eq_true, beq_ft, beq_tf, notNil, Bool.not_true, Bool.not_false, reduceCtorEq, abuiltin, aextract, c13] <;> exact rfl) ?_
        rintro _ h9 ⟨rfl, hh9⟩
        obtain rfl := hh9.symm
        clear hh9
        refine ⟨_, _, rfl, by simp only [runS, stepO, stepW, stepV, keep, guardOf, wantG, wantV, aop, binA, aev, flat, if_true, if_false, Option.bind_some, Option.map_some, Frm.put, look, setk, Nat.reduceLT, Nat.reduceEqDiff, evs, evp, evo, List.getElem?_toArray, List.getElem?_cons_succ, List.getElem?_cons_zero, Bool.false_eq_true, Bool.true_eq_false, beq_self_eq_true, beq_ft, beq_tf, notNil, Bool.not_true, Bool.not_false, reduceCtorEq, abuiltin, aextract]; exact rfl, ?_⟩
        by_cases hp : peekB T to = 58
        · have e1 : (((peekB T to).toNat : Int) == 58) = true := by rw [hp]; rfl
          have hlt : to < T.length := peek_lt (by rw [hp]; decide)
          rw [if_pos hp] at hbt
          refine WpO.runS 1 (by simp only [List.drop_succ_cons, List.drop_zero, List.take_succ_cons, List.take_zero, runS, stepO, stepW, stepV, keep, guardOf, wantG, wantV, aop, binA, aev, flat, if_true, if_false, Option.bind_some, Option.map_some, Frm.put, look, setk, Nat.reduceLT, Nat.reduceEqDiff, evs, evp, evo, List.getElem?_toArray, List.getElem?_cons_succ, List.getElem?_cons_zero, Bool.false_eq_true, Bool.true_eq_false, beq_self_eq_true, beq_ft, beq_tf, notNil, Bool.not_true, Bool.not_false, reduceCtorEq, abuiltin, aextract, byteV, abin_int, ai_eql, e1] <;> exact rfl) (by decide) ?_
          refine WpO.nil ?_
          dsimp only [after, leaving]
          repeat refine Wp.seq ?_
          refine Wp.condT (by simp only [runS, stepO, stepW, stepV, keep, guardOf, wantG, wantV, aop, binA, aev, flat, if_true, if_false, Option.bind_some, Option.map_some, Frm.put, look, setk, Nat.reduceLT, Nat.reduceEqDiff, evs, evp, evo, List.getElem?_toArray, List.getElem?_cons_succ, List.getElem?_cons_zero, Bool.false_eq_true, Bool.true_eq_false, beq_self_eq_true, beq_ft, beq_tf, notNil, Bool.not_true, Bool.not_false, reduceCtorEq, abuiltin, aextract]) ?_
          have st4 := st3.setY ⟨2, w, 0, a⟩
          repeat refine Wp.seq ?_
          refine Wp.runS (by simp only [runS, stepO, stepW, stepV, keep, guardOf, wantG, wantV, aop, binA, aev, flat, if_true, if_false, Option.bind_some, Option.map_some, Frm.put, look, setk, Nat.reduceLT, Nat.reduceEqDiff, evs, evp, evo, List.getElem?_toArray, List.getElem?_cons_succ, List.getElem?_cons_zero, Bool.false_eq_true, Bool.true_eq_false, beq_self_eq_true, beq_ft, beq_tf, notNil, Bool.not_true, Bool.not_false, reduceCtorEq, abuiltin, aextract, t0, tok_kind' st3.y 2 2 rfl] <;> exact rfl) ?_
          dsimp only [after, leaving]
          generalize H3.set (h.next + 1) (Tok.row ⟨2, w, 0, a⟩) = H4 at st4 ⊢
          have st5 := st4.at (to + 1)
          have hw : IntKind.i64.wrap ((to : Int) + 1) = ((to + 1 : Nat) : Int) := by rw [wrap_in (by omega) (by omega)]; omega
          repeat refine Wp.seq ?_
          refine Wp.runS (by simp only [runS, stepO, stepW, stepV, keep, guardOf, wantG, wantV, aop, binA, aev, flat, if_true, if_false, Option.bind_some, Option.map_some, Frm.put, look, setk, Nat.reduceLT, Nat.reduceEqDiff, evs, evp, evo, List.getElem?_toArray, List.getElem?_cons_succ, List.getElem?_cons_zero, Bool.false_eq_true, Bool.true_eq_false, beq_self_eq_true, beq_ft, beq_tf, notNil, Bool.not_true, Bool.not_false, reduceCtorEq, abuiltin, aextract, r1, aload_cell agg3, Nat.zero_add, Heap.ld_of st4.r (k := 1) rfl, abin_int, ai_add, hw, storeAt st4.r] <;> exact rfl) ?_
          dsimp only [after, leaving]
          exact ⟨rfl, _, _, _, _, hbt, st5, by omega, _, rfl, rfl, rfl, rfl, rfl, trivial⟩
        · have e1 : (((peekB T to).toNat : Int) == 58) = false := by rw [beq_eq_false_iff_ne]; intro q; exact hp ((byte_eq _ 58 (by omega)).2 (by omega))
          rw [if_neg hp] at hbt
          refine WpO.runS 1 (by simp only [List.drop_succ_cons, List.drop_zero, List.take_succ_cons, List.take_zero, runS, stepO, stepW, stepV, keep, guardOf, wantG, wantV, aop, binA, aev, flat, if_true, if_false, Option.bind_some, Option.map_some, Frm.put, look, setk, Nat.reduceLT, Nat.reduceEqDiff, evs, evp, evo, List.getElem?_toArray, List.getElem?_cons_succ, List.getElem?_cons_zero, Bool.false_eq_true, Bool.true_eq_false, beq_self_eq_true, beq_ft, beq_tf, notNil, Bool.not_true, Bool.not_false, reduceCtorEq, abuiltin, aextract, byteV, abin_int, ai_eql, e1] <;> exact rfl) (by decide) ?_
          refine WpO.nil ?_
          dsimp only [after, leaving]
          repeat refine Wp.seq ?_
          refine Wp.condF (by simp only [runS, stepO, stepW, stepV, keep, guardOf, wantG, wantV, aop, binA, aev, flat, if_true, if_false, Option.bind_some, Option.map_some, Frm.put, look, setk, Nat.reduceLT, Nat.reduceEqDiff, evs, evp, evo, List.getElem?_toArray, List.getElem?_cons_succ, List.getElem?_cons_zero, Bool.false_eq_true, Bool.true_eq_false, beq_self_eq_true, beq_ft, beq_tf, notNil, Bool.not_true, Bool.not_false, reduceCtorEq, abuiltin, aextract]) ?_
          repeat refine Wp.seq ?_
          refine Wp.skip ?_
          dsimp only [after, leaving]
          exact ⟨rfl, _, _, _, _, hbt, st3, hrl, _, rfl, rfl, rfl, rfl, rfl, trivial⟩
    rw [if_neg k1] at hbt
    repeat refine Wp.seq ?_
    refine Wp.cut (fun fr u h' => u = none ∧ h' = H ∧ ∃ sl, fr = ⟨172, sl, []⟩ ∧ holds [(0, .pointer (some ⟨i, 0, none⟩)), (2, .pointer (some ⟨h.next, 0, none⟩)), (3, .int .i64 0), (4, .pointer (some ⟨h.next + 1, 0, none⟩)), (5, .bool true), (6, byteV b), (21, .bool false)] sl) ?_ ?_
    rotate_left
    · by_cases d1 : 97 ≤ b.toNat
      · have e1 : decide ((97 : Int) ≤ (b.toNat : Int)) = true := decide_eq_true (by omega)
        have e2 : decide ((b.toNat : Int) ≤ 122) = false := decide_eq_false (by omega)
        repeat refine Wp.seq ?_
        refine Wp.runS (by simp only [runS, stepO, stepW, stepV, keep, guardOf, wantG, wantV, aop, binA, aev, flat, if_true, if_false, Option.bind_some, Option.map_some, Frm.put, look, setk, Nat.reduceLT, Nat.reduceEqDiff, evs, evp, evo, List.getElem?_toArray, List.getElem?_cons_succ, List.getElem?_cons_zero, Bool.false_eq_true, Bool.true_eq_false, beq_self_eq_true, beq_ft, beq_tf, notNil, Bool.not_true, Bool.not_false, reduceCtorEq, abuiltin, aextract, byteV, abin_int, ai_geq, ai_leq, e1, e2] <;> exact rfl) ?_
        dsimp only [after, leaving]
        exact ⟨rfl, rfl, _, rfl, rfl, rfl, rfl, rfl, rfl, rfl, rfl, trivial⟩
      · have e1 : decide ((97 : Int) ≤ (b.toNat : Int)) = false := decide_eq_false (by omega)
        repeat refine Wp.seq ?_
        refine Wp.runS (by simp only [runS, stepO, stepW, stepV, keep, guardOf, wantG, wantV, aop, binA, aev, flat, if_true, if_false, Option.bind_some, Option.map_some, Frm.put, look, setk, Nat.reduceLT, Nat.reduceEqDiff, evs, evp, evo, List.getElem?_toArray, List.getElem?_cons_succ, List.getElem?_cons_zero, Bool.false_eq_true, Bool.true_eq_false, beq_self_eq_true, beq_ft, beq_tf, notNil, Bool.not_true, Bool.not_false, reduceCtorEq, abuiltin, aextract, byteV, abin_int, ai_geq, ai_leq, e1] <;> exact rfl) ?_
        dsimp only [after, leaving]
        exact ⟨rfl, rfl, _, rfl, rfl, rfl, rfl, rfl, rfl, rfl, rfl, trivial⟩
    rintro fr u h9 ⟨rfl, hH, sl, rfl, hs⟩
    obtain rfl := hH.symm
    clear hH
    dsimp only [after, leaving]
    refine Wp.weaken (Frm.le_of hs) ?_
    clear hs sl
    repeat refine Wp.seq ?_
    refine Wp.condF (by simp only [runS, stepO, stepW, stepV, keep, guardOf, wantG, wantV, aop, binA, aev, flat, if_true, if_false, Option.bind_some, Option.map_some, Frm.put, look, setk, Nat.reduceLT, Nat.reduceEqDiff, evs, evp, evo, List.getElem?_toArray, List.getElem?_cons_succ, List.getElem?_cons_zero, Bool.false_eq_true, Bool.true_eq_false, beq_self_eq_true, beq_ft, beq_tf, notNil, Bool.not_true, Bool.not_false, reduceCtorEq, abuiltin, aextract]) ?_
    have bumps : ∀ {H : Heap} {tk : Tok}, TokSt h H i T a out ⟨0, [], 0, 0⟩ tk → a < T.length → IntKind.i64.wrap ((a : Int) + 1) = ((a + 1 : Nat) : Int) := fun _ _ => by rw [wrap_in (by omega) (by omega)]; omega
    by_cases k2 : b = 48
    · -- nought
      have e1 : ((b.toNat : Int) == 48) = true := by rw [k2]; rfl
      rw [if_pos k2] at hbt
      have hlt := lt10 48 (by decide) (by rw [k2]; rfl)
      repeat refine Wp.seq ?_
      refine Wp.runS (by simp only [runS, stepO, stepW, stepV, keep, guardOf, wantG, wantV, aop, binA, aev, flat, if_true, if_false, Option.bind_some, Option.map_some, Frm.put, look, setk, Nat.reduceLT, Nat.reduceEqDiff, evs, evp, evo, List.getElem?_toArray, List.getElem?_cons_succ, List.getElem?_cons_zero, Bool.false_eq_true, Bool.true_eq_false, beq_self_eq_true, beq_ft, beq_tf, notNil, Bool.not_true, Bool.not_false, reduceCtorEq, abuiltin, aextract, byteV, abin_int, ai_eql, e1] <;> exact rfl) ?_
      dsimp only [after, leaving]
      repeat refine Wp.seq ?_
      refine Wp.condT (by simp only [runS, stepO, stepW, stepV, keep, guardOf, wantG, wantV, aop, binA, aev, flat, if_true, if_false, Option.bind_some, Option.map_some, Frm.put, look, setk, Nat.reduceLT, Nat.reduceEqDiff, evs, evp, evo, List.getElem?_toArray, List.getElem?_cons_succ, List.getElem?_cons_zero, Bool.false_eq_true, Bool.true_eq_false, beq_self_eq_true, beq_ft, beq_tf, notNil, Bool.not_true, Bool.not_false, reduceCtorEq, abuiltin, aextract]) ?_
      have st4 := st.setY ⟨3, [], 0, a⟩
      repeat refine Wp.seq ?_
      refine Wp.runS (by simp only [runS, stepO, stepW, stepV, keep, guardOf, wantG, wantV, aop, binA, aev, flat, if_true, if_false, Option.bind_some, Option.map_some, Frm.put, look, setk, Nat.reduceLT, Nat.reduceEqDiff, evs, evp, evo, List.getElem?_toArray, List.getElem?_cons_succ, List.getElem?_cons_zero, Bool.false_eq_true, Bool.true_eq_false, beq_self_eq_true, beq_ft, beq_tf, notNil, Bool.not_true, Bool.not_false, reduceCtorEq, abuiltin, aextract, t0, tok_kind' st.y 3 3 rfl] <;> exact rfl) ?_
      dsimp only [after, leaving]
      generalize H.set (h.next + 1) (Tok.row ⟨3, [], 0, a⟩) = H4 at st4 ⊢
      have st5 := st4.at (a + 1)
      have hw := bumps st4 hlt
      repeat refine Wp.seq ?_
      refine Wp.runS (by simp only [runS, stepO, stepW, stepV, keep, guardOf, wantG, wantV, aop, binA, aev, flat, if_true, if_false, Option.bind_some, Option.map_some, Frm.put, look, setk, Nat.reduceLT, Nat.reduceEqDiff, evs, evp, evo, List.getElem?_toArray, List.getElem?_cons_succ, List.getElem?_cons_zero, Bool.false_eq_true, Bool.true_eq_false, beq_self_eq_true, beq_ft, beq_tf, notNil, Bool.not_true, Bool.not_false, reduceCtorEq, abuiltin, aextract, r1, aload_cell agg3, Nat.zero_add, Heap.ld_of st4.r (k := 1) rfl, abin_int, ai_add, hw, storeAt st4.r] <;> exact rfl) ?_
      dsimp only [after, leaving]
      exact ⟨rfl, _, _, _, _, hbt, st5, by omega, _, rfl, rfl, rfl, rfl, rfl, trivial⟩
    have e48 : ((b.toNat : Int) == 48) = false := by rw [beq_eq_false_iff_ne]; intro q; exact k2 ((byte_eq _ 48 (by omega)).2 (by omega))
    rw [if_neg k2] at hbt
    repeat refine Wp.seq ?_
    refine Wp.runS (by simp only [runS, stepO, stepW, stepV, keep, guardOf, wantG, wantV, aop, binA, aev, flat, if_true, if_false, Option.bind_some, Option.map_some, Frm.put, look, setk, Nat.reduceLT, Nat.reduceEqDiff, evs, evp, evo, List.getElem?_toArray, List.getElem?_cons_succ, List.getElem?_cons_zero, Bool.false_eq_true, Bool.true_eq_false, beq_self_eq_true, beq_ft, beq_tf, notNil, Bool.not_true, Bool.not_false, reduceCtorEq, abuiltin, aextract, byteV, abin_int, ai_eql, e48] <;> exact rfl) ?_
    dsimp only [after, leaving]
    repeat refine Wp.seq ?_
    refine Wp.condF (by simp only [runS, stepO, stepW, stepV, keep, guardOf, wantG, wantV, aop, binA, aev, flat, if_true, if_false, Option.bind_some, Option.map_some, Frm.put, look, setk, Nat.reduceLT, Nat.reduceEqDiff, evs, evp, evo, List.getElem?_toArray, List.getElem?_cons_succ, List.getElem?_cons_zero, Bool.false_eq_true, Bool.true_eq_false, beq_self_eq_true, beq_ft, beq_tf, notNil, Bool.not_true, Bool.not_false, reduceCtorEq, abuiltin, aextract]) ?_
    by_cases k3 : 49 ≤ b.toNat ∧ b.toNat ≤ 57
    · -- a number
      have d1 : decide ((49 : Int) ≤ (b.toNat : Int)) = true := decide_eq_true (by omega)
      have d2 : decide ((b.toNat : Int) ≤ 57) = true := decide_eq_true (by omega)
      rw [if_pos k3] at hbt
      repeat refine Wp.seq ?_
      refine Wp.runS (by simp only [runS, stepO, stepW, stepV, keep, guardOf, wantG, wantV, aop, binA, aev, flat, if_true, if_false, Option.bind_some, Option.map_some, Frm.put, look, setk, Nat.reduceLT, Nat.reduceEqDiff, evs, evp, evo, List.getElem?_toArray, List.getElem?_cons_succ, List.getElem?_cons_zero, Bool.false_eq_true, Bool.true_eq_false, beq_self_eq_true, beq_ft, beq_tf, notNil, Bool.not_true, Bool.not_false, reduceCtorEq, abuiltin, aextract, byteV, abin_int, ai_geq, ai_leq, d1, d2] <;> exact rfl) ?_
      dsimp only [after, leaving]
      repeat refine Wp.seq ?_
      refine Wp.condT (by simp only [runS, stepO, stepW, stepV, keep, guardOf, wantG, wantV, aop, binA, aev, flat, if_true, if_false, Option.bind_some, Option.map_some, Frm.put, look, setk, Nat.reduceLT, Nat.reduceEqDiff, evs, evp, evo, List.getElem?_toArray, List.getElem?_cons_succ, List.getElem?_cons_zero, Bool.false_eq_true, Bool.true_eq_false, beq_self_eq_true, beq_ft, beq_tf, notNil, Bool.not_true, Bool.not_false, reduceCtorEq, abuiltin, aextract]) ?_
      repeat refine Wp.seq ?_
      refine Wp.runS (by simp only [runS, stepO, stepW, stepV, keep, guardOf, wantG, wantV, aop, binA, aev, flat, if_true, if_false, Option.bind_some, Option.map_some, Frm.put, look, setk, Nat.reduceLT, Nat.reduceEqDiff, evs, evp, evo, List.getElem?_toArray, List.getElem?_cons_succ, List.getElem?_cons_zero, Bool.false_eq_true, Bool.true_eq_false, beq_self_eq_true, beq_ft, beq_tf, notNil, Bool.not_true, Bool.not_false, reduceCtorEq, abuiltin, aextract, t0, tok_kind' st.y 3 3 rfl] <;> exact rfl) ?_
      dsimp only [after, leaving]
      have st1 := st.setY ⟨3, [], 0, a⟩
      generalize H.set (h.next + 1) (Tok.row ⟨3, [], 0, a⟩) = H1 at st1 ⊢
      clear st bumps
      have hrl := runP_le digitB 4 T a ha
      have hdig := runP_digits T a
      repeat refine Wp.seq ?_
      refine Wp.runS (by simp only [runS, stepO, stepW, stepV, keep, guardOf, wantG, wantV, aop, binA, aev, flat, if_true, if_false, Option.bind_some, Option.map_some, Frm.put, look, setk, Nat.reduceLT, Nat.reduceEqDiff, evs, evp, evo, List.getElem?_toArray, List.getElem?_cons_succ, List.getElem?_cons_zero, Bool.false_eq_true, Bool.true_eq_false, beq_self_eq_true, beq_ft, beq_tf, notNil, Bool.not_true, Bool.not_false, reduceCtorEq, abuiltin, aextract] <;> exact rfl) ?_
      dsimp only [after, leaving]
      repeat refine Wp.seq ?_
      refine Wp.regionAs (is := List.range' 0 1 ++ (1 :: (List.range' 2 5 ++ []))) rfl ?_
      refine WpO.runS 1 (by simp only [List.drop_succ_cons, List.drop_zero, List.take_succ_cons, List.take_zero, runS, stepO, stepW, stepV, keep, guardOf, wantG, wantV, aop, binA, aev, flat, if_true, if_false, Option.bind_some, Option.map_some, Frm.put, look, setk, Nat.reduceLT, Nat.reduceEqDiff, evs, evp, evo, List.getElem?_toArray, List.getElem?_cons_succ, List.getElem?_cons_zero, Bool.false_eq_true, Bool.true_eq_false, beq_self_eq_true, beq_ft, beq_tf, notNil, Bool.not_true, Bool.not_false, reduceCtorEq, abuiltin, aextract] <;> exact rfl) (by decide) ?_
      refine WpO.callR (run_spec G H1 i T a 4 out 157 digitB (by omega) ha (by omega) st1.r c24 (fun c h => byteFn (noKnown _ _ _) digit_ok (B := B) c h)) rfl (by simp only [runS, stepO, stepW, stepV, keep, guardOf, wantG, wantV, aop, binA, aev, flat, if_true, if_false, Option.bind_some, Option.map_some, Frm.put, look, setk, Nat.reduceLT, Nat.reduceEqDiff, evs, evp, evo, List.getElem?_toArray, List.getElem?_cons_succ, List.getElem?_cons_zero, Bool.false_eq_true, Bool.true_eq_false, beq_self_eq_true, beq_ft, beq_tf, notNil, Bool.not_true, Bool.not_false, reduceCtorEq, abuiltin, aextract, c23]) (by simp only [calleeOf, fnOf, List.append_nil, List.nil_append, runS, stepO, stepW, stepV, keep, guardOf, wantG, wantV, aop, binA, aev, flat, if_true, if_false, Option.bind_some, Option.map_some, Frm.put, look, setk, Nat.reduceLT, Nat.reduceEqDiff, evs, evp, evo, List.getElem?_toArray, List.getElem?_cons_succ, List.getElem?_cons_zero, Bool.false_eq_true, Bool.true_eq_false, beq_self_eq_true, beq_ft, beq_tf, notNil, Bool.not_true, Bool.not_false, reduceCtorEq, abuiltin, aextract, c23] <;> exact rfl) ?_
      rintro _ h9 ⟨rfl, hh9⟩
      obtain rfl := hh9.symm
      clear hh9
      refine ⟨_, _, rfl, by simp only [runS, stepO, stepW, stepV, keep, guardOf, wantG, wantV, aop, binA, aev, flat, if_true, if_false, Option.bind_some, Option.map_some, Frm.put, look, setk, Nat.reduceLT, Nat.reduceEqDiff, evs, evp, evo, List.getElem?_toArray, List.getElem?_cons_succ, List.getElem?_cons_zero, Bool.false_eq_true, Bool.true_eq_false, beq_self_eq_true, beq_ft, beq_tf, notNil, Bool.not_true, Bool.not_false, reduceCtorEq, abuiltin, aextract]; exact rfl, ?_⟩
      have st2 := st1.at (runP digitB 4 T a).2.2
      generalize H1.set i (readerRow T (runP digitB 4 T a).2.2 out) = H2 at st2 ⊢
      clear st1
      generalize runP digitB 4 T a = R at st2 hrl hbt hdig ⊢
      obtain ⟨w, ok, to⟩ := R
      simp only [] at st2 hrl hbt hdig ⊢
      refine WpO.runS 5 (by simp only [List.drop_succ_cons, List.drop_zero, List.take_succ_cons, List.take_zero, runS, stepO, stepW, stepV, keep, guardOf, wantG, wantV, aop, binA, aev, flat, if_true, if_false, Option.bind_some, Option.map_some, Frm.put, look, setk, Nat.reduceLT, Nat.reduceEqDiff, evs, evp, evo, List.getElem?_toArray, List.getElem?_cons_succ, List.getElem?_cons_zero, Bool.false_eq_true, Bool.true_eq_false, beq_self_eq_true, beq_ft, beq_tf, notNil, Bool.not_true, Bool.not_false, reduceCtorEq, abuiltin, aextract] <;> exact rfl) (by decide) ?_
      refine WpO.nil ?_
      dsimp only [after, leaving]
      cases ok with
      | false =>
        repeat refine Wp.seq ?_
        refine Wp.runS (by simp only [runS, stepO, stepW, stepV, keep, guardOf, wantG, wantV, aop, binA, aev, flat, if_true, if_false, Option.bind_some, Option.map_some, Frm.put, look, setk, Nat.reduceLT, Nat.reduceEqDiff, evs, evp, evo, List.getElem?_toArray, List.getElem?_cons_succ, List.getElem?_cons_zero, Bool.false_eq_true, Bool.true_eq_false, beq_self_eq_true, beq_ft, beq_tf, notNil, Bool.not_true, Bool.not_false, reduceCtorEq, abuiltin, aextract, aun] <;> exact rfl) ?_
        dsimp only [after, leaving]
        repeat refine Wp.seq ?_
        refine Wp.condT (by simp only [runS, stepO, stepW, stepV, keep, guardOf, wantG, wantV, aop, binA, aev, flat, if_true, if_false, Option.bind_some, Option.map_some, Frm.put, look, setk, Nat.reduceLT, Nat.reduceEqDiff, evs, evp, evo, List.getElem?_toArray, List.getElem?_cons_succ, List.getElem?_cons_zero, Bool.false_eq_true, Bool.true_eq_false, beq_self_eq_true, beq_ft, beq_tf, notNil, Bool.not_true, Bool.not_false, reduceCtorEq, abuiltin, aextract]) ?_
        have hs2 := tok_all st2.x ⟨3, [], 0, a⟩
        have st4 := st2.setX ⟨3, [], 0, a⟩
        repeat refine Wp.seq ?_
        refine Wp.runS (by simp only [runS, stepO, stepW, stepV, keep, guardOf, wantG, wantV, aop, binA, aev, flat, if_true, if_false, Option.bind_some, Option.map_some, Frm.put, look, setk, Nat.reduceLT, Nat.reduceEqDiff, evs, evp, evo, List.getElem?_toArray, List.getElem?_cons_succ, List.getElem?_cons_zero, Bool.false_eq_true, Bool.true_eq_false, beq_self_eq_true, beq_ft, beq_tf, notNil, Bool.not_true, Bool.not_false, reduceCtorEq, abuiltin, aextract, tok_load st2.y, hs2] <;> exact rfl) ?_
        dsimp only [after, leaving]
        repeat refine Wp.seq ?_
        refine Wp.ret ?_
        dsimp only [after, leaving]
        have hR : tokS T a = .error (3, to) := by unfold tokS; rw [hbt]; rfl
        rw [hR]
        exact ⟨rfl, rfl, _, ares15 rfl rfl st4.x, _, rfl, st4.r, st4.but, hrl⟩
      | true =>
        simp only [if_true] at hbt
        repeat refine Wp.seq ?_
        refine Wp.runS (by simp only [runS, stepO, stepW, stepV, keep, guardOf, wantG, wantV, aop, binA, aev, flat, if_true, if_false, Option.bind_some, Option.map_some, Frm.put, look, setk, Nat.reduceLT, Nat.reduceEqDiff, evs, evp, evo, List.getElem?_toArray, List.getElem?_cons_succ, List.getElem?_cons_zero, Bool.false_eq_true, Bool.true_eq_false, beq_self_eq_true, beq_ft, beq_tf, notNil, Bool.not_true, Bool.not_false, reduceCtorEq, abuiltin, aextract, aun] <;> exact rfl) ?_
        dsimp only [after, leaving]
        repeat refine Wp.seq ?_
        refine Wp.condF (by simp only [runS, stepO, stepW, stepV, keep, guardOf, wantG, wantV, aop, binA, aev, flat, if_true, if_false, Option.bind_some, Option.map_some, Frm.put, look, setk, Nat.reduceLT, Nat.reduceEqDiff, evs, evp, evo, List.getElem?_toArray, List.getElem?_cons_succ, List.getElem?_cons_zero, Bool.false_eq_true, Bool.true_eq_false, beq_self_eq_true, beq_ft, beq_tf, notNil, Bool.not_true, Bool.not_false, reduceCtorEq, abuiltin, aextract]) ?_
        repeat refine Wp.seq ?_
        refine Wp.skip ?_
        dsimp only [after, leaving]
        repeat refine Wp.seq ?_
        refine Wp.runS (by simp only [runS, stepO, stepW, stepV, keep, guardOf, wantG, wantV, aop, binA, aev, flat, if_true, if_false, Option.bind_some, Option.map_some, Frm.put, look, setk, Nat.reduceLT, Nat.reduceEqDiff, evs, evp, evo, List.getElem?_toArray, List.getElem?_cons_succ, List.getElem?_cons_zero, Bool.false_eq_true, Bool.true_eq_false, beq_self_eq_true, beq_ft, beq_tf, notNil, Bool.not_true, Bool.not_false, reduceCtorEq, abuiltin, aextract, alen_str Tryz.underlying9, bs_size] <;> exact rfl) ?_
        dsimp only [after, leaving]
        repeat refine Wp.seq ?_
        refine Wp.block ?_
        refine Wp.loopI (X := Nat) (fun j => [(0, .pointer (some ⟨i, 0, none⟩)), (2, .pointer (some ⟨h.next, 0, none⟩)), (3, .int .i64 0), (4, .pointer (some ⟨h.next + 1, 0, none⟩)), (7, .string (bs w)), (77, .int .i64 w.length), (78, .int .i64 j)]) (fun j => H2.set (h.next + 1) (Tok.row ⟨3, [], numOf (w.take j), a⟩))
          (fun j => j ≤ w.length) (fun j => w.length - j) 0 (by omega) ⟨rfl, rfl, rfl, rfl, rfl, rfl, rfl, trivial⟩ (Heap.set_same st2.y) ?_
        intro j hj
        have stj := st2.setY ⟨3, [], numOf (w.take j), a⟩
        by_cases hlt : (j : Int) < (w.length : Int)
        · obtain ⟨c, hc⟩ : ∃ c, w[j]? = some c := ⟨_, List.getElem?_eq_getElem (by omega)⟩
          have hcd := hdig.2 c (List.mem_of_getElem? hc)
          have hcb : 48 ≤ c.toNat ∧ c.toNat ≤ 57 := by unfold digitB at hcd; simpa using hcd
          have htk : w.take (j + 1) = w.take j ++ [c] := by
            obtain ⟨h1, h2⟩ := List.getElem?_eq_some_iff.1 hc
            rw [← h2]; exact (List.take_append_getElem h1).symm
          have hn2 : numOf (w.take (j + 1)) = 10 * numOf (w.take j) + (c.toNat - 48) := by rw [htk]; unfold numOf; rw [List.foldl_append]; rfl
          have hnb : numOf (w.take j) < 10 ^ 4 := by
            have := numOf_lt (w.take j) (fun b hb => hdig.2 b (List.mem_of_mem_take hb)) 0
            unfold numOf
            refine Nat.lt_of_lt_of_le this ?_
            rw [Nat.zero_add, Nat.one_mul]
            exact Nat.pow_le_pow_right (by omega) (by rw [List.length_take]; omega)
          have w1 : IntKind.i64.wrap (10 * (numOf (w.take j) : Int)) = (10 * numOf (w.take j) : Nat) := by rw [wrap_in (by omega) (by omega)]; omega
          have w2 : IntKind.u8.wrap ((c.toNat : Int) - 48) = ((c.toNat - 48 : Nat) : Int) := by
            rw [IntKind.wrap_u8]; omega
          have w3 : IntKind.i64.wrap ((c.toNat - 48 : Nat) : Int) = ((c.toNat - 48 : Nat) : Int) := wrap_in (by omega) (by omega)
          have w4 : IntKind.i64.wrap (((10 * numOf (w.take j) : Nat) : Int) + ((c.toNat - 48 : Nat) : Int)) = (numOf (w.take (j + 1)) : Nat) := by rw [wrap_in (by omega) (by omega), hn2]; omega
          have w5 : IntKind.i64.wrap ((j : Int) + 1) = ((j + 1 : Nat) : Int) := by rw [wrap_in (by omega) (by omega)]; omega
          have lds : (H2.set (h.next + 1) (Tok.row ⟨3, [], numOf (w.take j), a⟩)).ld (h.next + 1) (0 + 2) = some (.int .i64 (numOf (w.take j) : Nat)) := Heap.ld_of stj.y rfl
          repeat refine Wp.seq ?_
          refine Wp.runS (by simp only [runS, stepO, stepW, stepV, keep, guardOf, wantG, wantV, aop, binA, aev, flat, if_true, if_false, Option.bind_some, Option.map_some, Frm.put, look, setk, Nat.reduceLT, Nat.reduceEqDiff, evs, evp, evo, List.getElem?_toArray, List.getElem?_cons_succ, List.getElem?_cons_zero, Bool.false_eq_true, Bool.true_eq_false, beq_self_eq_true, beq_ft, beq_tf, notNil, Bool.not_true, Bool.not_false, reduceCtorEq, abuiltin, aextract, abin_int, ai_lss, decide_eq_true hlt] <;> exact rfl) ?_
          dsimp only [after, leaving]
          repeat refine Wp.seq ?_
          refine Wp.condT (by simp only [runS, stepO, stepW, stepV, keep, guardOf, wantG, wantV, aop, binA, aev, flat, if_true, if_false, Option.bind_some, Option.map_some, Frm.put, look, setk, Nat.reduceLT, Nat.reduceEqDiff, evs, evp, evo, List.getElem?_toArray, List.getElem?_cons_succ, List.getElem?_cons_zero, Bool.false_eq_true, Bool.true_eq_false, beq_self_eq_true, beq_ft, beq_tf, notNil, Bool.not_true, Bool.not_false, reduceCtorEq, abuiltin, aextract]) ?_
          repeat refine Wp.seq ?_
          refine Wp.skip ?_
          dsimp only [after, leaving]
          repeat refine Wp.seq ?_
          refine Wp.block ?_
          repeat refine Wp.seq ?_
          refine Wp.runS (by simp only [runS, stepO, stepW, stepV, keep, guardOf, wantG, wantV, aop, binA, aev, flat, if_true, if_false, Option.bind_some, Option.map_some, Frm.put, look, setk, Nat.reduceLT, Nat.reduceEqDiff, evs, evp, evo, List.getElem?_toArray, List.getElem?_cons_succ, List.getElem?_cons_zero, Bool.false_eq_true, Bool.true_eq_false, beq_self_eq_true, beq_ft, beq_tf, notNil, Bool.not_true, Bool.not_false, reduceCtorEq, abuiltin, aextract] <;> exact rfl) ?_
          dsimp only [after, leaving]
          repeat refine Wp.seq ?_
          refine Wp.drawAs [] [88] 0 (fun _ => True) mixed (by kernel_rfl) trivial ?_
          refine DrT.run 7 (by simp only [List.take_succ_cons, List.take_zero, runSD, stepOD, stepWD, stepVD, isLoud, isPure, isReader, isEqOp, isConstO, decide_true, Bool.or_true, Bool.true_or, Bool.or_self, Bool.and_self, Bool.and_true, Bool.and_false, Bool.false_and, Bool.true_and, Heap.next_set, Heap.next_alloc, runS, stepO, stepW, stepV, keep, guardOf, wantG, wantV, aop, binA, aev, flat, if_true, if_false, Option.bind_some, Option.map_some, Frm.put, look, setk, Nat.reduceLT, Nat.reduceEqDiff, evs, evp, evo, List.getElem?_toArray, List.getElem?_cons_succ, List.getElem?_cons_zero, Bool.false_eq_true, Bool.true_eq_false, beq_self_eq_true, beq_ft, beq_tf, notNil, Bool.not_true, Bool.not_false, reduceCtorEq, abuiltin, aextract, t2, aload_cell agg3, lds, abin_int, ai_mul, w1, aindex_bs Tryz.underlying9 hc, byteV, ai_sub, w2] <;> exact rfl) rfl ?_
          try simp only [List.drop_succ_cons, List.drop_zero]
          refine DrT.pure (by simp only [runS, stepO, stepW, stepV, keep, guardOf, wantG, wantV, aop, binA, aev, flat, if_true, if_false, Option.bind_some, Option.map_some, Frm.put, look, setk, Nat.reduceLT, Nat.reduceEqDiff, evs, evp, evo, List.getElem?_toArray, List.getElem?_cons_succ, List.getElem?_cons_zero, Bool.false_eq_true, Bool.true_eq_false, beq_self_eq_true, beq_ft, beq_tf, notNil, Bool.not_true, Bool.not_false, reduceCtorEq, abuiltin, aextract]) (fun H => by simp only [runS, stepO, stepW, stepV, keep, guardOf, wantG, wantV, aop, binA, aev, flat, if_true, if_false, Option.bind_some, Option.map_some, Frm.put, look, setk, Nat.reduceLT, Nat.reduceEqDiff, evs, evp, evo, List.getElem?_toArray, List.getElem?_cons_succ, List.getElem?_cons_zero, Bool.false_eq_true, Bool.true_eq_false, beq_self_eq_true, beq_ft, beq_tf, notNil, Bool.not_true, Bool.not_false, reduceCtorEq, abuiltin, aextract, conv53, w3] <;> exact rfl) (by simp only [runS, stepO, stepW, stepV, keep, guardOf, wantG, wantV, aop, binA, aev, flat, if_true, if_false, Option.bind_some, Option.map_some, Frm.put, look, setk, Nat.reduceLT, Nat.reduceEqDiff, evs, evp, evo, List.getElem?_toArray, List.getElem?_cons_succ, List.getElem?_cons_zero, Bool.false_eq_true, Bool.true_eq_false, beq_self_eq_true, beq_ft, beq_tf, notNil, Bool.not_true, Bool.not_false, reduceCtorEq, abuiltin, aextract] <;> exact rfl) ?_
          refine DrT.run 2 (by simp only [List.take_succ_cons, List.take_zero, runSD, stepOD, stepWD, stepVD, isLoud, isPure, isReader, isEqOp, isConstO, decide_true, Bool.or_true, Bool.true_or, Bool.or_self, Bool.and_self, Bool.and_true, Bool.and_false, Bool.false_and, Bool.true_and, Heap.next_set, Heap.next_alloc, runS, stepO, stepW, stepV, keep, guardOf, wantG, wantV, aop, binA, aev, flat, if_true, if_false, Option.bind_some, Option.map_some, Frm.put, look, setk, Nat.reduceLT, Nat.reduceEqDiff, evs, evp, evo, List.getElem?_toArray, List.getElem?_cons_succ, List.getElem?_cons_zero, Bool.false_eq_true, Bool.true_eq_false, beq_self_eq_true, beq_ft, beq_tf, notNil, Bool.not_true, Bool.not_false, reduceCtorEq, abuiltin, aextract, abin_int, ai_add, w4, t2] <;> exact rfl) rfl ?_
          try simp only [List.drop_succ_cons, List.drop_zero]
          refine DrT.skip (by simp only [runS, stepO, stepW, stepV, keep, guardOf, wantG, wantV, aop, binA, aev, flat, if_true, if_false, Option.bind_some, Option.map_some, Frm.put, look, setk, Nat.reduceLT, Nat.reduceEqDiff, evs, evp, evo, List.getElem?_toArray, List.getElem?_cons_succ, List.getElem?_cons_zero, Bool.false_eq_true, Bool.true_eq_false, beq_self_eq_true, beq_ft, beq_tf, notNil, Bool.not_true, Bool.not_false, reduceCtorEq, abuiltin, aextract, tok_n stj.y (numOf (w.take (j + 1)))] <;> exact rfl) rfl rfl (by simp only [runS, stepO, stepW, stepV, keep, guardOf, wantG, wantV, aop, binA, aev, flat, if_true, if_false, Option.bind_some, Option.map_some, Frm.put, look, setk, Nat.reduceLT, Nat.reduceEqDiff, evs, evp, evo, List.getElem?_toArray, List.getElem?_cons_succ, List.getElem?_cons_zero, Bool.false_eq_true, Bool.true_eq_false, beq_self_eq_true, beq_ft, beq_tf, notNil, Bool.not_true, Bool.not_false, reduceCtorEq, abuiltin, aextract]) (by simp only [runS, stepO, stepW, stepV, keep, guardOf, wantG, wantV, aop, binA, aev, flat, if_true, if_false, Option.bind_some, Option.map_some, Frm.put, look, setk, Nat.reduceLT, Nat.reduceEqDiff, evs, evp, evo, List.getElem?_toArray, List.getElem?_cons_succ, List.getElem?_cons_zero, Bool.false_eq_true, Bool.true_eq_false, beq_self_eq_true, beq_ft, beq_tf, notNil, Bool.not_true, Bool.not_false, reduceCtorEq, abuiltin, aextract] <;> exact rfl) (fun _ => trivial) ?_
          refine DrT.nil ?_
          dsimp only [after, leaving]
          repeat refine Wp.seq ?_
          refine Wp.runS (by simp only [runS, stepO, stepW, stepV, keep, guardOf, wantG, wantV, aop, binA, aev, flat, if_true, if_false, Option.bind_some, Option.map_some, Frm.put, look, setk, Nat.reduceLT, Nat.reduceEqDiff, evs, evp, evo, List.getElem?_toArray, List.getElem?_cons_succ, List.getElem?_cons_zero, Bool.false_eq_true, Bool.true_eq_false, beq_self_eq_true, beq_ft, beq_tf, notNil, Bool.not_true, Bool.not_false, reduceCtorEq, abuiltin, aextract, abin_int, ai_add, w5] <;> exact rfl) ?_
          dsimp only [after, leaving]
          exact ⟨j + 1, _, by omega, by omega, rfl, ⟨rfl, rfl, rfl, rfl, rfl, rfl, rfl, trivial⟩, rfl, Heap.set_set _ _ _ _⟩
        · repeat refine Wp.seq ?_
          refine Wp.runS (by simp only [runS, stepO, stepW, stepV, keep, guardOf, wantG, wantV, aop, binA, aev, flat, if_true, if_false, Option.bind_some, Option.map_some, Frm.put, look, setk, Nat.reduceLT, Nat.reduceEqDiff, evs, evp, evo, List.getElem?_toArray, List.getElem?_cons_succ, List.getElem?_cons_zero, Bool.false_eq_true, Bool.true_eq_false, beq_self_eq_true, beq_ft, beq_tf, notNil, Bool.not_true, Bool.not_false, reduceCtorEq, abuiltin, aextract, abin_int, ai_lss, decide_eq_false hlt] <;> exact rfl) ?_
          dsimp only [after, leaving]
          repeat refine Wp.seq ?_
          refine Wp.condF (by simp only [runS, stepO, stepW, stepV, keep, guardOf, wantG, wantV, aop, binA, aev, flat, if_true, if_false, Option.bind_some, Option.map_some, Frm.put, look, setk, Nat.reduceLT, Nat.reduceEqDiff, evs, evp, evo, List.getElem?_toArray, List.getElem?_cons_succ, List.getElem?_cons_zero, Bool.false_eq_true, Bool.true_eq_false, beq_self_eq_true, beq_ft, beq_tf, notNil, Bool.not_true, Bool.not_false, reduceCtorEq, abuiltin, aextract]) ?_
          repeat refine Wp.seq ?_
          refine Wp.exit ?_
          simp only [after, leaving, blockExit, if_true, if_false, Nat.reduceEqDiff]
          have hjw : j = w.length := by omega
          rw [hjw, List.take_length] at stj
          subst hjw
          rw [List.take_length]
          exact ⟨trivial, _, _, _, _, hbt, stj, hrl, _, rfl, rfl, rfl, rfl, rfl, trivial⟩
    rw [if_neg k3] at hbt
    repeat refine Wp.seq ?_
    refine Wp.cut (fun fr u h' => u = none ∧ h' = H ∧ ∃ sl, fr = ⟨172, sl, []⟩ ∧ holds [(0, .pointer (some ⟨i, 0, none⟩)), (2, .pointer (some ⟨h.next, 0, none⟩)), (3, .int .i64 0), (4, .pointer (some ⟨h.next + 1, 0, none⟩)), (5, .bool true), (6, byteV b), (60, .bool false)] sl) ?_ ?_
    rotate_left
    · by_cases d1 : 49 ≤ b.toNat
      · have e1 : decide ((49 : Int) ≤ (b.toNat : Int)) = true := decide_eq_true (by omega)
        have e2 : decide ((b.toNat : Int) ≤ 57) = false := decide_eq_false (by omega)
        repeat refine Wp.seq ?_
        refine Wp.runS (by simp only [runS, stepO, stepW, stepV, keep, guardOf, wantG, wantV, aop, binA, aev, flat, if_true, if_false, Option.bind_some, Option.map_some, Frm.put, look, setk, Nat.reduceLT, Nat.reduceEqDiff, evs, evp, evo, List.getElem?_toArray, List.getElem?_cons_succ, List.getElem?_cons_zero, Bool.false_eq_true, Bool.true_eq_false, beq_self_eq_true, beq_ft, beq_tf, notNil, Bool.not_true, Bool.not_false, reduceCtorEq, abuiltin, aextract, byteV, abin_int, ai_geq, ai_leq, e1, e2] <;> exact rfl) ?_
        dsimp only [after, leaving]
        exact ⟨rfl, rfl, _, rfl, rfl, rfl, rfl, rfl, rfl, rfl, rfl, trivial⟩
      · have e1 : decide ((49 : Int) ≤ (b.toNat : Int)) = false := decide_eq_false (by omega)
        repeat refine Wp.seq ?_
        refine Wp.runS (by simp only [runS, stepO, stepW, stepV, keep, guardOf, wantG, wantV, aop, binA, aev, flat, if_true, if_false, Option.bind_some, Option.map_some, Frm.put, look, setk, Nat.reduceLT, Nat.reduceEqDiff, evs, evp, evo, List.getElem?_toArray, List.getElem?_cons_succ, List.getElem?_cons_zero, Bool.false_eq_true, Bool.true_eq_false, beq_self_eq_true, beq_ft, beq_tf, notNil, Bool.not_true, Bool.not_false, reduceCtorEq, abuiltin, aextract, byteV, abin_int, ai_geq, ai_leq, e1] <;> exact rfl) ?_
        dsimp only [after, leaving]
        exact ⟨rfl, rfl, _, rfl, rfl, rfl, rfl, rfl, rfl, rfl, rfl, trivial⟩
    rintro fr u h9 ⟨rfl, hH, sl, rfl, hs⟩
    obtain rfl := hH.symm
    clear hH
    dsimp only [after, leaving]
    refine Wp.weaken (Frm.le_of hs) ?_
    clear hs sl
    repeat refine Wp.seq ?_
    refine Wp.condF (by simp only [runS, stepO, stepW, stepV, keep, guardOf, wantG, wantV, aop, binA, aev, flat, if_true, if_false, Option.bind_some, Option.map_some, Frm.put, look, setk, Nat.reduceLT, Nat.reduceEqDiff, evs, evp, evo, List.getElem?_toArray, List.getElem?_cons_succ, List.getElem?_cons_zero, Bool.false_eq_true, Bool.true_eq_false, beq_self_eq_true, beq_ft, beq_tf, notNil, Bool.not_true, Bool.not_false, reduceCtorEq, abuiltin, aextract]) ?_
    by_cases k4 : b = 34
    · -- a text in quotes
      have e1 : ((b.toNat : Int) == 34) = true := by rw [k4]; rfl
      rw [if_pos k4] at hbt
      have hlt := lt10 34 (by decide) (by rw [k4]; rfl)
      repeat refine Wp.seq ?_
      refine Wp.runS (by simp only [runS, stepO, stepW, stepV, keep, guardOf, wantG, wantV, aop, binA, aev, flat, if_true, if_false, Option.bind_some, Option.map_some, Frm.put, look, setk, Nat.reduceLT, Nat.reduceEqDiff, evs, evp, evo, List.getElem?_toArray, List.getElem?_cons_succ, List.getElem?_cons_zero, Bool.false_eq_true, Bool.true_eq_false, beq_self_eq_true, beq_ft, beq_tf, notNil, Bool.not_true, Bool.not_false, reduceCtorEq, abuiltin, aextract, byteV, abin_int, ai_eql, e1] <;> exact rfl) ?_
      dsimp only [after, leaving]
      repeat refine Wp.seq ?_
      refine Wp.condT (by simp only [runS, stepO, stepW, stepV, keep, guardOf, wantG, wantV, aop, binA, aev, flat, if_true, if_false, Option.bind_some, Option.map_some, Frm.put, look, setk, Nat.reduceLT, Nat.reduceEqDiff, evs, evp, evo, List.getElem?_toArray, List.getElem?_cons_succ, List.getElem?_cons_zero, Bool.false_eq_true, Bool.true_eq_false, beq_self_eq_true, beq_ft, beq_tf, notNil, Bool.not_true, Bool.not_false, reduceCtorEq, abuiltin, aextract]) ?_
      have hsl : ∀ h, aslice Tryz.prog h 9 (.string (bs T)) (some (.int .i64 (a : Nat))) none none = some (.string (bs (T.drop a)), h) := by
        intro h
        rw [aslice_str Tryz.underlying9 (by omega) (by simp only [bs_size]; omega), Int.toNat_natCast]
        exact congrArg (fun x => some (Value.string x, h)) (bs_drop T a)
      have hq := fun H => quoted_spec G B H (T.drop a) 64 (by rw [List.length_drop]; omega) (by decide)
      have hpl := scanQ_le 64 (T.drop a)
      rw [List.length_drop] at hpl
      obtain ⟨o, n, e, p, hqv, hqr⟩ : ∃ o n e p, quotedV (scanQ 64 (T.drop a)) = .tuple #[.string (bs o), .int .i64 (n : Nat), .agg #[.int .i64 (e : Nat), .int .i64 (p : Nat)]] ∧
          (e = 0 ∧ tokBody T a = .ok (4, o, 0, a + n) ∧ n ≤ T.length - a ∨ e ≠ 0 ∧ tokBody T a = .error (e, a + p) ∧ p ≤ T.length - a) := by
        rw [hbt]
        cases hs : scanQ 64 (T.drop a) with
        | bad k => rw [hs] at hpl; exact ⟨[], 0, 6, k, rfl, .inr ⟨by decide, rfl, hpl⟩⟩
        | long k => rw [hs] at hpl; exact ⟨[], 0, 3, k, rfl, .inr ⟨by decide, rfl, hpl⟩⟩
        | ok s k => rw [hs] at hpl; exact ⟨s, k + 1, 0, 0, rfl, .inl ⟨rfl, rfl, hpl⟩⟩
      rw [hqv] at hq
      have st4 := st.alloc (spotRow e p)
      have gsp : (H.alloc (spotRow e p)).get H.next = some (spotRow e p) := Heap.get_alloc_new _ _
      have hsto : astore Tryz.prog (H.alloc (spotRow 0 0)) 28 (.pointer (some ⟨H.next, 0, none⟩)) (.agg #[.int .i64 (e : Nat), .int .i64 (p : Nat)]) = some (H.alloc (spotRow e p)) := by
        have := astore_agg (P := Tryz.prog) (h := H.alloc (spotRow 0 0)) (i := H.next) (k := 0) (cs := [.int .i64 (e : Nat), .int .i64 (p : Nat)]) sz27 rfl rfl
        rw [this, Heap.sts_of (Heap.get_alloc_new H (spotRow 0 0)) (by simp) rfl rfl, Heap.set_alloc]; rfl
      have hK : ∀ H' : Heap, H'.get i = some (readerRow T a out) → H'.ld i 0 = some (.string (bs T)) ∧ H'.ld i 1 = some (.int .i64 a) := fun H' g => ⟨Heap.ld_of g rfl, Heap.ld_of g rfl⟩
      repeat refine Wp.seq ?_
      refine Wp.drawAs [99, 103] [105] 0 (fun H => H.get i = some (readerRow T a out)) mixed (by kernel_rfl) st.r ?_
      refine DrT.run 3 (by simp only [List.take_succ_cons, List.take_zero, runSD, stepOD, stepWD, stepVD, isLoud, isPure, isReader, isEqOp, isConstO, decide_true, Bool.or_true, Bool.true_or, Bool.or_self, Bool.and_self, Bool.and_true, Bool.and_false, Bool.false_and, Bool.true_and, Heap.next_set, Heap.next_alloc, runS, stepO, stepW, stepV, keep, guardOf, wantG, wantV, aop, binA, aev, flat, if_true, if_false, Option.bind_some, Option.map_some, Frm.put, look, setk, Nat.reduceLT, Nat.reduceEqDiff, evs, evp, evo, List.getElem?_toArray, List.getElem?_cons_succ, List.getElem?_cons_zero, Bool.false_eq_true, Bool.true_eq_false, beq_self_eq_true, beq_ft, beq_tf, notNil, Bool.not_true, Bool.not_false, reduceCtorEq, abuiltin, aextract, r0] <;> exact rfl) rfl ?_
      try simp only [List.drop_succ_cons, List.drop_zero]
      refine DrT.read rfl rfl (by simp only [runS, stepO, stepW, stepV, keep, guardOf, wantG, wantV, aop, binA, aev, flat, if_true, if_false, Option.bind_some, Option.map_some, Frm.put, look, setk, Nat.reduceLT, Nat.reduceEqDiff, evs, evp, evo, List.getElem?_toArray, List.getElem?_cons_succ, List.getElem?_cons_zero, Bool.false_eq_true, Bool.true_eq_false, beq_self_eq_true, beq_ft, beq_tf, notNil, Bool.not_true, Bool.not_false, reduceCtorEq, abuiltin, aextract]) (by simp only [runS, stepO, stepW, stepV, keep, guardOf, wantG, wantV, aop, binA, aev, flat, if_true, if_false, Option.bind_some, Option.map_some, Frm.put, look, setk, Nat.reduceLT, Nat.reduceEqDiff, evs, evp, evo, List.getElem?_toArray, List.getElem?_cons_succ, List.getElem?_cons_zero, Bool.false_eq_true, Bool.true_eq_false, beq_self_eq_true, beq_ft, beq_tf, notNil, Bool.not_true, Bool.not_false, reduceCtorEq, abuiltin, aextract, aload_cell agg9, (hK H st.r).1] <;> exact rfl) (fun H hK2 => by simp only [runS, stepO, stepW, stepV, keep, guardOf, wantG, wantV, aop, binA, aev, flat, if_true, if_false, Option.bind_some, Option.map_some, Frm.put, look, setk, Nat.reduceLT, Nat.reduceEqDiff, evs, evp, evo, List.getElem?_toArray, List.getElem?_cons_succ, List.getElem?_cons_zero, Bool.false_eq_true, Bool.true_eq_false, beq_self_eq_true, beq_ft, beq_tf, notNil, Bool.not_true, Bool.not_false, reduceCtorEq, abuiltin, aextract, aload_cell agg9, (hK H hK2).1] <;> exact rfl) (by simp only [runS, stepO, stepW, stepV, keep, guardOf, wantG, wantV, aop, binA, aev, flat, if_true, if_false, Option.bind_some, Option.map_some, Frm.put, look, setk, Nat.reduceLT, Nat.reduceEqDiff, evs, evp, evo, List.getElem?_toArray, List.getElem?_cons_succ, List.getElem?_cons_zero, Bool.false_eq_true, Bool.true_eq_false, beq_self_eq_true, beq_ft, beq_tf, notNil, Bool.not_true, Bool.not_false, reduceCtorEq, abuiltin, aextract] <;> exact rfl) ?_
      refine DrT.run 3 (by simp only [List.take_succ_cons, List.take_zero, runSD, stepOD, stepWD, stepVD, isLoud, isPure, isReader, isEqOp, isConstO, decide_true, Bool.or_true, Bool.true_or, Bool.or_self, Bool.and_self, Bool.and_true, Bool.and_false, Bool.false_and, Bool.true_and, Heap.next_set, Heap.next_alloc, runS, stepO, stepW, stepV, keep, guardOf, wantG, wantV, aop, binA, aev, flat, if_true, if_false, Option.bind_some, Option.map_some, Frm.put, look, setk, Nat.reduceLT, Nat.reduceEqDiff, evs, evp, evo, List.getElem?_toArray, List.getElem?_cons_succ, List.getElem?_cons_zero, Bool.false_eq_true, Bool.true_eq_false, beq_self_eq_true, beq_ft, beq_tf, notNil, Bool.not_true, Bool.not_false, reduceCtorEq, abuiltin, aextract, r1, Nat.zero_add] <;> exact rfl) rfl ?_
      try simp only [List.drop_succ_cons, List.drop_zero]
      refine DrT.read rfl rfl (by simp only [runS, stepO, stepW, stepV, keep, guardOf, wantG, wantV, aop, binA, aev, flat, if_true, if_false, Option.bind_some, Option.map_some, Frm.put, look, setk, Nat.reduceLT, Nat.reduceEqDiff, evs, evp, evo, List.getElem?_toArray, List.getElem?_cons_succ, List.getElem?_cons_zero, Bool.false_eq_true, Bool.true_eq_false, beq_self_eq_true, beq_ft, beq_tf, notNil, Bool.not_true, Bool.not_false, reduceCtorEq, abuiltin, aextract]) (by simp only [runS, stepO, stepW, stepV, keep, guardOf, wantG, wantV, aop, binA, aev, flat, if_true, if_false, Option.bind_some, Option.map_some, Frm.put, look, setk, Nat.reduceLT, Nat.reduceEqDiff, evs, evp, evo, List.getElem?_toArray, List.getElem?_cons_succ, List.getElem?_cons_zero, Bool.false_eq_true, Bool.true_eq_false, beq_self_eq_true, beq_ft, beq_tf, notNil, Bool.not_true, Bool.not_false, reduceCtorEq, abuiltin, aextract, aload_cell agg3, (hK H st.r).2] <;> exact rfl) (fun H hK2 => by simp only [runS, stepO, stepW, stepV, keep, guardOf, wantG, wantV, aop, binA, aev, flat, if_true, if_false, Option.bind_some, Option.map_some, Frm.put, look, setk, Nat.reduceLT, Nat.reduceEqDiff, evs, evp, evo, List.getElem?_toArray, List.getElem?_cons_succ, List.getElem?_cons_zero, Bool.false_eq_true, Bool.true_eq_false, beq_self_eq_true, beq_ft, beq_tf, notNil, Bool.not_true, Bool.not_false, reduceCtorEq, abuiltin, aextract, aload_cell agg3, (hK H hK2).2] <;> exact rfl) (by simp only [runS, stepO, stepW, stepV, keep, guardOf, wantG, wantV, aop, binA, aev, flat, if_true, if_false, Option.bind_some, Option.map_some, Frm.put, look, setk, Nat.reduceLT, Nat.reduceEqDiff, evs, evp, evo, List.getElem?_toArray, List.getElem?_cons_succ, List.getElem?_cons_zero, Bool.false_eq_true, Bool.true_eq_false, beq_self_eq_true, beq_ft, beq_tf, notNil, Bool.not_true, Bool.not_false, reduceCtorEq, abuiltin, aextract] <;> exact rfl) ?_
      refine DrT.run 1 (by simp only [List.take_succ_cons, List.take_zero, runSD, stepOD, stepWD, stepVD, isLoud, isPure, isReader, isEqOp, isConstO, decide_true, Bool.or_true, Bool.true_or, Bool.or_self, Bool.and_self, Bool.and_true, Bool.and_false, Bool.false_and, Bool.true_and, Heap.next_set, Heap.next_alloc, runS, stepO, stepW, stepV, keep, guardOf, wantG, wantV, aop, binA, aev, flat, if_true, if_false, Option.bind_some, Option.map_some, Frm.put, look, setk, Nat.reduceLT, Nat.reduceEqDiff, evs, evp, evo, List.getElem?_toArray, List.getElem?_cons_succ, List.getElem?_cons_zero, Bool.false_eq_true, Bool.true_eq_false, beq_self_eq_true, beq_ft, beq_tf, notNil, Bool.not_true, Bool.not_false, reduceCtorEq, abuiltin, aextract, hsl] <;> exact rfl) rfl ?_
      try simp only [List.drop_succ_cons, List.drop_zero]
      refine DrT.callP hq (by simp only [runS, stepO, stepW, stepV, keep, guardOf, wantG, wantV, aop, binA, aev, flat, if_true, if_false, Option.bind_some, Option.map_some, Frm.put, look, setk, Nat.reduceLT, Nat.reduceEqDiff, evs, evp, evo, List.getElem?_toArray, List.getElem?_cons_succ, List.getElem?_cons_zero, Bool.false_eq_true, Bool.true_eq_false, beq_self_eq_true, beq_ft, beq_tf, notNil, Bool.not_true, Bool.not_false, reduceCtorEq, abuiltin, aextract]) (fun H => by simp only [calleeOf, fnOf, List.append_nil, List.nil_append, runS, stepO, stepW, stepV, keep, guardOf, wantG, wantV, aop, binA, aev, flat, if_true, if_false, Option.bind_some, Option.map_some, Frm.put, look, setk, Nat.reduceLT, Nat.reduceEqDiff, evs, evp, evo, List.getElem?_toArray, List.getElem?_cons_succ, List.getElem?_cons_zero, Bool.false_eq_true, Bool.true_eq_false, beq_self_eq_true, beq_ft, beq_tf, notNil, Bool.not_true, Bool.not_false, reduceCtorEq, abuiltin, aextract, c25] <;> exact rfl) (by simp only [runS, stepO, stepW, stepV, keep, guardOf, wantG, wantV, aop, binA, aev, flat, if_true, if_false, Option.bind_some, Option.map_some, Frm.put, look, setk, Nat.reduceLT, Nat.reduceEqDiff, evs, evp, evo, List.getElem?_toArray, List.getElem?_cons_succ, List.getElem?_cons_zero, Bool.false_eq_true, Bool.true_eq_false, beq_self_eq_true, beq_ft, beq_tf, notNil, Bool.not_true, Bool.not_false, reduceCtorEq, abuiltin, aextract] <;> exact rfl) ?_
      refine DrT.run 4 (by simp only [List.take_succ_cons, List.take_zero, runSD, stepOD, stepWD, stepVD, isLoud, isPure, isReader, isEqOp, isConstO, decide_true, Bool.or_true, Bool.true_or, Bool.or_self, Bool.and_self, Bool.and_true, Bool.and_false, Bool.false_and, Bool.true_and, Heap.next_set, Heap.next_alloc, runS, stepO, stepW, stepV, keep, guardOf, wantG, wantV, aop, binA, aev, flat, if_true, if_false, Option.bind_some, Option.map_some, Frm.put, look, setk, Nat.reduceLT, Nat.reduceEqDiff, evs, evp, evo, List.getElem?_toArray, List.getElem?_cons_succ, List.getElem?_cons_zero, Bool.false_eq_true, Bool.true_eq_false, beq_self_eq_true, beq_ft, beq_tf, notNil, Bool.not_true, Bool.not_false, reduceCtorEq, abuiltin, aextract] <;> exact rfl) rfl ?_
      try simp only [List.drop_succ_cons, List.drop_zero]
      refine DrT.val (by simp only [runS, stepO, stepW, stepV, keep, guardOf, wantG, wantV, aop, binA, aev, flat, if_true, if_false, Option.bind_some, Option.map_some, Frm.put, look, setk, Nat.reduceLT, Nat.reduceEqDiff, evs, evp, evo, List.getElem?_toArray, List.getElem?_cons_succ, List.getElem?_cons_zero, Bool.false_eq_true, Bool.true_eq_false, beq_self_eq_true, beq_ft, beq_tf, notNil, Bool.not_true, Bool.not_false, reduceCtorEq, abuiltin, aextract, alloc27, Heap.new] <;> exact rfl) rfl rfl (by simp only [runS, stepO, stepW, stepV, keep, guardOf, wantG, wantV, aop, binA, aev, flat, if_true, if_false, Option.bind_some, Option.map_some, Frm.put, look, setk, Nat.reduceLT, Nat.reduceEqDiff, evs, evp, evo, List.getElem?_toArray, List.getElem?_cons_succ, List.getElem?_cons_zero, Bool.false_eq_true, Bool.true_eq_false, beq_self_eq_true, beq_ft, beq_tf, notNil, Bool.not_true, Bool.not_false, reduceCtorEq, abuiltin, aextract]) (by simp only [runS, stepO, stepW, stepV, keep, guardOf, wantG, wantV, aop, binA, aev, flat, if_true, if_false, Option.bind_some, Option.map_some, Frm.put, look, setk, Nat.reduceLT, Nat.reduceEqDiff, evs, evp, evo, List.getElem?_toArray, List.getElem?_cons_succ, List.getElem?_cons_zero, Bool.false_eq_true, Bool.true_eq_false, beq_self_eq_true, beq_ft, beq_tf, notNil, Bool.not_true, Bool.not_false, reduceCtorEq, abuiltin, aextract] <;> exact rfl) (fun _ => by rw [Heap.get_alloc_old _ _ (Heap.lt_of_get st.r)]; exact st.r) ?_
      refine DrT.run 2 (by simp only [List.take_succ_cons, List.take_zero, runSD, stepOD, stepWD, stepVD, isLoud, isPure, isReader, isEqOp, isConstO, decide_true, Bool.or_true, Bool.true_or, Bool.or_self, Bool.and_self, Bool.and_true, Bool.and_false, Bool.false_and, Bool.true_and, Heap.next_set, Heap.next_alloc, runS, stepO, stepW, stepV, keep, guardOf, wantG, wantV, aop, binA, aev, flat, if_true, if_false, Option.bind_some, Option.map_some, Frm.put, look, setk, Nat.reduceLT, Nat.reduceEqDiff, evs, evp, evo, List.getElem?_toArray, List.getElem?_cons_succ, List.getElem?_cons_zero, Bool.false_eq_true, Bool.true_eq_false, beq_self_eq_true, beq_ft, beq_tf, notNil, Bool.not_true, Bool.not_false, reduceCtorEq, abuiltin, aextract] <;> exact rfl) rfl ?_
      try simp only [List.drop_succ_cons, List.drop_zero]
      refine DrT.skip (by simp only [runS, stepO, stepW, stepV, keep, guardOf, wantG, wantV, aop, binA, aev, flat, if_true, if_false, Option.bind_some, Option.map_some, Frm.put, look, setk, Nat.reduceLT, Nat.reduceEqDiff, evs, evp, evo, List.getElem?_toArray, List.getElem?_cons_succ, List.getElem?_cons_zero, Bool.false_eq_true, Bool.true_eq_false, beq_self_eq_true, beq_ft, beq_tf, notNil, Bool.not_true, Bool.not_false, reduceCtorEq, abuiltin, aextract, hsto] <;> exact rfl) rfl rfl (by simp only [runS, stepO, stepW, stepV, keep, guardOf, wantG, wantV, aop, binA, aev, flat, if_true, if_false, Option.bind_some, Option.map_some, Frm.put, look, setk, Nat.reduceLT, Nat.reduceEqDiff, evs, evp, evo, List.getElem?_toArray, List.getElem?_cons_succ, List.getElem?_cons_zero, Bool.false_eq_true, Bool.true_eq_false, beq_self_eq_true, beq_ft, beq_tf, notNil, Bool.not_true, Bool.not_false, reduceCtorEq, abuiltin, aextract]) (by simp only [runS, stepO, stepW, stepV, keep, guardOf, wantG, wantV, aop, binA, aev, flat, if_true, if_false, Option.bind_some, Option.map_some, Frm.put, look, setk, Nat.reduceLT, Nat.reduceEqDiff, evs, evp, evo, List.getElem?_toArray, List.getElem?_cons_succ, List.getElem?_cons_zero, Bool.false_eq_true, Bool.true_eq_false, beq_self_eq_true, beq_ft, beq_tf, notNil, Bool.not_true, Bool.not_false, reduceCtorEq, abuiltin, aextract] <;> exact rfl) (fun _ => st4.r) ?_
      refine DrT.nil ?_
      dsimp only [after, leaving]
      have hnx : h.next + 1 < H.next := Heap.lt_of_get st.y
      have hie : i ≠ H.next := by have := Heap.lt_of_get st.r; omega
      generalize H.alloc (spotRow e p) = H4 at st4 gsp ⊢
      rcases hqr with ⟨rfl, hbo, hn⟩ | ⟨he, hbo, hp⟩
      · repeat refine Wp.seq ?_
        refine Wp.runS (by simp only [runS, stepO, stepW, stepV, keep, guardOf, wantG, wantV, aop, binA, aev, flat, if_true, if_false, Option.bind_some, Option.map_some, Frm.put, look, setk, Nat.reduceLT, Nat.reduceEqDiff, evs, evp, evo, List.getElem?_toArray, List.getElem?_cons_succ, List.getElem?_cons_zero, Bool.false_eq_true, Bool.true_eq_false, beq_self_eq_true, beq_ft, beq_tf, notNil, Bool.not_true, Bool.not_false, reduceCtorEq, abuiltin, aextract, s0, aload_cell agg25, Heap.ld_of gsp (k := 0) rfl, abin_int, ai_neq, (show (((0 : Nat) : Int) != 0) = false from rfl)] <;> exact rfl) ?_
        dsimp only [after, leaving]
        repeat refine Wp.seq ?_
        refine Wp.condF (by simp only [runS, stepO, stepW, stepV, keep, guardOf, wantG, wantV, aop, binA, aev, flat, if_true, if_false, Option.bind_some, Option.map_some, Frm.put, look, setk, Nat.reduceLT, Nat.reduceEqDiff, evs, evp, evo, List.getElem?_toArray, List.getElem?_cons_succ, List.getElem?_cons_zero, Bool.false_eq_true, Bool.true_eq_false, beq_self_eq_true, beq_ft, beq_tf, notNil, Bool.not_true, Bool.not_false, reduceCtorEq, abuiltin, aextract]) ?_
        repeat refine Wp.seq ?_
        refine Wp.skip ?_
        dsimp only [after, leaving]
        have st5 := st4.setY ⟨4, [], 0, a⟩
        have st6 := st5.setY ⟨4, o, 0, a⟩
        repeat refine Wp.seq ?_
        refine Wp.runS (by simp only [runS, stepO, stepW, stepV, keep, guardOf, wantG, wantV, aop, binA, aev, flat, if_true, if_false, Option.bind_some, Option.map_some, Frm.put, look, setk, Nat.reduceLT, Nat.reduceEqDiff, evs, evp, evo, List.getElem?_toArray, List.getElem?_cons_succ, List.getElem?_cons_zero, Bool.false_eq_true, Bool.true_eq_false, beq_self_eq_true, beq_ft, beq_tf, notNil, Bool.not_true, Bool.not_false, reduceCtorEq, abuiltin, aextract, t0, t1, tok_kind' st4.y 4 4 rfl, tok_text st5.y o] <;> exact rfl) ?_
        dsimp only [after, leaving]
        generalize (H4.set (h.next + 1) (Tok.row ⟨4, [], 0, a⟩)).set (h.next + 1) (Tok.row ⟨4, o, 0, a⟩) = H6 at st6 ⊢
        have st7 := st6.at (a + n)
        have hw : IntKind.i64.wrap ((a : Int) + (n : Int)) = ((a + n : Nat) : Int) := by rw [wrap_in (by omega) (by omega)]; omega
        repeat refine Wp.seq ?_
        refine Wp.runS (by simp only [runS, stepO, stepW, stepV, keep, guardOf, wantG, wantV, aop, binA, aev, flat, if_true, if_false, Option.bind_some, Option.map_some, Frm.put, look, setk, Nat.reduceLT, Nat.reduceEqDiff, evs, evp, evo, List.getElem?_toArray, List.getElem?_cons_succ, List.getElem?_cons_zero, Bool.false_eq_true, Bool.true_eq_false, beq_self_eq_true, beq_ft, beq_tf, notNil, Bool.not_true, Bool.not_false, reduceCtorEq, abuiltin, aextract, r1, aload_cell agg3, Nat.zero_add, Heap.ld_of st6.r (k := 1) rfl, abin_int, ai_add, hw, storeAt st6.r] <;> exact rfl) ?_
        dsimp only [after, leaving]
        exact ⟨rfl, _, _, _, _, hbo, st7, by omega, _, rfl, rfl, rfl, rfl, rfl, trivial⟩
      · have hne : ((e : Int) != 0) = true := by rw [bne_iff_ne]; omega
        repeat refine Wp.seq ?_
        refine Wp.runS (by simp only [runS, stepO, stepW, stepV, keep, guardOf, wantG, wantV, aop, binA, aev, flat, if_true, if_false, Option.bind_some, Option.map_some, Frm.put, look, setk, Nat.reduceLT, Nat.reduceEqDiff, evs, evp, evo, List.getElem?_toArray, List.getElem?_cons_succ, List.getElem?_cons_zero, Bool.false_eq_true, Bool.true_eq_false, beq_self_eq_true, beq_ft, beq_tf, notNil, Bool.not_true, Bool.not_false, reduceCtorEq, abuiltin, aextract, s0, aload_cell agg25, Heap.ld_of gsp (k := 0) rfl, abin_int, ai_neq, hne] <;> exact rfl) ?_
        dsimp only [after, leaving]
        repeat refine Wp.seq ?_
        refine Wp.condT (by simp only [runS, stepO, stepW, stepV, keep, guardOf, wantG, wantV, aop, binA, aev, flat, if_true, if_false, Option.bind_some, Option.map_some, Frm.put, look, setk, Nat.reduceLT, Nat.reduceEqDiff, evs, evp, evo, List.getElem?_toArray, List.getElem?_cons_succ, List.getElem?_cons_zero, Bool.false_eq_true, Bool.true_eq_false, beq_self_eq_true, beq_ft, beq_tf, notNil, Bool.not_true, Bool.not_false, reduceCtorEq, abuiltin, aextract]) ?_
        have hw : IntKind.i64.wrap ((a : Int) + (p : Int)) = ((a + p : Nat) : Int) := by rw [wrap_in (by omega) (by omega)]; omega
        have st5 := st4.at (a + p)
        have gs5 : (H4.set i (readerRow T (a + p) out)).get H.next = some (spotRow e p) := by rw [Heap.get_set_ne (Ne.symm hie)]; exact gsp
        repeat refine Wp.seq ?_
        refine Wp.runSD mixed (by kernel_rfl) (by simp only [runSD, stepOD, stepWD, stepVD, isLoud, isPure, isReader, decide_true, Bool.or_true, Bool.true_or, Bool.or_self, Bool.and_self, Bool.and_true, Bool.and_false, Heap.next_set, Heap.next_alloc, runS, stepO, stepW, stepV, keep, guardOf, wantG, wantV, aop, binA, aev, flat, if_true, if_false, Option.bind_some, Option.map_some, Frm.put, look, setk, Nat.reduceLT, Nat.reduceEqDiff, evs, evp, evo, List.getElem?_toArray, List.getElem?_cons_succ, List.getElem?_cons_zero, Bool.false_eq_true, Bool.true_eq_false, beq_self_eq_true, beq_ft, beq_tf, notNil, Bool.not_true, Bool.not_false, reduceCtorEq, abuiltin, aextract, r1, s1, aload_cell agg3, Nat.zero_add, Heap.ld_of st4.r (k := 1) rfl, Heap.ld_of gsp (k := 1) rfl, abin_int, ai_add, hw, storeAt st4.r] <;> exact rfl) ?_
        dsimp only [after, leaving]
        generalize H4.set i (readerRow T (a + p) out) = H5 at st5 gs5 ⊢
        have st6 := st5.setX ⟨0, [], 0, a⟩
        have hld : ∀ H' : Heap, H'.get H.next = some (spotRow e p) → H'.ld H.next 0 = some (.int .i64 e) := fun H' g => Heap.ld_of g rfl
        repeat refine Wp.seq ?_
        refine Wp.drawAs [123] [] 0 (fun H' => H'.get H.next = some (spotRow e p)) mixed (by kernel_rfl) gs5 ?_
        refine DrT.run 2 (by simp only [List.take_succ_cons, List.take_zero, runSD, stepOD, stepWD, stepVD, isLoud, isPure, isReader, isEqOp, isConstO, decide_true, Bool.or_true, Bool.true_or, Bool.or_self, Bool.and_self, Bool.and_true, Bool.and_false, Bool.false_and, Bool.true_and, Heap.next_set, Heap.next_alloc, runS, stepO, stepW, stepV, keep, guardOf, wantG, wantV, aop, binA, aev, flat, if_true, if_false, Option.bind_some, Option.map_some, Frm.put, look, setk, Nat.reduceLT, Nat.reduceEqDiff, evs, evp, evo, List.getElem?_toArray, List.getElem?_cons_succ, List.getElem?_cons_zero, Bool.false_eq_true, Bool.true_eq_false, beq_self_eq_true, beq_ft, beq_tf, notNil, Bool.not_true, Bool.not_false, reduceCtorEq, abuiltin, aextract, tok_load st5.y, s0] <;> exact rfl) rfl ?_
        try simp only [List.drop_succ_cons, List.drop_zero]
        refine DrT.read rfl rfl (by simp only [runS, stepO, stepW, stepV, keep, guardOf, wantG, wantV, aop, binA, aev, flat, if_true, if_false, Option.bind_some, Option.map_some, Frm.put, look, setk, Nat.reduceLT, Nat.reduceEqDiff, evs, evp, evo, List.getElem?_toArray, List.getElem?_cons_succ, List.getElem?_cons_zero, Bool.false_eq_true, Bool.true_eq_false, beq_self_eq_true, beq_ft, beq_tf, notNil, Bool.not_true, Bool.not_false, reduceCtorEq, abuiltin, aextract]) (by simp only [runS, stepO, stepW, stepV, keep, guardOf, wantG, wantV, aop, binA, aev, flat, if_true, if_false, Option.bind_some, Option.map_some, Frm.put, look, setk, Nat.reduceLT, Nat.reduceEqDiff, evs, evp, evo, List.getElem?_toArray, List.getElem?_cons_succ, List.getElem?_cons_zero, Bool.false_eq_true, Bool.true_eq_false, beq_self_eq_true, beq_ft, beq_tf, notNil, Bool.not_true, Bool.not_false, reduceCtorEq, abuiltin, aextract, aload_cell agg25, hld _ gs5] <;> exact rfl) (fun H hK2 => by simp only [runS, stepO, stepW, stepV, keep, guardOf, wantG, wantV, aop, binA, aev, flat, if_true, if_false, Option.bind_some, Option.map_some, Frm.put, look, setk, Nat.reduceLT, Nat.reduceEqDiff, evs, evp, evo, List.getElem?_toArray, List.getElem?_cons_succ, List.getElem?_cons_zero, Bool.false_eq_true, Bool.true_eq_false, beq_self_eq_true, beq_ft, beq_tf, notNil, Bool.not_true, Bool.not_false, reduceCtorEq, abuiltin, aextract, aload_cell agg25, hld H hK2] <;> exact rfl) (by simp only [runS, stepO, stepW, stepV, keep, guardOf, wantG, wantV, aop, binA, aev, flat, if_true, if_false, Option.bind_some, Option.map_some, Frm.put, look, setk, Nat.reduceLT, Nat.reduceEqDiff, evs, evp, evo, List.getElem?_toArray, List.getElem?_cons_succ, List.getElem?_cons_zero, Bool.false_eq_true, Bool.true_eq_false, beq_self_eq_true, beq_ft, beq_tf, notNil, Bool.not_true, Bool.not_false, reduceCtorEq, abuiltin, aextract] <;> exact rfl) ?_
        refine DrT.skip (by simp only [runS, stepO, stepW, stepV, keep, guardOf, wantG, wantV, aop, binA, aev, flat, if_true, if_false, Option.bind_some, Option.map_some, Frm.put, look, setk, Nat.reduceLT, Nat.reduceEqDiff, evs, evp, evo, List.getElem?_toArray, List.getElem?_cons_succ, List.getElem?_cons_zero, Bool.false_eq_true, Bool.true_eq_false, beq_self_eq_true, beq_ft, beq_tf, notNil, Bool.not_true, Bool.not_false, reduceCtorEq, abuiltin, aextract, tok_all st5.x ⟨0, [], 0, a⟩] <;> exact rfl) rfl rfl (by simp only [runS, stepO, stepW, stepV, keep, guardOf, wantG, wantV, aop, binA, aev, flat, if_true, if_false, Option.bind_some, Option.map_some, Frm.put, look, setk, Nat.reduceLT, Nat.reduceEqDiff, evs, evp, evo, List.getElem?_toArray, List.getElem?_cons_succ, List.getElem?_cons_zero, Bool.false_eq_true, Bool.true_eq_false, beq_self_eq_true, beq_ft, beq_tf, notNil, Bool.not_true, Bool.not_false, reduceCtorEq, abuiltin, aextract]) (by simp only [runS, stepO, stepW, stepV, keep, guardOf, wantG, wantV, aop, binA, aev, flat, if_true, if_false, Option.bind_some, Option.map_some, Frm.put, look, setk, Nat.reduceLT, Nat.reduceEqDiff, evs, evp, evo, List.getElem?_toArray, List.getElem?_cons_succ, List.getElem?_cons_zero, Bool.false_eq_true, Bool.true_eq_false, beq_self_eq_true, beq_ft, beq_tf, notNil, Bool.not_true, Bool.not_false, reduceCtorEq, abuiltin, aextract] <;> exact rfl) (fun _ => by rw [Heap.get_set_ne (by omega)]; exact gs5) ?_
        refine DrT.run 1 (by simp only [List.take_succ_cons, List.take_zero, runSD, stepOD, stepWD, stepVD, isLoud, isPure, isReader, isEqOp, isConstO, decide_true, Bool.or_true, Bool.true_or, Bool.or_self, Bool.and_self, Bool.and_true, Bool.and_false, Bool.false_and, Bool.true_and, Heap.next_set, Heap.next_alloc, runS, stepO, stepW, stepV, keep, guardOf, wantG, wantV, aop, binA, aev, flat, if_true, if_false, Option.bind_some, Option.map_some, Frm.put, look, setk, Nat.reduceLT, Nat.reduceEqDiff, evs, evp, evo, List.getElem?_toArray, List.getElem?_cons_succ, List.getElem?_cons_zero, Bool.false_eq_true, Bool.true_eq_false, beq_self_eq_true, beq_ft, beq_tf, notNil, Bool.not_true, Bool.not_false, reduceCtorEq, abuiltin, aextract] <;> exact rfl) rfl ?_
        try simp only [List.drop_succ_cons, List.drop_zero]
        refine DrT.nil ?_
        dsimp only [after, leaving]
        repeat refine Wp.seq ?_
        refine Wp.ret ?_
        dsimp only [after, leaving]
        have hR : tokS T a = .error (e, a + p) := by unfold tokS; rw [hbo]
        rw [hR]
        exact ⟨rfl, rfl, _, ares15 rfl rfl st6.x, _, rfl, st6.r, st6.but, by omega⟩
    rw [if_neg k4] at hbt
    have e34 : ((b.toNat : Int) == 34) = false := by rw [beq_eq_false_iff_ne]; intro q; exact k4 ((byte_eq _ 34 (by omega)).2 (by omega))
    repeat refine Wp.seq ?_
    refine Wp.runS (by simp only [runS, stepO, stepW, stepV, keep, guardOf, wantG, wantV, aop, binA, aev, flat, if_true, if_false, Option.bind_some, Option.map_some, Frm.put, look, setk, Nat.reduceLT, Nat.reduceEqDiff, evs, evp, evo, List.getElem?_toArray, List.getElem?_cons_succ, List.getElem?_cons_zero, Bool.false_eq_true, Bool.true_eq_false, beq_self_eq_true, beq_ft, beq_tf, notNil, Bool.not_true, Bool.not_false, reduceCtorEq, abuiltin, aextract, byteV, abin_int, ai_eql, e34] <;> exact rfl) ?_
    dsimp only [after, leaving]
    repeat refine Wp.seq ?_
    refine Wp.condF (by simp only [runS, stepO, stepW, stepV, keep, guardOf, wantG, wantV, aop, binA, aev, flat, if_true, if_false, Option.bind_some, Option.map_some, Frm.put, look, setk, Nat.reduceLT, Nat.reduceEqDiff, evs, evp, evo, List.getElem?_toArray, List.getElem?_cons_succ, List.getElem?_cons_zero, Bool.false_eq_true, Bool.true_eq_false, beq_self_eq_true, beq_ft, beq_tf, notNil, Bool.not_true, Bool.not_false, reduceCtorEq, abuiltin, aextract]) ?_
    repeat refine Wp.seq ?_
    refine Wp.cut (fun fr u h' => u = none ∧ h' = H ∧ ∃ sl, fr = ⟨172, sl, []⟩ ∧ holds [(0, .pointer (some ⟨i, 0, none⟩)), (2, .pointer (some ⟨h.next, 0, none⟩)), (3, .int .i64 0), (4, .pointer (some ⟨h.next + 1, 0, none⟩)), (6, byteV b), (135, .bool (decide (b = 60 ∨ b = 123 ∨ b = 125)))] sl) ?_ ?_
    rotate_left
    · by_cases e1 : b = 60
      · have b1 : ((b.toNat : Int) == 60) = true := by rw [e1]; rfl
        repeat refine Wp.seq ?_
        refine Wp.runS (by simp only [runS, stepO, stepW, stepV, keep, guardOf, wantG, wantV, aop, binA, aev, flat, if_true, if_false, Option.bind_some, Option.map_some, Frm.put, look, setk, Nat.reduceLT, Nat.reduceEqDiff, evs, evp, evo, List.getElem?_toArray, List.getElem?_cons_succ, List.getElem?_cons_zero, Bool.false_eq_true, Bool.true_eq_false, beq_self_eq_true, beq_ft, beq_tf, notNil, Bool.not_true, Bool.not_false, reduceCtorEq, abuiltin, aextract, byteV, abin_int, ai_eql, b1] <;> exact rfl) ?_
        dsimp only [after, leaving]
        refine ⟨rfl, rfl, _, rfl, rfl, rfl, rfl, rfl, rfl, ?_, trivial⟩
        rw [decide_eq_true (.inl e1)]; rfl
      have b1 : ((b.toNat : Int) == 60) = false := by rw [beq_eq_false_iff_ne]; intro q; exact e1 ((byte_eq _ 60 (by omega)).2 (by omega))
      by_cases e2 : b = 123
      · have b2 : ((b.toNat : Int) == 123) = true := by rw [e2]; rfl
        repeat refine Wp.seq ?_
        refine Wp.runS (by simp only [runS, stepO, stepW, stepV, keep, guardOf, wantG, wantV, aop, binA, aev, flat, if_true, if_false, Option.bind_some, Option.map_some, Frm.put, look, setk, Nat.reduceLT, Nat.reduceEqDiff, evs, evp, evo, List.getElem?_toArray, List.getElem?_cons_succ, List.getElem?_cons_zero, Bool.false_eq_true, Bool.true_eq_false, beq_self_eq_true, beq_ft, beq_tf, notNil, Bool.not_true, Bool.not_false, reduceCtorEq, abuiltin, aextract, byteV, abin_int, ai_eql, b1, b2] <;> exact rfl) ?_
        dsimp only [after, leaving]
        refine ⟨rfl, rfl, _, rfl, rfl, rfl, rfl, rfl, rfl, ?_, trivial⟩
        rw [decide_eq_true (.inr (.inl e2))]; rfl
      have b2 : ((b.toNat : Int) == 123) = false := by rw [beq_eq_false_iff_ne]; intro q; exact e2 ((byte_eq _ 123 (by omega)).2 (by omega))
      by_cases e3 : b = 125
      · have b3 : ((b.toNat : Int) == 125) = true := by rw [e3]; rfl
        repeat refine Wp.seq ?_
        refine Wp.runS (by simp only [runS, stepO, stepW, stepV, keep, guardOf, wantG, wantV, aop, binA, aev, flat, if_true, if_false, Option.bind_some, Option.map_some, Frm.put, look, setk, Nat.reduceLT, Nat.reduceEqDiff, evs, evp, evo, List.getElem?_toArray, List.getElem?_cons_succ, List.getElem?_cons_zero, Bool.false_eq_true, Bool.true_eq_false, beq_self_eq_true, beq_ft, beq_tf, notNil, Bool.not_true, Bool.not_false, reduceCtorEq, abuiltin, aextract, byteV, abin_int, ai_eql, b1, b2, b3] <;> exact rfl) ?_
        dsimp only [after, leaving]
        refine ⟨rfl, rfl, _, rfl, rfl, rfl, rfl, rfl, rfl, ?_, trivial⟩
        rw [decide_eq_true (.inr (.inr e3))]; rfl
      have b3 : ((b.toNat : Int) == 125) = false := by rw [beq_eq_false_iff_ne]; intro q; exact e3 ((byte_eq _ 125 (by omega)).2 (by omega))
      repeat refine Wp.seq ?_
      refine Wp.runS (by simp only [runS, stepO, stepW, stepV, keep, guardOf, wantG, wantV, aop, binA, aev, flat, if_true, if_false, Option.bind_some, Option.map_some, Frm.put, look, setk, Nat.reduceLT, Nat.reduceEqDiff, evs, evp, evo, List.getElem?_toArray, List.getElem?_cons_succ, List.getElem?_cons_zero, Bool.false_eq_true, Bool.true_eq_false, beq_self_eq_true, beq_ft, beq_tf, notNil, Bool.not_true, Bool.not_false, reduceCtorEq, abuiltin, aextract, byteV, abin_int, ai_eql, b1, b2, b3] <;> exact rfl) ?_
      dsimp only [after, leaving]
      refine ⟨rfl, rfl, _, rfl, rfl, rfl, rfl, rfl, rfl, ?_, trivial⟩
      rw [decide_eq_false fun q => q.elim e1 fun q => q.elim e2 e3]; rfl
    rintro fr u h9 ⟨rfl, hH, sl, rfl, hs⟩
    obtain rfl := hH.symm
    clear hH
    dsimp only [after, leaving]
    refine Wp.weaken (Frm.le_of hs) ?_
    clear hs sl
    by_cases k5 : b = 60 ∨ b = 123 ∨ b = 125
    · rw [if_pos k5] at hbt
      repeat refine Wp.seq ?_
      refine Wp.condT (by simp only [runS, stepO, stepW, stepV, keep, guardOf, wantG, wantV, aop, binA, aev, flat, if_true, if_false, Option.bind_some, Option.map_some, Frm.put, look, setk, Nat.reduceLT, Nat.reduceEqDiff, evs, evp, evo, List.getElem?_toArray, List.getElem?_cons_succ, List.getElem?_cons_zero, Bool.false_eq_true, Bool.true_eq_false, beq_self_eq_true, beq_ft, beq_tf, notNil, Bool.not_true, Bool.not_false, reduceCtorEq, abuiltin, aextract, decide_eq_true k5]) ?_
      have hlt := peek_lt (T := T) (a := a) (by rw [hb]; rintro rfl; revert k5; decide)
      repeat refine Wp.seq ?_
      refine sign_region H (h.next + 1) b 0 0 a [] _ (by kernel_rfl) rfl rfl (by kernel_rfl) rfl rfl st.y ?_
      dsimp only [after, leaving]
      have st1 := (st.setY ⟨5, [b], 0, a⟩).alloc (.row { vs := [byteV b], elem := 5 })
      generalize (H.set (h.next + 1) (Tok.row ⟨5, [b], 0, a⟩)).alloc (.row { vs := [byteV b], elem := 5 }) = H4 at st1 ⊢
      have st5 := st1.at (a + 1)
      have hw := bumps st1 hlt
      simp only [setk, Nat.reduceEqDiff, if_true, if_false]
      repeat refine Wp.seq ?_
      refine Wp.runS (by simp only [runS, stepO, stepW, stepV, keep, guardOf, wantG, wantV, aop, binA, aev, flat, if_true, if_false, Option.bind_some, Option.map_some, Frm.put, look, setk, Nat.reduceLT, Nat.reduceEqDiff, evs, evp, evo, List.getElem?_toArray, List.getElem?_cons_succ, List.getElem?_cons_zero, Bool.false_eq_true, Bool.true_eq_false, beq_self_eq_true, beq_ft, beq_tf, notNil, Bool.not_true, Bool.not_false, reduceCtorEq, abuiltin, aextract, r1, aload_cell agg3, Nat.zero_add, Heap.ld_of st1.r (k := 1) rfl, abin_int, ai_add, hw, storeAt st1.r] <;> exact rfl) ?_
      dsimp only [after, leaving]
      exact ⟨rfl, _, _, _, _, hbt, st5, by omega, _, rfl, rfl, rfl, rfl, rfl, trivial⟩
    · rw [if_neg k5] at hbt
      repeat refine Wp.seq ?_
      refine Wp.condF (by simp only [runS, stepO, stepW, stepV, keep, guardOf, wantG, wantV, aop, binA, aev, flat, if_true, if_false, Option.bind_some, Option.map_some, Frm.put, look, setk, Nat.reduceLT, Nat.reduceEqDiff, evs, evp, evo, List.getElem?_toArray, List.getElem?_cons_succ, List.getElem?_cons_zero, Bool.false_eq_true, Bool.true_eq_false, beq_self_eq_true, beq_ft, beq_tf, notNil, Bool.not_true, Bool.not_false, reduceCtorEq, abuiltin, aextract, decide_eq_false k5]) ?_
      have st6 := st.setX ⟨0, [], 0, a⟩
      repeat refine Wp.seq ?_
      refine Wp.runS (by simp only [runS, stepO, stepW, stepV, keep, guardOf, wantG, wantV, aop, binA, aev, flat, if_true, if_false, Option.bind_some, Option.map_some, Frm.put, look, setk, Nat.reduceLT, Nat.reduceEqDiff, evs, evp, evo, List.getElem?_toArray, List.getElem?_cons_succ, List.getElem?_cons_zero, Bool.false_eq_true, Bool.true_eq_false, beq_self_eq_true, beq_ft, beq_tf, notNil, Bool.not_true, Bool.not_false, reduceCtorEq, abuiltin, aextract, tok_load st.y, tok_all st.x ⟨0, [], 0, a⟩] <;> exact rfl) ?_
      dsimp only [after, leaving]
      repeat refine Wp.seq ?_
      refine Wp.ret ?_
      dsimp only [after, leaving]
      have hR : tokS T a = .error (6, a) := by unfold tokS; rw [hbt]
      rw [hR]
      exact ⟨rfl, rfl, _, ares15 rfl rfl st6.x, _, rfl, st6.r, st6.but, ha⟩
end Go.Mini
