/-
  LEX, part F: text in quotes: scan.
-/
import Derived.Test.YtomndnhkgfeiiaaGreatDoorKLexE
import Derived.Test.YtomndnhkgfeiiaaGreatDoorMiniZD
set_option linter.unusedSimpArgs false
set_option maxHeartbeats 8000000
set_option maxRecDepth 100000
namespace Go.Mini
open Go.Proofs

/-- The sign with which a text begins: its byte, and how many bytes it has; else how many bytes are right. -/
def signAt : List UInt8 → Sum Nat (UInt8 × Nat)
  | [] => .inl 0
  | c :: r =>
    if c = 92 then
      match r with
      | [] => .inl 1
      | e :: r' =>
        if escB e then
          if e = 120 then
            match r' with
            | [] => .inl 2
            | hi :: r2 => if highB hi then (match r2 with | [] => .inl 3 | lo :: _ => if lowB hi lo then .inr (hexB hi lo, 4) else .inl 3) else .inl 2
          else .inr (if e = 110 then 10 else if e = 114 then 13 else if e = 116 then 9 else e, 2)
        else .inl 1
    else if plainB c then .inr (c, 1) else .inl 0
theorem signAt_cons (c : UInt8) (r : List UInt8) : signAt (c :: r) = if c = 92 then
      match r with
      | [] => .inl 1
      | e :: r' =>
        if escB e then
          if e = 120 then
            match r' with
            | [] => .inl 2
            | hi :: r2 => if highB hi then (match r2 with | [] => .inl 3 | lo :: _ => if lowB hi lo then .inr (hexB hi lo, 4) else .inl 3) else .inl 2
          else .inr (if e = 110 then 10 else if e = 114 then 13 else if e = 116 then 9 else e, 2)
        else .inl 1
    else if plainB c then .inr (c, 1) else .inl 0 := rfl
inductive SR where
  | bad (k : Nat)
  | long (k : Nat)
  | ok (out : List UInt8) (k : Nat)
/-- From a place on, with what was read: what stands in quotes. -/
def scanF (most : Int) : Nat → List UInt8 → Nat → List UInt8 → SR
  | 0, _, k, _ => .bad k
  | f + 1, s, k, o =>
    if (o.length : Int) = most ∧ s.head? ≠ some 34 then .long k
    else if s.head? = some 34 then .ok o k
    else match signAt s with
      | .inl j => .bad (k + j)
      | .inr (c, n) => scanF most f (s.drop n) (k + n) (o ++ [c])
def scanQ (most : Int) (T : List UInt8) : SR := if T.head? = some 34 then scanF most (T.length + 1) (T.drop 1) 1 [] else .bad 0

theorem elem5 : elemOk Tryz.prog 5 1 1 = true := by kernel_rfl
theorem elem3 : elemOk Tryz.prog 3 1 8 = true := by kernel_rfl

/-- What holds while a text is scanned. -/
structure ScanSt (h H : Heap) (T : List UInt8) (k : Nat) (o : List UInt8) (ps : List Nat) (vo vp : Value) : Prop where
  s : H.get h.next = some (strRow T)
  a : H.get (h.next + 1) = some (intRow k)
  o : Own H vo 5 o.length (o.map byteV)
  p : Own H vp 3 ps.length (ps.map fun n : Nat => Value.int .i64 n)
  keeps : Keeps h H
theorem ScanSt.at {h H : Heap} {T : List UInt8} {k : Nat} {o : List UInt8} {ps : List Nat} {vo vp : Value} (x : ScanSt h H T k o ps vo vp) (j : Nat) : ScanSt h (H.set (h.next + 1) (intRow j)) T j o ps vo vp where
  s := by rw [Heap.get_set_ne (by omega)]; exact x.s
  a := Heap.get_set_self x.a
  o := x.o.set x.a rfl _
  p := x.p.set x.a rfl _
  keeps := x.keeps.set_new (by omega) _
theorem ScanSt.alloc {h H : Heap} {T : List UInt8} {k : Nat} {o : List UInt8} {ps : List Nat} {vo vp : Value} (x : ScanSt h H T k o ps vo vp) (p : AObj) : ScanSt h (H.alloc p) T k o ps vo vp where
  s := by rw [Heap.get_alloc_old _ _ (Heap.lt_of_get x.s)]; exact x.s
  a := by rw [Heap.get_alloc_old _ _ (Heap.lt_of_get x.a)]; exact x.a
  o := x.o.alloc _
  p := x.p.alloc _
  keeps := x.keeps.trans (Keeps.alloc _ _)
theorem ScanSt.setNew {h H : Heap} {T : List UInt8} {k : Nat} {o : List UInt8} {ps : List Nat} {vo vp : Value} (x : ScanSt h H T k o ps vo vp) {i : Nat} {q : AObj} (hi : h.next + 1 < i) (hq : H.get i = some q) (hp : q.plain = true) (p : AObj) : ScanSt h (H.set i p) T k o ps vo vp where
  s := by rw [Heap.get_set_ne (by omega)]; exact x.s
  a := by rw [Heap.get_set_ne (by omega)]; exact x.a
  o := x.o.set hq hp _
  p := x.p.set hq hp _
  keeps := x.keeps.set_new (by omega) _
theorem ScanSt.pushP {h H : Heap} {T : List UInt8} {k : Nat} {o : List UInt8} {ps : List Nat} {vo vp : Value} (x : ScanSt h H T k o ps vo vp) (n : Nat) (hb : ps.length ≤ 1000000) :
    abuildSlice Tryz.prog H 31 1 [(0, .int .i64 n)] = some (.slice (some ⟨H.next, 0, none⟩) 1 1, H.alloc (.row { vs := [.int .i64 n], elem := 3 })) ∧
    ∃ vp' H', aappend Tryz.prog (H.alloc (.row { vs := [.int .i64 n], elem := 3 })) 31 31 vp (.slice (some ⟨H.next, 0, none⟩) 1 1) = some (vp', H') ∧ ScanSt h H' T k o (ps ++ [n]) vo vp' := by
  obtain ⟨h1, v', h', h2, h3, h4, _, _, _⟩ := own_push (w := .int .i64 n) Tryz.underlying31 elem3 (by omega) x.p (by simp) rfl rfl (by omega) (by omega)
  refine ⟨h1, v', h', h2, ?_⟩
  exact ⟨h4.2 _ _ x.s rfl, h4.2 _ _ x.a rfl, x.o.keep h4 (by decide), by simpa [Value.cells] using h3, x.keeps.trans h4.keeps⟩
theorem ScanSt.pushO {h H : Heap} {T : List UInt8} {k : Nat} {o : List UInt8} {ps : List Nat} {vo vp : Value} (x : ScanSt h H T k o ps vo vp) (c : UInt8) (hb : o.length ≤ 1000000) :
    abuildSlice Tryz.prog H 70 1 [(0, byteV c)] = some (.slice (some ⟨H.next, 0, none⟩) 1 1, H.alloc (.row { vs := [byteV c], elem := 5 })) ∧
    ∃ vo' H', aappend Tryz.prog (H.alloc (.row { vs := [byteV c], elem := 5 })) 70 70 vo (.slice (some ⟨H.next, 0, none⟩) 1 1) = some (vo', H') ∧ ScanSt h H' T k (o ++ [c]) ps vo' vp := by
  obtain ⟨h1, v', h', h2, h3, h4, _, _, _⟩ := own_push (w := byteV c) Tryz.underlying70 elem5 (by omega) x.o (by simp) rfl rfl (by omega) (by omega)
  refine ⟨h1, v', h', h2, ?_⟩
  exact ⟨h4.2 _ _ x.s rfl, h4.2 _ _ x.a rfl, by simpa [Value.cells, byteV] using h3, x.p.keep h4 (by decide), x.keeps.trans h4.keeps⟩

theorem byte_eq (c : UInt8) (n : Nat) (hn : n < 256) : c = n.toUInt8 ↔ c.toNat = n := by
  constructor
  · rintro rfl; simp; omega
  · rintro rfl; simp
theorem drop_cons {T : List UInt8} {k : Nat} {c : UInt8} (h : T[k]? = some c) : T.drop k = c :: T.drop (k + 1) := by
  obtain ⟨h1, h2⟩ := List.getElem?_eq_some_iff.1 h
  rw [List.drop_eq_getElem_cons h1, h2]
theorem needP_some {p : UInt8 → Bool} {T : List UInt8} {k : Nat} {c : UInt8} (hn : needP p T k = some c) : T[k]? = some c ∧ p c = true := by
  unfold needP at hn
  cases hd : T[k]? with
  | none => rw [hd] at hn; cases hn
  | some d =>
    rw [hd] at hn
    simp only [Option.ite_none_right_eq_some, Option.some.injEq] at hn
    obtain ⟨h1, rfl⟩ := hn
    exact ⟨rfl, h1⟩
theorem needP_none {p : UInt8 → Bool} {T : List UInt8} {k : Nat} (hn : needP p T k = none) : T.drop k = [] ∨ ∃ e, T.drop k = e :: T.drop (k + 1) ∧ p e = false := by
  unfold needP at hn
  cases hd : T[k]? with
  | none => exact .inl (List.drop_eq_nil_of_le (by have := List.getElem?_eq_none_iff.1 hd; omega))
  | some e =>
    rw [hd] at hn
    simp only [ite_eq_right_iff, reduceCtorEq, imp_false, Bool.not_eq_true] at hn
    exact .inr ⟨e, drop_cons hd, hn⟩
theorem highB_hex {b : UInt8} (h : highB b = true) : 0 ≤ hexV b := by
  have h2 : ∀ b : Fin 256, highB (UInt8.ofNat b.val) = true → 0 ≤ hexV (UInt8.ofNat b.val) := by decide +kernel
  have := h2 ⟨b.toNat, b.toNat_lt⟩
  simp only [UInt8.ofNat_toNat] at this
  exact this h
theorem aalloc_eq {P : Program} {h : Heap} {t : TypeId} {z : Value} (hz : (P.info? t).bind (·.zero) = some z) (hf : flat z = true) : aalloc P h t = some (h.new, h.alloc (.row { vs := z.cells.toList, elem := t })) := by
  unfold aalloc
  cases e : P.info? t with
  | none => rw [e] at hz; cases hz
  | some i =>
    rw [e] at hz
    simp only [Option.bind_some] at hz ⊢
    rw [hz, Option.bind_some, if_pos hf]
theorem alloc3 (h : Heap) : aalloc Tryz.prog h 3 = some (h.new, h.alloc (intRow 0)) := aalloc_eq (z := .int .i64 0) (by kernel_rfl) rfl
/-- What scan comes to. -/
def ScanR (h : Heap) (L : Nat) (R : SR) (r : Ending) (h' : Heap) : Prop := match R with
  | .bad k => r = .panicked (wrongP 327 k) ∧ Keeps h h'
  | .long k => r = .panicked (wrongP 349 k) ∧ Keeps h h'
  | .ok out k => ∃ vp ps, r = .returned (.tuple #[.string (bs out), vp]) ∧ Keeps h h' ∧ Own h' vp 3 (ps ++ [k]).length ((ps ++ [k]).map fun n : Nat => Value.int .i64 n) ∧ ps.length < k ∧ k ≤ L

structure ScanX where
  k : Nat
  o : List UInt8
  ps : List Nat
  vo : Value
  vp : Value
  H : Heap

theorem scan_spec (G : Nat) (B : Base Tryz.prog G) (h : Heap) (T : List UInt8) (most : Int) (hT : T.length ≤ 1000000) :
    Does Tryz.prog G (GoodE Tryz.prog B) 178 [.string (bs T), .int .i64 0, .int .i64 most] h (ScanR h T.length (scanQ most T)) := by
  have c37 : canEnter Tryz.prog 189 = true := by kernel_rfl
  have c38 : canEnter Tryz.prog 190 = true := by kernel_rfl
  have c39 : canEnter Tryz.prog 191 = true := by kernel_rfl
  have c41 : canEnter Tryz.prog 193 = true := by kernel_rfl
  have c42 : canEnter Tryz.prog 194 = true := by kernel_rfl
  have c43 : canEnter Tryz.prog 195 = true := by kernel_rfl
  have c14 : canEnter Tryz.prog 133 = true := by kernel_rfl
  refine Does.body Tryz.func178 rfl ?_
  have hn : enterF Tryz.f178 [.string (bs T), .int .i64 0, .int .i64 most] = ⟨81, [(0, .string (bs T)), (1, .int .i64 0), (2, .int .i64 most)], []⟩ := rfl
  rw [hn]; clear hn
  repeat refine Wp.seq ?_
  refine Wp.runS (by simp only [runS, stepO, stepW, stepV, keep, guardOf, wantG, wantV, aop, binA, aev, flat, if_true, if_false, Option.bind_some, Option.map_some, Frm.put, look, setk, Nat.reduceLT, Nat.reduceEqDiff, evs, evp, evo, List.getElem?_toArray, List.getElem?_cons_succ, List.getElem?_cons_zero, Bool.false_eq_true, Bool.true_eq_false, beq_self_eq_true, beq_ft, beq_tf, notNil, Bool.not_true, Bool.not_false, reduceCtorEq, abuiltin, aextract, abox, Heap.new, Value.cells, Heap.next_alloc] <;> exact rfl) ?_
  dsimp only [after, leaving]
  repeat refine Wp.seq ?_
  refine Wp.runS (by simp only [runS, stepO, stepW, stepV, keep, guardOf, wantG, wantV, aop, binA, aev, flat, if_true, if_false, Option.bind_some, Option.map_some, Frm.put, look, setk, Nat.reduceLT, Nat.reduceEqDiff, evs, evp, evo, List.getElem?_toArray, List.getElem?_cons_succ, List.getElem?_cons_zero, Bool.false_eq_true, Bool.true_eq_false, beq_self_eq_true, beq_ft, beq_tf, notNil, Bool.not_true, Bool.not_false, reduceCtorEq, abuiltin, aextract] <;> exact rfl) ?_
  dsimp only [after, leaving]
  have hst : ScanSt h ((h.alloc (strRow T)).alloc (intRow (0 : Nat))) T 0 [] [] (.slice none 0 0) (.slice none 0 0) :=
    ⟨by rw [Heap.get_alloc_old _ _ (by simp)]; exact Heap.get_alloc_new _ _, by have := Heap.get_alloc_new (h.alloc (strRow T)) (intRow (0 : Nat)); simpa using this, Own.nil _ _, Own.nil _ _, (Keeps.alloc h _).trans (Keeps.alloc _ _)⟩
  generalize hH0 : (h.alloc (strRow T)).alloc (intRow (0 : Nat)) = H0 at hst
  change Wp _ _ _ _ _ _ ((h.alloc (strRow T)).alloc (intRow (0 : Nat))) _
  rw [hH0]
  clear hH0
  repeat refine Wp.seq ?_
  refine Wp.regionAs (is := List.range' 0 1 ++ (1 :: [])) rfl ?_
  refine WpO.runS 1 (by simp only [List.drop_succ_cons, List.drop_zero, List.take_succ_cons, List.take_zero, runS, stepO, stepW, stepV, keep, guardOf, wantG, wantV, aop, binA, aev, flat, if_true, if_false, Option.bind_some, Option.map_some, Frm.put, look, setk, Nat.reduceLT, Nat.reduceEqDiff, evs, evp, evo, List.getElem?_toArray, List.getElem?_cons_succ, List.getElem?_cons_zero, Bool.false_eq_true, Bool.true_eq_false, beq_self_eq_true, beq_ft, beq_tf, notNil, Bool.not_true, Bool.not_false, reduceCtorEq, abuiltin, aextract] <;> exact rfl) (by decide) ?_
  refine WpO.callS rfl (by simp only [runS, stepO, stepW, stepV, keep, guardOf, wantG, wantV, aop, binA, aev, flat, if_true, if_false, Option.bind_some, Option.map_some, Frm.put, look, setk, Nat.reduceLT, Nat.reduceEqDiff, evs, evp, evo, List.getElem?_toArray, List.getElem?_cons_succ, List.getElem?_cons_zero, Bool.false_eq_true, Bool.true_eq_false, beq_self_eq_true, beq_ft, beq_tf, notNil, Bool.not_true, Bool.not_false, reduceCtorEq, abuiltin, aextract, c37]) (by simp only [calleeOf, fnOf, List.append_nil, List.nil_append, runS, stepO, stepW, stepV, keep, guardOf, wantG, wantV, aop, binA, aev, flat, if_true, if_false, Option.bind_some, Option.map_some, Frm.put, look, setk, Nat.reduceLT, Nat.reduceEqDiff, evs, evp, evo, List.getElem?_toArray, List.getElem?_cons_succ, List.getElem?_cons_zero, Bool.false_eq_true, Bool.true_eq_false, beq_self_eq_true, beq_ft, beq_tf, notNil, Bool.not_true, Bool.not_false, reduceCtorEq, abuiltin, aextract, c37] <;> exact rfl) ((need_spec G H0 (h.next + 1) h.next 0 T 190 [] (fun b => b.toNat == 34) (by omega) hst.a hst.s (by omega) c38 (fun c => byteFn (noKnown _ _ _) quote_ok (B := B) c H0)).mono ?_)
  intro r h2 hr
  by_cases hq : ¬ T.head? = some 34
  · have hn : needP (fun b => b.toNat == 34) T 0 = none := by
      unfold needP
      cases T with
      | nil => rfl
      | cons c T =>
        simp only [List.getElem?_cons_zero]
        rw [if_neg]
        intro hc
        apply hq
        have : c = 34 := UInt8.toNat_inj.1 (by simpa using hc)
        rw [this]; rfl
    rw [hn] at hr
    obtain ⟨rfl, rfl⟩ := hr
    refine ⟨rfl, rfl, ?_⟩
    unfold scanQ
    rw [if_neg hq]
    exact ⟨rfl, hst.keeps⟩
  replace hq : T.head? = some 34 := Classical.not_not.1 hq
  have hn : needP (fun b => b.toNat == 34) T 0 = some 34 := by
    unfold needP
    cases T with
    | nil => cases hq
    | cons c T => simp at hq; subst hq; rfl
  rw [hn] at hr
  obtain ⟨rfl, rfl⟩ := hr
  refine ⟨_, by simp only [runS, stepO, stepW, stepV, keep, guardOf, wantG, wantV, aop, binA, aev, flat, if_true, if_false, Option.bind_some, Option.map_some, Frm.put, look, setk, Nat.reduceLT, Nat.reduceEqDiff, evs, evp, evo, List.getElem?_toArray, List.getElem?_cons_succ, List.getElem?_cons_zero, Bool.false_eq_true, Bool.true_eq_false, beq_self_eq_true, beq_ft, beq_tf, notNil, Bool.not_true, Bool.not_false, reduceCtorEq, abuiltin, aextract] <;> exact rfl, ?_⟩
  refine WpO.nil ?_
  dsimp only [after, leaving]
  have hst1 := hst.at 1
  generalize H0.set (h.next + 1) (intRow ((0 + 1 : Nat) : Int)) = H1 at hst1 ⊢
  repeat refine Wp.seq ?_
  refine Wp.runS (by simp only [runS, stepO, stepW, stepV, keep, guardOf, wantG, wantV, aop, binA, aev, flat, if_true, if_false, Option.bind_some, Option.map_some, Frm.put, look, setk, Nat.reduceLT, Nat.reduceEqDiff, evs, evp, evo, List.getElem?_toArray, List.getElem?_cons_succ, List.getElem?_cons_zero, Bool.false_eq_true, Bool.true_eq_false, beq_self_eq_true, beq_ft, beq_tf, notNil, Bool.not_true, Bool.not_false, reduceCtorEq, abuiltin, aextract] <;> exact rfl) ?_
  dsimp only [after, leaving]
  repeat refine Wp.seq ?_
  refine Wp.runS (by simp only [runS, stepO, stepW, stepV, keep, guardOf, wantG, wantV, aop, binA, aev, flat, if_true, if_false, Option.bind_some, Option.map_some, Frm.put, look, setk, Nat.reduceLT, Nat.reduceEqDiff, evs, evp, evo, List.getElem?_toArray, List.getElem?_cons_succ, List.getElem?_cons_zero, Bool.false_eq_true, Bool.true_eq_false, beq_self_eq_true, beq_ft, beq_tf, notNil, Bool.not_true, Bool.not_false, reduceCtorEq, abuiltin, aextract] <;> exact rfl) ?_
  dsimp only [after, leaving]
  have hR : scanF most (T.length + 1) (T.drop 1) 1 [] = scanQ most T := by unfold scanQ; rw [if_pos hq]
  have hT1 : 1 ≤ T.length := by cases T with | nil => cases hq | cons => simp
  generalize scanQ most T = R at hR ⊢
  repeat refine Wp.seq ?_
  refine Wp.block ?_
  refine Wp.loopI (X := ScanX) (fun x => [(0, .string (bs T)), (2, .int .i64 most), (3, .pointer (some ⟨h.next, 0, none⟩)), (4, .pointer (some ⟨h.next + 1, 0, none⟩)), (8, .func (.func 189) #[] #[.pointer (some ⟨h.next + 1, 0, none⟩), .pointer (some ⟨h.next, 0, none⟩)]), (9, x.vo), (10, x.vp)]) (fun x => x.H)
    (fun x => ScanSt h x.H T x.k x.o x.ps x.vo x.vp ∧ x.k ≤ T.length ∧ x.o.length < x.k ∧ x.ps.length < x.k ∧ ∃ f, scanF most f (T.drop x.k) x.k x.o = R ∧ T.length - x.k < f) (fun x => T.length - x.k) ⟨1, [], [], _, _, H1⟩
    ⟨hst1, hT1, by simp, by simp, T.length + 1, hR, by simp; omega⟩ ⟨rfl, rfl, rfl, rfl, rfl, rfl, rfl, trivial⟩ rfl ?_
  rintro ⟨k, o, ps, vo, vp, H⟩ ⟨st, hk, ho, hps, f, hf, hfuel⟩
  simp only [] at st hk ho hps hf hfuel ⊢
  obtain ⟨f, rfl⟩ : ∃ f', f = f' + 1 := ⟨f - 1, by omega⟩
  repeat refine Wp.seq ?_
  refine Wp.block ?_
  obtain ⟨a1, vp1, H2, a2, st2⟩ := st.pushP k (by omega)
  repeat refine Wp.seq ?_
  refine Wp.regionAs (is := List.range' 0 2 ++ (2 :: (3 :: (List.range' 4 1 ++ [])))) rfl ?_
  refine WpO.runS 2 (by simp only [List.drop_succ_cons, List.drop_zero, List.take_succ_cons, List.take_zero, runS, stepO, stepW, stepV, keep, guardOf, wantG, wantV, aop, binA, aev, flat, if_true, if_false, Option.bind_some, Option.map_some, Frm.put, look, setk, Nat.reduceLT, Nat.reduceEqDiff, evs, evp, evo, List.getElem?_toArray, List.getElem?_cons_succ, List.getElem?_cons_zero, Bool.false_eq_true, Bool.true_eq_false, beq_self_eq_true, beq_ft, beq_tf, notNil, Bool.not_true, Bool.not_false, reduceCtorEq, abuiltin, aextract, aload_cell agg3, Heap.ld_of st.a (k := 0) rfl] <;> exact rfl) (by decide) ?_
  refine WpO.valS (aop_bslice rfl (by simp only [evp, aev, look, Option.bind_some, if_true, if_false, Nat.reduceEqDiff] <;> exact rfl) a1) rfl rfl (by simp only [runS, stepO, stepW, stepV, keep, guardOf, wantG, wantV, aop, binA, aev, flat, if_true, if_false, Option.bind_some, Option.map_some, Frm.put, look, setk, Nat.reduceLT, Nat.reduceEqDiff, evs, evp, evo, List.getElem?_toArray, List.getElem?_cons_succ, List.getElem?_cons_zero, Bool.false_eq_true, Bool.true_eq_false, beq_self_eq_true, beq_ft, beq_tf, notNil, Bool.not_true, Bool.not_false, reduceCtorEq, abuiltin, aextract] <;> exact rfl) ?_
  refine WpO.valS (aop_append rfl (by simp only [evs, aev, look, Option.bind_some, if_true, if_false, Nat.reduceEqDiff] <;> exact rfl) a2) rfl rfl (by simp only [runS, stepO, stepW, stepV, keep, guardOf, wantG, wantV, aop, binA, aev, flat, if_true, if_false, Option.bind_some, Option.map_some, Frm.put, look, setk, Nat.reduceLT, Nat.reduceEqDiff, evs, evp, evo, List.getElem?_toArray, List.getElem?_cons_succ, List.getElem?_cons_zero, Bool.false_eq_true, Bool.true_eq_false, beq_self_eq_true, beq_ft, beq_tf, notNil, Bool.not_true, Bool.not_false, reduceCtorEq, abuiltin, aextract] <;> exact rfl) ?_
  refine WpO.runS 1 (by simp only [List.drop_succ_cons, List.drop_zero, List.take_succ_cons, List.take_zero, runS, stepO, stepW, stepV, keep, guardOf, wantG, wantV, aop, binA, aev, flat, if_true, if_false, Option.bind_some, Option.map_some, Frm.put, look, setk, Nat.reduceLT, Nat.reduceEqDiff, evs, evp, evo, List.getElem?_toArray, List.getElem?_cons_succ, List.getElem?_cons_zero, Bool.false_eq_true, Bool.true_eq_false, beq_self_eq_true, beq_ft, beq_tf, notNil, Bool.not_true, Bool.not_false, reduceCtorEq, abuiltin, aextract] <;> exact rfl) (by decide) ?_
  refine WpO.nil ?_
  dsimp only [after, leaving]
  clear a1 a2 st
  obtain ⟨ao, rfl⟩ := st2.o.form
  have la : H2.ld (h.next + 1) 0 = some (.int .i64 (k : Nat)) := Heap.ld_of st2.a rfl
  have ls : H2.ld h.next 0 = some (.string (bs T)) := Heap.ld_of st2.s rfl
  refine Wp.seq ?_
  refine Wp.join (fun fr u h' => u = none ∧ h' = H2 ∧ ∃ s, fr = ⟨81, s, []⟩ ∧ holds [(0, .string (bs T)), (2, .int .i64 most), (3, .pointer (some ⟨h.next, 0, none⟩)), (4, .pointer (some ⟨h.next + 1, 0, none⟩)), (8, .func (.func 189) #[] #[.pointer (some ⟨h.next + 1, 0, none⟩), .pointer (some ⟨h.next, 0, none⟩)]), (9, .slice ao o.length o.length), (10, vp1), (37, .bool (decide ((o.length : Int) = most ∧ T[k]? ≠ some 34)))] s) ?_ ?_
  · rintro fr u h' ⟨rfl, hH, s, rfl, hs⟩
    obtain rfl := hH.symm
    clear hH
    refine Wp.weaken (Frm.le_of hs) ?_
    clear hs s
    have hh : (T.drop k).head? = T[k]? := by rw [List.head?_drop]
    by_cases hlong : (o.length : Int) = most ∧ T[k]? ≠ some 34
    · repeat refine Wp.seq ?_
      refine Wp.condT (by simp only [runS, stepO, stepW, stepV, keep, guardOf, wantG, wantV, aop, binA, aev, flat, if_true, if_false, Option.bind_some, Option.map_some, Frm.put, look, setk, Nat.reduceLT, Nat.reduceEqDiff, evs, evp, evo, List.getElem?_toArray, List.getElem?_cons_succ, List.getElem?_cons_zero, Bool.false_eq_true, Bool.true_eq_false, beq_self_eq_true, beq_ft, beq_tf, notNil, Bool.not_true, Bool.not_false, reduceCtorEq, abuiltin, aextract, decide_eq_true hlong]) ?_
      repeat refine Wp.seq ?_
      refine Wp.regionAs (is := List.range' 0 2 ++ (2 :: [])) rfl ?_
      refine WpO.runS 2 (by simp only [List.drop_succ_cons, List.drop_zero, List.take_succ_cons, List.take_zero, runS, stepO, stepW, stepV, keep, guardOf, wantG, wantV, aop, binA, aev, flat, if_true, if_false, Option.bind_some, Option.map_some, Frm.put, look, setk, Nat.reduceLT, Nat.reduceEqDiff, evs, evp, evo, List.getElem?_toArray, List.getElem?_cons_succ, List.getElem?_cons_zero, Bool.false_eq_true, Bool.true_eq_false, beq_self_eq_true, beq_ft, beq_tf, notNil, Bool.not_true, Bool.not_false, reduceCtorEq, abuiltin, aextract, aload_cell agg3, la, Tryz.underlying3] <;> exact rfl) (by decide) ?_
      refine WpO.panicS (by simp only [runS, stepO, stepW, stepV, keep, guardOf, wantG, wantV, aop, binA, aev, flat, if_true, if_false, Option.bind_some, Option.map_some, Frm.put, look, setk, Nat.reduceLT, Nat.reduceEqDiff, evs, evp, evo, List.getElem?_toArray, List.getElem?_cons_succ, List.getElem?_cons_zero, Bool.false_eq_true, Bool.true_eq_false, beq_self_eq_true, beq_ft, beq_tf, notNil, Bool.not_true, Bool.not_false, reduceCtorEq, abuiltin, aextract] <;> exact rfl) rfl (by simp only [runS, stepO, stepW, stepV, keep, guardOf, wantG, wantV, aop, binA, aev, flat, if_true, if_false, Option.bind_some, Option.map_some, Frm.put, look, setk, Nat.reduceLT, Nat.reduceEqDiff, evs, evp, evo, List.getElem?_toArray, List.getElem?_cons_succ, List.getElem?_cons_zero, Bool.false_eq_true, Bool.true_eq_false, beq_self_eq_true, beq_ft, beq_tf, notNil, Bool.not_true, Bool.not_false, reduceCtorEq, abuiltin, aextract]) ?_
      dsimp only [after, leaving]
      refine ⟨rfl, rfl, ?_⟩
      unfold scanF at hf
      rw [hh, if_pos hlong] at hf
      rw [← hf]
      exact ⟨rfl, st2.keeps⟩
    repeat refine Wp.seq ?_
    refine Wp.condF (by simp only [runS, stepO, stepW, stepV, keep, guardOf, wantG, wantV, aop, binA, aev, flat, if_true, if_false, Option.bind_some, Option.map_some, Frm.put, look, setk, Nat.reduceLT, Nat.reduceEqDiff, evs, evp, evo, List.getElem?_toArray, List.getElem?_cons_succ, List.getElem?_cons_zero, Bool.false_eq_true, Bool.true_eq_false, beq_self_eq_true, beq_ft, beq_tf, notNil, Bool.not_true, Bool.not_false, reduceCtorEq, abuiltin, aextract, decide_eq_false hlong]) ?_
    repeat refine Wp.seq ?_
    refine Wp.skip ?_
    dsimp only [after, leaving]
    have hf2 : (if T[k]? = some 34 then SR.ok o k else match signAt (T.drop k) with
      | .inl j => .bad (k + j)
      | .inr (c, n) => scanF most f ((T.drop k).drop n) (k + n) (o ++ [c])) = R := by
      unfold scanF at hf
      rw [hh, if_neg hlong] at hf
      exact hf
    clear hf
    repeat refine Wp.seq ?_
    refine Wp.regionAs (is := List.range' 0 1 ++ (1 :: (List.range' 2 1 ++ []))) rfl ?_
    refine WpO.runS 1 (by simp only [List.drop_succ_cons, List.drop_zero, List.take_succ_cons, List.take_zero, runS, stepO, stepW, stepV, keep, guardOf, wantG, wantV, aop, binA, aev, flat, if_true, if_false, Option.bind_some, Option.map_some, Frm.put, look, setk, Nat.reduceLT, Nat.reduceEqDiff, evs, evp, evo, List.getElem?_toArray, List.getElem?_cons_succ, List.getElem?_cons_zero, Bool.false_eq_true, Bool.true_eq_false, beq_self_eq_true, beq_ft, beq_tf, notNil, Bool.not_true, Bool.not_false, reduceCtorEq, abuiltin, aextract] <;> exact rfl) (by decide) ?_
    refine WpO.callS rfl (by simp only [runS, stepO, stepW, stepV, keep, guardOf, wantG, wantV, aop, binA, aev, flat, if_true, if_false, Option.bind_some, Option.map_some, Frm.put, look, setk, Nat.reduceLT, Nat.reduceEqDiff, evs, evp, evo, List.getElem?_toArray, List.getElem?_cons_succ, List.getElem?_cons_zero, Bool.false_eq_true, Bool.true_eq_false, beq_self_eq_true, beq_ft, beq_tf, notNil, Bool.not_true, Bool.not_false, reduceCtorEq, abuiltin, aextract, c37]) (by simp only [calleeOf, fnOf, List.append_nil, List.nil_append, runS, stepO, stepW, stepV, keep, guardOf, wantG, wantV, aop, binA, aev, flat, if_true, if_false, Option.bind_some, Option.map_some, Frm.put, look, setk, Nat.reduceLT, Nat.reduceEqDiff, evs, evp, evo, List.getElem?_toArray, List.getElem?_cons_succ, List.getElem?_cons_zero, Bool.false_eq_true, Bool.true_eq_false, beq_self_eq_true, beq_ft, beq_tf, notNil, Bool.not_true, Bool.not_false, reduceCtorEq, abuiltin, aextract, c37] <;> exact rfl) ((need_spec G H2 (h.next + 1) h.next k T 191 [] (fun b => plainB b || b.toNat == 34 || b.toNat == 92) (by omega) st2.a st2.s (by omega) c39 (fun c => byteFn (noKnown _ _ _) mid_ok (B := B) c H2)).mono ?_)
    intro r h3 hr
    cases hn : needP (fun b => plainB b || b.toNat == 34 || b.toNat == 92) T k with
    | none =>
      rw [hn] at hr
      obtain ⟨rfl, rfl⟩ := hr
      refine ⟨rfl, rfl, ?_⟩
      have hsg : signAt (T.drop k) = .inl 0 ∧ T[k]? ≠ some 34 := by
        unfold needP at hn
        cases hd : T[k]? with
        | none =>
          rw [List.drop_eq_nil_of_le (by have := List.getElem?_eq_none_iff.1 hd; omega)]
          exact ⟨rfl, by simp⟩
        | some c =>
          rw [hd] at hn
          simp only [ite_eq_right_iff, reduceCtorEq, imp_false, Bool.not_eq_true, Bool.or_eq_false_iff, beq_eq_false_iff_ne, ne_eq] at hn
          obtain ⟨⟨n1, n2⟩, n3⟩ := hn
          rw [drop_cons hd]
          refine ⟨?_, ?_⟩
          · rw [signAt_cons, if_neg (by rintro rfl; exact n3 rfl), n1]; rfl
          · rintro q; cases q; exact n2 rfl
      rw [if_neg hsg.2, hsg.1] at hf2
      rw [← hf2]
      exact ⟨rfl, st2.keeps⟩
    | some c =>
    rw [hn] at hr
    obtain ⟨rfl, rfl⟩ := hr
    obtain ⟨hc, hmid⟩ : T[k]? = some c ∧ (plainB c || c.toNat == 34 || c.toNat == 92) = true := by
      unfold needP at hn
      cases hd : T[k]? with
      | none => rw [hd] at hn; cases hn
      | some d =>
        rw [hd] at hn
        simp only [Option.ite_none_right_eq_some, Option.some.injEq] at hn
        obtain ⟨h1, rfl⟩ := hn
        exact ⟨rfl, h1⟩
    clear hn
    refine ⟨_, by simp only [runS, stepO, stepW, stepV, keep, guardOf, wantG, wantV, aop, binA, aev, flat, if_true, if_false, Option.bind_some, Option.map_some, Frm.put, look, setk, Nat.reduceLT, Nat.reduceEqDiff, evs, evp, evo, List.getElem?_toArray, List.getElem?_cons_succ, List.getElem?_cons_zero, Bool.false_eq_true, Bool.true_eq_false, beq_self_eq_true, beq_ft, beq_tf, notNil, Bool.not_true, Bool.not_false, reduceCtorEq, abuiltin, aextract] <;> exact rfl, ?_⟩
    refine WpO.runS 1 (by simp only [List.drop_succ_cons, List.drop_zero, List.take_succ_cons, List.take_zero, runS, stepO, stepW, stepV, keep, guardOf, wantG, wantV, aop, binA, aev, flat, if_true, if_false, Option.bind_some, Option.map_some, Frm.put, look, setk, Nat.reduceLT, Nat.reduceEqDiff, evs, evp, evo, List.getElem?_toArray, List.getElem?_cons_succ, List.getElem?_cons_zero, Bool.false_eq_true, Bool.true_eq_false, beq_self_eq_true, beq_ft, beq_tf, notNil, Bool.not_true, Bool.not_false, reduceCtorEq, abuiltin, aextract] <;> exact rfl) (by decide) ?_
    refine WpO.nil ?_
    dsimp only [after, leaving]
    have st3 := st2.at (k + 1)
    generalize H2.set (h.next + 1) (intRow ((k + 1 : Nat) : Int)) = H3 at st3 ⊢
    clear st2 la ls
    rw [hc] at hf2
    rw [drop_cons hc] at hf2
    by_cases hc34 : c = 34
    · have hb : ((c.toNat : Int) == 34) = true := by rw [hc34]; rfl
      repeat refine Wp.seq ?_
      refine Wp.runS (by simp only [runS, stepO, stepW, stepV, keep, guardOf, wantG, wantV, aop, binA, aev, flat, if_true, if_false, Option.bind_some, Option.map_some, Frm.put, look, setk, Nat.reduceLT, Nat.reduceEqDiff, evs, evp, evo, List.getElem?_toArray, List.getElem?_cons_succ, List.getElem?_cons_zero, Bool.false_eq_true, Bool.true_eq_false, beq_self_eq_true, beq_ft, beq_tf, notNil, Bool.not_true, Bool.not_false, reduceCtorEq, abuiltin, aextract, byteV, abin_int, ai_eql, hb] <;> exact rfl) ?_
      dsimp only [after, leaving]
      repeat refine Wp.seq ?_
      refine Wp.condT (by simp only [runS, stepO, stepW, stepV, keep, guardOf, wantG, wantV, aop, binA, aev, flat, if_true, if_false, Option.bind_some, Option.map_some, Frm.put, look, setk, Nat.reduceLT, Nat.reduceEqDiff, evs, evp, evo, List.getElem?_toArray, List.getElem?_cons_succ, List.getElem?_cons_zero, Bool.false_eq_true, Bool.true_eq_false, beq_self_eq_true, beq_ft, beq_tf, notNil, Bool.not_true, Bool.not_false, reduceCtorEq, abuiltin, aextract]) ?_
      rw [if_pos (by rw [hc34])] at hf2
      obtain ⟨q1, q2⟩ := conv_own Tryz.underlying70 Tryz.underlying9 Tryz.underlying5 st3.o
      repeat refine Wp.seq ?_
      refine Wp.runS (by simp only [runS, stepO, stepW, stepV, keep, guardOf, wantG, wantV, aop, binA, aev, flat, if_true, if_false, Option.bind_some, Option.map_some, Frm.put, look, setk, Nat.reduceLT, Nat.reduceEqDiff, evs, evp, evo, List.getElem?_toArray, List.getElem?_cons_succ, List.getElem?_cons_zero, Bool.false_eq_true, Bool.true_eq_false, beq_self_eq_true, beq_ft, beq_tf, notNil, Bool.not_true, Bool.not_false, reduceCtorEq, abuiltin, aextract, q1, q2] <;> exact rfl) ?_
      dsimp only [after, leaving]
      repeat refine Wp.seq ?_
      refine Wp.ret ?_
      dsimp only [after, leaving]
      refine ⟨rfl, rfl, _, rfl, ?_⟩
      rw [← hf2]
      exact ⟨vp1, ps, rfl, st3.keeps, st3.p, hps, hk⟩
    have hb : ((c.toNat : Int) == 34) = false := by
      rw [beq_eq_false_iff_ne]; intro q; exact hc34 ((byte_eq c 34 (by omega)).2 (by omega))
    rw [if_neg (fun q => hc34 (by cases q; rfl))] at hf2
    repeat refine Wp.seq ?_
    refine Wp.runS (by simp only [runS, stepO, stepW, stepV, keep, guardOf, wantG, wantV, aop, binA, aev, flat, if_true, if_false, Option.bind_some, Option.map_some, Frm.put, look, setk, Nat.reduceLT, Nat.reduceEqDiff, evs, evp, evo, List.getElem?_toArray, List.getElem?_cons_succ, List.getElem?_cons_zero, Bool.false_eq_true, Bool.true_eq_false, beq_self_eq_true, beq_ft, beq_tf, notNil, Bool.not_true, Bool.not_false, reduceCtorEq, abuiltin, aextract, byteV, abin_int, ai_eql, hb] <;> exact rfl) ?_
    dsimp only [after, leaving]
    repeat refine Wp.seq ?_
    refine Wp.condF (by simp only [runS, stepO, stepW, stepV, keep, guardOf, wantG, wantV, aop, binA, aev, flat, if_true, if_false, Option.bind_some, Option.map_some, Frm.put, look, setk, Nat.reduceLT, Nat.reduceEqDiff, evs, evp, evo, List.getElem?_toArray, List.getElem?_cons_succ, List.getElem?_cons_zero, Bool.false_eq_true, Bool.true_eq_false, beq_self_eq_true, beq_ft, beq_tf, notNil, Bool.not_true, Bool.not_false, reduceCtorEq, abuiltin, aextract]) ?_
    repeat refine Wp.seq ?_
    refine Wp.skip ?_
    dsimp only [after, leaving]
    by_cases hc92 : ¬ c = 92
    · have hb2 : ((c.toNat : Int) != 92) = true := by
        rw [bne_iff_ne]; intro q; exact hc92 ((byte_eq c 92 (by omega)).2 (by omega))
      have hpl : plainB c = true := by
        simp only [Bool.or_eq_true, beq_iff_eq] at hmid
        rcases hmid with (hmid | hmid) | hmid
        · exact hmid
        · exact absurd ((byte_eq c 34 (by omega)).2 hmid) hc34
        · exact absurd ((byte_eq c 92 (by omega)).2 hmid) hc92
      rw [signAt_cons, if_neg hc92, hpl] at hf2
      repeat refine Wp.seq ?_
      refine Wp.runS (by simp only [runS, stepO, stepW, stepV, keep, guardOf, wantG, wantV, aop, binA, aev, flat, if_true, if_false, Option.bind_some, Option.map_some, Frm.put, look, setk, Nat.reduceLT, Nat.reduceEqDiff, evs, evp, evo, List.getElem?_toArray, List.getElem?_cons_succ, List.getElem?_cons_zero, Bool.false_eq_true, Bool.true_eq_false, beq_self_eq_true, beq_ft, beq_tf, notNil, Bool.not_true, Bool.not_false, reduceCtorEq, abuiltin, aextract, byteV, abin_int, ai_neq, hb2] <;> exact rfl) ?_
      dsimp only [after, leaving]
      repeat refine Wp.seq ?_
      refine Wp.condT (by simp only [runS, stepO, stepW, stepV, keep, guardOf, wantG, wantV, aop, binA, aev, flat, if_true, if_false, Option.bind_some, Option.map_some, Frm.put, look, setk, Nat.reduceLT, Nat.reduceEqDiff, evs, evp, evo, List.getElem?_toArray, List.getElem?_cons_succ, List.getElem?_cons_zero, Bool.false_eq_true, Bool.true_eq_false, beq_self_eq_true, beq_ft, beq_tf, notNil, Bool.not_true, Bool.not_false, reduceCtorEq, abuiltin, aextract]) ?_
      obtain ⟨a1, vo1, H4, a2, st4⟩ := st3.pushO c (by omega)
      repeat refine Wp.seq ?_
      refine Wp.regionAs (is := List.range' 0 2 ++ (2 :: (3 :: (List.range' 4 1 ++ [])))) rfl ?_
      refine WpO.runS 2 (by simp only [List.drop_succ_cons, List.drop_zero, List.take_succ_cons, List.take_zero, runS, stepO, stepW, stepV, keep, guardOf, wantG, wantV, aop, binA, aev, flat, if_true, if_false, Option.bind_some, Option.map_some, Frm.put, look, setk, Nat.reduceLT, Nat.reduceEqDiff, evs, evp, evo, List.getElem?_toArray, List.getElem?_cons_succ, List.getElem?_cons_zero, Bool.false_eq_true, Bool.true_eq_false, beq_self_eq_true, beq_ft, beq_tf, notNil, Bool.not_true, Bool.not_false, reduceCtorEq, abuiltin, aextract] <;> exact rfl) (by decide) ?_
      refine WpO.valS (aop_bslice rfl (by simp only [evp, aev, look, Option.bind_some, if_true, if_false, Nat.reduceEqDiff] <;> exact rfl) a1) rfl rfl (by simp only [runS, stepO, stepW, stepV, keep, guardOf, wantG, wantV, aop, binA, aev, flat, if_true, if_false, Option.bind_some, Option.map_some, Frm.put, look, setk, Nat.reduceLT, Nat.reduceEqDiff, evs, evp, evo, List.getElem?_toArray, List.getElem?_cons_succ, List.getElem?_cons_zero, Bool.false_eq_true, Bool.true_eq_false, beq_self_eq_true, beq_ft, beq_tf, notNil, Bool.not_true, Bool.not_false, reduceCtorEq, abuiltin, aextract] <;> exact rfl) ?_
      refine WpO.valS (aop_append rfl (by simp only [evs, aev, look, Option.bind_some, if_true, if_false, Nat.reduceEqDiff] <;> exact rfl) a2) rfl rfl (by simp only [runS, stepO, stepW, stepV, keep, guardOf, wantG, wantV, aop, binA, aev, flat, if_true, if_false, Option.bind_some, Option.map_some, Frm.put, look, setk, Nat.reduceLT, Nat.reduceEqDiff, evs, evp, evo, List.getElem?_toArray, List.getElem?_cons_succ, List.getElem?_cons_zero, Bool.false_eq_true, Bool.true_eq_false, beq_self_eq_true, beq_ft, beq_tf, notNil, Bool.not_true, Bool.not_false, reduceCtorEq, abuiltin, aextract] <;> exact rfl) ?_
      refine WpO.runS 1 (by simp only [List.drop_succ_cons, List.drop_zero, List.take_succ_cons, List.take_zero, runS, stepO, stepW, stepV, keep, guardOf, wantG, wantV, aop, binA, aev, flat, if_true, if_false, Option.bind_some, Option.map_some, Frm.put, look, setk, Nat.reduceLT, Nat.reduceEqDiff, evs, evp, evo, List.getElem?_toArray, List.getElem?_cons_succ, List.getElem?_cons_zero, Bool.false_eq_true, Bool.true_eq_false, beq_self_eq_true, beq_ft, beq_tf, notNil, Bool.not_true, Bool.not_false, reduceCtorEq, abuiltin, aextract] <;> exact rfl) (by decide) ?_
      refine WpO.nil ?_
      dsimp only [after, leaving]
      repeat refine Wp.seq ?_
      refine Wp.exit ?_
      simp only [after, leaving, blockExit, if_true, if_false, Nat.reduceEqDiff]
      have hk2 : k < T.length := by have := (List.getElem?_eq_some_iff.1 hc).1; omega
      refine ⟨⟨k + 1, o ++ [c], ps ++ [k], vo1, vp1, H4⟩, _, ⟨st4, by simp only []; omega, by simp; omega, by simp; omega, f, hf2, by simp only []; omega⟩, by simp only []; omega, rfl, ⟨rfl, rfl, rfl, rfl, rfl, rfl, rfl, trivial⟩, trivial, rfl⟩
    replace hc92 : c = 92 := Classical.not_not.1 hc92
    have hb2 : ((c.toNat : Int) != 92) = false := by rw [hc92]; rfl
    generalize hS : signAt (c :: T.drop (k + 1)) = S at hf2
    rw [signAt_cons, if_pos hc92] at hS
    repeat refine Wp.seq ?_
    refine Wp.runS (by simp only [runS, stepO, stepW, stepV, keep, guardOf, wantG, wantV, aop, binA, aev, flat, if_true, if_false, Option.bind_some, Option.map_some, Frm.put, look, setk, Nat.reduceLT, Nat.reduceEqDiff, evs, evp, evo, List.getElem?_toArray, List.getElem?_cons_succ, List.getElem?_cons_zero, Bool.false_eq_true, Bool.true_eq_false, beq_self_eq_true, beq_ft, beq_tf, notNil, Bool.not_true, Bool.not_false, reduceCtorEq, abuiltin, aextract, byteV, abin_int, ai_neq, hb2] <;> exact rfl) ?_
    dsimp only [after, leaving]
    repeat refine Wp.seq ?_
    refine Wp.condF (by simp only [runS, stepO, stepW, stepV, keep, guardOf, wantG, wantV, aop, binA, aev, flat, if_true, if_false, Option.bind_some, Option.map_some, Frm.put, look, setk, Nat.reduceLT, Nat.reduceEqDiff, evs, evp, evo, List.getElem?_toArray, List.getElem?_cons_succ, List.getElem?_cons_zero, Bool.false_eq_true, Bool.true_eq_false, beq_self_eq_true, beq_ft, beq_tf, notNil, Bool.not_true, Bool.not_false, reduceCtorEq, abuiltin, aextract]) ?_
    repeat refine Wp.seq ?_
    refine Wp.skip ?_
    dsimp only [after, leaving]
    repeat refine Wp.seq ?_
    refine Wp.regionAs (is := List.range' 0 1 ++ (1 :: (List.range' 2 1 ++ []))) rfl ?_
    refine WpO.runS 1 (by simp only [List.drop_succ_cons, List.drop_zero, List.take_succ_cons, List.take_zero, runS, stepO, stepW, stepV, keep, guardOf, wantG, wantV, aop, binA, aev, flat, if_true, if_false, Option.bind_some, Option.map_some, Frm.put, look, setk, Nat.reduceLT, Nat.reduceEqDiff, evs, evp, evo, List.getElem?_toArray, List.getElem?_cons_succ, List.getElem?_cons_zero, Bool.false_eq_true, Bool.true_eq_false, beq_self_eq_true, beq_ft, beq_tf, notNil, Bool.not_true, Bool.not_false, reduceCtorEq, abuiltin, aextract] <;> exact rfl) (by decide) ?_
    refine WpO.callS rfl (by simp only [runS, stepO, stepW, stepV, keep, guardOf, wantG, wantV, aop, binA, aev, flat, if_true, if_false, Option.bind_some, Option.map_some, Frm.put, look, setk, Nat.reduceLT, Nat.reduceEqDiff, evs, evp, evo, List.getElem?_toArray, List.getElem?_cons_succ, List.getElem?_cons_zero, Bool.false_eq_true, Bool.true_eq_false, beq_self_eq_true, beq_ft, beq_tf, notNil, Bool.not_true, Bool.not_false, reduceCtorEq, abuiltin, aextract, c37]) (by simp only [calleeOf, fnOf, List.append_nil, List.nil_append, runS, stepO, stepW, stepV, keep, guardOf, wantG, wantV, aop, binA, aev, flat, if_true, if_false, Option.bind_some, Option.map_some, Frm.put, look, setk, Nat.reduceLT, Nat.reduceEqDiff, evs, evp, evo, List.getElem?_toArray, List.getElem?_cons_succ, List.getElem?_cons_zero, Bool.false_eq_true, Bool.true_eq_false, beq_self_eq_true, beq_ft, beq_tf, notNil, Bool.not_true, Bool.not_false, reduceCtorEq, abuiltin, aextract, c37] <;> exact rfl) ((need_spec G H3 (h.next + 1) h.next (k + 1) T 193 [] escB (by omega) st3.a st3.s (by omega) c41 (fun c => esc_spec G H3 c)).mono ?_)
    intro r h4 hr
    cases hn : needP escB T (k + 1) with
    | none =>
      rw [hn] at hr
      obtain ⟨rfl, rfl⟩ := hr
      refine ⟨rfl, rfl, ?_⟩
      have hS1 : S = .inl 1 := by
        rw [← hS]
        rcases needP_none hn with q | ⟨e, q1, q2⟩
        · rw [q]
        · rw [q1]; simp only [q2, Bool.false_eq_true, if_false]
      subst hS1
      rw [← hf2]
      exact ⟨rfl, st3.keeps⟩
    | some e =>
    rw [hn] at hr
    obtain ⟨rfl, rfl⟩ := hr
    obtain ⟨hc1, hesc⟩ := needP_some hn
    clear hn
    refine ⟨_, by simp only [runS, stepO, stepW, stepV, keep, guardOf, wantG, wantV, aop, binA, aev, flat, if_true, if_false, Option.bind_some, Option.map_some, Frm.put, look, setk, Nat.reduceLT, Nat.reduceEqDiff, evs, evp, evo, List.getElem?_toArray, List.getElem?_cons_succ, List.getElem?_cons_zero, Bool.false_eq_true, Bool.true_eq_false, beq_self_eq_true, beq_ft, beq_tf, notNil, Bool.not_true, Bool.not_false, reduceCtorEq, abuiltin, aextract] <;> exact rfl, ?_⟩
    refine WpO.runS 1 (by simp only [List.drop_succ_cons, List.drop_zero, List.take_succ_cons, List.take_zero, runS, stepO, stepW, stepV, keep, guardOf, wantG, wantV, aop, binA, aev, flat, if_true, if_false, Option.bind_some, Option.map_some, Frm.put, look, setk, Nat.reduceLT, Nat.reduceEqDiff, evs, evp, evo, List.getElem?_toArray, List.getElem?_cons_succ, List.getElem?_cons_zero, Bool.false_eq_true, Bool.true_eq_false, beq_self_eq_true, beq_ft, beq_tf, notNil, Bool.not_true, Bool.not_false, reduceCtorEq, abuiltin, aextract] <;> exact rfl) (by decide) ?_
    refine WpO.nil ?_
    dsimp only [after, leaving]
    have st4 := st3.at (k + 1 + 1)
    generalize H3.set (h.next + 1) (intRow ((k + 1 + 1 : Nat) : Int)) = H4 at st4 ⊢
    clear st3
    rw [drop_cons hc1] at hS
    simp only [hesc, if_true] at hS
    have hk1 := (List.getElem?_eq_some_iff.1 hc1).1
    refine Wp.cut (fun fr u h' => u = none ∧ ∃ d n, S = .inr (d, n) ∧ ScanSt h h' T (k + n) o (ps ++ [k]) (.slice ao o.length o.length) vp1 ∧ k + n ≤ T.length ∧ 0 < n ∧ ∃ s, fr = ⟨81, s, []⟩ ∧ holds [(0, .string (bs T)), (2, .int .i64 most), (3, .pointer (some ⟨h.next, 0, none⟩)), (4, .pointer (some ⟨h.next + 1, 0, none⟩)), (8, .func (.func 189) #[] #[.pointer (some ⟨h.next + 1, 0, none⟩), .pointer (some ⟨h.next, 0, none⟩)]), (9, .slice ao o.length o.length), (10, vp1), (11, byteV d)] s) ?_ ?_
    · rintro fr u H8 ⟨rfl, d, n, rfl, st8, hkn, hn0, s, rfl, hs⟩
      dsimp only [after, leaving]
      refine Wp.weaken (Frm.le_of hs) ?_
      clear hs s st4
      obtain ⟨a1, vo1, H9, a2, st9⟩ := st8.pushO d (by omega)
      repeat refine Wp.seq ?_
      refine Wp.regionAs (is := List.range' 0 2 ++ (2 :: (3 :: (List.range' 4 1 ++ [])))) rfl ?_
      refine WpO.runS 2 (by simp only [List.drop_succ_cons, List.drop_zero, List.take_succ_cons, List.take_zero, runS, stepO, stepW, stepV, keep, guardOf, wantG, wantV, aop, binA, aev, flat, if_true, if_false, Option.bind_some, Option.map_some, Frm.put, look, setk, Nat.reduceLT, Nat.reduceEqDiff, evs, evp, evo, List.getElem?_toArray, List.getElem?_cons_succ, List.getElem?_cons_zero, Bool.false_eq_true, Bool.true_eq_false, beq_self_eq_true, beq_ft, beq_tf, notNil, Bool.not_true, Bool.not_false, reduceCtorEq, abuiltin, aextract] <;> exact rfl) (by decide) ?_
      refine WpO.valS (aop_bslice rfl (by simp only [evp, aev, look, Option.bind_some, if_true, if_false, Nat.reduceEqDiff] <;> exact rfl) a1) rfl rfl (by simp only [runS, stepO, stepW, stepV, keep, guardOf, wantG, wantV, aop, binA, aev, flat, if_true, if_false, Option.bind_some, Option.map_some, Frm.put, look, setk, Nat.reduceLT, Nat.reduceEqDiff, evs, evp, evo, List.getElem?_toArray, List.getElem?_cons_succ, List.getElem?_cons_zero, Bool.false_eq_true, Bool.true_eq_false, beq_self_eq_true, beq_ft, beq_tf, notNil, Bool.not_true, Bool.not_false, reduceCtorEq, abuiltin, aextract] <;> exact rfl) ?_
      refine WpO.valS (aop_append rfl (by simp only [evs, aev, look, Option.bind_some, if_true, if_false, Nat.reduceEqDiff] <;> exact rfl) a2) rfl rfl (by simp only [runS, stepO, stepW, stepV, keep, guardOf, wantG, wantV, aop, binA, aev, flat, if_true, if_false, Option.bind_some, Option.map_some, Frm.put, look, setk, Nat.reduceLT, Nat.reduceEqDiff, evs, evp, evo, List.getElem?_toArray, List.getElem?_cons_succ, List.getElem?_cons_zero, Bool.false_eq_true, Bool.true_eq_false, beq_self_eq_true, beq_ft, beq_tf, notNil, Bool.not_true, Bool.not_false, reduceCtorEq, abuiltin, aextract] <;> exact rfl) ?_
      refine WpO.runS 1 (by simp only [List.drop_succ_cons, List.drop_zero, List.take_succ_cons, List.take_zero, runS, stepO, stepW, stepV, keep, guardOf, wantG, wantV, aop, binA, aev, flat, if_true, if_false, Option.bind_some, Option.map_some, Frm.put, look, setk, Nat.reduceLT, Nat.reduceEqDiff, evs, evp, evo, List.getElem?_toArray, List.getElem?_cons_succ, List.getElem?_cons_zero, Bool.false_eq_true, Bool.true_eq_false, beq_self_eq_true, beq_ft, beq_tf, notNil, Bool.not_true, Bool.not_false, reduceCtorEq, abuiltin, aextract] <;> exact rfl) (by decide) ?_
      refine WpO.nil ?_
      dsimp only [after, leaving]
      have hf3 : scanF most f (T.drop (k + n)) (k + n) (o ++ [d]) = R := by
        rw [← drop_cons hc] at hf2
        have hf4 : scanF most f (List.drop n (List.drop k T)) (k + n) (o ++ [d]) = R := hf2
        rw [List.drop_drop] at hf4
        exact hf4
      refine ⟨⟨k + n, o ++ [d], ps ++ [k], vo1, vp1, H9⟩, _, ⟨st9, hkn, by simp; omega, by simp; omega, f, hf3, by simp only []; omega⟩, by simp only []; omega, rfl, ⟨rfl, rfl, rfl, rfl, rfl, rfl, rfl, trivial⟩, rfl, rfl⟩
    · repeat refine Wp.seq ?_
      refine Wp.runS (by simp only [runS, stepO, stepW, stepV, keep, guardOf, wantG, wantV, aop, binA, aev, flat, if_true, if_false, Option.bind_some, Option.map_some, Frm.put, look, setk, Nat.reduceLT, Nat.reduceEqDiff, evs, evp, evo, List.getElem?_toArray, List.getElem?_cons_succ, List.getElem?_cons_zero, Bool.false_eq_true, Bool.true_eq_false, beq_self_eq_true, beq_ft, beq_tf, notNil, Bool.not_true, Bool.not_false, reduceCtorEq, abuiltin, aextract] <;> exact rfl) ?_
      dsimp only [after, leaving]
      repeat refine Wp.seq ?_
      refine Wp.block ?_
      by_cases e1 : e = 110
      · have b1 : ((e.toNat : Int) == 110) = true := by rw [e1]; rfl
        repeat refine Wp.seq ?_
        refine Wp.runS (by simp only [runS, stepO, stepW, stepV, keep, guardOf, wantG, wantV, aop, binA, aev, flat, if_true, if_false, Option.bind_some, Option.map_some, Frm.put, look, setk, Nat.reduceLT, Nat.reduceEqDiff, evs, evp, evo, List.getElem?_toArray, List.getElem?_cons_succ, List.getElem?_cons_zero, Bool.false_eq_true, Bool.true_eq_false, beq_self_eq_true, beq_ft, beq_tf, notNil, Bool.not_true, Bool.not_false, reduceCtorEq, abuiltin, aextract, byteV, abin_int, ai_eql, b1] <;> exact rfl) ?_
        dsimp only [after, leaving]
        repeat refine Wp.seq ?_
        refine Wp.condT (by simp only [runS, stepO, stepW, stepV, keep, guardOf, wantG, wantV, aop, binA, aev, flat, if_true, if_false, Option.bind_some, Option.map_some, Frm.put, look, setk, Nat.reduceLT, Nat.reduceEqDiff, evs, evp, evo, List.getElem?_toArray, List.getElem?_cons_succ, List.getElem?_cons_zero, Bool.false_eq_true, Bool.true_eq_false, beq_self_eq_true, beq_ft, beq_tf, notNil, Bool.not_true, Bool.not_false, reduceCtorEq, abuiltin, aextract]) ?_
        repeat refine Wp.seq ?_
        refine Wp.runS (by simp only [runS, stepO, stepW, stepV, keep, guardOf, wantG, wantV, aop, binA, aev, flat, if_true, if_false, Option.bind_some, Option.map_some, Frm.put, look, setk, Nat.reduceLT, Nat.reduceEqDiff, evs, evp, evo, List.getElem?_toArray, List.getElem?_cons_succ, List.getElem?_cons_zero, Bool.false_eq_true, Bool.true_eq_false, beq_self_eq_true, beq_ft, beq_tf, notNil, Bool.not_true, Bool.not_false, reduceCtorEq, abuiltin, aextract] <;> exact rfl) ?_
        dsimp only [after, leaving]
        subst e1
        exact ⟨rfl, _, _, hS.symm, st4, by omega, by omega, _, rfl, rfl, rfl, rfl, rfl, rfl, rfl, rfl, rfl, trivial⟩
      have b1 : ((e.toNat : Int) == 110) = false := by rw [beq_eq_false_iff_ne]; intro q; exact e1 ((byte_eq e 110 (by omega)).2 (by omega))
      repeat refine Wp.seq ?_
      refine Wp.runS (by simp only [runS, stepO, stepW, stepV, keep, guardOf, wantG, wantV, aop, binA, aev, flat, if_true, if_false, Option.bind_some, Option.map_some, Frm.put, look, setk, Nat.reduceLT, Nat.reduceEqDiff, evs, evp, evo, List.getElem?_toArray, List.getElem?_cons_succ, List.getElem?_cons_zero, Bool.false_eq_true, Bool.true_eq_false, beq_self_eq_true, beq_ft, beq_tf, notNil, Bool.not_true, Bool.not_false, reduceCtorEq, abuiltin, aextract, byteV, abin_int, ai_eql, b1] <;> exact rfl) ?_
      dsimp only [after, leaving]
      repeat refine Wp.seq ?_
      refine Wp.condF (by simp only [runS, stepO, stepW, stepV, keep, guardOf, wantG, wantV, aop, binA, aev, flat, if_true, if_false, Option.bind_some, Option.map_some, Frm.put, look, setk, Nat.reduceLT, Nat.reduceEqDiff, evs, evp, evo, List.getElem?_toArray, List.getElem?_cons_succ, List.getElem?_cons_zero, Bool.false_eq_true, Bool.true_eq_false, beq_self_eq_true, beq_ft, beq_tf, notNil, Bool.not_true, Bool.not_false, reduceCtorEq, abuiltin, aextract]) ?_
      by_cases e2 : e = 114
      · have b2 : ((e.toNat : Int) == 114) = true := by rw [e2]; rfl
        repeat refine Wp.seq ?_
        refine Wp.runS (by simp only [runS, stepO, stepW, stepV, keep, guardOf, wantG, wantV, aop, binA, aev, flat, if_true, if_false, Option.bind_some, Option.map_some, Frm.put, look, setk, Nat.reduceLT, Nat.reduceEqDiff, evs, evp, evo, List.getElem?_toArray, List.getElem?_cons_succ, List.getElem?_cons_zero, Bool.false_eq_true, Bool.true_eq_false, beq_self_eq_true, beq_ft, beq_tf, notNil, Bool.not_true, Bool.not_false, reduceCtorEq, abuiltin, aextract, byteV, abin_int, ai_eql, b2] <;> exact rfl) ?_
        dsimp only [after, leaving]
        repeat refine Wp.seq ?_
        refine Wp.condT (by simp only [runS, stepO, stepW, stepV, keep, guardOf, wantG, wantV, aop, binA, aev, flat, if_true, if_false, Option.bind_some, Option.map_some, Frm.put, look, setk, Nat.reduceLT, Nat.reduceEqDiff, evs, evp, evo, List.getElem?_toArray, List.getElem?_cons_succ, List.getElem?_cons_zero, Bool.false_eq_true, Bool.true_eq_false, beq_self_eq_true, beq_ft, beq_tf, notNil, Bool.not_true, Bool.not_false, reduceCtorEq, abuiltin, aextract]) ?_
        repeat refine Wp.seq ?_
        refine Wp.runS (by simp only [runS, stepO, stepW, stepV, keep, guardOf, wantG, wantV, aop, binA, aev, flat, if_true, if_false, Option.bind_some, Option.map_some, Frm.put, look, setk, Nat.reduceLT, Nat.reduceEqDiff, evs, evp, evo, List.getElem?_toArray, List.getElem?_cons_succ, List.getElem?_cons_zero, Bool.false_eq_true, Bool.true_eq_false, beq_self_eq_true, beq_ft, beq_tf, notNil, Bool.not_true, Bool.not_false, reduceCtorEq, abuiltin, aextract] <;> exact rfl) ?_
        dsimp only [after, leaving]
        subst e2
        exact ⟨rfl, _, _, hS.symm, st4, by omega, by omega, _, rfl, rfl, rfl, rfl, rfl, rfl, rfl, rfl, rfl, trivial⟩
      have b2 : ((e.toNat : Int) == 114) = false := by rw [beq_eq_false_iff_ne]; intro q; exact e2 ((byte_eq e 114 (by omega)).2 (by omega))
      repeat refine Wp.seq ?_
      refine Wp.runS (by simp only [runS, stepO, stepW, stepV, keep, guardOf, wantG, wantV, aop, binA, aev, flat, if_true, if_false, Option.bind_some, Option.map_some, Frm.put, look, setk, Nat.reduceLT, Nat.reduceEqDiff, evs, evp, evo, List.getElem?_toArray, List.getElem?_cons_succ, List.getElem?_cons_zero, Bool.false_eq_true, Bool.true_eq_false, beq_self_eq_true, beq_ft, beq_tf, notNil, Bool.not_true, Bool.not_false, reduceCtorEq, abuiltin, aextract, byteV, abin_int, ai_eql, b2] <;> exact rfl) ?_
      dsimp only [after, leaving]
      repeat refine Wp.seq ?_
      refine Wp.condF (by simp only [runS, stepO, stepW, stepV, keep, guardOf, wantG, wantV, aop, binA, aev, flat, if_true, if_false, Option.bind_some, Option.map_some, Frm.put, look, setk, Nat.reduceLT, Nat.reduceEqDiff, evs, evp, evo, List.getElem?_toArray, List.getElem?_cons_succ, List.getElem?_cons_zero, Bool.false_eq_true, Bool.true_eq_false, beq_self_eq_true, beq_ft, beq_tf, notNil, Bool.not_true, Bool.not_false, reduceCtorEq, abuiltin, aextract]) ?_
      by_cases e3 : e = 116
      · have b3 : ((e.toNat : Int) == 116) = true := by rw [e3]; rfl
        repeat refine Wp.seq ?_
        refine Wp.runS (by simp only [runS, stepO, stepW, stepV, keep, guardOf, wantG, wantV, aop, binA, aev, flat, if_true, if_false, Option.bind_some, Option.map_some, Frm.put, look, setk, Nat.reduceLT, Nat.reduceEqDiff, evs, evp, evo, List.getElem?_toArray, List.getElem?_cons_succ, List.getElem?_cons_zero, Bool.false_eq_true, Bool.true_eq_false, beq_self_eq_true, beq_ft, beq_tf, notNil, Bool.not_true, Bool.not_false, reduceCtorEq, abuiltin, aextract, byteV, abin_int, ai_eql, b3] <;> exact rfl) ?_
        dsimp only [after, leaving]
        repeat refine Wp.seq ?_
        refine Wp.condT (by simp only [runS, stepO, stepW, stepV, keep, guardOf, wantG, wantV, aop, binA, aev, flat, if_true, if_false, Option.bind_some, Option.map_some, Frm.put, look, setk, Nat.reduceLT, Nat.reduceEqDiff, evs, evp, evo, List.getElem?_toArray, List.getElem?_cons_succ, List.getElem?_cons_zero, Bool.false_eq_true, Bool.true_eq_false, beq_self_eq_true, beq_ft, beq_tf, notNil, Bool.not_true, Bool.not_false, reduceCtorEq, abuiltin, aextract]) ?_
        repeat refine Wp.seq ?_
        refine Wp.runS (by simp only [runS, stepO, stepW, stepV, keep, guardOf, wantG, wantV, aop, binA, aev, flat, if_true, if_false, Option.bind_some, Option.map_some, Frm.put, look, setk, Nat.reduceLT, Nat.reduceEqDiff, evs, evp, evo, List.getElem?_toArray, List.getElem?_cons_succ, List.getElem?_cons_zero, Bool.false_eq_true, Bool.true_eq_false, beq_self_eq_true, beq_ft, beq_tf, notNil, Bool.not_true, Bool.not_false, reduceCtorEq, abuiltin, aextract] <;> exact rfl) ?_
        dsimp only [after, leaving]
        subst e3
        exact ⟨rfl, _, _, hS.symm, st4, by omega, by omega, _, rfl, rfl, rfl, rfl, rfl, rfl, rfl, rfl, rfl, trivial⟩
      have b3 : ((e.toNat : Int) == 116) = false := by rw [beq_eq_false_iff_ne]; intro q; exact e3 ((byte_eq e 116 (by omega)).2 (by omega))
      repeat refine Wp.seq ?_
      refine Wp.runS (by simp only [runS, stepO, stepW, stepV, keep, guardOf, wantG, wantV, aop, binA, aev, flat, if_true, if_false, Option.bind_some, Option.map_some, Frm.put, look, setk, Nat.reduceLT, Nat.reduceEqDiff, evs, evp, evo, List.getElem?_toArray, List.getElem?_cons_succ, List.getElem?_cons_zero, Bool.false_eq_true, Bool.true_eq_false, beq_self_eq_true, beq_ft, beq_tf, notNil, Bool.not_true, Bool.not_false, reduceCtorEq, abuiltin, aextract, byteV, abin_int, ai_eql, b3] <;> exact rfl) ?_
      dsimp only [after, leaving]
      repeat refine Wp.seq ?_
      refine Wp.condF (by simp only [runS, stepO, stepW, stepV, keep, guardOf, wantG, wantV, aop, binA, aev, flat, if_true, if_false, Option.bind_some, Option.map_some, Frm.put, look, setk, Nat.reduceLT, Nat.reduceEqDiff, evs, evp, evo, List.getElem?_toArray, List.getElem?_cons_succ, List.getElem?_cons_zero, Bool.false_eq_true, Bool.true_eq_false, beq_self_eq_true, beq_ft, beq_tf, notNil, Bool.not_true, Bool.not_false, reduceCtorEq, abuiltin, aextract]) ?_
      by_cases e4 : ¬ e = 120
      · have b4 : ((e.toNat : Int) == 120) = false := by rw [beq_eq_false_iff_ne]; intro q; exact e4 ((byte_eq e 120 (by omega)).2 (by omega))
        repeat refine Wp.seq ?_
        refine Wp.runS (by simp only [runS, stepO, stepW, stepV, keep, guardOf, wantG, wantV, aop, binA, aev, flat, if_true, if_false, Option.bind_some, Option.map_some, Frm.put, look, setk, Nat.reduceLT, Nat.reduceEqDiff, evs, evp, evo, List.getElem?_toArray, List.getElem?_cons_succ, List.getElem?_cons_zero, Bool.false_eq_true, Bool.true_eq_false, beq_self_eq_true, beq_ft, beq_tf, notNil, Bool.not_true, Bool.not_false, reduceCtorEq, abuiltin, aextract, byteV, abin_int, ai_eql, b4] <;> exact rfl) ?_
        dsimp only [after, leaving]
        repeat refine Wp.seq ?_
        refine Wp.condF (by simp only [runS, stepO, stepW, stepV, keep, guardOf, wantG, wantV, aop, binA, aev, flat, if_true, if_false, Option.bind_some, Option.map_some, Frm.put, look, setk, Nat.reduceLT, Nat.reduceEqDiff, evs, evp, evo, List.getElem?_toArray, List.getElem?_cons_succ, List.getElem?_cons_zero, Bool.false_eq_true, Bool.true_eq_false, beq_self_eq_true, beq_ft, beq_tf, notNil, Bool.not_true, Bool.not_false, reduceCtorEq, abuiltin, aextract]) ?_
        repeat refine Wp.seq ?_
        refine Wp.skip ?_
        dsimp only [after, leaving]
        rw [if_neg e4, if_neg e1, if_neg e2, if_neg e3] at hS
        exact ⟨rfl, _, _, hS.symm, st4, by omega, by omega, _, rfl, rfl, rfl, rfl, rfl, rfl, rfl, rfl, rfl, trivial⟩
      replace e4 : e = 120 := Classical.not_not.1 e4
      have b4 : ((e.toNat : Int) == 120) = true := by rw [e4]; rfl
      rw [if_pos e4] at hS
      repeat refine Wp.seq ?_
      refine Wp.runS (by simp only [runS, stepO, stepW, stepV, keep, guardOf, wantG, wantV, aop, binA, aev, flat, if_true, if_false, Option.bind_some, Option.map_some, Frm.put, look, setk, Nat.reduceLT, Nat.reduceEqDiff, evs, evp, evo, List.getElem?_toArray, List.getElem?_cons_succ, List.getElem?_cons_zero, Bool.false_eq_true, Bool.true_eq_false, beq_self_eq_true, beq_ft, beq_tf, notNil, Bool.not_true, Bool.not_false, reduceCtorEq, abuiltin, aextract, byteV, abin_int, ai_eql, b4] <;> exact rfl) ?_
      dsimp only [after, leaving]
      repeat refine Wp.seq ?_
      refine Wp.condT (by simp only [runS, stepO, stepW, stepV, keep, guardOf, wantG, wantV, aop, binA, aev, flat, if_true, if_false, Option.bind_some, Option.map_some, Frm.put, look, setk, Nat.reduceLT, Nat.reduceEqDiff, evs, evp, evo, List.getElem?_toArray, List.getElem?_cons_succ, List.getElem?_cons_zero, Bool.false_eq_true, Bool.true_eq_false, beq_self_eq_true, beq_ft, beq_tf, notNil, Bool.not_true, Bool.not_false, reduceCtorEq, abuiltin, aextract]) ?_
      repeat refine Wp.seq ?_
      refine Wp.regionAs (is := List.range' 0 1 ++ (1 :: (List.range' 2 1 ++ []))) rfl ?_
      refine WpO.runS 1 (by simp only [List.drop_succ_cons, List.drop_zero, List.take_succ_cons, List.take_zero, runS, stepO, stepW, stepV, keep, guardOf, wantG, wantV, aop, binA, aev, flat, if_true, if_false, Option.bind_some, Option.map_some, Frm.put, look, setk, Nat.reduceLT, Nat.reduceEqDiff, evs, evp, evo, List.getElem?_toArray, List.getElem?_cons_succ, List.getElem?_cons_zero, Bool.false_eq_true, Bool.true_eq_false, beq_self_eq_true, beq_ft, beq_tf, notNil, Bool.not_true, Bool.not_false, reduceCtorEq, abuiltin, aextract] <;> exact rfl) (by decide) ?_
      refine WpO.callS rfl (by simp only [runS, stepO, stepW, stepV, keep, guardOf, wantG, wantV, aop, binA, aev, flat, if_true, if_false, Option.bind_some, Option.map_some, Frm.put, look, setk, Nat.reduceLT, Nat.reduceEqDiff, evs, evp, evo, List.getElem?_toArray, List.getElem?_cons_succ, List.getElem?_cons_zero, Bool.false_eq_true, Bool.true_eq_false, beq_self_eq_true, beq_ft, beq_tf, notNil, Bool.not_true, Bool.not_false, reduceCtorEq, abuiltin, aextract, c37]) (by simp only [calleeOf, fnOf, List.append_nil, List.nil_append, runS, stepO, stepW, stepV, keep, guardOf, wantG, wantV, aop, binA, aev, flat, if_true, if_false, Option.bind_some, Option.map_some, Frm.put, look, setk, Nat.reduceLT, Nat.reduceEqDiff, evs, evp, evo, List.getElem?_toArray, List.getElem?_cons_succ, List.getElem?_cons_zero, Bool.false_eq_true, Bool.true_eq_false, beq_self_eq_true, beq_ft, beq_tf, notNil, Bool.not_true, Bool.not_false, reduceCtorEq, abuiltin, aextract, c37] <;> exact rfl) ((need_spec G H4 (h.next + 1) h.next (k + 1 + 1) T 194 [] highB (by omega) st4.a st4.s (by omega) c42 (fun c => byteFn (noKnown _ _ _) high_ok (B := B) c H4)).mono ?_)
      intro r h5 hr
      cases hn : needP highB T (k + 1 + 1) with
      | none =>
        rw [hn] at hr
        obtain ⟨rfl, rfl⟩ := hr
        refine ⟨rfl, rfl, ?_⟩
        have hS1 : S = .inl 2 := by
          rw [← hS]
          rcases needP_none hn with q | ⟨e, q1, q2⟩
          · rw [q]
          · rw [q1]; simp only [q2, Bool.false_eq_true, if_false]
        subst hS1
        rw [← hf2]
        exact ⟨rfl, st4.keeps⟩
      | some hi =>
      rw [hn] at hr
      obtain ⟨rfl, rfl⟩ := hr
      obtain ⟨hc2, hhi⟩ := needP_some hn
      clear hn
      refine ⟨_, by simp only [runS, stepO, stepW, stepV, keep, guardOf, wantG, wantV, aop, binA, aev, flat, if_true, if_false, Option.bind_some, Option.map_some, Frm.put, look, setk, Nat.reduceLT, Nat.reduceEqDiff, evs, evp, evo, List.getElem?_toArray, List.getElem?_cons_succ, List.getElem?_cons_zero, Bool.false_eq_true, Bool.true_eq_false, beq_self_eq_true, beq_ft, beq_tf, notNil, Bool.not_true, Bool.not_false, reduceCtorEq, abuiltin, aextract] <;> exact rfl, ?_⟩
      refine WpO.runS 1 (by simp only [List.drop_succ_cons, List.drop_zero, List.take_succ_cons, List.take_zero, runS, stepO, stepW, stepV, keep, guardOf, wantG, wantV, aop, binA, aev, flat, if_true, if_false, Option.bind_some, Option.map_some, Frm.put, look, setk, Nat.reduceLT, Nat.reduceEqDiff, evs, evp, evo, List.getElem?_toArray, List.getElem?_cons_succ, List.getElem?_cons_zero, Bool.false_eq_true, Bool.true_eq_false, beq_self_eq_true, beq_ft, beq_tf, notNil, Bool.not_true, Bool.not_false, reduceCtorEq, abuiltin, aextract] <;> exact rfl) (by decide) ?_
      refine WpO.nil ?_
      dsimp only [after, leaving]
      have st5 := st4.at (k + 1 + 1 + 1)
      generalize H4.set (h.next + 1) (intRow ((k + 1 + 1 + 1 : Nat) : Int)) = H5 at st5 ⊢
      clear st4
      rw [drop_cons hc2] at hS
      simp only [hhi, if_true] at hS
      have h0 := highB_hex hhi
      have hk2 := (List.getElem?_eq_some_iff.1 hc2).1
      have hixh : firstIdx ⟨#[48, 49, 50, 51, 52, 53, 54, 55, 56, 57, 97, 98, 99, 100, 101, 102]⟩ ((hi.toNat : Int)).toNat.toUInt8 = hexV hi := by rw [byte_back, Lib.firstIdx_eq]; rfl
      have hsto : astore Tryz.prog (H5.alloc (intRow 0)) 3 (.pointer (some ⟨H5.next, 0, none⟩)) (.int .i64 (hexV hi)) = some (H5.alloc (intRow (hexV hi))) := by
        rw [astore_cell sz3 rfl, Heap.sts_of (Heap.get_alloc_new H5 (intRow 0)) (by simp) rfl rfl]
        rw [Heap.set_alloc]; rfl
      repeat refine Wp.seq ?_
      refine Wp.regionAs (is := List.range' 0 1 ++ (1 :: (List.range' 2 2 ++ []))) rfl ?_
      refine WpO.runS 1 (by simp only [List.drop_succ_cons, List.drop_zero, List.take_succ_cons, List.take_zero, runS, stepO, stepW, stepV, keep, guardOf, wantG, wantV, aop, binA, aev, flat, if_true, if_false, Option.bind_some, Option.map_some, Frm.put, look, setk, Nat.reduceLT, Nat.reduceEqDiff, evs, evp, evo, List.getElem?_toArray, List.getElem?_cons_succ, List.getElem?_cons_zero, Bool.false_eq_true, Bool.true_eq_false, beq_self_eq_true, beq_ft, beq_tf, notNil, Bool.not_true, Bool.not_false, reduceCtorEq, abuiltin, aextract] <;> exact rfl) (by decide) ?_
      refine WpO.callR (indexByte_spec G H5 ⟨#[48, 49, 50, 51, 52, 53, 54, 55, 56, 57, 97, 98, 99, 100, 101, 102]⟩ hi.toNat) rfl (by simp only [runS, stepO, stepW, stepV, keep, guardOf, wantG, wantV, aop, binA, aev, flat, if_true, if_false, Option.bind_some, Option.map_some, Frm.put, look, setk, Nat.reduceLT, Nat.reduceEqDiff, evs, evp, evo, List.getElem?_toArray, List.getElem?_cons_succ, List.getElem?_cons_zero, Bool.false_eq_true, Bool.true_eq_false, beq_self_eq_true, beq_ft, beq_tf, notNil, Bool.not_true, Bool.not_false, reduceCtorEq, abuiltin, aextract, c14]) (by simp only [calleeOf, fnOf, List.append_nil, List.nil_append, runS, stepO, stepW, stepV, keep, guardOf, wantG, wantV, aop, binA, aev, flat, if_true, if_false, Option.bind_some, Option.map_some, Frm.put, look, setk, Nat.reduceLT, Nat.reduceEqDiff, evs, evp, evo, List.getElem?_toArray, List.getElem?_cons_succ, List.getElem?_cons_zero, Bool.false_eq_true, Bool.true_eq_false, beq_self_eq_true, beq_ft, beq_tf, notNil, Bool.not_true, Bool.not_false, reduceCtorEq, abuiltin, aextract, c14] <;> exact rfl) ?_
      rintro _ h9 ⟨rfl, hh9⟩
      obtain rfl := hh9.symm
      clear hh9
      refine ⟨_, _, rfl, by simp only [runS, stepO, stepW, stepV, keep, guardOf, wantG, wantV, aop, binA, aev, flat, if_true, if_false, Option.bind_some, Option.map_some, Frm.put, look, setk, Nat.reduceLT, Nat.reduceEqDiff, evs, evp, evo, List.getElem?_toArray, List.getElem?_cons_succ, List.getElem?_cons_zero, Bool.false_eq_true, Bool.true_eq_false, beq_self_eq_true, beq_ft, beq_tf, notNil, Bool.not_true, Bool.not_false, reduceCtorEq, abuiltin, aextract]; exact rfl, ?_⟩
      refine WpO.runS 2 (by simp only [List.drop_succ_cons, List.drop_zero, List.take_succ_cons, List.take_zero, runS, stepO, stepW, stepV, keep, guardOf, wantG, wantV, aop, binA, aev, flat, if_true, if_false, Option.bind_some, Option.map_some, Frm.put, look, setk, Nat.reduceLT, Nat.reduceEqDiff, evs, evp, evo, List.getElem?_toArray, List.getElem?_cons_succ, List.getElem?_cons_zero, Bool.false_eq_true, Bool.true_eq_false, beq_self_eq_true, beq_ft, beq_tf, notNil, Bool.not_true, Bool.not_false, reduceCtorEq, abuiltin, aextract, alloc3, Heap.new, hixh, hsto] <;> exact rfl) (by decide) ?_
      refine WpO.nil ?_
      dsimp only [after, leaving]
      have st6 := st5.alloc (intRow (hexV hi))
      have g6 : (H5.alloc (intRow (hexV hi))).get H5.next = some (intRow (hexV hi)) := Heap.get_alloc_new _ _
      have hnx : h.next + 1 < H5.next := by have := Heap.lt_of_get st5.a; omega
      generalize H5.alloc (intRow (hexV hi)) = H6 at st6 g6 ⊢
      repeat refine Wp.seq ?_
      refine Wp.regionAs (is := List.range' 0 2 ++ (2 :: (List.range' 3 1 ++ []))) rfl ?_
      refine WpO.runS 2 (by simp only [List.drop_succ_cons, List.drop_zero, List.take_succ_cons, List.take_zero, runS, stepO, stepW, stepV, keep, guardOf, wantG, wantV, aop, binA, aev, flat, if_true, if_false, Option.bind_some, Option.map_some, Frm.put, look, setk, Nat.reduceLT, Nat.reduceEqDiff, evs, evp, evo, List.getElem?_toArray, List.getElem?_cons_succ, List.getElem?_cons_zero, Bool.false_eq_true, Bool.true_eq_false, beq_self_eq_true, beq_ft, beq_tf, notNil, Bool.not_true, Bool.not_false, reduceCtorEq, abuiltin, aextract] <;> exact rfl) (by decide) ?_
      refine WpO.callS rfl (by simp only [runS, stepO, stepW, stepV, keep, guardOf, wantG, wantV, aop, binA, aev, flat, if_true, if_false, Option.bind_some, Option.map_some, Frm.put, look, setk, Nat.reduceLT, Nat.reduceEqDiff, evs, evp, evo, List.getElem?_toArray, List.getElem?_cons_succ, List.getElem?_cons_zero, Bool.false_eq_true, Bool.true_eq_false, beq_self_eq_true, beq_ft, beq_tf, notNil, Bool.not_true, Bool.not_false, reduceCtorEq, abuiltin, aextract, c37]) (by simp only [calleeOf, fnOf, List.append_nil, List.nil_append, runS, stepO, stepW, stepV, keep, guardOf, wantG, wantV, aop, binA, aev, flat, if_true, if_false, Option.bind_some, Option.map_some, Frm.put, look, setk, Nat.reduceLT, Nat.reduceEqDiff, evs, evp, evo, List.getElem?_toArray, List.getElem?_cons_succ, List.getElem?_cons_zero, Bool.false_eq_true, Bool.true_eq_false, beq_self_eq_true, beq_ft, beq_tf, notNil, Bool.not_true, Bool.not_false, reduceCtorEq, abuiltin, aextract, c37] <;> exact rfl) ((need_spec G H6 (h.next + 1) h.next (k + 1 + 1 + 1) T 195 [.pointer (some ⟨H5.next, 0, none⟩)] (lowB hi) (by omega) st6.a st6.s (by omega) c43 (fun c => low_spec G B H6 H5.next hi c h0 g6)).mono ?_)
      intro r h7 hr
      cases hn : needP (lowB hi) T (k + 1 + 1 + 1) with
      | none =>
        rw [hn] at hr
        obtain ⟨rfl, rfl⟩ := hr
        refine ⟨rfl, rfl, ?_⟩
        have hS1 : S = .inl 3 := by
          rw [← hS]
          rcases needP_none hn with q | ⟨e, q1, q2⟩
          · rw [q]
          · rw [q1]; simp only [q2, Bool.false_eq_true, if_false]
        subst hS1
        rw [← hf2]
        exact ⟨rfl, st6.keeps⟩
      | some lo =>
      rw [hn] at hr
      obtain ⟨rfl, rfl⟩ := hr
      obtain ⟨hc3, hlo⟩ := needP_some hn
      clear hn
      refine ⟨_, by simp only [runS, stepO, stepW, stepV, keep, guardOf, wantG, wantV, aop, binA, aev, flat, if_true, if_false, Option.bind_some, Option.map_some, Frm.put, look, setk, Nat.reduceLT, Nat.reduceEqDiff, evs, evp, evo, List.getElem?_toArray, List.getElem?_cons_succ, List.getElem?_cons_zero, Bool.false_eq_true, Bool.true_eq_false, beq_self_eq_true, beq_ft, beq_tf, notNil, Bool.not_true, Bool.not_false, reduceCtorEq, abuiltin, aextract] <;> exact rfl, ?_⟩
      refine WpO.runS 1 (by simp only [List.drop_succ_cons, List.drop_zero, List.take_succ_cons, List.take_zero, runS, stepO, stepW, stepV, keep, guardOf, wantG, wantV, aop, binA, aev, flat, if_true, if_false, Option.bind_some, Option.map_some, Frm.put, look, setk, Nat.reduceLT, Nat.reduceEqDiff, evs, evp, evo, List.getElem?_toArray, List.getElem?_cons_succ, List.getElem?_cons_zero, Bool.false_eq_true, Bool.true_eq_false, beq_self_eq_true, beq_ft, beq_tf, notNil, Bool.not_true, Bool.not_false, reduceCtorEq, abuiltin, aextract] <;> exact rfl) (by decide) ?_
      refine WpO.nil ?_
      dsimp only [after, leaving]
      have st7 := st6.at (k + 1 + 1 + 1 + 1)
      have g7 : (H6.set (h.next + 1) (intRow ((k + 1 + 1 + 1 + 1 : Nat) : Int))).ld H5.next 0 = some (.int .i64 (hexV hi)) := Heap.ld_of (by rw [Heap.get_set_ne (by omega)]; exact g6) rfl
      generalize H6.set (h.next + 1) (intRow ((k + 1 + 1 + 1 + 1 : Nat) : Int)) = H7 at st7 g7 ⊢
      clear st6 g6
      rw [drop_cons hc3] at hS
      simp only [hlo, if_true] at hS
      have hk3 := (List.getElem?_eq_some_iff.1 hc3).1
      have hlo0 : 0 ≤ hexV lo := by
        unfold lowB at hlo
        simp only [Bool.and_eq_true, decide_eq_true_eq] at hlo
        exact hlo.1.1
      have hixl : firstIdx ⟨#[48, 49, 50, 51, 52, 53, 54, 55, 56, 57, 97, 98, 99, 100, 101, 102]⟩ ((lo.toNat : Int)).toNat.toUInt8 = hexV lo := by rw [byte_back, Lib.firstIdx_eq]; rfl
      repeat refine Wp.seq ?_
      refine Wp.drawAs [] [74] 0 (fun _ => True) mixed (by kernel_rfl) trivial ?_
      refine DrT.run 3 (by simp only [List.take_succ_cons, List.take_zero, runSD, stepOD, stepWD, stepVD, isLoud, isPure, isReader, isEqOp, isConstO, decide_true, Bool.or_true, Bool.true_or, Bool.or_self, Bool.and_self, Bool.and_true, Bool.and_false, Bool.false_and, Bool.true_and, Heap.next_set, Heap.next_alloc, runS, stepO, stepW, stepV, keep, guardOf, wantG, wantV, aop, binA, aev, flat, if_true, if_false, Option.bind_some, Option.map_some, Frm.put, look, setk, Nat.reduceLT, Nat.reduceEqDiff, evs, evp, evo, List.getElem?_toArray, List.getElem?_cons_succ, List.getElem?_cons_zero, Bool.false_eq_true, Bool.true_eq_false, beq_self_eq_true, beq_ft, beq_tf, notNil, Bool.not_true, Bool.not_false, reduceCtorEq, abuiltin, aextract, aload_cell agg3, g7, abin_int, ai_shl (show (0 : Int) ≤ 4 by decide)] <;> exact rfl) rfl ?_
      try simp only [List.drop_succ_cons, List.drop_zero]
      refine DrT.callP (fun H => indexByte_spec G H ⟨#[48, 49, 50, 51, 52, 53, 54, 55, 56, 57, 97, 98, 99, 100, 101, 102]⟩ lo.toNat) (by simp only [runS, stepO, stepW, stepV, keep, guardOf, wantG, wantV, aop, binA, aev, flat, if_true, if_false, Option.bind_some, Option.map_some, Frm.put, look, setk, Nat.reduceLT, Nat.reduceEqDiff, evs, evp, evo, List.getElem?_toArray, List.getElem?_cons_succ, List.getElem?_cons_zero, Bool.false_eq_true, Bool.true_eq_false, beq_self_eq_true, beq_ft, beq_tf, notNil, Bool.not_true, Bool.not_false, reduceCtorEq, abuiltin, aextract]) (fun H => by simp only [calleeOf, fnOf, List.append_nil, List.nil_append, runS, stepO, stepW, stepV, keep, guardOf, wantG, wantV, aop, binA, aev, flat, if_true, if_false, Option.bind_some, Option.map_some, Frm.put, look, setk, Nat.reduceLT, Nat.reduceEqDiff, evs, evp, evo, List.getElem?_toArray, List.getElem?_cons_succ, List.getElem?_cons_zero, Bool.false_eq_true, Bool.true_eq_false, beq_self_eq_true, beq_ft, beq_tf, notNil, Bool.not_true, Bool.not_false, reduceCtorEq, abuiltin, aextract, c14] <;> exact rfl) (by simp only [runS, stepO, stepW, stepV, keep, guardOf, wantG, wantV, aop, binA, aev, flat, if_true, if_false, Option.bind_some, Option.map_some, Frm.put, look, setk, Nat.reduceLT, Nat.reduceEqDiff, evs, evp, evo, List.getElem?_toArray, List.getElem?_cons_succ, List.getElem?_cons_zero, Bool.false_eq_true, Bool.true_eq_false, beq_self_eq_true, beq_ft, beq_tf, notNil, Bool.not_true, Bool.not_false, reduceCtorEq, abuiltin, aextract] <;> exact rfl) ?_
      refine DrT.run 1 (by simp only [List.take_succ_cons, List.take_zero, runSD, stepOD, stepWD, stepVD, isLoud, isPure, isReader, isEqOp, isConstO, decide_true, Bool.or_true, Bool.true_or, Bool.or_self, Bool.and_self, Bool.and_true, Bool.and_false, Bool.false_and, Bool.true_and, Heap.next_set, Heap.next_alloc, runS, stepO, stepW, stepV, keep, guardOf, wantG, wantV, aop, binA, aev, flat, if_true, if_false, Option.bind_some, Option.map_some, Frm.put, look, setk, Nat.reduceLT, Nat.reduceEqDiff, evs, evp, evo, List.getElem?_toArray, List.getElem?_cons_succ, List.getElem?_cons_zero, Bool.false_eq_true, Bool.true_eq_false, beq_self_eq_true, beq_ft, beq_tf, notNil, Bool.not_true, Bool.not_false, reduceCtorEq, abuiltin, aextract, abin_int, ai_or, hixl] <;> exact rfl) rfl ?_
      try simp only [List.drop_succ_cons, List.drop_zero]
      refine DrT.val (by simp only [runS, stepO, stepW, stepV, keep, guardOf, wantG, wantV, aop, binA, aev, flat, if_true, if_false, Option.bind_some, Option.map_some, Frm.put, look, setk, Nat.reduceLT, Nat.reduceEqDiff, evs, evp, evo, List.getElem?_toArray, List.getElem?_cons_succ, List.getElem?_cons_zero, Bool.false_eq_true, Bool.true_eq_false, beq_self_eq_true, beq_ft, beq_tf, notNil, Bool.not_true, Bool.not_false, reduceCtorEq, abuiltin, aextract, conv35] <;> exact rfl) rfl rfl (by simp only [runS, stepO, stepW, stepV, keep, guardOf, wantG, wantV, aop, binA, aev, flat, if_true, if_false, Option.bind_some, Option.map_some, Frm.put, look, setk, Nat.reduceLT, Nat.reduceEqDiff, evs, evp, evo, List.getElem?_toArray, List.getElem?_cons_succ, List.getElem?_cons_zero, Bool.false_eq_true, Bool.true_eq_false, beq_self_eq_true, beq_ft, beq_tf, notNil, Bool.not_true, Bool.not_false, reduceCtorEq, abuiltin, aextract]) (by simp only [runS, stepO, stepW, stepV, keep, guardOf, wantG, wantV, aop, binA, aev, flat, if_true, if_false, Option.bind_some, Option.map_some, Frm.put, look, setk, Nat.reduceLT, Nat.reduceEqDiff, evs, evp, evo, List.getElem?_toArray, List.getElem?_cons_succ, List.getElem?_cons_zero, Bool.false_eq_true, Bool.true_eq_false, beq_self_eq_true, beq_ft, beq_tf, notNil, Bool.not_true, Bool.not_false, reduceCtorEq, abuiltin, aextract] <;> exact rfl) (fun _ => trivial) ?_
      refine DrT.run 1 (by simp only [List.take_succ_cons, List.take_zero, runSD, stepOD, stepWD, stepVD, isLoud, isPure, isReader, isEqOp, isConstO, decide_true, Bool.or_true, Bool.true_or, Bool.or_self, Bool.and_self, Bool.and_true, Bool.and_false, Bool.false_and, Bool.true_and, Heap.next_set, Heap.next_alloc, runS, stepO, stepW, stepV, keep, guardOf, wantG, wantV, aop, binA, aev, flat, if_true, if_false, Option.bind_some, Option.map_some, Frm.put, look, setk, Nat.reduceLT, Nat.reduceEqDiff, evs, evp, evo, List.getElem?_toArray, List.getElem?_cons_succ, List.getElem?_cons_zero, Bool.false_eq_true, Bool.true_eq_false, beq_self_eq_true, beq_ft, beq_tf, notNil, Bool.not_true, Bool.not_false, reduceCtorEq, abuiltin, aextract] <;> exact rfl) rfl ?_
      try simp only [List.drop_succ_cons, List.drop_zero]
      refine DrT.nil ?_
      dsimp only [after, leaving]
      rw [hex_or hi lo h0 hlo0]
      exact ⟨rfl, _, _, hS.symm, st7, by omega, by omega, _, rfl, rfl, rfl, rfl, rfl, rfl, rfl, rfl, rfl, trivial⟩
  · by_cases hm : (o.length : Int) = most
    · have he : ((o.length : Int) == most) = true := by simp [hm]
      by_cases hlt : (T.length : Int) ≤ (k : Int)
      · repeat refine Wp.seq ?_
        refine Wp.runS (by simp only [runS, stepO, stepW, stepV, keep, guardOf, wantG, wantV, aop, binA, aev, flat, if_true, if_false, Option.bind_some, Option.map_some, Frm.put, look, setk, Nat.reduceLT, Nat.reduceEqDiff, evs, evp, evo, List.getElem?_toArray, List.getElem?_cons_succ, List.getElem?_cons_zero, Bool.false_eq_true, Bool.true_eq_false, beq_self_eq_true, beq_ft, beq_tf, notNil, Bool.not_true, Bool.not_false, reduceCtorEq, abuiltin, aextract, alen_slice Tryz.underlying70, alen_str Tryz.underlying9, bs_size, aload_cell agg3, aload_cell agg9, la, ls, abin_int, ai_eql, ai_geq, ai_neq, he, decide_eq_true hlt] <;> exact rfl) ?_
        dsimp only [after, leaving]
        refine ⟨rfl, rfl, _, rfl, rfl, rfl, rfl, rfl, rfl, rfl, rfl, ?_, trivial⟩
        rw [decide_eq_true ⟨hm, by rw [List.getElem?_eq_none (by omega)]; simp⟩]; rfl
      · obtain ⟨c, hc⟩ : ∃ c, T[k]? = some c := ⟨_, List.getElem?_eq_getElem (by omega)⟩
        repeat refine Wp.seq ?_
        refine Wp.runS (by simp only [runS, stepO, stepW, stepV, keep, guardOf, wantG, wantV, aop, binA, aev, flat, if_true, if_false, Option.bind_some, Option.map_some, Frm.put, look, setk, Nat.reduceLT, Nat.reduceEqDiff, evs, evp, evo, List.getElem?_toArray, List.getElem?_cons_succ, List.getElem?_cons_zero, Bool.false_eq_true, Bool.true_eq_false, beq_self_eq_true, beq_ft, beq_tf, notNil, Bool.not_true, Bool.not_false, reduceCtorEq, abuiltin, aextract, alen_slice Tryz.underlying70, alen_str Tryz.underlying9, bs_size, aload_cell agg3, aload_cell agg9, la, ls, abin_int, ai_eql, ai_geq, ai_neq, he, decide_eq_false hlt, aindex_bs Tryz.underlying9 hc] <;> exact rfl) ?_
        dsimp only [after, leaving]
        refine ⟨rfl, rfl, _, rfl, rfl, rfl, rfl, rfl, rfl, rfl, rfl, ?_, trivial⟩
        have : decide ((o.length : Int) = most ∧ T[k]? ≠ some 34) = ((c.toNat : Int) != 34) := by
          rw [hc, Bool.eq_iff_iff, decide_eq_true_iff, bne_iff_ne]
          constructor
          · rintro ⟨_, h⟩ e
            apply h
            rw [(byte_eq c 34 (by omega)).2 (by omega)]; rfl
          · intro e
            refine ⟨hm, fun q => e ?_⟩
            cases q; rfl
        rw [this]; rfl
    · have he : ((o.length : Int) == most) = false := by simp [hm]
      repeat refine Wp.seq ?_
      refine Wp.runS (by simp only [runS, stepO, stepW, stepV, keep, guardOf, wantG, wantV, aop, binA, aev, flat, if_true, if_false, Option.bind_some, Option.map_some, Frm.put, look, setk, Nat.reduceLT, Nat.reduceEqDiff, evs, evp, evo, List.getElem?_toArray, List.getElem?_cons_succ, List.getElem?_cons_zero, Bool.false_eq_true, Bool.true_eq_false, beq_self_eq_true, beq_ft, beq_tf, notNil, Bool.not_true, Bool.not_false, reduceCtorEq, abuiltin, aextract, alen_slice Tryz.underlying70, alen_str Tryz.underlying9, bs_size, aload_cell agg3, aload_cell agg9, la, ls, abin_int, ai_eql, ai_geq, ai_neq, he] <;> exact rfl) ?_
      dsimp only [after, leaving]
      refine ⟨rfl, rfl, _, rfl, rfl, rfl, rfl, rfl, rfl, rfl, rfl, ?_, trivial⟩
      rw [decide_eq_false fun q => hm q.1]; rfl
end Go.Mini
