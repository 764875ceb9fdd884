/-
  BACK, part I: LexBlanks.
-/
import Derived.Test.YtbcdlipddmoobaaDoorBackE
import Derived.Test.YtbcdlipddmoobaaDoorBackH
import Derived.Test.YtbcdlipddmoobaaDoorMiniSP
set_option linter.unusedSimpArgs false
set_option maxHeartbeats 8000000
set_option maxRecDepth 100000
namespace Go.Mini
open Go.Proofs

def moreRow (ss : List (List UInt8)) : AObj := .row { vs := ss.map fun s => .string (bs s), elem := 9 }
theorem elem9 : elemOk Tryd.prog 9 1 16 = true := by kernel_rfl
theorem mk33 (h : Heap) (n : Nat) (hn : n ≤ 100000) : amake Tryd.prog h 33 (.int .i64 n) (.int .i64 n) = some (.slice (some ⟨h.next, 0, none⟩) n n, h.alloc (moreRow (List.replicate n []))) := by
  obtain ⟨i, h1, h2⟩ := info_some sz9
  obtain ⟨i', z, h1', _, h3, h4, h5, h6⟩ := elemOk_info elem9
  obtain rfl : i' = i := Option.some.inj (h1'.symm.trans h1)
  have hz : z = .string ⟨#[]⟩ := by
    have : ((Tryd.prog.info? 9).bind (·.zero)) = some (.string ⟨#[]⟩) := by kernel_rfl
    rw [h1, Option.bind_some, h4] at this
    exact Option.some.inj this
  subst hz
  unfold amake
  simp only [Tryd.underlying33, h1, h4, Option.bind_some, h3, h2]
  rw [if_pos ⟨rfl, by omega, by omega, by omega, by omega⟩]
  simp only [Int.toNat_natCast, Nat.mul_one]
  congr 3
  unfold moreRow
  congr 2
  unfold madeCells
  apply List.ext_getElem?
  intro k
  simp only [Array.toList_map, Array.toList_range, List.getElem?_map, List.map_replicate]
  by_cases hk : k < n
  · rw [List.getElem?_eq_getElem (by simpa using hk), List.getElem?_eq_getElem (by simpa using hk)]
    simp [Value.cells, bs, Nat.mod_one]
  · rw [List.getElem?_eq_none (by simpa using hk), List.getElem?_eq_none (by simpa using hk)]; rfl
theorem more_at {h : Heap} {ss : List (List UInt8)} {k : Nat} {s : List UInt8} (hs : ss[k]? = some s) :
    (∀ kd n, ss.length = n → aindexAddr Tryd.prog 33 (.slice (some ⟨h.next, 0, none⟩) n n) (.int kd (k : Nat)) = some (.pointer (some ⟨h.next, k, none⟩))) ∧ (h.alloc (moreRow ss)).ld h.next k = some (.string (bs s)) := by
  have hlt := (List.getElem?_eq_some_iff.1 hs).1
  refine ⟨fun kd n hn => ?_, ?_⟩
  · have := aindexAddr_slice (i := h.next) (k := 0) (len := n) (cap := n) (sp := none) (kd := kd) (j := (k : Int)) Tryd.underlying33 sz9 (by omega) (by omega)
    rw [this, Int.toNat_natCast, Nat.zero_add, Nat.mul_one]
  · refine Heap.ld_of (Heap.get_alloc_new _ _) ?_
    simp [hs]
theorem more_put {h : Heap} {ss : List (List UInt8)} {k : Nat} (hk : k < ss.length) (s : List UInt8) :
    astore Tryd.prog (h.alloc (moreRow ss)) 9 (.pointer (some ⟨h.next, k, none⟩)) (.string (bs s)) = some (h.alloc (moreRow (ss.set k s))) := by
  have g : (h.alloc (moreRow ss)).get h.next = some (.row { vs := ss.map fun s => .string (bs s), elem := 9 }) := Heap.get_alloc_new h (moreRow ss)
  rw [astore_cell sz9 rfl, Heap.sts_of g (by simp; omega) rfl rfl, Heap.set_alloc]
  unfold moreRow
  have : splice (ss.map fun s => Value.string (bs s)) k [Value.string (bs s)] = (ss.set k s).map fun s => Value.string (bs s) := by
    unfold splice
    rw [List.map_set, List.set_eq_take_append_cons_drop, if_pos (by simpa using hk)]
    simp
  simp only [this]
/-- Is the place one of a line's end? -/
def endAt (l : List Tok) (k : Nat) : Bool := match l[k]? with | some t => isEnd t | none => false
/-- What is put in, so far. -/
structure MoreOk (l : List Tok) (pss : List (List (List UInt8))) (n : Nat) : Prop where
  len : pss.length = l.length + 1
  ok : ∀ k ps, pss[k]? = some ps → ∀ p ∈ ps, okPiece (endAt l k) p
  fits : ∀ ps ∈ pss, ps.flatten.length ≤ 14 * n
theorem MoreOk.step {l : List Tok} {pss : List (List (List UInt8))} {n : Nat} (m : MoreOk l pss n) : MoreOk l pss (n + 1) := ⟨m.len, m.ok, fun ps h => by have := m.fits ps h; omega⟩
theorem MoreOk.put {l : List Tok} {pss : List (List (List UInt8))} {n k : Nat} {ps : List (List UInt8)} {p : List UInt8} (m : MoreOk l pss n) (hk : pss[k]? = some ps) (hp : okPiece (endAt l k) p) :
    MoreOk l (pss.set k (ps ++ [p])) (n + 1) ∧ (pss.set k (ps ++ [p])).map List.flatten = (pss.map List.flatten).set k (ps.flatten ++ p) := by
  have hp14 : p.length ≤ 14 := by rcases hp with rfl | rfl | ⟨_, rfl | rfl⟩ <;> decide
  refine ⟨⟨by rw [List.length_set]; exact m.len, fun j qs hj q hq => ?_, fun qs hqs => ?_⟩, by rw [List.map_set]; simp⟩
  · rw [List.getElem?_set] at hj
    split at hj
    · rename_i e
      subst e
      split at hj
      · cases hj
        rcases List.mem_append.1 hq with hq | hq
        · exact m.ok _ _ hk q hq
        · rw [List.mem_singleton.1 hq]; exact hp
      · cases hj
    · exact m.ok _ _ hj q hq
  · rcases List.mem_or_eq_of_mem_set hqs with h | rfl
    · have := m.fits qs h; omega
    · have := m.fits ps (List.mem_of_getElem? hk)
      rw [List.flatten_append, List.length_append, show [p].flatten = p by simp]; omega
theorem okMore_of : ∀ (l : List Tok) (pss : List (List (List UInt8))), pss.length = l.length + 1 → (∀ k ps, pss[k]? = some ps → ∀ p ∈ ps, okPiece (endAt l k) p) → okMore l pss
  | [], [p], _, h => ⟨p, rfl, fun q hq => h 0 p rfl q hq⟩
  | [], [], h, _ => by simp at h
  | [], _ :: _ :: _, h, _ => by simp at h
  | t :: r, [], h, _ => by simp at h
  | t :: r, p :: ps, hl, h => ⟨p, ps, rfl, fun q hq => h 0 p rfl q hq, okMore_of r ps (by simpa using hl) fun k qs hk => h (k + 1) qs (by simpa using hk)⟩
theorem word_len {t : Tok} (h : okTok t.kind t.text t.n) : t.word.length ≤ 300 := by
  have hl4 : ∀ c : UInt8, (signB c).length ≤ 4 := by refine all_bytes ?_; decide +kernel
  have hlen : ∀ l : List UInt8, (l.flatMap signB).length ≤ 4 * l.length := by
    intro l
    induction l with
    | nil => simp
    | cons c l ih => have := hl4 c; rw [List.flatMap_cons, List.length_append, List.length_cons]; omega
  unfold Tok.word
  rcases h with ⟨hkd, _, h2, _⟩ | ⟨h1, _, h2⟩ | ⟨h1, _, h2⟩ | ⟨h1, _, h2⟩
  · rcases hkd with q | q <;> (rw [q]; unfold wordS; simp; omega)
  · rw [h1]; unfold wordS
    simp only [show ¬ 3 = 2 by decide, if_false, if_true]
    unfold dig4
    split
    · simp
    · split
      · simp
      · split <;> simp
  · rw [h1]; unfold wordS
    simp only [show ¬ 4 = 2 by decide, show ¬ 4 = 3 by decide, if_false, if_true]
    have := hlen t.text
    unfold quoteS
    simp only [List.length_cons, List.length_append, List.length_nil]; omega
  · rw [h1]; unfold wordS
    rcases h2 with q | q | q <;> (rw [q]; simp)

theorem ai_and {k : IntKind} {a b : Int} : ∃ x, abinI .and k a k b = some (.int k x) := ⟨_, by simp [abinI]; rfl⟩
theorem gap0 (i k : Nat) : afieldAddr Tryd.prog 35 (.pointer (some ⟨i, k, none⟩)) 0 = some (.pointer (some ⟨i, k, none⟩)) := afieldAddr_eq (f := 0) (o := 0) Tryd.underlying35 (by rfl) (s := 0) (by kernel_rfl) i k
theorem gap1 (i k : Nat) : afieldAddr Tryd.prog 35 (.pointer (some ⟨i, k, none⟩)) 1 = some (.pointer (some ⟨i, k + 1, none⟩)) := afieldAddr_eq Tryd.underlying35 (by rfl) (s := 0) (by kernel_rfl) i k
theorem blanks_spec (h : Heap) (T : List UInt8) (gv : Value) (gs : List (Int × Int)) (hT : T.length ≤ 281474976710656) (hgs : Pairs h gv gs) (hgl : gs.length ≤ 9223372036854775807) (hwf : ∀ n ∈ gs, (Lit.int .i64 n.1).wf = true ∧ (Lit.int .i64 n.2).wf = true) :
    Does Tryd.prog 0 (GoodE Tryd.prog (baseM 0)) 4 [.string (bs T), gv] h fun r _ => r = .returned (.bool true) := by
  have c6 : canEnter Tryd.prog 6 = true := by kernel_rfl
  have c8 : canEnter Tryd.prog 8 = true := by kernel_rfl
  have c10 : canEnter Tryd.prog 10 = true := by kernel_rfl
  have c11 : canEnter Tryd.prog 11 = true := by kernel_rfl
  have glen : ∀ H, Pairs H gv gs → alen Tryd.prog H 32 gv = some (.int .i64 (gs.length : Nat)) := by
    rintro H ⟨a, cap, rfl, _⟩
    exact alen_slice Tryd.underlying32 _ _ _
  refine Does.body Tryd.func4 rfl ?_
  have hn : enterF Tryd.f4 [.string (bs T), gv] = ⟨179, [(0, .string (bs T)), (1, gv)], []⟩ := rfl
  rw [hn]; clear hn
  repeat refine Wp.seq ?_
  refine Wp.runS (by simp only [runS, stepO, stepW, stepV, keep, guardOf, wantG, wantV, aop, binA, aev, flat, if_true, if_false, Option.bind_some, Option.map_some, Frm.put, look, setk, Nat.reduceLT, Nat.reduceEqDiff, evs, evp, evo, List.getElem?_toArray, List.getElem?_cons_succ, List.getElem?_cons_zero, Bool.false_eq_true, Bool.true_eq_false, beq_self_eq_true, beq_ft, beq_tf, notNil, Bool.not_true, Bool.not_false, reduceCtorEq, abuiltin, aextract] <;> exact rfl) ?_
  dsimp only [after, leaving]
  repeat refine Wp.seq ?_
  refine Wp.regionAs (is := 0 :: (List.range' 1 1 ++ [])) rfl ?_
  refine WpO.callR (works_does h) rfl (by simp only [runS, stepO, stepW, stepV, keep, guardOf, wantG, wantV, aop, binA, aev, flat, if_true, if_false, Option.bind_some, Option.map_some, Frm.put, look, setk, Nat.reduceLT, Nat.reduceEqDiff, evs, evp, evo, List.getElem?_toArray, List.getElem?_cons_succ, List.getElem?_cons_zero, Bool.false_eq_true, Bool.true_eq_false, beq_self_eq_true, beq_ft, beq_tf, notNil, Bool.not_true, Bool.not_false, reduceCtorEq, abuiltin, aextract, c6]) (by simp only [calleeOf, fnOf, List.append_nil, List.nil_append, runS, stepO, stepW, stepV, keep, guardOf, wantG, wantV, aop, binA, aev, flat, if_true, if_false, Option.bind_some, Option.map_some, Frm.put, look, setk, Nat.reduceLT, Nat.reduceEqDiff, evs, evp, evo, List.getElem?_toArray, List.getElem?_cons_succ, List.getElem?_cons_zero, Bool.false_eq_true, Bool.true_eq_false, beq_self_eq_true, beq_ft, beq_tf, notNil, Bool.not_true, Bool.not_false, reduceCtorEq, abuiltin, aextract, c6] <;> exact rfl) ?_
  rintro _ h9 ⟨rfl, hh9⟩
  obtain rfl := hh9.symm
  clear hh9
  refine ⟨_, _, rfl, by simp only [runS, stepO, stepW, stepV, keep, guardOf, wantG, wantV, aop, binA, aev, flat, if_true, if_false, Option.bind_some, Option.map_some, Frm.put, look, setk, Nat.reduceLT, Nat.reduceEqDiff, evs, evp, evo, List.getElem?_toArray, List.getElem?_cons_succ, List.getElem?_cons_zero, Bool.false_eq_true, Bool.true_eq_false, beq_self_eq_true, beq_ft, beq_tf, notNil, Bool.not_true, Bool.not_false, reduceCtorEq, abuiltin, aextract]; exact rfl, ?_⟩
  refine WpO.runS 1 (by simp only [List.drop_succ_cons, List.drop_zero, List.take_succ_cons, List.take_zero, runS, stepO, stepW, stepV, keep, guardOf, wantG, wantV, aop, binA, aev, flat, if_true, if_false, Option.bind_some, Option.map_some, Frm.put, look, setk, Nat.reduceLT, Nat.reduceEqDiff, evs, evp, evo, List.getElem?_toArray, List.getElem?_cons_succ, List.getElem?_cons_zero, Bool.false_eq_true, Bool.true_eq_false, beq_self_eq_true, beq_ft, beq_tf, notNil, Bool.not_true, Bool.not_false, reduceCtorEq, abuiltin, aextract, aun] <;> exact rfl) (by decide) ?_
  refine WpO.nil ?_
  dsimp only [after, leaving]
  repeat refine Wp.seq ?_
  refine Wp.condF (by simp only [runS, stepO, stepW, stepV, keep, guardOf, wantG, wantV, aop, binA, aev, flat, if_true, if_false, Option.bind_some, Option.map_some, Frm.put, look, setk, Nat.reduceLT, Nat.reduceEqDiff, evs, evp, evo, List.getElem?_toArray, List.getElem?_cons_succ, List.getElem?_cons_zero, Bool.false_eq_true, Bool.true_eq_false, beq_self_eq_true, beq_ft, beq_tf, notNil, Bool.not_true, Bool.not_false, reduceCtorEq, abuiltin, aextract]) ?_
  repeat refine Wp.seq ?_
  refine Wp.skip ?_
  dsimp only [after, leaving]
  repeat refine Wp.seq ?_
  refine Wp.regionAs (is := List.range' 0 1 ++ (1 :: (List.range' 2 6 ++ []))) rfl ?_
  refine WpO.runS 1 (by simp only [List.drop_succ_cons, List.drop_zero, List.take_succ_cons, List.take_zero, runS, stepO, stepW, stepV, keep, guardOf, wantG, wantV, aop, binA, aev, flat, if_true, if_false, Option.bind_some, Option.map_some, Frm.put, look, setk, Nat.reduceLT, Nat.reduceEqDiff, evs, evp, evo, List.getElem?_toArray, List.getElem?_cons_succ, List.getElem?_cons_zero, Bool.false_eq_true, Bool.true_eq_false, beq_self_eq_true, beq_ft, beq_tf, notNil, Bool.not_true, Bool.not_false, reduceCtorEq, abuiltin, aextract] <;> exact rfl) (by decide) ?_
  refine WpO.callR (lex_call h T hT) rfl (by simp only [runS, stepO, stepW, stepV, keep, guardOf, wantG, wantV, aop, binA, aev, flat, if_true, if_false, Option.bind_some, Option.map_some, Frm.put, look, setk, Nat.reduceLT, Nat.reduceEqDiff, evs, evp, evo, List.getElem?_toArray, List.getElem?_cons_succ, List.getElem?_cons_zero, Bool.false_eq_true, Bool.true_eq_false, beq_self_eq_true, beq_ft, beq_tf, notNil, Bool.not_true, Bool.not_false, reduceCtorEq, abuiltin, aextract, c8]) (by simp only [calleeOf, fnOf, List.append_nil, List.nil_append, runS, stepO, stepW, stepV, keep, guardOf, wantG, wantV, aop, binA, aev, flat, if_true, if_false, Option.bind_some, Option.map_some, Frm.put, look, setk, Nat.reduceLT, Nat.reduceEqDiff, evs, evp, evo, List.getElem?_toArray, List.getElem?_cons_succ, List.getElem?_cons_zero, Bool.false_eq_true, Bool.true_eq_false, beq_self_eq_true, beq_ft, beq_tf, notNil, Bool.not_true, Bool.not_false, reduceCtorEq, abuiltin, aextract, c8] <;> exact rfl) ?_
  rintro _ h9 ⟨rfl, hh9⟩
  obtain rfl := hh9.symm
  clear hh9
  refine ⟨_, _, rfl, by simp only [runS, stepO, stepW, stepV, keep, guardOf, wantG, wantV, aop, binA, aev, flat, if_true, if_false, Option.bind_some, Option.map_some, Frm.put, look, setk, Nat.reduceLT, Nat.reduceEqDiff, evs, evp, evo, List.getElem?_toArray, List.getElem?_cons_succ, List.getElem?_cons_zero, Bool.false_eq_true, Bool.true_eq_false, beq_self_eq_true, beq_ft, beq_tf, notNil, Bool.not_true, Bool.not_false, reduceCtorEq, abuiltin, aextract]; exact rfl, ?_⟩
  have sA := spot_put (lexH h T) (spotOf (lexS T)).1 (spotOf (lexS T)).2
  refine WpO.runS 6 (by simp only [List.drop_succ_cons, List.drop_zero, List.take_succ_cons, List.take_zero, runS, stepO, stepW, stepV, keep, guardOf, wantG, wantV, aop, binA, aev, flat, if_true, if_false, Option.bind_some, Option.map_some, Frm.put, look, setk, Nat.reduceLT, Nat.reduceEqDiff, evs, evp, evo, List.getElem?_toArray, List.getElem?_cons_succ, List.getElem?_cons_zero, Bool.false_eq_true, Bool.true_eq_false, beq_self_eq_true, beq_ft, beq_tf, notNil, Bool.not_true, Bool.not_false, reduceCtorEq, abuiltin, aextract, alloc27, Heap.new, sA] <;> exact rfl) (by decide) ?_
  refine WpO.nil ?_
  dsimp only [after, leaving]
  clear sA
  have gA : ((lexH h T).alloc (spotRow (spotOf (lexS T)).1 (spotOf (lexS T)).2)).get (lexH h T).next = some (spotRow (spotOf (lexS T)).1 (spotOf (lexS T)).2) := Heap.get_alloc_new _ _
  have tA := (lexH_toks h T).more (Heap.more_alloc _ (spotRow (spotOf (lexS T)).1 (spotOf (lexS T)).2))
  replace hgs := hgs.more ((lexH_more h T).trans (Heap.more_alloc _ (spotRow (spotOf (lexS T)).1 (spotOf (lexS T)).2)))
  generalize (lexH h T).alloc (spotRow (spotOf (lexS T)).1 (spotOf (lexS T)).2) = H1 at gA tA hgs ⊢
  generalize (lexH h T).next = jA at gA ⊢
  cases hR : lexS T with
  | error ep =>
    obtain ⟨e, p⟩ := ep
    obtain ⟨he, hp⟩ := lex_err hR
    rw [hR] at gA
    simp only [spotOf] at gA
    have e0 : ((e : Int) != 0) = true := by rw [bne_iff_ne]; omega
    repeat refine Wp.seq ?_
    refine Wp.runS (by simp only [runS, stepO, stepW, stepV, keep, guardOf, wantG, wantV, aop, binA, aev, flat, if_true, if_false, Option.bind_some, Option.map_some, Frm.put, look, setk, Nat.reduceLT, Nat.reduceEqDiff, evs, evp, evo, List.getElem?_toArray, List.getElem?_cons_succ, List.getElem?_cons_zero, Bool.false_eq_true, Bool.true_eq_false, beq_self_eq_true, beq_ft, beq_tf, notNil, Bool.not_true, Bool.not_false, reduceCtorEq, abuiltin, aextract, s0, aload_cell agg25, Heap.ld_of gA (k := 0) rfl, abin_int, ai_neq, e0] <;> exact rfl) ?_
    dsimp only [after, leaving]
    repeat refine Wp.seq ?_
    refine Wp.condT (by simp only [runS, stepO, stepW, stepV, keep, guardOf, wantG, wantV, aop, binA, aev, flat, if_true, if_false, Option.bind_some, Option.map_some, Frm.put, look, setk, Nat.reduceLT, Nat.reduceEqDiff, evs, evp, evo, List.getElem?_toArray, List.getElem?_cons_succ, List.getElem?_cons_zero, Bool.false_eq_true, Bool.true_eq_false, beq_self_eq_true, beq_ft, beq_tf, notNil, Bool.not_true, Bool.not_false, reduceCtorEq, abuiltin, aextract]) ?_
    repeat refine Wp.seq ?_
    refine Wp.runS (by simp only [runS, stepO, stepW, stepV, keep, guardOf, wantG, wantV, aop, binA, aev, flat, if_true, if_false, Option.bind_some, Option.map_some, Frm.put, look, setk, Nat.reduceLT, Nat.reduceEqDiff, evs, evp, evo, List.getElem?_toArray, List.getElem?_cons_succ, List.getElem?_cons_zero, Bool.false_eq_true, Bool.true_eq_false, beq_self_eq_true, beq_ft, beq_tf, notNil, Bool.not_true, Bool.not_false, reduceCtorEq, abuiltin, aextract] <;> exact rfl) ?_
    dsimp only [after, leaving]
    repeat refine Wp.seq ?_
    refine Wp.ret ?_
    dsimp only [after, leaving]
    exact ⟨rfl, rfl, _, rfl, rfl⟩
  | ok l =>
    rw [hR] at gA tA
    generalize hv : tokL h (.ok l) = v at tA
    simp only [spotOf, toksOf] at gA tA
    obtain ⟨f1, f2, f3⟩ := lexS_fair hR
    have sh := lx_shaped (lexS_lx hR).2
    by_cases h1000 : (1000 : Int) < (T.length : Int)
    · repeat refine Wp.seq ?_
      refine Wp.runS (by simp only [runS, stepO, stepW, stepV, keep, guardOf, wantG, wantV, aop, binA, aev, flat, if_true, if_false, Option.bind_some, Option.map_some, Frm.put, look, setk, Nat.reduceLT, Nat.reduceEqDiff, evs, evp, evo, List.getElem?_toArray, List.getElem?_cons_succ, List.getElem?_cons_zero, Bool.false_eq_true, Bool.true_eq_false, beq_self_eq_true, beq_ft, beq_tf, notNil, Bool.not_true, Bool.not_false, reduceCtorEq, abuiltin, aextract, s0, aload_cell agg25, Heap.ld_of gA (k := 0) rfl, abin_int, ai_neq, show (((0 : Nat) : Int) != 0) = false from rfl, alen_str Tryd.underlying9, bs_size, ai_gtr, decide_eq_true h1000] <;> exact rfl) ?_
      dsimp only [after, leaving]
      repeat refine Wp.seq ?_
      refine Wp.condT (by simp only [runS, stepO, stepW, stepV, keep, guardOf, wantG, wantV, aop, binA, aev, flat, if_true, if_false, Option.bind_some, Option.map_some, Frm.put, look, setk, Nat.reduceLT, Nat.reduceEqDiff, evs, evp, evo, List.getElem?_toArray, List.getElem?_cons_succ, List.getElem?_cons_zero, Bool.false_eq_true, Bool.true_eq_false, beq_self_eq_true, beq_ft, beq_tf, notNil, Bool.not_true, Bool.not_false, reduceCtorEq, abuiltin, aextract]) ?_
      repeat refine Wp.seq ?_
      refine Wp.runS (by simp only [runS, stepO, stepW, stepV, keep, guardOf, wantG, wantV, aop, binA, aev, flat, if_true, if_false, Option.bind_some, Option.map_some, Frm.put, look, setk, Nat.reduceLT, Nat.reduceEqDiff, evs, evp, evo, List.getElem?_toArray, List.getElem?_cons_succ, List.getElem?_cons_zero, Bool.false_eq_true, Bool.true_eq_false, beq_self_eq_true, beq_ft, beq_tf, notNil, Bool.not_true, Bool.not_false, reduceCtorEq, abuiltin, aextract] <;> exact rfl) ?_
      dsimp only [after, leaving]
      repeat refine Wp.seq ?_
      refine Wp.ret ?_
      dsimp only [after, leaving]
      exact ⟨rfl, rfl, _, rfl, rfl⟩
    by_cases h40 : (40 : Int) < (gs.length : Int)
    · repeat refine Wp.seq ?_
      refine Wp.runS (by simp only [runS, stepO, stepW, stepV, keep, guardOf, wantG, wantV, aop, binA, aev, flat, if_true, if_false, Option.bind_some, Option.map_some, Frm.put, look, setk, Nat.reduceLT, Nat.reduceEqDiff, evs, evp, evo, List.getElem?_toArray, List.getElem?_cons_succ, List.getElem?_cons_zero, Bool.false_eq_true, Bool.true_eq_false, beq_self_eq_true, beq_ft, beq_tf, notNil, Bool.not_true, Bool.not_false, reduceCtorEq, abuiltin, aextract, s0, aload_cell agg25, Heap.ld_of gA (k := 0) rfl, abin_int, ai_neq, show (((0 : Nat) : Int) != 0) = false from rfl, alen_str Tryd.underlying9, bs_size, ai_gtr, decide_eq_false h1000, glen H1 hgs, decide_eq_true h40] <;> exact rfl) ?_
      dsimp only [after, leaving]
      repeat refine Wp.seq ?_
      refine Wp.condT (by simp only [runS, stepO, stepW, stepV, keep, guardOf, wantG, wantV, aop, binA, aev, flat, if_true, if_false, Option.bind_some, Option.map_some, Frm.put, look, setk, Nat.reduceLT, Nat.reduceEqDiff, evs, evp, evo, List.getElem?_toArray, List.getElem?_cons_succ, List.getElem?_cons_zero, Bool.false_eq_true, Bool.true_eq_false, beq_self_eq_true, beq_ft, beq_tf, notNil, Bool.not_true, Bool.not_false, reduceCtorEq, abuiltin, aextract]) ?_
      repeat refine Wp.seq ?_
      refine Wp.runS (by simp only [runS, stepO, stepW, stepV, keep, guardOf, wantG, wantV, aop, binA, aev, flat, if_true, if_false, Option.bind_some, Option.map_some, Frm.put, look, setk, Nat.reduceLT, Nat.reduceEqDiff, evs, evp, evo, List.getElem?_toArray, List.getElem?_cons_succ, List.getElem?_cons_zero, Bool.false_eq_true, Bool.true_eq_false, beq_self_eq_true, beq_ft, beq_tf, notNil, Bool.not_true, Bool.not_false, reduceCtorEq, abuiltin, aextract] <;> exact rfl) ?_
      dsimp only [after, leaving]
      repeat refine Wp.seq ?_
      refine Wp.ret ?_
      dsimp only [after, leaving]
      exact ⟨rfl, rfl, _, rfl, rfl⟩
    repeat refine Wp.seq ?_
    refine Wp.runS (by simp only [runS, stepO, stepW, stepV, keep, guardOf, wantG, wantV, aop, binA, aev, flat, if_true, if_false, Option.bind_some, Option.map_some, Frm.put, look, setk, Nat.reduceLT, Nat.reduceEqDiff, evs, evp, evo, List.getElem?_toArray, List.getElem?_cons_succ, List.getElem?_cons_zero, Bool.false_eq_true, Bool.true_eq_false, beq_self_eq_true, beq_ft, beq_tf, notNil, Bool.not_true, Bool.not_false, reduceCtorEq, abuiltin, aextract, s0, aload_cell agg25, Heap.ld_of gA (k := 0) rfl, abin_int, ai_neq, show (((0 : Nat) : Int) != 0) = false from rfl, alen_str Tryd.underlying9, bs_size, ai_gtr, decide_eq_false h1000, glen H1 hgs, decide_eq_false h40] <;> exact rfl) ?_
    dsimp only [after, leaving]
    repeat refine Wp.seq ?_
    refine Wp.condF (by simp only [runS, stepO, stepW, stepV, keep, guardOf, wantG, wantV, aop, binA, aev, flat, if_true, if_false, Option.bind_some, Option.map_some, Frm.put, look, setk, Nat.reduceLT, Nat.reduceEqDiff, evs, evp, evo, List.getElem?_toArray, List.getElem?_cons_succ, List.getElem?_cons_zero, Bool.false_eq_true, Bool.true_eq_false, beq_self_eq_true, beq_ft, beq_tf, notNil, Bool.not_true, Bool.not_false, reduceCtorEq, abuiltin, aextract]) ?_
    repeat refine Wp.seq ?_
    refine Wp.skip ?_
    dsimp only [after, leaving]
    have hwl : IntKind.i64.wrap ((l.length : Int) + 1) = ((l.length + 1 : Nat) : Int) := by rw [wrap_in (by omega) (by omega)]; omega
    repeat refine Wp.seq ?_
    refine Wp.runS (by simp only [runS, stepO, stepW, stepV, keep, guardOf, wantG, wantV, aop, binA, aev, flat, if_true, if_false, Option.bind_some, Option.map_some, Frm.put, look, setk, Nat.reduceLT, Nat.reduceEqDiff, evs, evp, evo, List.getElem?_toArray, List.getElem?_cons_succ, List.getElem?_cons_zero, Bool.false_eq_true, Bool.true_eq_false, beq_self_eq_true, beq_ft, beq_tf, notNil, Bool.not_true, Bool.not_false, reduceCtorEq, abuiltin, aextract, tA.len, abin_int, ai_add, hwl, mk33 H1 (l.length + 1) (by omega)] <;> exact rfl) ?_
    dsimp only [after, leaving]
    repeat refine Wp.seq ?_
    refine Wp.runS (by simp only [runS, stepO, stepW, stepV, keep, guardOf, wantG, wantV, aop, binA, aev, flat, if_true, if_false, Option.bind_some, Option.map_some, Frm.put, look, setk, Nat.reduceLT, Nat.reduceEqDiff, evs, evp, evo, List.getElem?_toArray, List.getElem?_cons_succ, List.getElem?_cons_zero, Bool.false_eq_true, Bool.true_eq_false, beq_self_eq_true, beq_ft, beq_tf, notNil, Bool.not_true, Bool.not_false, reduceCtorEq, abuiltin, aextract] <;> exact rfl) ?_
    dsimp only [after, leaving]
    clear gA
    repeat refine Wp.seq ?_
    refine Wp.cut (fun fr u h' => u = none ∧ ∃ pss, MoreOk l pss gs.length ∧ h' = H1.alloc (moreRow (pss.map List.flatten)) ∧ ∃ sl, fr = ⟨179, sl, []⟩ ∧ holds [(5, v), (7, .slice (some ⟨H1.next, 0, none⟩) (l.length + 1) (l.length + 1))] sl) ?_ ?_
    rotate_left
    · repeat refine Wp.seq ?_
      refine Wp.block ?_
      refine Wp.loopI (X := Nat × List (List (List UInt8))) (fun x => [(1, gv), (5, v), (7, .slice (some ⟨H1.next, 0, none⟩) (l.length + 1) (l.length + 1)), (8, .int .i64 x.1)]) (fun x => H1.alloc (moreRow (x.2.map List.flatten)))
        (fun x => x.1 ≤ gs.length ∧ MoreOk l x.2 x.1) (fun x => gs.length - x.1) (0, List.replicate (l.length + 1) [])
        ⟨Nat.zero_le _, ⟨by simp, fun k ps hk p hp => by rw [List.getElem?_replicate] at hk; split at hk <;> cases hk; simp at hp, fun ps hps => by rw [(List.mem_replicate.1 hps).2]; simp⟩⟩ ⟨rfl, rfl, rfl, rfl, trivial⟩ (by simp) ?_
      rintro ⟨i, pss⟩ ⟨hle, hm⟩
      simp only at hle hm
      have hgs' := hgs.more (Heap.more_alloc H1 (moreRow (pss.map List.flatten)))
      have tA' := tA.more (Heap.more_alloc H1 (moreRow (pss.map List.flatten)))
      have hwi : IntKind.i64.wrap ((i : Int) + 1) = ((i + 1 : Nat) : Int) := by rw [wrap_in (by omega) (by omega)]; omega
      by_cases hlt : (i : Int) < (gs.length : Int)
      · repeat refine Wp.seq ?_
        refine Wp.runS (by simp only [runS, stepO, stepW, stepV, keep, guardOf, wantG, wantV, aop, binA, aev, flat, if_true, if_false, Option.bind_some, Option.map_some, Frm.put, look, setk, Nat.reduceLT, Nat.reduceEqDiff, evs, evp, evo, List.getElem?_toArray, List.getElem?_cons_succ, List.getElem?_cons_zero, Bool.false_eq_true, Bool.true_eq_false, beq_self_eq_true, beq_ft, beq_tf, notNil, Bool.not_true, Bool.not_false, reduceCtorEq, abuiltin, aextract, glen _ hgs', abin_int, ai_lss, decide_eq_true hlt] <;> exact rfl) ?_
        dsimp only [after, leaving]
        repeat refine Wp.seq ?_
        refine Wp.condT (by simp only [runS, stepO, stepW, stepV, keep, guardOf, wantG, wantV, aop, binA, aev, flat, if_true, if_false, Option.bind_some, Option.map_some, Frm.put, look, setk, Nat.reduceLT, Nat.reduceEqDiff, evs, evp, evo, List.getElem?_toArray, List.getElem?_cons_succ, List.getElem?_cons_zero, Bool.false_eq_true, Bool.true_eq_false, beq_self_eq_true, beq_ft, beq_tf, notNil, Bool.not_true, Bool.not_false, reduceCtorEq, abuiltin, aextract]) ?_
        repeat refine Wp.seq ?_
        refine Wp.skip ?_
        dsimp only [after, leaving]
        repeat refine Wp.seq ?_
        refine Wp.block ?_
        obtain ⟨g, hg⟩ : ∃ g, gs[i]? = some g := ⟨_, List.getElem?_eq_getElem (by omega)⟩
        obtain ⟨gw1, _⟩ := hwf g (List.mem_of_getElem? hg)
        have hgi : ∃ b k, (∀ kd, aindexAddr Tryd.prog 32 gv (.int kd (i : Nat)) = some (.pointer (some ⟨b, k, none⟩))) ∧ (H1.alloc (moreRow (pss.map List.flatten))).ld b k = some (.int .i64 g.1) ∧ (H1.alloc (moreRow (pss.map List.flatten))).ld b (k + 1) = some (.int .i64 g.2) := by
          obtain ⟨a, cap, rfl, hj⟩ := hgs'
          obtain ⟨b, o, sp, rfl, q1, q2⟩ := hj i g hg
          refine ⟨b, o + 2 * i, fun kd => ?_, q1, q2⟩
          rw [aindexAddr_slice Tryd.underlying32 (s := 2) (by kernel_rfl) (by omega) (by omega), Int.toNat_natCast, Nat.mul_comm]
        obtain ⟨gb, gk, hg1, hg2, hg3⟩ := hgi
        have hrem : abinI .rem .i64 g.1 .i64 ((l.length + 1 : Nat) : Int) = some (.int .i64 (g.1.tmod ((l.length + 1 : Nat) : Int))) := ai_rem (by omega)
        have hab : (g.1.tmod ((l.length + 1 : Nat) : Int)).natAbs < l.length + 1 := by
          have := Int.natAbs_tmod g.1 ((l.length + 1 : Nat) : Int)
          rw [this, Int.natAbs_natCast]
          exact Nat.mod_lt _ (by omega)
        repeat refine Wp.seq ?_
        refine Wp.runS (by simp only [runS, stepO, stepW, stepV, keep, guardOf, wantG, wantV, aop, binA, aev, flat, if_true, if_false, Option.bind_some, Option.map_some, Frm.put, look, setk, Nat.reduceLT, Nat.reduceEqDiff, evs, evp, evo, List.getElem?_toArray, List.getElem?_cons_succ, List.getElem?_cons_zero, Bool.false_eq_true, Bool.true_eq_false, beq_self_eq_true, beq_ft, beq_tf, notNil, Bool.not_true, Bool.not_false, reduceCtorEq, abuiltin, aextract, hg1, gap0, aload_cell agg3, hg2, tA'.len, abin_int, ai_add, hwl, hrem] <;> exact rfl) ?_
        dsimp only [after, leaving]
        generalize g.1.tmod ((l.length + 1 : Nat) : Int) = z at hab ⊢
        repeat refine Wp.seq ?_
        refine Wp.cut (fun fr u h' => u = none ∧ h' = H1.alloc (moreRow (pss.map List.flatten)) ∧ ∃ sl, fr = ⟨179, sl, []⟩ ∧ holds [(1, gv), (5, v), (7, .slice (some ⟨H1.next, 0, none⟩) (l.length + 1) (l.length + 1)), (8, .int .i64 i), (9, .int .i64 z), (55, .bool (decide (z < 0)))] sl) ?_ ?_
        rotate_left
        · repeat refine Wp.seq ?_
          refine Wp.runS (by simp only [runS, stepO, stepW, stepV, keep, guardOf, wantG, wantV, aop, binA, aev, flat, if_true, if_false, Option.bind_some, Option.map_some, Frm.put, look, setk, Nat.reduceLT, Nat.reduceEqDiff, evs, evp, evo, List.getElem?_toArray, List.getElem?_cons_succ, List.getElem?_cons_zero, Bool.false_eq_true, Bool.true_eq_false, beq_self_eq_true, beq_ft, beq_tf, notNil, Bool.not_true, Bool.not_false, reduceCtorEq, abuiltin, aextract, abin_int, ai_lss] <;> exact rfl) ?_
          dsimp only [after, leaving]
          exact ⟨rfl, rfl, _, rfl, rfl, rfl, rfl, rfl, rfl, rfl, trivial⟩
        rintro fr u h9 ⟨rfl, hH, sl, rfl, hs1⟩
        obtain rfl := hH.symm
        clear hH
        dsimp only [after, leaving]
        refine Wp.weaken (Frm.le_of hs1) ?_
        clear hs1 sl
        repeat refine Wp.seq ?_
        refine Wp.cut (fun fr u h' => u = none ∧ h' = H1.alloc (moreRow (pss.map List.flatten)) ∧ ∃ sl, fr = ⟨179, sl, []⟩ ∧ holds [(1, gv), (5, v), (7, .slice (some ⟨H1.next, 0, none⟩) (l.length + 1) (l.length + 1)), (8, .int .i64 i), (9, .int .i64 (z.natAbs : Nat))] sl) ?_ ?_
        rotate_left
        · by_cases hz : z < 0
          · rw [decide_eq_true hz]
            have hwz : IntKind.i64.wrap (0 - z) = ((z.natAbs : Nat) : Int) := by rw [wrap_in (by omega) (by omega)]; omega
            repeat refine Wp.seq ?_
            refine Wp.condT (by simp only [runS, stepO, stepW, stepV, keep, guardOf, wantG, wantV, aop, binA, aev, flat, if_true, if_false, Option.bind_some, Option.map_some, Frm.put, look, setk, Nat.reduceLT, Nat.reduceEqDiff, evs, evp, evo, List.getElem?_toArray, List.getElem?_cons_succ, List.getElem?_cons_zero, Bool.false_eq_true, Bool.true_eq_false, beq_self_eq_true, beq_ft, beq_tf, notNil, Bool.not_true, Bool.not_false, reduceCtorEq, abuiltin, aextract]) ?_
            repeat refine Wp.seq ?_
            refine Wp.runS (by simp only [runS, stepO, stepW, stepV, keep, guardOf, wantG, wantV, aop, binA, aev, flat, if_true, if_false, Option.bind_some, Option.map_some, Frm.put, look, setk, Nat.reduceLT, Nat.reduceEqDiff, evs, evp, evo, List.getElem?_toArray, List.getElem?_cons_succ, List.getElem?_cons_zero, Bool.false_eq_true, Bool.true_eq_false, beq_self_eq_true, beq_ft, beq_tf, notNil, Bool.not_true, Bool.not_false, reduceCtorEq, abuiltin, aextract, aun, hwz] <;> exact rfl) ?_
            dsimp only [after, leaving]
            exact ⟨rfl, rfl, _, rfl, rfl, rfl, rfl, rfl, rfl, trivial⟩
          · rw [decide_eq_false hz]
            repeat refine Wp.seq ?_
            refine Wp.condF (by simp only [runS, stepO, stepW, stepV, keep, guardOf, wantG, wantV, aop, binA, aev, flat, if_true, if_false, Option.bind_some, Option.map_some, Frm.put, look, setk, Nat.reduceLT, Nat.reduceEqDiff, evs, evp, evo, List.getElem?_toArray, List.getElem?_cons_succ, List.getElem?_cons_zero, Bool.false_eq_true, Bool.true_eq_false, beq_self_eq_true, beq_ft, beq_tf, notNil, Bool.not_true, Bool.not_false, reduceCtorEq, abuiltin, aextract]) ?_
            repeat refine Wp.seq ?_
            refine Wp.skip ?_
            dsimp only [after, leaving]
            have : z = ((z.natAbs : Nat) : Int) := by omega
            exact ⟨rfl, rfl, _, rfl, rfl, rfl, rfl, rfl, by rw [← this]; rfl, trivial⟩
        rintro fr u h9 ⟨rfl, hH, sl, rfl, hs1⟩
        obtain rfl := hH.symm
        clear hH
        dsimp only [after, leaving]
        refine Wp.weaken (Frm.le_of hs1) ?_
        clear hs1 sl
        generalize z.natAbs = K at hab ⊢
        clear hrem z
        repeat refine Wp.seq ?_
        refine Wp.cut (fun fr u h' => u = none ∧ h' = H1.alloc (moreRow (pss.map List.flatten)) ∧ ∃ sl, fr = ⟨179, sl, []⟩ ∧ holds [(1, gv), (5, v), (7, .slice (some ⟨H1.next, 0, none⟩) (l.length + 1) (l.length + 1)), (8, .int .i64 i), (9, .int .i64 K), (10, .bool (endAt l K))] sl) ?_ ?_
        rotate_left
        · by_cases hK : (K : Int) < (l.length : Int)
          · obtain ⟨t, ht⟩ : ∃ t, l[K]? = some t := ⟨_, List.getElem?_eq_getElem (by omega)⟩
            obtain ⟨b, k, hp, ta⟩ := tA'.atT ht
            have e6 : ((t.kind : Int) == 6) = endAt l K := by
              unfold endAt isEnd; rw [ht]
              by_cases h6 : t.kind = 6
              · simp [h6]
              · have : ¬ (t.kind : Int) = 6 := by omega
                simp [h6, this]
            repeat refine Wp.seq ?_
            refine Wp.runS (by simp only [runS, stepO, stepW, stepV, keep, guardOf, wantG, wantV, aop, binA, aev, flat, if_true, if_false, Option.bind_some, Option.map_some, Frm.put, look, setk, Nat.reduceLT, Nat.reduceEqDiff, evs, evp, evo, List.getElem?_toArray, List.getElem?_cons_succ, List.getElem?_cons_zero, Bool.false_eq_true, Bool.true_eq_false, beq_self_eq_true, beq_ft, beq_tf, notNil, Bool.not_true, Bool.not_false, reduceCtorEq, abuiltin, aextract, tA'.len, abin_int, ai_lss, decide_eq_true hK, hp, t0, aload_cell agg3, ta.kind, ai_eql, e6] <;> exact rfl) ?_
            dsimp only [after, leaving]
            exact ⟨rfl, rfl, _, rfl, rfl, rfl, rfl, rfl, rfl, rfl, trivial⟩
          · have e6 : endAt l K = false := by unfold endAt; rw [List.getElem?_eq_none (by omega)]
            repeat refine Wp.seq ?_
            refine Wp.runS (by simp only [runS, stepO, stepW, stepV, keep, guardOf, wantG, wantV, aop, binA, aev, flat, if_true, if_false, Option.bind_some, Option.map_some, Frm.put, look, setk, Nat.reduceLT, Nat.reduceEqDiff, evs, evp, evo, List.getElem?_toArray, List.getElem?_cons_succ, List.getElem?_cons_zero, Bool.false_eq_true, Bool.true_eq_false, beq_self_eq_true, beq_ft, beq_tf, notNil, Bool.not_true, Bool.not_false, reduceCtorEq, abuiltin, aextract, tA'.len, abin_int, ai_lss, decide_eq_false hK] <;> exact rfl) ?_
            dsimp only [after, leaving]
            exact ⟨rfl, rfl, _, rfl, rfl, rfl, rfl, rfl, rfl, by rw [e6]; rfl, trivial⟩
        rintro fr u h9 ⟨rfl, hH, sl, rfl, hs1⟩
        obtain rfl := hH.symm
        clear hH
        dsimp only [after, leaving]
        refine Wp.weaken (Frm.le_of hs1) ?_
        clear hs1 sl
        obtain ⟨x, hx⟩ := ai_and (k := .i64) (a := g.2) (b := 3)
        repeat refine Wp.seq ?_
        refine Wp.runS (by simp only [runS, stepO, stepW, stepV, keep, guardOf, wantG, wantV, aop, binA, aev, flat, if_true, if_false, Option.bind_some, Option.map_some, Frm.put, look, setk, Nat.reduceLT, Nat.reduceEqDiff, evs, evp, evo, List.getElem?_toArray, List.getElem?_cons_succ, List.getElem?_cons_zero, Bool.false_eq_true, Bool.true_eq_false, beq_self_eq_true, beq_ft, beq_tf, notNil, Bool.not_true, Bool.not_false, reduceCtorEq, abuiltin, aextract, hg1, gap1, aload_cell agg3, hg3, abin_int, hx] <;> exact rfl) ?_
        dsimp only [after, leaving]
        obtain ⟨ps, hps⟩ : ∃ ps, pss[K]? = some ps := ⟨_, List.getElem?_eq_getElem (by rw [hm.len]; omega)⟩
        have hfl : (pss.map List.flatten)[K]? = some ps.flatten := by rw [List.getElem?_map, hps]; rfl
        have hml : (pss.map List.flatten).length = l.length + 1 := by rw [List.length_map, hm.len]
        have hkl : K < (pss.map List.flatten).length := by omega
        obtain ⟨hma0, hld⟩ := more_at (h := H1) hfl
        have hma := fun kd => hma0 kd _ hml
        have hfit := hm.fits ps (List.mem_of_getElem? hps)
        have hadd : ∀ p : List UInt8, p.length ≤ 14 → abinS .add (bs ps.flatten) (bs p) = some (.string (bs (ps.flatten ++ p))) := by
          intro p hp
          unfold abinS
          rw [if_pos (by simp only [bs_size, maxLen]; omega)]
          exact congrArg (fun x => some (Value.string x)) (bs_append ps.flatten p)
        have fin : ∀ p, okPiece (endAt l K) p → MoreOk l (pss.set K (ps ++ [p])) (i + 1) ∧ H1.alloc (moreRow ((pss.map List.flatten).set K (ps.flatten ++ p))) = H1.alloc (moreRow ((pss.set K (ps ++ [p])).map List.flatten)) := by
          intro p hp
          obtain ⟨q1, q2⟩ := hm.put hps hp
          exact ⟨q1, by rw [q2]⟩
        clear hx hg1 hg2 hg3
        repeat refine Wp.seq ?_
        refine Wp.block ?_
        by_cases x0 : x = 0
        · repeat refine Wp.seq ?_
          refine Wp.runS (by simp only [runS, stepO, stepW, stepV, keep, guardOf, wantG, wantV, aop, binA, aev, flat, if_true, if_false, Option.bind_some, Option.map_some, Frm.put, look, setk, Nat.reduceLT, Nat.reduceEqDiff, evs, evp, evo, List.getElem?_toArray, List.getElem?_cons_succ, List.getElem?_cons_zero, Bool.false_eq_true, Bool.true_eq_false, beq_self_eq_true, beq_ft, beq_tf, notNil, Bool.not_true, Bool.not_false, reduceCtorEq, abuiltin, aextract, abin_int, ai_eql, show (x == 0) = true by simp [x0]] <;> exact rfl) ?_
          dsimp only [after, leaving]
          repeat refine Wp.seq ?_
          refine Wp.condT (by simp only [runS, stepO, stepW, stepV, keep, guardOf, wantG, wantV, aop, binA, aev, flat, if_true, if_false, Option.bind_some, Option.map_some, Frm.put, look, setk, Nat.reduceLT, Nat.reduceEqDiff, evs, evp, evo, List.getElem?_toArray, List.getElem?_cons_succ, List.getElem?_cons_zero, Bool.false_eq_true, Bool.true_eq_false, beq_self_eq_true, beq_ft, beq_tf, notNil, Bool.not_true, Bool.not_false, reduceCtorEq, abuiltin, aextract]) ?_
          repeat refine Wp.seq ?_
          refine Wp.runS (by simp only [runS, stepO, stepW, stepV, keep, guardOf, wantG, wantV, aop, binA, aev, flat, if_true, if_false, Option.bind_some, Option.map_some, Frm.put, look, setk, Nat.reduceLT, Nat.reduceEqDiff, evs, evp, evo, List.getElem?_toArray, List.getElem?_cons_succ, List.getElem?_cons_zero, Bool.false_eq_true, Bool.true_eq_false, beq_self_eq_true, beq_ft, beq_tf, notNil, Bool.not_true, Bool.not_false, reduceCtorEq, abuiltin, aextract, hma, aload_cell agg9, hld, abin_str, show abinS .add (bs ps.flatten) ⟨#[32]⟩ = some (.string (bs (ps.flatten ++ [32]))) from hadd [32] (by decide), more_put hkl] <;> exact rfl) ?_
          dsimp only [after, leaving]
          repeat refine Wp.seq ?_
          refine Wp.runS (by simp only [runS, stepO, stepW, stepV, keep, guardOf, wantG, wantV, aop, binA, aev, flat, if_true, if_false, Option.bind_some, Option.map_some, Frm.put, look, setk, Nat.reduceLT, Nat.reduceEqDiff, evs, evp, evo, List.getElem?_toArray, List.getElem?_cons_succ, List.getElem?_cons_zero, Bool.false_eq_true, Bool.true_eq_false, beq_self_eq_true, beq_ft, beq_tf, notNil, Bool.not_true, Bool.not_false, reduceCtorEq, abuiltin, aextract, abin_int, ai_add, hwi] <;> exact rfl) ?_
          dsimp only [after, leaving]
          obtain ⟨q1, q2⟩ := fin [32] (.inl rfl)
          exact ⟨(i + 1, _), _, ⟨by omega, q1⟩, by simp only; omega, rfl, ⟨rfl, rfl, rfl, rfl, trivial⟩, rfl, q2⟩
        by_cases x1 : x = 1
        · repeat refine Wp.seq ?_
          refine Wp.runS (by simp only [runS, stepO, stepW, stepV, keep, guardOf, wantG, wantV, aop, binA, aev, flat, if_true, if_false, Option.bind_some, Option.map_some, Frm.put, look, setk, Nat.reduceLT, Nat.reduceEqDiff, evs, evp, evo, List.getElem?_toArray, List.getElem?_cons_succ, List.getElem?_cons_zero, Bool.false_eq_true, Bool.true_eq_false, beq_self_eq_true, beq_ft, beq_tf, notNil, Bool.not_true, Bool.not_false, reduceCtorEq, abuiltin, aextract, abin_int, ai_eql, show (x == 0) = false by simp [x0]] <;> exact rfl) ?_
          dsimp only [after, leaving]
          repeat refine Wp.seq ?_
          refine Wp.condF (by simp only [runS, stepO, stepW, stepV, keep, guardOf, wantG, wantV, aop, binA, aev, flat, if_true, if_false, Option.bind_some, Option.map_some, Frm.put, look, setk, Nat.reduceLT, Nat.reduceEqDiff, evs, evp, evo, List.getElem?_toArray, List.getElem?_cons_succ, List.getElem?_cons_zero, Bool.false_eq_true, Bool.true_eq_false, beq_self_eq_true, beq_ft, beq_tf, notNil, Bool.not_true, Bool.not_false, reduceCtorEq, abuiltin, aextract]) ?_
          repeat refine Wp.seq ?_
          refine Wp.runS (by simp only [runS, stepO, stepW, stepV, keep, guardOf, wantG, wantV, aop, binA, aev, flat, if_true, if_false, Option.bind_some, Option.map_some, Frm.put, look, setk, Nat.reduceLT, Nat.reduceEqDiff, evs, evp, evo, List.getElem?_toArray, List.getElem?_cons_succ, List.getElem?_cons_zero, Bool.false_eq_true, Bool.true_eq_false, beq_self_eq_true, beq_ft, beq_tf, notNil, Bool.not_true, Bool.not_false, reduceCtorEq, abuiltin, aextract, abin_int, ai_eql, show (x == 1) = true by simp [x1]] <;> exact rfl) ?_
          dsimp only [after, leaving]
          repeat refine Wp.seq ?_
          refine Wp.condT (by simp only [runS, stepO, stepW, stepV, keep, guardOf, wantG, wantV, aop, binA, aev, flat, if_true, if_false, Option.bind_some, Option.map_some, Frm.put, look, setk, Nat.reduceLT, Nat.reduceEqDiff, evs, evp, evo, List.getElem?_toArray, List.getElem?_cons_succ, List.getElem?_cons_zero, Bool.false_eq_true, Bool.true_eq_false, beq_self_eq_true, beq_ft, beq_tf, notNil, Bool.not_true, Bool.not_false, reduceCtorEq, abuiltin, aextract]) ?_
          repeat refine Wp.seq ?_
          refine Wp.runS (by simp only [runS, stepO, stepW, stepV, keep, guardOf, wantG, wantV, aop, binA, aev, flat, if_true, if_false, Option.bind_some, Option.map_some, Frm.put, look, setk, Nat.reduceLT, Nat.reduceEqDiff, evs, evp, evo, List.getElem?_toArray, List.getElem?_cons_succ, List.getElem?_cons_zero, Bool.false_eq_true, Bool.true_eq_false, beq_self_eq_true, beq_ft, beq_tf, notNil, Bool.not_true, Bool.not_false, reduceCtorEq, abuiltin, aextract, hma, aload_cell agg9, hld, abin_str, show abinS .add (bs ps.flatten) ⟨#[9]⟩ = some (.string (bs (ps.flatten ++ [9]))) from hadd [9] (by decide), more_put hkl] <;> exact rfl) ?_
          dsimp only [after, leaving]
          repeat refine Wp.seq ?_
          refine Wp.runS (by simp only [runS, stepO, stepW, stepV, keep, guardOf, wantG, wantV, aop, binA, aev, flat, if_true, if_false, Option.bind_some, Option.map_some, Frm.put, look, setk, Nat.reduceLT, Nat.reduceEqDiff, evs, evp, evo, List.getElem?_toArray, List.getElem?_cons_succ, List.getElem?_cons_zero, Bool.false_eq_true, Bool.true_eq_false, beq_self_eq_true, beq_ft, beq_tf, notNil, Bool.not_true, Bool.not_false, reduceCtorEq, abuiltin, aextract, abin_int, ai_add, hwi] <;> exact rfl) ?_
          dsimp only [after, leaving]
          obtain ⟨q1, q2⟩ := fin [9] (.inr (.inl rfl))
          exact ⟨(i + 1, _), _, ⟨by omega, q1⟩, by simp only; omega, rfl, ⟨rfl, rfl, rfl, rfl, trivial⟩, rfl, q2⟩
        by_cases x2 : x = 2
        · repeat refine Wp.seq ?_
          refine Wp.runS (by simp only [runS, stepO, stepW, stepV, keep, guardOf, wantG, wantV, aop, binA, aev, flat, if_true, if_false, Option.bind_some, Option.map_some, Frm.put, look, setk, Nat.reduceLT, Nat.reduceEqDiff, evs, evp, evo, List.getElem?_toArray, List.getElem?_cons_succ, List.getElem?_cons_zero, Bool.false_eq_true, Bool.true_eq_false, beq_self_eq_true, beq_ft, beq_tf, notNil, Bool.not_true, Bool.not_false, reduceCtorEq, abuiltin, aextract, abin_int, ai_eql, show (x == 0) = false by simp [x0]] <;> exact rfl) ?_
          dsimp only [after, leaving]
          repeat refine Wp.seq ?_
          refine Wp.condF (by simp only [runS, stepO, stepW, stepV, keep, guardOf, wantG, wantV, aop, binA, aev, flat, if_true, if_false, Option.bind_some, Option.map_some, Frm.put, look, setk, Nat.reduceLT, Nat.reduceEqDiff, evs, evp, evo, List.getElem?_toArray, List.getElem?_cons_succ, List.getElem?_cons_zero, Bool.false_eq_true, Bool.true_eq_false, beq_self_eq_true, beq_ft, beq_tf, notNil, Bool.not_true, Bool.not_false, reduceCtorEq, abuiltin, aextract]) ?_
          repeat refine Wp.seq ?_
          refine Wp.runS (by simp only [runS, stepO, stepW, stepV, keep, guardOf, wantG, wantV, aop, binA, aev, flat, if_true, if_false, Option.bind_some, Option.map_some, Frm.put, look, setk, Nat.reduceLT, Nat.reduceEqDiff, evs, evp, evo, List.getElem?_toArray, List.getElem?_cons_succ, List.getElem?_cons_zero, Bool.false_eq_true, Bool.true_eq_false, beq_self_eq_true, beq_ft, beq_tf, notNil, Bool.not_true, Bool.not_false, reduceCtorEq, abuiltin, aextract, abin_int, ai_eql, show (x == 1) = false by simp [x1]] <;> exact rfl) ?_
          dsimp only [after, leaving]
          repeat refine Wp.seq ?_
          refine Wp.condF (by simp only [runS, stepO, stepW, stepV, keep, guardOf, wantG, wantV, aop, binA, aev, flat, if_true, if_false, Option.bind_some, Option.map_some, Frm.put, look, setk, Nat.reduceLT, Nat.reduceEqDiff, evs, evp, evo, List.getElem?_toArray, List.getElem?_cons_succ, List.getElem?_cons_zero, Bool.false_eq_true, Bool.true_eq_false, beq_self_eq_true, beq_ft, beq_tf, notNil, Bool.not_true, Bool.not_false, reduceCtorEq, abuiltin, aextract]) ?_
          repeat refine Wp.seq ?_
          refine Wp.runS (by simp only [runS, stepO, stepW, stepV, keep, guardOf, wantG, wantV, aop, binA, aev, flat, if_true, if_false, Option.bind_some, Option.map_some, Frm.put, look, setk, Nat.reduceLT, Nat.reduceEqDiff, evs, evp, evo, List.getElem?_toArray, List.getElem?_cons_succ, List.getElem?_cons_zero, Bool.false_eq_true, Bool.true_eq_false, beq_self_eq_true, beq_ft, beq_tf, notNil, Bool.not_true, Bool.not_false, reduceCtorEq, abuiltin, aextract, abin_int, ai_eql, show (x == 2) = true by simp [x2]] <;> exact rfl) ?_
          dsimp only [after, leaving]
          repeat refine Wp.seq ?_
          refine Wp.condT (by simp only [runS, stepO, stepW, stepV, keep, guardOf, wantG, wantV, aop, binA, aev, flat, if_true, if_false, Option.bind_some, Option.map_some, Frm.put, look, setk, Nat.reduceLT, Nat.reduceEqDiff, evs, evp, evo, List.getElem?_toArray, List.getElem?_cons_succ, List.getElem?_cons_zero, Bool.false_eq_true, Bool.true_eq_false, beq_self_eq_true, beq_ft, beq_tf, notNil, Bool.not_true, Bool.not_false, reduceCtorEq, abuiltin, aextract]) ?_
          repeat refine Wp.seq ?_
          refine Wp.runS (by simp only [runS, stepO, stepW, stepV, keep, guardOf, wantG, wantV, aop, binA, aev, flat, if_true, if_false, Option.bind_some, Option.map_some, Frm.put, look, setk, Nat.reduceLT, Nat.reduceEqDiff, evs, evp, evo, List.getElem?_toArray, List.getElem?_cons_succ, List.getElem?_cons_zero, Bool.false_eq_true, Bool.true_eq_false, beq_self_eq_true, beq_ft, beq_tf, notNil, Bool.not_true, Bool.not_false, reduceCtorEq, abuiltin, aextract] <;> exact rfl) ?_
          dsimp only [after, leaving]
          cases he : endAt l K with
          | true =>
            rw [he] at fin
            repeat refine Wp.seq ?_
            refine Wp.condT (by simp only [runS, stepO, stepW, stepV, keep, guardOf, wantG, wantV, aop, binA, aev, flat, if_true, if_false, Option.bind_some, Option.map_some, Frm.put, look, setk, Nat.reduceLT, Nat.reduceEqDiff, evs, evp, evo, List.getElem?_toArray, List.getElem?_cons_succ, List.getElem?_cons_zero, Bool.false_eq_true, Bool.true_eq_false, beq_self_eq_true, beq_ft, beq_tf, notNil, Bool.not_true, Bool.not_false, reduceCtorEq, abuiltin, aextract]) ?_
            repeat refine Wp.seq ?_
            refine Wp.runS (by simp only [runS, stepO, stepW, stepV, keep, guardOf, wantG, wantV, aop, binA, aev, flat, if_true, if_false, Option.bind_some, Option.map_some, Frm.put, look, setk, Nat.reduceLT, Nat.reduceEqDiff, evs, evp, evo, List.getElem?_toArray, List.getElem?_cons_succ, List.getElem?_cons_zero, Bool.false_eq_true, Bool.true_eq_false, beq_self_eq_true, beq_ft, beq_tf, notNil, Bool.not_true, Bool.not_false, reduceCtorEq, abuiltin, aextract, hma, aload_cell agg9, hld, abin_str, show abinS .add (bs ps.flatten) ⟨#[32, 35, 32, 97, 32, 34, 114, 101, 109, 97, 114, 107, 32, 123]⟩ = some (.string (bs (ps.flatten ++ remB))) from hadd remB (by decide), more_put hkl] <;> exact rfl) ?_
            dsimp only [after, leaving]
            repeat refine Wp.seq ?_
            refine Wp.runS (by simp only [runS, stepO, stepW, stepV, keep, guardOf, wantG, wantV, aop, binA, aev, flat, if_true, if_false, Option.bind_some, Option.map_some, Frm.put, look, setk, Nat.reduceLT, Nat.reduceEqDiff, evs, evp, evo, List.getElem?_toArray, List.getElem?_cons_succ, List.getElem?_cons_zero, Bool.false_eq_true, Bool.true_eq_false, beq_self_eq_true, beq_ft, beq_tf, notNil, Bool.not_true, Bool.not_false, reduceCtorEq, abuiltin, aextract, abin_int, ai_add, hwi] <;> exact rfl) ?_
            dsimp only [after, leaving]
            obtain ⟨q1, q2⟩ := fin remB (.inr (.inr ⟨rfl, .inl rfl⟩))
            exact ⟨(i + 1, _), _, ⟨by omega, q1⟩, by simp only; omega, rfl, ⟨rfl, rfl, rfl, rfl, trivial⟩, rfl, q2⟩
          | false =>
            repeat refine Wp.seq ?_
            refine Wp.condF (by simp only [runS, stepO, stepW, stepV, keep, guardOf, wantG, wantV, aop, binA, aev, flat, if_true, if_false, Option.bind_some, Option.map_some, Frm.put, look, setk, Nat.reduceLT, Nat.reduceEqDiff, evs, evp, evo, List.getElem?_toArray, List.getElem?_cons_succ, List.getElem?_cons_zero, Bool.false_eq_true, Bool.true_eq_false, beq_self_eq_true, beq_ft, beq_tf, notNil, Bool.not_true, Bool.not_false, reduceCtorEq, abuiltin, aextract]) ?_
            repeat refine Wp.seq ?_
            refine Wp.skip ?_
            dsimp only [after, leaving]
            repeat refine Wp.seq ?_
            refine Wp.runS (by simp only [runS, stepO, stepW, stepV, keep, guardOf, wantG, wantV, aop, binA, aev, flat, if_true, if_false, Option.bind_some, Option.map_some, Frm.put, look, setk, Nat.reduceLT, Nat.reduceEqDiff, evs, evp, evo, List.getElem?_toArray, List.getElem?_cons_succ, List.getElem?_cons_zero, Bool.false_eq_true, Bool.true_eq_false, beq_self_eq_true, beq_ft, beq_tf, notNil, Bool.not_true, Bool.not_false, reduceCtorEq, abuiltin, aextract, abin_int, ai_add, hwi] <;> exact rfl) ?_
            dsimp only [after, leaving]
            exact ⟨(i + 1, pss), _, ⟨by omega, hm.step⟩, by simp only; omega, rfl, ⟨rfl, rfl, rfl, rfl, trivial⟩, rfl, rfl⟩
        · repeat refine Wp.seq ?_
          refine Wp.runS (by simp only [runS, stepO, stepW, stepV, keep, guardOf, wantG, wantV, aop, binA, aev, flat, if_true, if_false, Option.bind_some, Option.map_some, Frm.put, look, setk, Nat.reduceLT, Nat.reduceEqDiff, evs, evp, evo, List.getElem?_toArray, List.getElem?_cons_succ, List.getElem?_cons_zero, Bool.false_eq_true, Bool.true_eq_false, beq_self_eq_true, beq_ft, beq_tf, notNil, Bool.not_true, Bool.not_false, reduceCtorEq, abuiltin, aextract, abin_int, ai_eql, show (x == 0) = false by simp [x0]] <;> exact rfl) ?_
          dsimp only [after, leaving]
          repeat refine Wp.seq ?_
          refine Wp.condF (by simp only [runS, stepO, stepW, stepV, keep, guardOf, wantG, wantV, aop, binA, aev, flat, if_true, if_false, Option.bind_some, Option.map_some, Frm.put, look, setk, Nat.reduceLT, Nat.reduceEqDiff, evs, evp, evo, List.getElem?_toArray, List.getElem?_cons_succ, List.getElem?_cons_zero, Bool.false_eq_true, Bool.true_eq_false, beq_self_eq_true, beq_ft, beq_tf, notNil, Bool.not_true, Bool.not_false, reduceCtorEq, abuiltin, aextract]) ?_
          repeat refine Wp.seq ?_
          refine Wp.runS (by simp only [runS, stepO, stepW, stepV, keep, guardOf, wantG, wantV, aop, binA, aev, flat, if_true, if_false, Option.bind_some, Option.map_some, Frm.put, look, setk, Nat.reduceLT, Nat.reduceEqDiff, evs, evp, evo, List.getElem?_toArray, List.getElem?_cons_succ, List.getElem?_cons_zero, Bool.false_eq_true, Bool.true_eq_false, beq_self_eq_true, beq_ft, beq_tf, notNil, Bool.not_true, Bool.not_false, reduceCtorEq, abuiltin, aextract, abin_int, ai_eql, show (x == 1) = false by simp [x1]] <;> exact rfl) ?_
          dsimp only [after, leaving]
          repeat refine Wp.seq ?_
          refine Wp.condF (by simp only [runS, stepO, stepW, stepV, keep, guardOf, wantG, wantV, aop, binA, aev, flat, if_true, if_false, Option.bind_some, Option.map_some, Frm.put, look, setk, Nat.reduceLT, Nat.reduceEqDiff, evs, evp, evo, List.getElem?_toArray, List.getElem?_cons_succ, List.getElem?_cons_zero, Bool.false_eq_true, Bool.true_eq_false, beq_self_eq_true, beq_ft, beq_tf, notNil, Bool.not_true, Bool.not_false, reduceCtorEq, abuiltin, aextract]) ?_
          repeat refine Wp.seq ?_
          refine Wp.runS (by simp only [runS, stepO, stepW, stepV, keep, guardOf, wantG, wantV, aop, binA, aev, flat, if_true, if_false, Option.bind_some, Option.map_some, Frm.put, look, setk, Nat.reduceLT, Nat.reduceEqDiff, evs, evp, evo, List.getElem?_toArray, List.getElem?_cons_succ, List.getElem?_cons_zero, Bool.false_eq_true, Bool.true_eq_false, beq_self_eq_true, beq_ft, beq_tf, notNil, Bool.not_true, Bool.not_false, reduceCtorEq, abuiltin, aextract, abin_int, ai_eql, show (x == 2) = false by simp [x2]] <;> exact rfl) ?_
          dsimp only [after, leaving]
          repeat refine Wp.seq ?_
          refine Wp.condF (by simp only [runS, stepO, stepW, stepV, keep, guardOf, wantG, wantV, aop, binA, aev, flat, if_true, if_false, Option.bind_some, Option.map_some, Frm.put, look, setk, Nat.reduceLT, Nat.reduceEqDiff, evs, evp, evo, List.getElem?_toArray, List.getElem?_cons_succ, List.getElem?_cons_zero, Bool.false_eq_true, Bool.true_eq_false, beq_self_eq_true, beq_ft, beq_tf, notNil, Bool.not_true, Bool.not_false, reduceCtorEq, abuiltin, aextract]) ?_
          repeat refine Wp.seq ?_
          refine Wp.runS (by simp only [runS, stepO, stepW, stepV, keep, guardOf, wantG, wantV, aop, binA, aev, flat, if_true, if_false, Option.bind_some, Option.map_some, Frm.put, look, setk, Nat.reduceLT, Nat.reduceEqDiff, evs, evp, evo, List.getElem?_toArray, List.getElem?_cons_succ, List.getElem?_cons_zero, Bool.false_eq_true, Bool.true_eq_false, beq_self_eq_true, beq_ft, beq_tf, notNil, Bool.not_true, Bool.not_false, reduceCtorEq, abuiltin, aextract] <;> exact rfl) ?_
          dsimp only [after, leaving]
          cases he : endAt l K with
          | true =>
            rw [he] at fin
            repeat refine Wp.seq ?_
            refine Wp.condT (by simp only [runS, stepO, stepW, stepV, keep, guardOf, wantG, wantV, aop, binA, aev, flat, if_true, if_false, Option.bind_some, Option.map_some, Frm.put, look, setk, Nat.reduceLT, Nat.reduceEqDiff, evs, evp, evo, List.getElem?_toArray, List.getElem?_cons_succ, List.getElem?_cons_zero, Bool.false_eq_true, Bool.true_eq_false, beq_self_eq_true, beq_ft, beq_tf, notNil, Bool.not_true, Bool.not_false, reduceCtorEq, abuiltin, aextract]) ?_
            repeat refine Wp.seq ?_
            refine Wp.runS (by simp only [runS, stepO, stepW, stepV, keep, guardOf, wantG, wantV, aop, binA, aev, flat, if_true, if_false, Option.bind_some, Option.map_some, Frm.put, look, setk, Nat.reduceLT, Nat.reduceEqDiff, evs, evp, evo, List.getElem?_toArray, List.getElem?_cons_succ, List.getElem?_cons_zero, Bool.false_eq_true, Bool.true_eq_false, beq_self_eq_true, beq_ft, beq_tf, notNil, Bool.not_true, Bool.not_false, reduceCtorEq, abuiltin, aextract, hma, aload_cell agg9, hld, abin_str, show abinS .add (bs ps.flatten) ⟨#[32, 10, 9, 35, 32, 110, 111, 116, 104, 105, 110, 103, 10]⟩ = some (.string (bs (ps.flatten ++ linB))) from hadd linB (by decide), more_put hkl] <;> exact rfl) ?_
            dsimp only [after, leaving]
            repeat refine Wp.seq ?_
            refine Wp.runS (by simp only [runS, stepO, stepW, stepV, keep, guardOf, wantG, wantV, aop, binA, aev, flat, if_true, if_false, Option.bind_some, Option.map_some, Frm.put, look, setk, Nat.reduceLT, Nat.reduceEqDiff, evs, evp, evo, List.getElem?_toArray, List.getElem?_cons_succ, List.getElem?_cons_zero, Bool.false_eq_true, Bool.true_eq_false, beq_self_eq_true, beq_ft, beq_tf, notNil, Bool.not_true, Bool.not_false, reduceCtorEq, abuiltin, aextract, abin_int, ai_add, hwi] <;> exact rfl) ?_
            dsimp only [after, leaving]
            obtain ⟨q1, q2⟩ := fin linB (.inr (.inr ⟨rfl, .inr rfl⟩))
            exact ⟨(i + 1, _), _, ⟨by omega, q1⟩, by simp only; omega, rfl, ⟨rfl, rfl, rfl, rfl, trivial⟩, rfl, q2⟩
          | false =>
            repeat refine Wp.seq ?_
            refine Wp.condF (by simp only [runS, stepO, stepW, stepV, keep, guardOf, wantG, wantV, aop, binA, aev, flat, if_true, if_false, Option.bind_some, Option.map_some, Frm.put, look, setk, Nat.reduceLT, Nat.reduceEqDiff, evs, evp, evo, List.getElem?_toArray, List.getElem?_cons_succ, List.getElem?_cons_zero, Bool.false_eq_true, Bool.true_eq_false, beq_self_eq_true, beq_ft, beq_tf, notNil, Bool.not_true, Bool.not_false, reduceCtorEq, abuiltin, aextract]) ?_
            repeat refine Wp.seq ?_
            refine Wp.skip ?_
            dsimp only [after, leaving]
            repeat refine Wp.seq ?_
            refine Wp.runS (by simp only [runS, stepO, stepW, stepV, keep, guardOf, wantG, wantV, aop, binA, aev, flat, if_true, if_false, Option.bind_some, Option.map_some, Frm.put, look, setk, Nat.reduceLT, Nat.reduceEqDiff, evs, evp, evo, List.getElem?_toArray, List.getElem?_cons_succ, List.getElem?_cons_zero, Bool.false_eq_true, Bool.true_eq_false, beq_self_eq_true, beq_ft, beq_tf, notNil, Bool.not_true, Bool.not_false, reduceCtorEq, abuiltin, aextract, abin_int, ai_add, hwi] <;> exact rfl) ?_
            dsimp only [after, leaving]
            exact ⟨(i + 1, pss), _, ⟨by omega, hm.step⟩, by simp only; omega, rfl, ⟨rfl, rfl, rfl, rfl, trivial⟩, rfl, rfl⟩
      · repeat refine Wp.seq ?_
        refine Wp.runS (by simp only [runS, stepO, stepW, stepV, keep, guardOf, wantG, wantV, aop, binA, aev, flat, if_true, if_false, Option.bind_some, Option.map_some, Frm.put, look, setk, Nat.reduceLT, Nat.reduceEqDiff, evs, evp, evo, List.getElem?_toArray, List.getElem?_cons_succ, List.getElem?_cons_zero, Bool.false_eq_true, Bool.true_eq_false, beq_self_eq_true, beq_ft, beq_tf, notNil, Bool.not_true, Bool.not_false, reduceCtorEq, abuiltin, aextract, glen _ hgs', abin_int, ai_lss, decide_eq_false hlt] <;> exact rfl) ?_
        dsimp only [after, leaving]
        repeat refine Wp.seq ?_
        refine Wp.condF (by simp only [runS, stepO, stepW, stepV, keep, guardOf, wantG, wantV, aop, binA, aev, flat, if_true, if_false, Option.bind_some, Option.map_some, Frm.put, look, setk, Nat.reduceLT, Nat.reduceEqDiff, evs, evp, evo, List.getElem?_toArray, List.getElem?_cons_succ, List.getElem?_cons_zero, Bool.false_eq_true, Bool.true_eq_false, beq_self_eq_true, beq_ft, beq_tf, notNil, Bool.not_true, Bool.not_false, reduceCtorEq, abuiltin, aextract]) ?_
        repeat refine Wp.seq ?_
        refine Wp.exit ?_
        simp only [after, leaving, blockExit, if_true, if_false, Nat.reduceEqDiff]
        have hi : i = gs.length := by omega
        subst hi
        exact ⟨by trivial, pss, hm, by trivial, _, rfl, rfl, rfl, trivial⟩
    · rintro fr u h9 ⟨rfl, pss, hm, hH, sl, rfl, hs1⟩
      obtain rfl := hH.symm
      clear hH
      dsimp only [after, leaving]
      refine Wp.weaken (Frm.le_of hs1) ?_
      clear hs1 sl
      have hmo := okMore_of l pss hm.len hm.ok
      have hml : (pss.map List.flatten).length = l.length + 1 := by rw [List.length_map, hm.len]
      have hfits : ∀ s ∈ pss.map List.flatten, s.length ≤ 560 := by
        intro s hs
        obtain ⟨ps, h1, rfl⟩ := List.mem_map.1 hs
        have := hm.fits ps h1; omega
      have hmix := fun h => lex_mix hR hmo h
      generalize pss.map List.flatten = ss at hml hfits hmix ⊢
      clear hm hmo pss hgs glen hwf hgl h40
      have tA' := tA.more (Heap.more_alloc H1 (moreRow ss))
      have mA := fun k s hs => more_at (h := H1) (ss := ss) (k := k) (s := s) hs
      generalize hH2 : H1.alloc (moreRow ss) = H2 at tA' mA ⊢
      have hadd : ∀ a b : List UInt8, a.length + b.length ≤ 100000000 → abinS .add (bs a) (bs b) = some (.string (bs (a ++ b))) := by
        intro a b hab
        unfold abinS
        rw [if_pos (by simp only [bs_size, maxLen]; omega)]
        exact congrArg (fun x => some (Value.string x)) (bs_append a b)
      repeat refine Wp.seq ?_
      refine Wp.runS (by simp only [runS, stepO, stepW, stepV, keep, guardOf, wantG, wantV, aop, binA, aev, flat, if_true, if_false, Option.bind_some, Option.map_some, Frm.put, look, setk, Nat.reduceLT, Nat.reduceEqDiff, evs, evp, evo, List.getElem?_toArray, List.getElem?_cons_succ, List.getElem?_cons_zero, Bool.false_eq_true, Bool.true_eq_false, beq_self_eq_true, beq_ft, beq_tf, notNil, Bool.not_true, Bool.not_false, reduceCtorEq, abuiltin, aextract] <;> exact rfl) ?_
      dsimp only [after, leaving]
      repeat refine Wp.seq ?_
      refine Wp.runS (by simp only [runS, stepO, stepW, stepV, keep, guardOf, wantG, wantV, aop, binA, aev, flat, if_true, if_false, Option.bind_some, Option.map_some, Frm.put, look, setk, Nat.reduceLT, Nat.reduceEqDiff, evs, evp, evo, List.getElem?_toArray, List.getElem?_cons_succ, List.getElem?_cons_zero, Bool.false_eq_true, Bool.true_eq_false, beq_self_eq_true, beq_ft, beq_tf, notNil, Bool.not_true, Bool.not_false, reduceCtorEq, abuiltin, aextract] <;> exact rfl) ?_
      dsimp only [after, leaving]
      repeat refine Wp.seq ?_
      refine Wp.cut (fun fr u h' => u = none ∧ h' = H2 ∧ ∃ s : List UInt8, s ++ (ss.drop l.length).headD [] = mixF false l ss ∧ s.length ≤ 1000 * l.length ∧ ∃ sl, fr = ⟨179, sl, []⟩ ∧ holds [(5, v), (7, .slice (some ⟨H1.next, 0, none⟩) (l.length + 1) (l.length + 1)), (11, .string (bs s))] sl) ?_ ?_
      rotate_left
      · repeat refine Wp.seq ?_
        refine Wp.block ?_
        refine Wp.loopI (X := Nat × List UInt8) (fun x => [(5, v), (7, .slice (some ⟨H1.next, 0, none⟩) (l.length + 1) (l.length + 1)), (11, .string (bs x.2)), (12, .int .i64 x.1)]) (fun _ => H2)
          (fun x => x.1 ≤ l.length ∧ x.2 ++ mixF (pvOf l x.1) (l.drop x.1) (ss.drop x.1) = mixF false l ss ∧ x.2.length ≤ 1000 * x.1 ∧ shaped (pvOf l x.1) (l.drop x.1)) (fun x => l.length - x.1) (0, []) ⟨Nat.zero_le _, rfl, by simp, sh⟩ ⟨rfl, rfl, rfl, rfl, trivial⟩ rfl ?_
        rintro ⟨i, s⟩ ⟨hle, hs, hsl, hsh⟩
        simp only at hle hs hsl hsh
        by_cases hlt : (i : Int) < (l.length : Int)
        · repeat refine Wp.seq ?_
          refine Wp.runS (by simp only [runS, stepO, stepW, stepV, keep, guardOf, wantG, wantV, aop, binA, aev, flat, if_true, if_false, Option.bind_some, Option.map_some, Frm.put, look, setk, Nat.reduceLT, Nat.reduceEqDiff, evs, evp, evo, List.getElem?_toArray, List.getElem?_cons_succ, List.getElem?_cons_zero, Bool.false_eq_true, Bool.true_eq_false, beq_self_eq_true, beq_ft, beq_tf, notNil, Bool.not_true, Bool.not_false, reduceCtorEq, abuiltin, aextract, tA'.len, abin_int, ai_lss, decide_eq_true hlt] <;> exact rfl) ?_
          dsimp only [after, leaving]
          repeat refine Wp.seq ?_
          refine Wp.condT (by simp only [runS, stepO, stepW, stepV, keep, guardOf, wantG, wantV, aop, binA, aev, flat, if_true, if_false, Option.bind_some, Option.map_some, Frm.put, look, setk, Nat.reduceLT, Nat.reduceEqDiff, evs, evp, evo, List.getElem?_toArray, List.getElem?_cons_succ, List.getElem?_cons_zero, Bool.false_eq_true, Bool.true_eq_false, beq_self_eq_true, beq_ft, beq_tf, notNil, Bool.not_true, Bool.not_false, reduceCtorEq, abuiltin, aextract]) ?_
          repeat refine Wp.seq ?_
          refine Wp.skip ?_
          dsimp only [after, leaving]
          repeat refine Wp.seq ?_
          refine Wp.block ?_
          obtain ⟨t, ht⟩ : ∃ t, l[i]? = some t := ⟨_, List.getElem?_eq_getElem (by omega)⟩
          obtain ⟨b, k, hp, ta⟩ := tA'.atT ht
          obtain ⟨g, hg⟩ : ∃ g, ss[i]? = some g := ⟨_, List.getElem?_eq_getElem (by omega)⟩
          have hgl := hfits g (List.mem_of_getElem? hg)
          have hd : l.drop i = t :: l.drop (i + 1) := by
            rw [List.drop_eq_getElem_cons (by omega)]
            congr 1
            rw [List.getElem?_eq_getElem (by omega)] at ht
            exact Option.some.inj ht
          have hds : ss.drop i = g :: ss.drop (i + 1) := by
            rw [List.drop_eq_getElem_cons (by omega)]
            congr 1
            rw [List.getElem?_eq_getElem (by omega)] at hg
            exact Option.some.inj hg
          have hpv : pvOf l (i + 1) = decide (t.kind ≠ 6) := by simp only [pvOf, ht]
          rw [hd, hds] at hs
          rw [hd] at hsh
          simp only [mixF, List.headD_cons, List.tail_cons] at hs
          have hw1 : IntKind.i64.wrap ((i : Int) + 1) = ((i + 1 : Nat) : Int) := by rw [wrap_in (by omega) (by omega)]; omega
          have en : ∀ u : Tok, ((u.kind : Int) != 6) = decide (u.kind ≠ 6) := fun u => by
            by_cases h : u.kind = 6
            · simp [h]
            · have : ¬ (u.kind : Int) = 6 := by omega
              simp [bne, this, h]
          obtain ⟨m1, m2⟩ := mA i g hg
          have m1' := fun kd => m1 kd _ hml
          repeat refine Wp.seq ?_
          refine Wp.cut (fun fr u h' => u = none ∧ h' = H2 ∧ ∃ sl, fr = ⟨179, sl, []⟩ ∧ holds [(5, v), (7, .slice (some ⟨H1.next, 0, none⟩) (l.length + 1) (l.length + 1)), (11, .string (bs s)), (12, .int .i64 i), (132, .bool (pvOf l i && decide (t.kind ≠ 6)))] sl) ?_ ?_
          rotate_left
          · cases i with
            | zero =>
              repeat refine Wp.seq ?_
              refine Wp.runS (by simp only [runS, stepO, stepW, stepV, keep, guardOf, wantG, wantV, aop, binA, aev, flat, if_true, if_false, Option.bind_some, Option.map_some, Frm.put, look, setk, Nat.reduceLT, Nat.reduceEqDiff, evs, evp, evo, List.getElem?_toArray, List.getElem?_cons_succ, List.getElem?_cons_zero, Bool.false_eq_true, Bool.true_eq_false, beq_self_eq_true, beq_ft, beq_tf, notNil, Bool.not_true, Bool.not_false, reduceCtorEq, abuiltin, aextract, abin_int, ai_gtr, decide_eq_false (show ¬ (0 : Int) < ((0 : Nat) : Int) by omega)] <;> exact rfl) ?_
              dsimp only [after, leaving]
              exact ⟨rfl, rfl, _, rfl, rfl, rfl, rfl, rfl, rfl, trivial⟩
            | succ j =>
              obtain ⟨u, hu⟩ : ∃ t, l[j]? = some t := ⟨_, List.getElem?_eq_getElem (by omega)⟩
              obtain ⟨b', k', hp', ta'⟩ := tA'.atT hu
              have hw2 : IntKind.i64.wrap (((j + 1 : Nat) : Int) - 1) = ((j : Nat) : Int) := by rw [wrap_in (by omega) (by omega)]; omega
              have hpj : pvOf l (j + 1) = decide (u.kind ≠ 6) := by simp only [pvOf, hu]
              rw [hpj]
              by_cases h6 : t.kind = 6
              · have e1 : decide (t.kind ≠ 6) = false := by simp [h6]
                rw [e1, Bool.and_false]
                repeat refine Wp.seq ?_
                refine Wp.runS (by simp only [runS, stepO, stepW, stepV, keep, guardOf, wantG, wantV, aop, binA, aev, flat, if_true, if_false, Option.bind_some, Option.map_some, Frm.put, look, setk, Nat.reduceLT, Nat.reduceEqDiff, evs, evp, evo, List.getElem?_toArray, List.getElem?_cons_succ, List.getElem?_cons_zero, Bool.false_eq_true, Bool.true_eq_false, beq_self_eq_true, beq_ft, beq_tf, notNil, Bool.not_true, Bool.not_false, reduceCtorEq, abuiltin, aextract, abin_int, ai_gtr, decide_eq_true (show (0 : Int) < ((j + 1 : Nat) : Int) by omega), hp, t0, aload_cell agg3, ta.kind, ai_neq, en, e1] <;> exact rfl) ?_
                dsimp only [after, leaving]
                exact ⟨rfl, rfl, _, rfl, rfl, rfl, rfl, rfl, rfl, trivial⟩
              · have e1 : decide (t.kind ≠ 6) = true := by simp [h6]
                rw [e1, Bool.and_true]
                repeat refine Wp.seq ?_
                refine Wp.runS (by simp only [runS, stepO, stepW, stepV, keep, guardOf, wantG, wantV, aop, binA, aev, flat, if_true, if_false, Option.bind_some, Option.map_some, Frm.put, look, setk, Nat.reduceLT, Nat.reduceEqDiff, evs, evp, evo, List.getElem?_toArray, List.getElem?_cons_succ, List.getElem?_cons_zero, Bool.false_eq_true, Bool.true_eq_false, beq_self_eq_true, beq_ft, beq_tf, notNil, Bool.not_true, Bool.not_false, reduceCtorEq, abuiltin, aextract, abin_int, ai_gtr, decide_eq_true (show (0 : Int) < ((j + 1 : Nat) : Int) by omega), hp, t0, aload_cell agg3, ta.kind, ai_neq, en, e1, ai_sub, hw2, hp', ta'.kind] <;> exact rfl) ?_
                dsimp only [after, leaving]
                exact ⟨rfl, rfl, _, rfl, rfl, rfl, rfl, rfl, rfl, trivial⟩
          rintro fr u h9 ⟨rfl, hH, sl, rfl, hs1⟩
          obtain rfl := hH.symm
          clear hH
          dsimp only [after, leaving]
          refine Wp.weaken (Frm.le_of hs1) ?_
          clear hs1 sl
          repeat refine Wp.seq ?_
          refine Wp.cut (fun fr u h' => u = none ∧ h' = H2 ∧ ∃ s' : List UInt8, s' ++ (g ++ ((if t.kind = 6 then [10] else t.word) ++ mixF (decide (t.kind ≠ 6)) (l.drop (i + 1)) (ss.drop (i + 1)))) = mixF false l ss ∧ s'.length ≤ 1000 * i + 1 ∧ ∃ sl, fr = ⟨179, sl, []⟩ ∧ holds [(5, v), (7, .slice (some ⟨H1.next, 0, none⟩) (l.length + 1) (l.length + 1)), (11, .string (bs s')), (12, .int .i64 i)] sl) ?_ ?_
          rotate_left
          · cases hb : (pvOf l i && decide (t.kind ≠ 6)) with
            | true =>
              rw [hb, if_pos rfl] at hs
              repeat refine Wp.seq ?_
              refine Wp.condT (by simp only [runS, stepO, stepW, stepV, keep, guardOf, wantG, wantV, aop, binA, aev, flat, if_true, if_false, Option.bind_some, Option.map_some, Frm.put, look, setk, Nat.reduceLT, Nat.reduceEqDiff, evs, evp, evo, List.getElem?_toArray, List.getElem?_cons_succ, List.getElem?_cons_zero, Bool.false_eq_true, Bool.true_eq_false, beq_self_eq_true, beq_ft, beq_tf, notNil, Bool.not_true, Bool.not_false, reduceCtorEq, abuiltin, aextract]) ?_
              repeat refine Wp.seq ?_
              refine Wp.runS (by simp only [runS, stepO, stepW, stepV, keep, guardOf, wantG, wantV, aop, binA, aev, flat, if_true, if_false, Option.bind_some, Option.map_some, Frm.put, look, setk, Nat.reduceLT, Nat.reduceEqDiff, evs, evp, evo, List.getElem?_toArray, List.getElem?_cons_succ, List.getElem?_cons_zero, Bool.false_eq_true, Bool.true_eq_false, beq_self_eq_true, beq_ft, beq_tf, notNil, Bool.not_true, Bool.not_false, reduceCtorEq, abuiltin, aextract, abin_str, show abinS .add (bs s) ⟨#[32]⟩ = some (.string (bs (s ++ [32]))) from hadd s [32] (by simp; omega)] <;> exact rfl) ?_
              dsimp only [after, leaving]
              exact ⟨rfl, rfl, s ++ [32], by rw [← hs]; simp, by simp; omega, _, rfl, rfl, rfl, rfl, rfl, trivial⟩
            | false =>
              rw [hb] at hs
              simp only [Bool.false_eq_true, if_false, List.nil_append] at hs
              repeat refine Wp.seq ?_
              refine Wp.condF (by simp only [runS, stepO, stepW, stepV, keep, guardOf, wantG, wantV, aop, binA, aev, flat, if_true, if_false, Option.bind_some, Option.map_some, Frm.put, look, setk, Nat.reduceLT, Nat.reduceEqDiff, evs, evp, evo, List.getElem?_toArray, List.getElem?_cons_succ, List.getElem?_cons_zero, Bool.false_eq_true, Bool.true_eq_false, beq_self_eq_true, beq_ft, beq_tf, notNil, Bool.not_true, Bool.not_false, reduceCtorEq, abuiltin, aextract]) ?_
              repeat refine Wp.seq ?_
              refine Wp.skip ?_
              dsimp only [after, leaving]
              exact ⟨rfl, rfl, s, hs, by omega, _, rfl, rfl, rfl, rfl, rfl, trivial⟩
          rintro fr u h9 ⟨rfl, hH, s', hs', hsl', sl, rfl, hs1⟩
          obtain rfl := hH.symm
          clear hH
          dsimp only [after, leaving]
          refine Wp.weaken (Frm.le_of hs1) ?_
          clear hs1 sl hs hsl
          repeat refine Wp.seq ?_
          refine Wp.runS (by simp only [runS, stepO, stepW, stepV, keep, guardOf, wantG, wantV, aop, binA, aev, flat, if_true, if_false, Option.bind_some, Option.map_some, Frm.put, look, setk, Nat.reduceLT, Nat.reduceEqDiff, evs, evp, evo, List.getElem?_toArray, List.getElem?_cons_succ, List.getElem?_cons_zero, Bool.false_eq_true, Bool.true_eq_false, beq_self_eq_true, beq_ft, beq_tf, notNil, Bool.not_true, Bool.not_false, reduceCtorEq, abuiltin, aextract, m1', aload_cell agg9, m2, abin_str, hadd s' g (by omega)] <;> exact rfl) ?_
          dsimp only [after, leaving]
          by_cases h6 : t.kind = 6
          · have hsh2 : shaped false (l.drop (i + 1)) := by
              unfold shaped at hsh
              rw [if_pos h6] at hsh
              exact hsh.2.2.2
            rw [if_pos h6] at hs'
            repeat refine Wp.seq ?_
            refine Wp.runS (by simp only [runS, stepO, stepW, stepV, keep, guardOf, wantG, wantV, aop, binA, aev, flat, if_true, if_false, Option.bind_some, Option.map_some, Frm.put, look, setk, Nat.reduceLT, Nat.reduceEqDiff, evs, evp, evo, List.getElem?_toArray, List.getElem?_cons_succ, List.getElem?_cons_zero, Bool.false_eq_true, Bool.true_eq_false, beq_self_eq_true, beq_ft, beq_tf, notNil, Bool.not_true, Bool.not_false, reduceCtorEq, abuiltin, aextract, hp, t0, aload_cell agg3, ta.kind, abin_int, ai_eql, show ((t.kind : Int) == 6) = true by simp [h6]] <;> exact rfl) ?_
            dsimp only [after, leaving]
            repeat refine Wp.seq ?_
            refine Wp.condT (by simp only [runS, stepO, stepW, stepV, keep, guardOf, wantG, wantV, aop, binA, aev, flat, if_true, if_false, Option.bind_some, Option.map_some, Frm.put, look, setk, Nat.reduceLT, Nat.reduceEqDiff, evs, evp, evo, List.getElem?_toArray, List.getElem?_cons_succ, List.getElem?_cons_zero, Bool.false_eq_true, Bool.true_eq_false, beq_self_eq_true, beq_ft, beq_tf, notNil, Bool.not_true, Bool.not_false, reduceCtorEq, abuiltin, aextract]) ?_
            repeat refine Wp.seq ?_
            refine Wp.runS (by simp only [runS, stepO, stepW, stepV, keep, guardOf, wantG, wantV, aop, binA, aev, flat, if_true, if_false, Option.bind_some, Option.map_some, Frm.put, look, setk, Nat.reduceLT, Nat.reduceEqDiff, evs, evp, evo, List.getElem?_toArray, List.getElem?_cons_succ, List.getElem?_cons_zero, Bool.false_eq_true, Bool.true_eq_false, beq_self_eq_true, beq_ft, beq_tf, notNil, Bool.not_true, Bool.not_false, reduceCtorEq, abuiltin, aextract, abin_str, show abinS .add (bs (s' ++ g)) ⟨#[10]⟩ = some (.string (bs (s' ++ g ++ [10]))) from hadd (s' ++ g) [10] (by simp; omega)] <;> exact rfl) ?_
            dsimp only [after, leaving]
            repeat refine Wp.seq ?_
            refine Wp.runS (by simp only [runS, stepO, stepW, stepV, keep, guardOf, wantG, wantV, aop, binA, aev, flat, if_true, if_false, Option.bind_some, Option.map_some, Frm.put, look, setk, Nat.reduceLT, Nat.reduceEqDiff, evs, evp, evo, List.getElem?_toArray, List.getElem?_cons_succ, List.getElem?_cons_zero, Bool.false_eq_true, Bool.true_eq_false, beq_self_eq_true, beq_ft, beq_tf, notNil, Bool.not_true, Bool.not_false, reduceCtorEq, abuiltin, aextract, abin_int, ai_add, hw1] <;> exact rfl) ?_
            dsimp only [after, leaving]
            refine ⟨(i + 1, s' ++ g ++ [10]), _, ⟨by omega, ?_, by simp; omega, by rw [hpv, decide_eq_false (by simp [h6])]; exact hsh2⟩, by simp only; omega, rfl, ⟨rfl, rfl, rfl, rfl, trivial⟩, rfl, rfl⟩
            simp only
            rw [hpv, ← hs']; simp
          · have hsh2 : okTok t.kind t.text t.n ∧ shaped true (l.drop (i + 1)) := by
              unfold shaped at hsh
              rw [if_neg h6] at hsh
              exact hsh
            rw [if_neg h6] at hs'
            obtain ⟨n1, n2⟩ := f1 t (List.mem_of_getElem? ht)
            have hwl3 := word_len hsh2.1
            repeat refine Wp.seq ?_
            refine Wp.runS (by simp only [runS, stepO, stepW, stepV, keep, guardOf, wantG, wantV, aop, binA, aev, flat, if_true, if_false, Option.bind_some, Option.map_some, Frm.put, look, setk, Nat.reduceLT, Nat.reduceEqDiff, evs, evp, evo, List.getElem?_toArray, List.getElem?_cons_succ, List.getElem?_cons_zero, Bool.false_eq_true, Bool.true_eq_false, beq_self_eq_true, beq_ft, beq_tf, notNil, Bool.not_true, Bool.not_false, reduceCtorEq, abuiltin, aextract, hp, t0, aload_cell agg3, ta.kind, abin_int, ai_eql, show ((t.kind : Int) == 6) = false by rw [beq_eq_false_iff_ne]; omega] <;> exact rfl) ?_
            dsimp only [after, leaving]
            repeat refine Wp.seq ?_
            refine Wp.condF (by simp only [runS, stepO, stepW, stepV, keep, guardOf, wantG, wantV, aop, binA, aev, flat, if_true, if_false, Option.bind_some, Option.map_some, Frm.put, look, setk, Nat.reduceLT, Nat.reduceEqDiff, evs, evp, evo, List.getElem?_toArray, List.getElem?_cons_succ, List.getElem?_cons_zero, Bool.false_eq_true, Bool.true_eq_false, beq_self_eq_true, beq_ft, beq_tf, notNil, Bool.not_true, Bool.not_false, reduceCtorEq, abuiltin, aextract]) ?_
            repeat refine Wp.seq ?_
            refine Wp.regionAs (is := List.range' 0 5 ++ (5 :: (List.range' 6 2 ++ []))) rfl ?_
            refine WpO.runS 5 (by simp only [List.drop_succ_cons, List.drop_zero, List.take_succ_cons, List.take_zero, runS, stepO, stepW, stepV, keep, guardOf, wantG, wantV, aop, binA, aev, flat, if_true, if_false, Option.bind_some, Option.map_some, Frm.put, look, setk, Nat.reduceLT, Nat.reduceEqDiff, evs, evp, evo, List.getElem?_toArray, List.getElem?_cons_succ, List.getElem?_cons_zero, Bool.false_eq_true, Bool.true_eq_false, beq_self_eq_true, beq_ft, beq_tf, notNil, Bool.not_true, Bool.not_false, reduceCtorEq, abuiltin, aextract, hp, ta.all] <;> exact rfl) (by decide) ?_
            refine WpO.callR (word_does 0 H2 t n1 n2) rfl (by simp only [runS, stepO, stepW, stepV, keep, guardOf, wantG, wantV, aop, binA, aev, flat, if_true, if_false, Option.bind_some, Option.map_some, Frm.put, look, setk, Nat.reduceLT, Nat.reduceEqDiff, evs, evp, evo, List.getElem?_toArray, List.getElem?_cons_succ, List.getElem?_cons_zero, Bool.false_eq_true, Bool.true_eq_false, beq_self_eq_true, beq_ft, beq_tf, notNil, Bool.not_true, Bool.not_false, reduceCtorEq, abuiltin, aextract, c11]) (by simp only [calleeOf, fnOf, List.append_nil, List.nil_append, runS, stepO, stepW, stepV, keep, guardOf, wantG, wantV, aop, binA, aev, flat, if_true, if_false, Option.bind_some, Option.map_some, Frm.put, look, setk, Nat.reduceLT, Nat.reduceEqDiff, evs, evp, evo, List.getElem?_toArray, List.getElem?_cons_succ, List.getElem?_cons_zero, Bool.false_eq_true, Bool.true_eq_false, beq_self_eq_true, beq_ft, beq_tf, notNil, Bool.not_true, Bool.not_false, reduceCtorEq, abuiltin, aextract, c11] <;> exact rfl) ?_
            rintro _ h9 ⟨rfl, hh9⟩
            obtain rfl := hh9.symm
            clear hh9
            refine ⟨_, _, rfl, by simp only [runS, stepO, stepW, stepV, keep, guardOf, wantG, wantV, aop, binA, aev, flat, if_true, if_false, Option.bind_some, Option.map_some, Frm.put, look, setk, Nat.reduceLT, Nat.reduceEqDiff, evs, evp, evo, List.getElem?_toArray, List.getElem?_cons_succ, List.getElem?_cons_zero, Bool.false_eq_true, Bool.true_eq_false, beq_self_eq_true, beq_ft, beq_tf, notNil, Bool.not_true, Bool.not_false, reduceCtorEq, abuiltin, aextract]; exact rfl, ?_⟩
            refine WpO.runS 2 (by simp only [List.drop_succ_cons, List.drop_zero, List.take_succ_cons, List.take_zero, runS, stepO, stepW, stepV, keep, guardOf, wantG, wantV, aop, binA, aev, flat, if_true, if_false, Option.bind_some, Option.map_some, Frm.put, look, setk, Nat.reduceLT, Nat.reduceEqDiff, evs, evp, evo, List.getElem?_toArray, List.getElem?_cons_succ, List.getElem?_cons_zero, Bool.false_eq_true, Bool.true_eq_false, beq_self_eq_true, beq_ft, beq_tf, notNil, Bool.not_true, Bool.not_false, reduceCtorEq, abuiltin, aextract, abin_str, hadd (s' ++ g) t.word (by simp; omega)] <;> exact rfl) (by decide) ?_
            refine WpO.nil ?_
            dsimp only [after, leaving]
            repeat refine Wp.seq ?_
            refine Wp.runS (by simp only [runS, stepO, stepW, stepV, keep, guardOf, wantG, wantV, aop, binA, aev, flat, if_true, if_false, Option.bind_some, Option.map_some, Frm.put, look, setk, Nat.reduceLT, Nat.reduceEqDiff, evs, evp, evo, List.getElem?_toArray, List.getElem?_cons_succ, List.getElem?_cons_zero, Bool.false_eq_true, Bool.true_eq_false, beq_self_eq_true, beq_ft, beq_tf, notNil, Bool.not_true, Bool.not_false, reduceCtorEq, abuiltin, aextract, abin_int, ai_add, hw1] <;> exact rfl) ?_
            dsimp only [after, leaving]
            refine ⟨(i + 1, s' ++ g ++ t.word), _, ⟨by omega, ?_, by simp; omega, by rw [hpv, decide_eq_true h6]; exact hsh2.2⟩, by simp only; omega, rfl, ⟨rfl, rfl, rfl, rfl, trivial⟩, rfl, rfl⟩
            simp only
            rw [hpv, ← hs']; simp
        · repeat refine Wp.seq ?_
          refine Wp.runS (by simp only [runS, stepO, stepW, stepV, keep, guardOf, wantG, wantV, aop, binA, aev, flat, if_true, if_false, Option.bind_some, Option.map_some, Frm.put, look, setk, Nat.reduceLT, Nat.reduceEqDiff, evs, evp, evo, List.getElem?_toArray, List.getElem?_cons_succ, List.getElem?_cons_zero, Bool.false_eq_true, Bool.true_eq_false, beq_self_eq_true, beq_ft, beq_tf, notNil, Bool.not_true, Bool.not_false, reduceCtorEq, abuiltin, aextract, tA'.len, abin_int, ai_lss, decide_eq_false hlt] <;> exact rfl) ?_
          dsimp only [after, leaving]
          repeat refine Wp.seq ?_
          refine Wp.condF (by simp only [runS, stepO, stepW, stepV, keep, guardOf, wantG, wantV, aop, binA, aev, flat, if_true, if_false, Option.bind_some, Option.map_some, Frm.put, look, setk, Nat.reduceLT, Nat.reduceEqDiff, evs, evp, evo, List.getElem?_toArray, List.getElem?_cons_succ, List.getElem?_cons_zero, Bool.false_eq_true, Bool.true_eq_false, beq_self_eq_true, beq_ft, beq_tf, notNil, Bool.not_true, Bool.not_false, reduceCtorEq, abuiltin, aextract]) ?_
          repeat refine Wp.seq ?_
          refine Wp.exit ?_
          simp only [after, leaving, blockExit, if_true, if_false, Nat.reduceEqDiff]
          have hi : i = l.length := by omega
          subst hi
          rw [List.drop_length] at hs
          simp only [mixF] at hs
          exact ⟨by trivial, by trivial, s, hs, hsl, _, rfl, rfl, rfl, rfl, trivial⟩
      rintro fr u h9 ⟨rfl, hH, s, hs, hsl, sl, rfl, hs1⟩
      obtain rfl := hH.symm
      clear hH
      dsimp only [after, leaving]
      refine Wp.weaken (Frm.le_of hs1) ?_
      clear hs1 sl
      obtain ⟨g, hg⟩ : ∃ g, ss[l.length]? = some g := ⟨_, List.getElem?_eq_getElem (by omega)⟩
      obtain ⟨m1, m2⟩ := mA _ g hg
      have m1' := fun kd => m1 kd _ hml
      have hgl := hfits g (List.mem_of_getElem? hg)
      have hhd : (ss.drop l.length).headD [] = g := by
        rw [List.drop_eq_getElem_cons (by omega), List.headD_cons]
        rw [List.getElem?_eq_getElem (by omega)] at hg
        exact Option.some.inj hg
      rw [hhd] at hs
      repeat refine Wp.seq ?_
      refine Wp.runS (by simp only [runS, stepO, stepW, stepV, keep, guardOf, wantG, wantV, aop, binA, aev, flat, if_true, if_false, Option.bind_some, Option.map_some, Frm.put, look, setk, Nat.reduceLT, Nat.reduceEqDiff, evs, evp, evo, List.getElem?_toArray, List.getElem?_cons_succ, List.getElem?_cons_zero, Bool.false_eq_true, Bool.true_eq_false, beq_self_eq_true, beq_ft, beq_tf, notNil, Bool.not_true, Bool.not_false, reduceCtorEq, abuiltin, aextract, tA'.len, m1', aload_cell agg9, m2, abin_str, hadd s g (by omega)] <;> exact rfl) ?_
      dsimp only [after, leaving]
      rw [hs]
      by_cases hbig : (2048 : Int) < ((mixF false l ss).length : Int)
      · repeat refine Wp.seq ?_
        refine Wp.runS (by simp only [runS, stepO, stepW, stepV, keep, guardOf, wantG, wantV, aop, binA, aev, flat, if_true, if_false, Option.bind_some, Option.map_some, Frm.put, look, setk, Nat.reduceLT, Nat.reduceEqDiff, evs, evp, evo, List.getElem?_toArray, List.getElem?_cons_succ, List.getElem?_cons_zero, Bool.false_eq_true, Bool.true_eq_false, beq_self_eq_true, beq_ft, beq_tf, notNil, Bool.not_true, Bool.not_false, reduceCtorEq, abuiltin, aextract, alen_str Tryd.underlying9, bs_size, abin_int, ai_gtr, decide_eq_true hbig] <;> exact rfl) ?_
        dsimp only [after, leaving]
        repeat refine Wp.seq ?_
        refine Wp.condT (by simp only [runS, stepO, stepW, stepV, keep, guardOf, wantG, wantV, aop, binA, aev, flat, if_true, if_false, Option.bind_some, Option.map_some, Frm.put, look, setk, Nat.reduceLT, Nat.reduceEqDiff, evs, evp, evo, List.getElem?_toArray, List.getElem?_cons_succ, List.getElem?_cons_zero, Bool.false_eq_true, Bool.true_eq_false, beq_self_eq_true, beq_ft, beq_tf, notNil, Bool.not_true, Bool.not_false, reduceCtorEq, abuiltin, aextract]) ?_
        repeat refine Wp.seq ?_
        refine Wp.runS (by simp only [runS, stepO, stepW, stepV, keep, guardOf, wantG, wantV, aop, binA, aev, flat, if_true, if_false, Option.bind_some, Option.map_some, Frm.put, look, setk, Nat.reduceLT, Nat.reduceEqDiff, evs, evp, evo, List.getElem?_toArray, List.getElem?_cons_succ, List.getElem?_cons_zero, Bool.false_eq_true, Bool.true_eq_false, beq_self_eq_true, beq_ft, beq_tf, notNil, Bool.not_true, Bool.not_false, reduceCtorEq, abuiltin, aextract] <;> exact rfl) ?_
        dsimp only [after, leaving]
        repeat refine Wp.seq ?_
        refine Wp.ret ?_
        dsimp only [after, leaving]
        exact ⟨rfl, rfl, _, rfl, rfl⟩
      repeat refine Wp.seq ?_
      refine Wp.runS (by simp only [runS, stepO, stepW, stepV, keep, guardOf, wantG, wantV, aop, binA, aev, flat, if_true, if_false, Option.bind_some, Option.map_some, Frm.put, look, setk, Nat.reduceLT, Nat.reduceEqDiff, evs, evp, evo, List.getElem?_toArray, List.getElem?_cons_succ, List.getElem?_cons_zero, Bool.false_eq_true, Bool.true_eq_false, beq_self_eq_true, beq_ft, beq_tf, notNil, Bool.not_true, Bool.not_false, reduceCtorEq, abuiltin, aextract, alen_str Tryd.underlying9, bs_size, abin_int, ai_gtr, decide_eq_false hbig] <;> exact rfl) ?_
      dsimp only [after, leaving]
      repeat refine Wp.seq ?_
      refine Wp.condF (by simp only [runS, stepO, stepW, stepV, keep, guardOf, wantG, wantV, aop, binA, aev, flat, if_true, if_false, Option.bind_some, Option.map_some, Frm.put, look, setk, Nat.reduceLT, Nat.reduceEqDiff, evs, evp, evo, List.getElem?_toArray, List.getElem?_cons_succ, List.getElem?_cons_zero, Bool.false_eq_true, Bool.true_eq_false, beq_self_eq_true, beq_ft, beq_tf, notNil, Bool.not_true, Bool.not_false, reduceCtorEq, abuiltin, aextract]) ?_
      repeat refine Wp.seq ?_
      refine Wp.skip ?_
      dsimp only [after, leaving]
      obtain ⟨l', b2, b3⟩ := hmix (by omega)
      obtain ⟨f1', f2', f3'⟩ := lexS_fair b2
      generalize mixF false l ss = T2 at b2 hbig f3' ⊢
      repeat refine Wp.seq ?_
      refine Wp.regionAs (is := List.range' 0 1 ++ (1 :: (List.range' 2 6 ++ []))) rfl ?_
      refine WpO.runS 1 (by simp only [List.drop_succ_cons, List.drop_zero, List.take_succ_cons, List.take_zero, runS, stepO, stepW, stepV, keep, guardOf, wantG, wantV, aop, binA, aev, flat, if_true, if_false, Option.bind_some, Option.map_some, Frm.put, look, setk, Nat.reduceLT, Nat.reduceEqDiff, evs, evp, evo, List.getElem?_toArray, List.getElem?_cons_succ, List.getElem?_cons_zero, Bool.false_eq_true, Bool.true_eq_false, beq_self_eq_true, beq_ft, beq_tf, notNil, Bool.not_true, Bool.not_false, reduceCtorEq, abuiltin, aextract] <;> exact rfl) (by decide) ?_
      refine WpO.callR (lex_call H2 T2 (by omega)) rfl (by simp only [runS, stepO, stepW, stepV, keep, guardOf, wantG, wantV, aop, binA, aev, flat, if_true, if_false, Option.bind_some, Option.map_some, Frm.put, look, setk, Nat.reduceLT, Nat.reduceEqDiff, evs, evp, evo, List.getElem?_toArray, List.getElem?_cons_succ, List.getElem?_cons_zero, Bool.false_eq_true, Bool.true_eq_false, beq_self_eq_true, beq_ft, beq_tf, notNil, Bool.not_true, Bool.not_false, reduceCtorEq, abuiltin, aextract, c8]) (by simp only [calleeOf, fnOf, List.append_nil, List.nil_append, runS, stepO, stepW, stepV, keep, guardOf, wantG, wantV, aop, binA, aev, flat, if_true, if_false, Option.bind_some, Option.map_some, Frm.put, look, setk, Nat.reduceLT, Nat.reduceEqDiff, evs, evp, evo, List.getElem?_toArray, List.getElem?_cons_succ, List.getElem?_cons_zero, Bool.false_eq_true, Bool.true_eq_false, beq_self_eq_true, beq_ft, beq_tf, notNil, Bool.not_true, Bool.not_false, reduceCtorEq, abuiltin, aextract, c8] <;> exact rfl) ?_
      rintro _ h9 ⟨rfl, hh9⟩
      obtain rfl := hh9.symm
      clear hh9
      refine ⟨_, _, rfl, by simp only [runS, stepO, stepW, stepV, keep, guardOf, wantG, wantV, aop, binA, aev, flat, if_true, if_false, Option.bind_some, Option.map_some, Frm.put, look, setk, Nat.reduceLT, Nat.reduceEqDiff, evs, evp, evo, List.getElem?_toArray, List.getElem?_cons_succ, List.getElem?_cons_zero, Bool.false_eq_true, Bool.true_eq_false, beq_self_eq_true, beq_ft, beq_tf, notNil, Bool.not_true, Bool.not_false, reduceCtorEq, abuiltin, aextract]; exact rfl, ?_⟩
      have sB := spot_put (lexH H2 T2) (spotOf (lexS T2)).1 (spotOf (lexS T2)).2
      refine WpO.runS 6 (by simp only [List.drop_succ_cons, List.drop_zero, List.take_succ_cons, List.take_zero, runS, stepO, stepW, stepV, keep, guardOf, wantG, wantV, aop, binA, aev, flat, if_true, if_false, Option.bind_some, Option.map_some, Frm.put, look, setk, Nat.reduceLT, Nat.reduceEqDiff, evs, evp, evo, List.getElem?_toArray, List.getElem?_cons_succ, List.getElem?_cons_zero, Bool.false_eq_true, Bool.true_eq_false, beq_self_eq_true, beq_ft, beq_tf, notNil, Bool.not_true, Bool.not_false, reduceCtorEq, abuiltin, aextract, alloc27, Heap.new, sB] <;> exact rfl) (by decide) ?_
      refine WpO.nil ?_
      dsimp only [after, leaving]
      clear sB
      have gB : ((lexH H2 T2).alloc (spotRow (spotOf (lexS T2)).1 (spotOf (lexS T2)).2)).get (lexH H2 T2).next = some (spotRow (spotOf (lexS T2)).1 (spotOf (lexS T2)).2) := Heap.get_alloc_new _ _
      have tB := (lexH_toks H2 T2).more (Heap.more_alloc _ (spotRow (spotOf (lexS T2)).1 (spotOf (lexS T2)).2))
      have m2 : H2.more ((lexH H2 T2).alloc (spotRow (spotOf (lexS T2)).1 (spotOf (lexS T2)).2)) := (lexH_more _ _).trans (Heap.more_alloc _ _)
      replace tA' := tA'.more m2
      generalize (lexH H2 T2).alloc (spotRow (spotOf (lexS T2)).1 (spotOf (lexS T2)).2) = H3 at gB tB tA' m2 ⊢
      generalize (lexH H2 T2).next = jB at gB ⊢
      generalize hw : tokL H2 (lexS T2) = w at tB ⊢
      rw [b2] at gB tB
      simp only [spotOf, toksOf] at gB tB
      have lB : aload Tryd.prog H3 27 (.pointer (some ⟨jB, 0, none⟩)) = some (.agg #[.int .i64 0, .int .i64 0]) := by
        rw [aload_agg agg27 sz27, Heap.lds_of gB (k := 0) (n := 2) (by simp)]; rfl
      have hsame : sameB l' l = true := decide_eq_true b3
      repeat refine Wp.seq ?_
      refine Wp.regionAs (is := List.range' 0 6 ++ (6 :: (List.range' 7 2 ++ []))) rfl ?_
      refine WpO.runS 6 (by simp only [List.drop_succ_cons, List.drop_zero, List.take_succ_cons, List.take_zero, runS, stepO, stepW, stepV, keep, guardOf, wantG, wantV, aop, binA, aev, flat, if_true, if_false, Option.bind_some, Option.map_some, Frm.put, look, setk, Nat.reduceLT, Nat.reduceEqDiff, evs, evp, evo, List.getElem?_toArray, List.getElem?_cons_succ, List.getElem?_cons_zero, Bool.false_eq_true, Bool.true_eq_false, beq_self_eq_true, beq_ft, beq_tf, notNil, Bool.not_true, Bool.not_false, reduceCtorEq, abuiltin, aextract, lB, build27z, spot_eql0] <;> exact rfl) (by decide) ?_
      refine WpO.callR (same_spec 0 H3 w v l' l tB tA' (by omega)) rfl (by simp only [runS, stepO, stepW, stepV, keep, guardOf, wantG, wantV, aop, binA, aev, flat, if_true, if_false, Option.bind_some, Option.map_some, Frm.put, look, setk, Nat.reduceLT, Nat.reduceEqDiff, evs, evp, evo, List.getElem?_toArray, List.getElem?_cons_succ, List.getElem?_cons_zero, Bool.false_eq_true, Bool.true_eq_false, beq_self_eq_true, beq_ft, beq_tf, notNil, Bool.not_true, Bool.not_false, reduceCtorEq, abuiltin, aextract, c10]) (by simp only [calleeOf, fnOf, List.append_nil, List.nil_append, runS, stepO, stepW, stepV, keep, guardOf, wantG, wantV, aop, binA, aev, flat, if_true, if_false, Option.bind_some, Option.map_some, Frm.put, look, setk, Nat.reduceLT, Nat.reduceEqDiff, evs, evp, evo, List.getElem?_toArray, List.getElem?_cons_succ, List.getElem?_cons_zero, Bool.false_eq_true, Bool.true_eq_false, beq_self_eq_true, beq_ft, beq_tf, notNil, Bool.not_true, Bool.not_false, reduceCtorEq, abuiltin, aextract, c10] <;> exact rfl) ?_
      rintro _ h9 ⟨rfl, hh9⟩
      obtain rfl := hh9.symm
      clear hh9
      refine ⟨_, _, rfl, by simp only [runS, stepO, stepW, stepV, keep, guardOf, wantG, wantV, aop, binA, aev, flat, if_true, if_false, Option.bind_some, Option.map_some, Frm.put, look, setk, Nat.reduceLT, Nat.reduceEqDiff, evs, evp, evo, List.getElem?_toArray, List.getElem?_cons_succ, List.getElem?_cons_zero, Bool.false_eq_true, Bool.true_eq_false, beq_self_eq_true, beq_ft, beq_tf, notNil, Bool.not_true, Bool.not_false, reduceCtorEq, abuiltin, aextract]; exact rfl, ?_⟩
      rw [hsame]
      refine WpO.runS 2 (by simp only [List.drop_succ_cons, List.drop_zero, List.take_succ_cons, List.take_zero, runS, stepO, stepW, stepV, keep, guardOf, wantG, wantV, aop, binA, aev, flat, if_true, if_false, Option.bind_some, Option.map_some, Frm.put, look, setk, Nat.reduceLT, Nat.reduceEqDiff, evs, evp, evo, List.getElem?_toArray, List.getElem?_cons_succ, List.getElem?_cons_zero, Bool.false_eq_true, Bool.true_eq_false, beq_self_eq_true, beq_ft, beq_tf, notNil, Bool.not_true, Bool.not_false, reduceCtorEq, abuiltin, aextract] <;> exact rfl) (by decide) ?_
      refine WpO.nil ?_
      dsimp only [after, leaving]
      repeat refine Wp.seq ?_
      refine Wp.ret ?_
      dsimp only [after, leaving]
      exact ⟨rfl, rfl, _, rfl, rfl⟩
end Go.Mini
