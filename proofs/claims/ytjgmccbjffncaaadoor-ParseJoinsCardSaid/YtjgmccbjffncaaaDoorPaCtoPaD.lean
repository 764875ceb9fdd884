/-
  Parts PaC to PaD.
-/
import Derived.Test.YtjgmccbjffncaaaDoorMiniYLtoV
import Derived.Test.YtjgmccbjffncaaaDoorPaAtoPaB
section
/-
  PARSE, part C: is, must, name, number, leads.
-/
set_option linter.unusedSimpArgs false
set_option maxHeartbeats 4000000
set_option maxRecDepth 100000
namespace Go.Mini
open Go.Proofs

theorem toks_rdAt {h : Heap} {i : Nat} {v : Value} {o : List Tok} {a e r : Nat} (hg : h.get i = some (rdRow v a e r)) (ho : Toks h v o) (hne : ∀ b l c, v = .slice (some ⟨b, 0, none⟩) l c → b ≠ i) (a' : Nat) : Toks (rdAt h i v e r a') v o := by
  rcases ho with h1 | ⟨b, r2, hb, hr, rfl⟩
  · exact .inl h1
  · exact .inr ⟨b, r2, by unfold rdAt; rw [Heap.get_set_ne (hne _ _ _ rfl)]; exact hb, hr, rfl⟩
theorem get_rdAt {h : Heap} {i : Nat} {v : Value} {a e r : Nat} (hg : h.get i = some (rdRow v a e r)) (a' : Nat) : (rdAt h i v e r a').get i = some (rdRow v a' e r) := Heap.get_set_self hg
theorem rdAt_rdAt (h : Heap) (i : Nat) (v : Value) (e r a a' : Nat) : rdAt (rdAt h i v e r a) i v e r a' = rdAt h i v e r a' := Heap.set_set _ _ _ _
theorem rdAt_self {h : Heap} {i : Nat} {v : Value} {a e r : Nat} (hg : h.get i = some (rdRow v a e r)) : rdAt h i v e r a = h := Heap.set_same hg
theorem but_rdAt {h H : Heap} {i : Nat} {v : Value} {e r a : Nat} (b : (rdAt h i v e r a).but i H) : h.but i H := by
  refine ⟨by have := b.1; rw [rdAt_next] at this; exact this, fun j hj hne => ?_⟩
  rw [b.2 j (by rw [rdAt_next]; exact hj) hne]
  unfold rdAt
  rw [Heap.get_set_ne hne]
/-- The reader and its tokens. -/
structure Rd (h : Heap) (i : Nat) (v : Value) (o : List Tok) (a e r : Nat) : Prop where
  g : h.get i = some (rdRow v a e r)
  t : Toks h v o
  ne : ∀ b l c, v = .slice (some ⟨b, 0, none⟩) l c → b ≠ i
theorem Rd.lt {h : Heap} {i : Nat} {v : Value} {o : List Tok} {a e r : Nat} (d : Rd h i v o a e r) : i < h.next := Heap.lt_of_get d.g
theorem Rd.at {h : Heap} {i : Nat} {v : Value} {o : List Tok} {a e r : Nat} (d : Rd h i v o a e r) (a' : Nat) : Rd (rdAt h i v e r a') i v o a' e r := ⟨get_rdAt d.g a', toks_rdAt d.g d.t d.ne a', d.ne⟩
theorem Rd.alloc {h : Heap} {i : Nat} {v : Value} {o : List Tok} {a e r : Nat} (d : Rd h i v o a e r) (x : AObj) : Rd (h.alloc x) i v o a e r := ⟨by rw [Heap.get_alloc_old _ _ d.lt]; exact d.g, d.t.more (Heap.more_alloc _ _), d.ne⟩
theorem alloc_rdAt {h : Heap} {i : Nat} {v : Value} {o : List Tok} {a e r : Nat} (d : Rd h i v o a e r) (a' : Nat) (x : AObj) : rdAt (h.alloc x) i v e r a' = (rdAt h i v e r a').alloc x := Heap.alloc_set h x _ d.lt

def isS (o : List Tok) (e k : Nat) (w : List UInt8) (a : Nat) : Bool := decide ((nextS o e a).kind = k) && decide ((nextS o e a).text = w)
theorem is_does (G : Nat) (B : Base Tryd.prog G) (h : Heap) (i : Nat) (v : Value) (o : List Tok) (a e r k : Nat) (w : List UInt8) (d : Rd h i v o a e r) (ha : a ≤ 1000000) :
    Does Tryd.prog G (GoodE Tryd.prog B) 55 [.pointer (some ⟨i, 0, none⟩), .int .i64 k, .string (bs w)] h fun x h' => x = .returned (.bool (isS o e k w a)) ∧ h' = if isS o e k w a then rdAt h i v e r (a + 1) else h := by
  have key : Does Tryd.prog G (GoodE Tryd.prog B) 55 [.pointer (some ⟨i, 0, none⟩), .int .i64 k, .string (bs w)] h (RdOut Value.bool h i v e r (.ok (isS o e k w a, if isS o e k w a then a + 1 else a))) := by
    refine RdRaw.out (fun _ => rfl) d.g d.t ?_
    have c13 : canEnter Tryd.prog 23 = true := by kernel_rfl
    have hi := d.lt
    refine Does.body Tryd.func55 rfl ?_
    have hn : enterF Tryd.f55 [.pointer (some ⟨i, 0, none⟩), .int .i64 k, .string (bs w)] = ⟨27, [(0, .pointer (some ⟨i, 0, none⟩)), (1, .int .i64 k), (2, .string (bs w))], []⟩ := rfl
    rw [hn]; clear hn
    repeat refine Wp.seq ?_
    refine Wp.runS (by simp only [bsf, abuiltin, aextract, Nat.reduceLT, Nat.reduceEqDiff, reduceCtorEq] <;> exact rfl) ?_
    dsimp only [after, leaving]
    repeat refine Wp.seq ?_
    refine Wp.regionAs (is := List.range' 0 1 ++ (1 :: (List.range' 2 2 ++ []))) rfl ?_
    refine WpO.runS 1 (by simp only [bsd, bsf, abuiltin, aextract, Nat.reduceLT, Nat.reduceEqDiff, reduceCtorEq] <;> exact rfl) (by decide) ?_
    refine WpO.callR (next_does G B h i v o a e r d.g d.t) rfl (by simp only [bsf, abuiltin, aextract, Nat.reduceLT, Nat.reduceEqDiff, reduceCtorEq, c13]) (by simp only [calleeOf, fnOf, List.append_nil, List.nil_append, bsf, abuiltin, aextract, Nat.reduceLT, Nat.reduceEqDiff, reduceCtorEq, c13] <;> exact rfl) ?_
    rintro _ h9 ⟨rfl, hh9⟩
    obtain rfl := hh9.symm
    clear hh9
    refine ⟨_, _, rfl, by simp only [bsf, abuiltin, aextract, Nat.reduceLT, Nat.reduceEqDiff, reduceCtorEq]; exact rfl, ?_⟩
    refine WpO.runS 2 (by simp only [bsd, bsf, abuiltin, aextract, Nat.reduceLT, Nat.reduceEqDiff, reduceCtorEq, alloc31, Heap.new, tok_put] <;> exact rfl) (by decide) ?_
    refine WpO.nil ?_
    dsimp only [after, leaving]
    unfold isS
    generalize nextS o e a = t
    have gy : (h.alloc t.row).get h.next = some t.row := Heap.get_alloc_new _ _
    have d1 := d.alloc t.row
    by_cases hk : t.kind = k
    · have hb : ((t.kind : Int) != (k : Int)) = false := by rw [hk]; simp
      by_cases hw : t.text = w
      · have hb2 : strEq (bs t.text) (bs w) = true := by rw [strEq_bs, hw]; simp
        repeat refine Wp.seq ?_
        refine Wp.runS (by simp only [bsf, abuiltin, aextract, Nat.reduceLT, Nat.reduceEqDiff, reduceCtorEq, t0, t1, Nat.zero_add, aload_cell agg3, aload_cell agg9, Heap.ld_of gy (k := 0) rfl, Heap.ld_of gy (k := 1) rfl, abin_int, ai_neq, hb, abin_str, abinS, hb2] <;> exact rfl) ?_
        dsimp only [after, leaving]
        repeat refine Wp.seq ?_
        refine Wp.condF (by simp only [bsf, abuiltin, aextract, Nat.reduceLT, Nat.reduceEqDiff, reduceCtorEq]) ?_
        repeat refine Wp.seq ?_
        refine Wp.skip ?_
        dsimp only [after, leaving]
        repeat refine Wp.seq ?_
        refine Wp.runS (by simp only [bsf, abuiltin, aextract, Nat.reduceLT, Nat.reduceEqDiff, reduceCtorEq, q1, Nat.zero_add, aload_cell agg3, Heap.ld_of d1.g (k := 1) rfl, abin_int, ai_add, wrap1 ha, rd_store d1.g] <;> exact rfl) ?_
        dsimp only [after, leaving]
        repeat refine Wp.seq ?_
        refine Wp.runS (by simp only [bsf, abuiltin, aextract, Nat.reduceLT, Nat.reduceEqDiff, reduceCtorEq] <;> exact rfl) ?_
        dsimp only [after, leaving]
        repeat refine Wp.seq ?_
        refine Wp.ret ?_
        dsimp only [after, leaving]
        simp only [decide_eq_true hk, decide_eq_true hw, Bool.and_self, if_true]
        refine ⟨trivial, trivial, _, rfl, rfl, by simp, fun j hj => ?_⟩
        show (rdAt (h.alloc t.row) i v e r (a + 1)).get j = _
        rw [alloc_rdAt d, Heap.get_alloc_old _ _ (by rw [rdAt_next]; exact hj)]
      · have hb2 : strEq (bs t.text) (bs w) = false := by rw [strEq_bs]; simp [hw]
        repeat refine Wp.seq ?_
        refine Wp.runS (by simp only [bsf, abuiltin, aextract, Nat.reduceLT, Nat.reduceEqDiff, reduceCtorEq, t0, t1, Nat.zero_add, aload_cell agg3, aload_cell agg9, Heap.ld_of gy (k := 0) rfl, Heap.ld_of gy (k := 1) rfl, abin_int, ai_neq, hb, abin_str, abinS, hb2] <;> exact rfl) ?_
        dsimp only [after, leaving]
        repeat refine Wp.seq ?_
        refine Wp.condT (by simp only [bsf, abuiltin, aextract, Nat.reduceLT, Nat.reduceEqDiff, reduceCtorEq]) ?_
        repeat refine Wp.seq ?_
        refine Wp.runS (by simp only [bsf, abuiltin, aextract, Nat.reduceLT, Nat.reduceEqDiff, reduceCtorEq] <;> exact rfl) ?_
        dsimp only [after, leaving]
        repeat refine Wp.seq ?_
        refine Wp.ret ?_
        dsimp only [after, leaving]
        simp only [decide_eq_false hw, Bool.and_false, Bool.false_eq_true, if_false]
        refine ⟨trivial, trivial, _, rfl, rfl, by simp, fun j hj => ?_⟩
        rw [rdAt_self d.g, Heap.get_alloc_old _ _ hj]
    · have hb : ((t.kind : Int) != (k : Int)) = true := by rw [bne_iff_ne]; omega
      repeat refine Wp.seq ?_
      refine Wp.runS (by simp only [bsf, abuiltin, aextract, Nat.reduceLT, Nat.reduceEqDiff, reduceCtorEq, t0, t1, Nat.zero_add, aload_cell agg3, aload_cell agg9, Heap.ld_of gy (k := 0) rfl, Heap.ld_of gy (k := 1) rfl, abin_int, ai_neq, hb] <;> exact rfl) ?_
      dsimp only [after, leaving]
      repeat refine Wp.seq ?_
      refine Wp.condT (by simp only [bsf, abuiltin, aextract, Nat.reduceLT, Nat.reduceEqDiff, reduceCtorEq]) ?_
      repeat refine Wp.seq ?_
      refine Wp.runS (by simp only [bsf, abuiltin, aextract, Nat.reduceLT, Nat.reduceEqDiff, reduceCtorEq] <;> exact rfl) ?_
      dsimp only [after, leaving]
      repeat refine Wp.seq ?_
      refine Wp.ret ?_
      dsimp only [after, leaving]
      simp only [decide_eq_false hk, Bool.false_and, Bool.false_eq_true, if_false]
      refine ⟨trivial, trivial, _, rfl, rfl, by simp, fun j hj => ?_⟩
      rw [rdAt_self d.g, Heap.get_alloc_old _ _ hj]
  refine key.mono ?_
  rintro x h' ⟨rfl, rfl⟩
  refine ⟨rfl, ?_⟩
  cases isS o e k w a with
  | true => rfl
  | false => exact rdAt_self d.g

theorem afield_tok3 (t : Tok) : afield Tryd.prog 65 t.val 3 = some (.int .i64 t.at') := by kernel_rfl
theorem afield_tok1 (t : Tok) : afield Tryd.prog 65 t.val 1 = some (.string (bs t.text)) := by kernel_rfl
def mustS (o : List Tok) (e k : Nat) (w : List UInt8) (a : Nat) : RdR Unit := if isS o e k w a then .ok ((), a + 1) else .error (6, (nextS o e a).at')
def unitV (_ : Unit) : Value := .tuple #[]
theorem must_does (G : Nat) (B : Base Tryd.prog G) (h : Heap) (i : Nat) (v : Value) (o : List Tok) (a e r k : Nat) (w : List UInt8) (d : Rd h i v o a e r) (ha : a ≤ 1000000) :
    Does Tryd.prog G (GoodE Tryd.prog B) 39 [.pointer (some ⟨i, 0, none⟩), .int .i64 k, .string (bs w)] h (RdOut unitV h i v e r (mustS o e k w a)) := by
  have c13 : canEnter Tryd.prog 23 = true := by kernel_rfl
  have c15 : canEnter Tryd.prog 25 = true := by kernel_rfl
  have c47 : canEnter Tryd.prog 55 = true := by kernel_rfl
  have hi := d.lt
  refine Does.body Tryd.func39 rfl ?_
  have hn : enterF Tryd.f39 [.pointer (some ⟨i, 0, none⟩), .int .i64 k, .string (bs w)] = ⟨15, [(0, .pointer (some ⟨i, 0, none⟩)), (1, .int .i64 k), (2, .string (bs w))], []⟩ := rfl
  rw [hn]; clear hn
  repeat refine Wp.seq ?_
  refine Wp.regionAs (is := List.range' 0 3 ++ (3 :: (List.range' 4 1 ++ []))) rfl ?_
  refine WpO.runS 3 (by simp only [bsd, bsf, abuiltin, aextract, Nat.reduceLT, Nat.reduceEqDiff, reduceCtorEq] <;> exact rfl) (by decide) ?_
  refine WpO.callR (is_does G B h i v o a e r k w d ha) rfl (by simp only [bsf, abuiltin, aextract, Nat.reduceLT, Nat.reduceEqDiff, reduceCtorEq, c47]) (by simp only [calleeOf, fnOf, List.append_nil, List.nil_append, bsf, abuiltin, aextract, Nat.reduceLT, Nat.reduceEqDiff, reduceCtorEq, c47] <;> exact rfl) ?_
  rintro _ h9 ⟨rfl, hh9⟩
  obtain rfl := hh9.symm
  clear hh9
  refine ⟨_, _, rfl, by simp only [bsf, abuiltin, aextract, Nat.reduceLT, Nat.reduceEqDiff, reduceCtorEq]; exact rfl, ?_⟩
  unfold mustS
  cases hs : isS o e k w a with
  | true =>
    simp only [if_true]
    refine WpO.runS 1 (by simp only [bsd, bsf, abuiltin, aextract, Nat.reduceLT, Nat.reduceEqDiff, reduceCtorEq, aun] <;> exact rfl) (by decide) ?_
    refine WpO.nil ?_
    dsimp only [after, leaving]
    repeat refine Wp.seq ?_
    refine Wp.condF (by simp only [bsf, abuiltin, aextract, Nat.reduceLT, Nat.reduceEqDiff, reduceCtorEq]) ?_
    repeat refine Wp.seq ?_
    refine Wp.skip ?_
    dsimp only [after, leaving]
    exact ⟨rfl, rfl, _, rfl, rfl, rfl⟩
  | false =>
    simp only [Bool.false_eq_true, if_false]
    refine WpO.runS 1 (by simp only [bsd, bsf, abuiltin, aextract, Nat.reduceLT, Nat.reduceEqDiff, reduceCtorEq, aun] <;> exact rfl) (by decide) ?_
    refine WpO.nil ?_
    dsimp only [after, leaving]
    repeat refine Wp.seq ?_
    refine Wp.condT (by simp only [bsf, abuiltin, aextract, Nat.reduceLT, Nat.reduceEqDiff, reduceCtorEq]) ?_
    repeat refine Wp.seq ?_
    refine Wp.regionAs (is := List.range' 0 1 ++ (1 :: (List.range' 2 1 ++ (3 :: [])))) rfl ?_
    refine WpO.runS 1 (by simp only [bsd, bsf, abuiltin, aextract, Nat.reduceLT, Nat.reduceEqDiff, reduceCtorEq] <;> exact rfl) (by decide) ?_
    refine WpO.callR (next_does G B h i v o a e r d.g d.t) rfl (by simp only [bsf, abuiltin, aextract, Nat.reduceLT, Nat.reduceEqDiff, reduceCtorEq, c13]) (by simp only [calleeOf, fnOf, List.append_nil, List.nil_append, bsf, abuiltin, aextract, Nat.reduceLT, Nat.reduceEqDiff, reduceCtorEq, c13] <;> exact rfl) ?_
    rintro _ h9 ⟨rfl, hh9⟩
    obtain rfl := hh9.symm
    clear hh9
    refine ⟨_, _, rfl, by simp only [bsf, abuiltin, aextract, Nat.reduceLT, Nat.reduceEqDiff, reduceCtorEq]; exact rfl, ?_⟩
    refine WpO.runS 1 (by simp only [bsd, bsf, abuiltin, aextract, Nat.reduceLT, Nat.reduceEqDiff, reduceCtorEq, afield_tok3] <;> exact rfl) (by decide) ?_
    refine WpO.callS rfl (by simp only [bsf, abuiltin, aextract, Nat.reduceLT, Nat.reduceEqDiff, reduceCtorEq, c15]) (by simp only [calleeOf, fnOf, List.append_nil, List.nil_append, bsf, abuiltin, aextract, Nat.reduceLT, Nat.reduceEqDiff, reduceCtorEq, c15] <;> exact rfl) ((fail_spec G h 6 (nextS o e a).at').mono ?_)
    intro x h2 hr
    obtain ⟨rfl, rfl⟩ := hr
    exact ⟨rfl, rfl, rfl, Nat.le_refl _, fun _ _ _ => rfl⟩
def nameRS (o : List Tok) (e k a : Nat) : RdR (List UInt8) := match takeS o e k a with
  | .error x => .error x
  | .ok (t, a') => if nameS t.text then .ok (t.text, a') else .error (6, t.at')
def strV (s : List UInt8) : Value := .string (bs s)
theorem name_does' (G : Nat) (h : Heap) (i : Nat) (v : Value) (o : List Tok) (a e r k : Nat) (d : Rd h i v o a e r) (ha : a ≤ 1000000) (hl : ∀ t ∈ o, t.text.length ≤ 1000000) :
    Does Tryd.prog G (GoodE Tryd.prog (baseM G)) 24 [.pointer (some ⟨i, 0, none⟩), .int .i64 k] h (RdOut strV h i v e r (nameRS o e k a)) := by
  refine RdRaw.out (fun _ => rfl) d.g d.t ?_
  have c16 : canEnter Tryd.prog 26 = true := by kernel_rfl
  have c15 : canEnter Tryd.prog 25 = true := by kernel_rfl
  have c28 : canEnter Tryd.prog 37 = true := by kernel_rfl
  have hi := d.lt
  refine Does.body Tryd.func24 rfl ?_
  have hn : enterF Tryd.f24 [.pointer (some ⟨i, 0, none⟩), .int .i64 k] = ⟨18, [(0, .pointer (some ⟨i, 0, none⟩)), (1, .int .i64 k)], []⟩ := rfl
  rw [hn]; clear hn
  repeat refine Wp.seq ?_
  refine Wp.runS (by simp only [bsf, abuiltin, aextract, Nat.reduceLT, Nat.reduceEqDiff, reduceCtorEq] <;> exact rfl) ?_
  dsimp only [after, leaving]
  repeat refine Wp.seq ?_
  refine Wp.regionAs (is := List.range' 0 2 ++ (2 :: (List.range' 3 2 ++ []))) rfl ?_
  refine WpO.runS 2 (by simp only [bsd, bsf, abuiltin, aextract, Nat.reduceLT, Nat.reduceEqDiff, reduceCtorEq] <;> exact rfl) (by decide) ?_
  refine WpO.callS rfl (by simp only [bsf, abuiltin, aextract, Nat.reduceLT, Nat.reduceEqDiff, reduceCtorEq, c16]) (by simp only [calleeOf, fnOf, List.append_nil, List.nil_append, bsf, abuiltin, aextract, Nat.reduceLT, Nat.reduceEqDiff, reduceCtorEq, c16] <;> exact rfl) ((take_does G (baseM G) h i v o a e r k d.g d.t ha).mono ?_)
  intro x h2 hr
  unfold nameRS
  cases ht : takeS o e k a with
  | error c =>
    obtain ⟨c, p⟩ := c
    rw [ht] at hr
    obtain ⟨rfl, hb⟩ := hr
    exact ⟨rfl, rfl, rfl, hb⟩
  | ok ta =>
    obtain ⟨t, a'⟩ := ta
    rw [ht] at hr
    obtain ⟨rfl, rfl⟩ := hr
    refine ⟨_, by simp only [bsf, abuiltin, aextract, Nat.reduceLT, Nat.reduceEqDiff, reduceCtorEq] <;> exact rfl, ?_⟩
    refine WpO.runS 2 (by simp only [bsd, bsf, abuiltin, aextract, Nat.reduceLT, Nat.reduceEqDiff, reduceCtorEq, alloc31, Heap.new, tok_put] <;> exact rfl) (by decide) ?_
    refine WpO.nil ?_
    dsimp only [after, leaving]
    have d2 := d.at a'
    have gy : ((rdAt h i v e r a').alloc t.row).get h.next = some t.row := by rw [← rdAt_next h i v e r a']; exact Heap.get_alloc_new _ _
    have htl : t.text.length ≤ 1000000 := by
      have hm : t = nextS o e a := by
        unfold takeS at ht
        split at ht
        · cases ht; rfl
        · cases ht
      subst hm
      unfold nextS
      cases hoa : o[a]? with
      | none => simp
      | some u => exact hl u (List.mem_of_getElem? hoa)
    repeat refine Wp.seq ?_
    refine Wp.regionAs (is := List.range' 0 2 ++ (2 :: (List.range' 3 1 ++ []))) rfl ?_
    refine WpO.runS 2 (by simp only [bsd, bsf, abuiltin, aextract, Nat.reduceLT, Nat.reduceEqDiff, reduceCtorEq, rdAt_next, t1, Nat.zero_add, aload_cell agg9, Heap.ld_of gy (k := 1) rfl] <;> exact rfl) (by decide) ?_
    refine WpO.callR (name_spec G ((rdAt h i v e r a').alloc t.row) t.text (by omega)) rfl (by simp only [bsf, abuiltin, aextract, Nat.reduceLT, Nat.reduceEqDiff, reduceCtorEq, c28]) (by simp only [calleeOf, fnOf, List.append_nil, List.nil_append, bsf, abuiltin, aextract, Nat.reduceLT, Nat.reduceEqDiff, reduceCtorEq, c28] <;> exact rfl) ?_
    rintro _ h9 ⟨rfl, hh9⟩
    obtain rfl := hh9.symm
    clear hh9
    refine ⟨_, _, rfl, by simp only [bsf, abuiltin, aextract, Nat.reduceLT, Nat.reduceEqDiff, reduceCtorEq]; exact rfl, ?_⟩
    cases hn : nameS t.text with
    | true =>
      simp only [if_true]
      refine WpO.runS 1 (by simp only [bsd, bsf, abuiltin, aextract, Nat.reduceLT, Nat.reduceEqDiff, reduceCtorEq, aun] <;> exact rfl) (by decide) ?_
      refine WpO.nil ?_
      dsimp only [after, leaving]
      repeat refine Wp.seq ?_
      refine Wp.condF (by simp only [bsf, abuiltin, aextract, Nat.reduceLT, Nat.reduceEqDiff, reduceCtorEq]) ?_
      repeat refine Wp.seq ?_
      refine Wp.skip ?_
      dsimp only [after, leaving]
      repeat refine Wp.seq ?_
      refine Wp.runS (by simp only [bsf, abuiltin, aextract, Nat.reduceLT, Nat.reduceEqDiff, reduceCtorEq, rdAt_next, t1, Nat.zero_add, aload_cell agg9, Heap.ld_of gy (k := 1) rfl] <;> exact rfl) ?_
      dsimp only [after, leaving]
      repeat refine Wp.seq ?_
      refine Wp.ret ?_
      dsimp only [after, leaving]
      exact ⟨rfl, rfl, _, rfl, rfl, by rw [Heap.next_alloc, rdAt_next]; omega, fun j hj => Heap.get_alloc_old _ _ (by rw [rdAt_next]; exact hj)⟩
    | false =>
      simp only [Bool.false_eq_true, if_false]
      refine WpO.runS 1 (by simp only [bsd, bsf, abuiltin, aextract, Nat.reduceLT, Nat.reduceEqDiff, reduceCtorEq, aun] <;> exact rfl) (by decide) ?_
      refine WpO.nil ?_
      dsimp only [after, leaving]
      repeat refine Wp.seq ?_
      refine Wp.condT (by simp only [bsf, abuiltin, aextract, Nat.reduceLT, Nat.reduceEqDiff, reduceCtorEq]) ?_
      repeat refine Wp.seq ?_
      refine Wp.regionAs (is := List.range' 0 2 ++ (2 :: [])) rfl ?_
      refine WpO.runS 2 (by simp only [bsd, bsf, abuiltin, aextract, Nat.reduceLT, Nat.reduceEqDiff, reduceCtorEq, rdAt_next, t3, Nat.zero_add, aload_cell agg3, Heap.ld_of gy (k := 3) rfl] <;> exact rfl) (by decide) ?_
      refine WpO.callS rfl (by simp only [bsf, abuiltin, aextract, Nat.reduceLT, Nat.reduceEqDiff, reduceCtorEq, c15]) (by simp only [calleeOf, fnOf, List.append_nil, List.nil_append, bsf, abuiltin, aextract, Nat.reduceLT, Nat.reduceEqDiff, reduceCtorEq, c15] <;> exact rfl) ((fail_spec G ((rdAt h i v e r a').alloc t.row) 6 t.at').mono ?_)
      intro x h2 hr
      obtain ⟨rfl, rfl⟩ := hr
      exact ⟨rfl, rfl, rfl, but_rdAt ((Heap.more_alloc _ _).but _)⟩
def numberS (o : List Tok) (e lo hi a : Nat) : RdR Nat := match takeS o e 3 a with
  | .error x => .error x
  | .ok (t, a') => if lo ≤ t.n ∧ t.n ≤ hi then .ok (t.n, a') else .error (5, t.at')
def natV (n : Nat) : Value := .int .i64 n
end Go.Mini
end
section
/-
  PARSE, part D: number, leads.
-/
set_option linter.unusedSimpArgs false
set_option maxHeartbeats 4000000
set_option maxRecDepth 100000
namespace Go.Mini
open Go.Proofs

theorem number_does (G : Nat) (B : Base Tryd.prog G) (h : Heap) (i : Nat) (v : Value) (o : List Tok) (a e r lo hi' : Nat) (d : Rd h i v o a e r) (ha : a ≤ 1000000) :
    Does Tryd.prog G (GoodE Tryd.prog B) 38 [.pointer (some ⟨i, 0, none⟩), .int .i64 lo, .int .i64 hi'] h (RdOut natV h i v e r (numberS o e lo hi' a)) := by
  refine RdRaw.out (fun _ => rfl) d.g d.t ?_
  have c16 : canEnter Tryd.prog 26 = true := by kernel_rfl
  have c15 : canEnter Tryd.prog 25 = true := by kernel_rfl
  have hi := d.lt
  refine Does.body Tryd.func38 rfl ?_
  have hn : enterF Tryd.f38 [.pointer (some ⟨i, 0, none⟩), .int .i64 lo, .int .i64 hi'] = ⟨25, [(0, .pointer (some ⟨i, 0, none⟩)), (1, .int .i64 lo), (2, .int .i64 hi')], []⟩ := rfl
  rw [hn]; clear hn
  repeat refine Wp.seq ?_
  refine Wp.runS (by simp only [bsf, abuiltin, aextract, Nat.reduceLT, Nat.reduceEqDiff, reduceCtorEq] <;> exact rfl) ?_
  dsimp only [after, leaving]
  repeat refine Wp.seq ?_
  refine Wp.regionAs (is := List.range' 0 1 ++ (1 :: (List.range' 2 2 ++ []))) rfl ?_
  refine WpO.runS 1 (by simp only [bsd, bsf, abuiltin, aextract, Nat.reduceLT, Nat.reduceEqDiff, reduceCtorEq] <;> exact rfl) (by decide) ?_
  refine WpO.callS rfl (by simp only [bsf, abuiltin, aextract, Nat.reduceLT, Nat.reduceEqDiff, reduceCtorEq, c16]) (by simp only [calleeOf, fnOf, List.append_nil, List.nil_append, bsf, abuiltin, aextract, Nat.reduceLT, Nat.reduceEqDiff, reduceCtorEq, c16] <;> exact rfl) ((take_does G B h i v o a e r 3 d.g d.t ha).mono ?_)
  intro x h2 hr
  unfold numberS
  cases ht : takeS o e 3 a with
  | error c =>
    obtain ⟨c, p⟩ := c
    rw [ht] at hr
    obtain ⟨rfl, hb⟩ := hr
    exact ⟨rfl, rfl, rfl, hb⟩
  | ok ta =>
    obtain ⟨t, a'⟩ := ta
    rw [ht] at hr
    obtain ⟨rfl, rfl⟩ := hr
    refine ⟨_, by simp only [bsf, abuiltin, aextract, Nat.reduceLT, Nat.reduceEqDiff, reduceCtorEq] <;> exact rfl, ?_⟩
    refine WpO.runS 2 (by simp only [bsd, bsf, abuiltin, aextract, Nat.reduceLT, Nat.reduceEqDiff, reduceCtorEq, alloc31, Heap.new, tok_put] <;> exact rfl) (by decide) ?_
    refine WpO.nil ?_
    dsimp only [after, leaving]
    have gy : ((rdAt h i v e r a').alloc t.row).get h.next = some t.row := by rw [← rdAt_next h i v e r a']; exact Heap.get_alloc_new _ _
    by_cases h1 : (t.n : Int) < (lo : Int)
    · rw [if_neg (by omega)]
      repeat refine Wp.seq ?_
      refine Wp.runS (by simp only [bsf, abuiltin, aextract, Nat.reduceLT, Nat.reduceEqDiff, reduceCtorEq, rdAt_next, t2, Nat.zero_add, aload_cell agg3, Heap.ld_of gy (k := 2) rfl, abin_int, ai_lss, decide_eq_true h1] <;> exact rfl) ?_
      dsimp only [after, leaving]
      repeat refine Wp.seq ?_
      refine Wp.condT (by simp only [bsf, abuiltin, aextract, Nat.reduceLT, Nat.reduceEqDiff, reduceCtorEq]) ?_
      repeat refine Wp.seq ?_
      refine Wp.regionAs (is := List.range' 0 2 ++ (2 :: [])) rfl ?_
      refine WpO.runS 2 (by simp only [bsd, bsf, abuiltin, aextract, Nat.reduceLT, Nat.reduceEqDiff, reduceCtorEq, rdAt_next, t3, Nat.zero_add, aload_cell agg3, Heap.ld_of gy (k := 3) rfl] <;> exact rfl) (by decide) ?_
      refine WpO.callS rfl (by simp only [bsf, abuiltin, aextract, Nat.reduceLT, Nat.reduceEqDiff, reduceCtorEq, c15]) (by simp only [calleeOf, fnOf, List.append_nil, List.nil_append, bsf, abuiltin, aextract, Nat.reduceLT, Nat.reduceEqDiff, reduceCtorEq, c15] <;> exact rfl) ((fail_spec G ((rdAt h i v e r a').alloc t.row) 5 t.at').mono ?_)
      intro x h2 hr
      obtain ⟨rfl, rfl⟩ := hr
      exact ⟨rfl, rfl, rfl, but_rdAt ((Heap.more_alloc _ _).but _)⟩
    · by_cases h2 : (hi' : Int) < (t.n : Int)
      · rw [if_neg (by omega)]
        repeat refine Wp.seq ?_
        refine Wp.runS (by simp only [bsf, abuiltin, aextract, Nat.reduceLT, Nat.reduceEqDiff, reduceCtorEq, rdAt_next, t2, Nat.zero_add, aload_cell agg3, Heap.ld_of gy (k := 2) rfl, abin_int, ai_lss, ai_gtr, decide_eq_false h1, decide_eq_true h2] <;> exact rfl) ?_
        dsimp only [after, leaving]
        repeat refine Wp.seq ?_
        refine Wp.condT (by simp only [bsf, abuiltin, aextract, Nat.reduceLT, Nat.reduceEqDiff, reduceCtorEq]) ?_
        repeat refine Wp.seq ?_
        refine Wp.regionAs (is := List.range' 0 2 ++ (2 :: [])) rfl ?_
        refine WpO.runS 2 (by simp only [bsd, bsf, abuiltin, aextract, Nat.reduceLT, Nat.reduceEqDiff, reduceCtorEq, rdAt_next, t3, Nat.zero_add, aload_cell agg3, Heap.ld_of gy (k := 3) rfl] <;> exact rfl) (by decide) ?_
        refine WpO.callS rfl (by simp only [bsf, abuiltin, aextract, Nat.reduceLT, Nat.reduceEqDiff, reduceCtorEq, c15]) (by simp only [calleeOf, fnOf, List.append_nil, List.nil_append, bsf, abuiltin, aextract, Nat.reduceLT, Nat.reduceEqDiff, reduceCtorEq, c15] <;> exact rfl) ((fail_spec G ((rdAt h i v e r a').alloc t.row) 5 t.at').mono ?_)
        intro x h2 hr
        obtain ⟨rfl, rfl⟩ := hr
        exact ⟨rfl, rfl, rfl, but_rdAt ((Heap.more_alloc _ _).but _)⟩
      · rw [if_pos (by omega)]
        repeat refine Wp.seq ?_
        refine Wp.runS (by simp only [bsf, abuiltin, aextract, Nat.reduceLT, Nat.reduceEqDiff, reduceCtorEq, rdAt_next, t2, Nat.zero_add, aload_cell agg3, Heap.ld_of gy (k := 2) rfl, abin_int, ai_lss, ai_gtr, decide_eq_false h1, decide_eq_false h2] <;> exact rfl) ?_
        dsimp only [after, leaving]
        repeat refine Wp.seq ?_
        refine Wp.condF (by simp only [bsf, abuiltin, aextract, Nat.reduceLT, Nat.reduceEqDiff, reduceCtorEq]) ?_
        repeat refine Wp.seq ?_
        refine Wp.skip ?_
        dsimp only [after, leaving]
        repeat refine Wp.seq ?_
        refine Wp.runS (by simp only [bsf, abuiltin, aextract, Nat.reduceLT, Nat.reduceEqDiff, reduceCtorEq, rdAt_next, t2, Nat.zero_add, aload_cell agg3, Heap.ld_of gy (k := 2) rfl] <;> exact rfl) ?_
        dsimp only [after, leaving]
        repeat refine Wp.seq ?_
        refine Wp.ret ?_
        dsimp only [after, leaving]
        exact ⟨rfl, rfl, _, rfl, rfl, by rw [Heap.next_alloc, rdAt_next]; omega, fun j hj => Heap.get_alloc_old _ _ (by rw [rdAt_next]; exact hj)⟩

def gotoB : List UInt8 := [103, 111, 116, 111]
def leadsS (o : List Tok) (e a : Nat) : RdR (List UInt8) := match mustS o e 1 gotoB a with
  | .error x => .error x
  | .ok (_, a') => nameRS o e 1 a'
theorem mustS_ok {o : List Tok} {e k : Nat} {w : List UInt8} {a a' : Nat} {u : Unit} (h : mustS o e k w a = .ok (u, a')) : a' = a + 1 ∧ isS o e k w a = true := by
  unfold mustS at h
  split at h
  · rename_i hs; cases h; exact ⟨rfl, hs⟩
  · cases h
theorem leads_does (G : Nat) (h : Heap) (i : Nat) (v : Value) (o : List Tok) (a e r : Nat) (d : Rd h i v o a e r) (ha : a + 1 ≤ 1000000) (hl : ∀ t ∈ o, t.text.length ≤ 1000000) :
    Does Tryd.prog G (GoodE Tryd.prog (baseM G)) 40 [.pointer (some ⟨i, 0, none⟩)] h (RdOut strV h i v e r (leadsS o e a)) := by
  have c30 : canEnter Tryd.prog 39 = true := by kernel_rfl
  have c14 : canEnter Tryd.prog 24 = true := by kernel_rfl
  have hi := d.lt
  refine Does.body Tryd.func40 rfl ?_
  have hn : enterF Tryd.f40 [.pointer (some ⟨i, 0, none⟩)] = ⟨7, [(0, .pointer (some ⟨i, 0, none⟩))], []⟩ := rfl
  rw [hn]; clear hn
  repeat refine Wp.seq ?_
  refine Wp.runS (by simp only [bsf, abuiltin, aextract, Nat.reduceLT, Nat.reduceEqDiff, reduceCtorEq] <;> exact rfl) ?_
  dsimp only [after, leaving]
  repeat refine Wp.seq ?_
  refine Wp.regionAs (is := List.range' 0 1 ++ (1 :: [])) rfl ?_
  refine WpO.runS 1 (by simp only [bsd, bsf, abuiltin, aextract, Nat.reduceLT, Nat.reduceEqDiff, reduceCtorEq] <;> exact rfl) (by decide) ?_
  refine WpO.callS rfl (by simp only [bsf, abuiltin, aextract, Nat.reduceLT, Nat.reduceEqDiff, reduceCtorEq, c30]) (by simp only [calleeOf, fnOf, List.append_nil, List.nil_append, bsf, abuiltin, aextract, Nat.reduceLT, Nat.reduceEqDiff, reduceCtorEq, c30] <;> exact rfl) ((must_does G (baseM G) h i v o a e r 1 gotoB d (by omega)).mono ?_)
  intro x h2 hr
  unfold leadsS
  cases hm : mustS o e 1 gotoB a with
  | error c =>
    obtain ⟨c, p⟩ := c
    rw [hm] at hr
    obtain ⟨rfl, hb⟩ := hr
    exact ⟨rfl, rfl, rfl, hb⟩
  | ok ua =>
    obtain ⟨u, a'⟩ := ua
    rw [hm] at hr
    obtain ⟨rfl, rfl⟩ := hr
    obtain ⟨rfl, _⟩ := mustS_ok hm
    refine ⟨_, by simp only [bsf, abuiltin, aextract, Nat.reduceLT, Nat.reduceEqDiff, reduceCtorEq] <;> exact rfl, ?_⟩
    refine WpO.nil ?_
    dsimp only [after, leaving]
    have d2 := d.at (a + 1)
    repeat refine Wp.seq ?_
    refine Wp.regionAs (is := List.range' 0 1 ++ (1 :: (List.range' 2 1 ++ []))) rfl ?_
    refine WpO.runS 1 (by simp only [bsd, bsf, abuiltin, aextract, Nat.reduceLT, Nat.reduceEqDiff, reduceCtorEq] <;> exact rfl) (by decide) ?_
    refine WpO.callS rfl (by simp only [bsf, abuiltin, aextract, Nat.reduceLT, Nat.reduceEqDiff, reduceCtorEq, c14]) (by simp only [calleeOf, fnOf, List.append_nil, List.nil_append, bsf, abuiltin, aextract, Nat.reduceLT, Nat.reduceEqDiff, reduceCtorEq, c14] <;> exact rfl) ((name_does' G (rdAt h i v e r (a + 1)) i v o (a + 1) e r 1 d2 ha hl).mono ?_)
    intro x h3 hr
    cases hn : nameRS o e 1 (a + 1) with
    | error c =>
      obtain ⟨c, p⟩ := c
      rw [hn] at hr
      obtain ⟨rfl, hb⟩ := hr
      exact ⟨rfl, rfl, rfl, but_rdAt hb⟩
    | ok sa =>
      obtain ⟨s, a''⟩ := sa
      rw [hn] at hr
      obtain ⟨rfl, rfl⟩ := hr
      refine ⟨_, by simp only [bsf, abuiltin, aextract, Nat.reduceLT, Nat.reduceEqDiff, reduceCtorEq] <;> exact rfl, ?_⟩
      refine WpO.runS 1 (by simp only [bsd, bsf, abuiltin, aextract, Nat.reduceLT, Nat.reduceEqDiff, reduceCtorEq] <;> exact rfl) (by decide) ?_
      refine WpO.nil ?_
      dsimp only [after, leaving]
      repeat refine Wp.seq ?_
      refine Wp.ret ?_
      dsimp only [after, leaving]
      exact ⟨rfl, rfl, _, rfl, rfl, rdAt_rdAt _ _ _ _ _ _ _⟩
end Go.Mini
end
