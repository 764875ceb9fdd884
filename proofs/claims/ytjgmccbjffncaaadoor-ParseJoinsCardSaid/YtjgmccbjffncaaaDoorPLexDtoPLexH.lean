/-
  Parts PLexD to PLexH.
-/
import Derived.Test.YtjgmccbjffncaaaDoorMiniYLtoV
import Derived.Test.YtjgmccbjffncaaaDoorPLexAtoPLexC
import Derived.Test.YtjgmccbjffncaaaDoorMiniOtoYK
import Derived.Test.YtjgmccbjffncaaaDoorPLexG
section
/-
  LEX, part D: run: bytes that may be.
-/
set_option linter.unusedSimpArgs false
set_option maxHeartbeats 4000000
set_option maxRecDepth 100000
set_option maxRecDepth 100000
namespace Go.Mini
open Go.Proofs

/-- The bytes from a place on that may be, at most so many. -/
def runP (p : UInt8 → Bool) (most : Nat) (T : List UInt8) (at' : Nat) : List UInt8 × Bool × Nat :=
  if most < ((T.drop at').takeWhile p).length then ([], false, at' + most) else ((T.drop at').takeWhile p, true, at' + ((T.drop at').takeWhile p).length)
theorem takeWhile_at (p : UInt8 → Bool) : ∀ (l : List UInt8) (j : Nat), j < (l.takeWhile p).length → ∃ b, l[j]? = some b ∧ p b = true
  | [], j, h => by simp at h
  | x :: l, j, h => by
    rw [List.takeWhile_cons] at h
    split at h
    · rename_i hx
      cases j with
      | zero => exact ⟨x, rfl, hx⟩
      | succ j => exact takeWhile_at p l j (by simpa using h)
    · simp at h
theorem takeWhile_end (p : UInt8 → Bool) : ∀ (l : List UInt8), l[(l.takeWhile p).length]? = none ∨ ∃ b, l[(l.takeWhile p).length]? = some b ∧ p b = false
  | [] => .inl rfl
  | x :: l => by
    rw [List.takeWhile_cons]
    split
    · simpa using takeWhile_end p l
    · rename_i hx
      exact .inr ⟨x, rfl, by simpa using hx⟩
theorem storeAt {h : Heap} {i : Nat} {T : List UInt8} {a b : Nat} {out : Value} (hg : h.get i = some (readerRow T a out)) :
    astore Tryd.prog h 3 (.pointer (some ⟨i, 1, none⟩)) (.int .i64 (b : Nat)) = some (h.set i (readerRow T b out)) := by
  rw [astore_cell sz3 rfl, Heap.sts_of hg (by simp) rfl rfl]
  rfl

theorem run_spec {E : EXT} (G : Nat) (h : Heap) (i : Nat) (T : List UInt8) (at' most : Nat) (out : Value) (g : FuncId) (p : UInt8 → Bool) (hT : T.length ≤ 1000000) (hat : at' ≤ T.length) (hm : most ≤ 1000000) (hg : h.get i = some (readerRow T at' out))
    (hc : canEnter Tryd.prog g = true) (hp : ∀ b h, Does Tryd.prog G E g [byteV b] h (fun r h' => r = .returned (.bool (p b)) ∧ h' = h)) :
    Does Tryd.prog G E 50 [.pointer (some ⟨i, 0, none⟩), .int .i64 most, .func (.func g) #[] #[]] h (fun r h' => r = .returned (.tuple #[.string (bs (runP p most T at').1), .bool (runP p most T at').2.1]) ∧ h' = h.set i (readerRow T (runP p most T at').2.2 out)) := by
  refine Does.body Tryd.func50 rfl ?_
  have hn : enterF Tryd.f50 [.pointer (some ⟨i, 0, none⟩), .int .i64 most, .func (.func g) #[] #[]] = ⟨61, [(0, .pointer (some ⟨i, 0, none⟩)), (1, .int .i64 most), (2, .func (.func g) #[] #[])], []⟩ := rfl
  rw [hn]; clear hn
  repeat refine Wp.seq ?_
  refine Wp.runS (by simp only [bsf, abuiltin, aextract, Nat.reduceLT, Nat.reduceEqDiff, reduceCtorEq] <;> exact rfl) ?_
  dsimp only [after, leaving]
  repeat refine Wp.seq ?_
  refine Wp.runS (by simp only [bsf, abuiltin, aextract, Nat.reduceLT, Nat.reduceEqDiff, reduceCtorEq, r1, Nat.zero_add, aload_cell agg3, Heap.ld_of hg (k := 1) rfl] <;> exact rfl) ?_
  dsimp only [after, leaving]
  generalize hw : (T.drop at').takeWhile p = w
  have hwl : w.length ≤ T.length - at' := by
    rw [← hw]
    have := (List.takeWhile_prefix p (l := T.drop at')).length_le
    rwa [List.length_drop] at this
  have hin : ∀ j, j < w.length → ∃ b, T[at' + j]? = some b ∧ p b = true := by
    intro j hj
    obtain ⟨b, h1, h2⟩ := takeWhile_at p (T.drop at') j (by rw [hw]; exact hj)
    exact ⟨b, by rw [← List.getElem?_drop]; exact h1, h2⟩
  have hend : T.length ≤ at' + w.length ∨ ∃ b, T[at' + w.length]? = some b ∧ p b = false := by
    have := takeWhile_end p (T.drop at')
    rw [hw, List.getElem?_drop] at this
    rcases this with h1 | h1
    · exact .inl (List.getElem?_eq_none_iff.1 h1)
    · exact .inr h1
  refine Wp.join (fun fr u h' => u = none ∧ w.length ≤ most ∧ h' = h.set i (readerRow T (at' + w.length) out) ∧ ∃ s, fr = ⟨61, s, []⟩ ∧ look 0 s = some (.pointer (some ⟨i, 0, none⟩)) ∧ look 8 s = some (.int .i64 (at' : Nat))) ?_ ?_
  · rintro fr u h' ⟨rfl, hle, rfl, s, rfl, s0, s8⟩
    refine Wp.weaken (fr' := ⟨61, [(0, .pointer (some ⟨i, 0, none⟩)), (8, .int .i64 (at' : Nat))], []⟩) (Frm.le_of ⟨s0, s8, trivial⟩) ?_
    have hg' : (h.set i (readerRow T (at' + w.length) out)).get i = some (readerRow T (at' + w.length) out) := Heap.get_set_self hg
    have hr : runP p most T at' = (w, true, at' + w.length) := by unfold runP; rw [hw, if_neg (by omega)]
    have hsl : ∀ H, aslice Tryd.prog H 9 (.string (bs T)) (some (.int .i64 (at' : Int))) (some (.int .i64 ((at' + w.length : Nat) : Int))) none = some (.string (bs w), H) := by
      intro H
      rw [aslice_str2 Tryd.underlying9 (by omega) (by omega) (by simp only [bs_size]; omega), Int.toNat_natCast, Int.toNat_natCast, bs_extract, Nat.add_sub_cancel_left]
      have : (T.drop at').take w.length = w := by
        have h1 := List.prefix_iff_eq_take.1 (List.takeWhile_prefix p (l := T.drop at'))
        rw [hw] at h1
        exact h1.symm
      rw [this]
    repeat refine Wp.seq ?_
    refine Wp.runSD mixed (by kernel_rfl) (by simp only [runSD, stepOD, stepWD, stepVD, isLoud, isPure, isReader, decide_true, bsb, bsf, abuiltin, aextract, Nat.reduceLT, Nat.reduceEqDiff, reduceCtorEq, r0, r1, Nat.zero_add, aload_cell agg3, aload_cell agg9, Heap.ld_of hg' (k := 0) rfl, Heap.ld_of hg' (k := 1) rfl, hsl] <;> exact rfl) ?_
    dsimp only [after, leaving]
    repeat refine Wp.seq ?_
    refine Wp.ret ?_
    dsimp only [after, leaving]
    exact ⟨rfl, rfl, _, rfl, by rw [hr], by rw [hr]⟩
  · refine Wp.block ?_
    refine Wp.loopI (X := Nat) (fun j => [(0, .pointer (some ⟨i, 0, none⟩)), (1, .int .i64 most), (2, .func (.func g) #[] #[]), (8, .int .i64 (at' : Nat))]) (fun j => h.set i (readerRow T (at' + j) out))
      (fun j => j ≤ w.length ∧ j ≤ most) (fun j => w.length - j) 0 ⟨by omega, by omega⟩ ⟨rfl, rfl, rfl, rfl, trivial⟩ (Heap.set_same hg) ?_
    rintro j ⟨hj, hjm⟩
    have hgj : (h.set i (readerRow T (at' + j) out)).get i = some (readerRow T (at' + j) out) := Heap.get_set_self hg
    generalize hH : h.set i (readerRow T (at' + j) out) = H at hgj ⊢
    by_cases hlt : ((at' + j : Nat) : Int) < (T.length : Int)
    · obtain ⟨b, hb⟩ : ∃ b, T[at' + j]? = some b := ⟨_, List.getElem?_eq_getElem (by omega)⟩
      repeat refine Wp.seq ?_
      refine Wp.drawAs [] [] 0 (fun _ => True) mixed (by kernel_rfl) trivial ?_
      refine DrT.run 21 (by simp only [List.take_succ_cons, List.take_zero, runSD, stepOD, stepWD, stepVD, isLoud, isPure, isReader, isEqOp, isConstO, decide_true, bsb, bsf, abuiltin, aextract, Nat.reduceLT, Nat.reduceEqDiff, reduceCtorEq, r0, r1, Nat.zero_add, aload_cell agg3, aload_cell agg9, Heap.ld_of hgj (k := 0) rfl, Heap.ld_of hgj (k := 1) rfl, alen_str Tryd.underlying9, bs_size, abin_int, ai_lss, decide_eq_true hlt, aindex_bs Tryd.underlying9 hb] <;> exact rfl) rfl ?_
      try simp only [List.drop_succ_cons, List.drop_zero]
      refine DrT.call (hp b H) rfl rfl (by simp only [bsf, abuiltin, aextract, Nat.reduceLT, Nat.reduceEqDiff, reduceCtorEq]) (by simp only [calleeOf, fnOf, List.append_nil, List.nil_append, bsf, abuiltin, aextract, Nat.reduceLT, Nat.reduceEqDiff, reduceCtorEq, hc] <;> exact rfl) ?_
      rintro _ h9 ⟨rfl, hh9⟩
      obtain rfl := hh9.symm
      clear hh9
      refine ⟨_, _, rfl, fun _ => trivial, by simp only [bsf, abuiltin, aextract, Nat.reduceLT, Nat.reduceEqDiff, reduceCtorEq]; exact rfl, ?_⟩
      cases hpb : p b with
      | true =>
        have hjw : j < w.length := by
          rcases Nat.lt_or_ge j w.length with q | q
          · exact q
          · obtain rfl : j = w.length := by omega
            rcases hend with q2 | ⟨b2, q2, q3⟩
            · omega
            · rw [hb] at q2; cases q2; rw [hpb] at q3; cases q3
        refine DrT.run 1 (by simp only [List.take_succ_cons, List.take_zero, runSD, stepOD, stepWD, stepVD, isLoud, isPure, isReader, isEqOp, isConstO, decide_true, bsb, bsf, abuiltin, aextract, Nat.reduceLT, Nat.reduceEqDiff, reduceCtorEq] <;> exact rfl) rfl ?_
        try simp only [List.drop_succ_cons, List.drop_zero]
        refine DrT.nil ?_
        dsimp only [after, leaving]
        repeat refine Wp.seq ?_
        refine Wp.condT (by simp only [bsf, abuiltin, aextract, Nat.reduceLT, Nat.reduceEqDiff, reduceCtorEq]) ?_
        repeat refine Wp.seq ?_
        refine Wp.skip ?_
        dsimp only [after, leaving]
        repeat refine Wp.seq ?_
        refine Wp.block ?_
        have hws : IntKind.i64.wrap (((at' + j : Nat) : Int) - (at' : Int)) = (j : Int) := by rw [wrap_in (by omega) (by omega)]; omega
        by_cases hjm2 : j = most
        · have he : ((j : Int) == (most : Int)) = true := by simp [hjm2]
          repeat refine Wp.seq ?_
          refine Wp.runS (by simp only [bsf, abuiltin, aextract, Nat.reduceLT, Nat.reduceEqDiff, reduceCtorEq, r1, Nat.zero_add, aload_cell agg3, Heap.ld_of hgj (k := 1) rfl, abin_int, ai_sub, hws, ai_eql, he] <;> exact rfl) ?_
          dsimp only [after, leaving]
          repeat refine Wp.seq ?_
          refine Wp.condT (by simp only [bsf, abuiltin, aextract, Nat.reduceLT, Nat.reduceEqDiff, reduceCtorEq]) ?_
          repeat refine Wp.seq ?_
          refine Wp.runS (by simp only [bsf, abuiltin, aextract, Nat.reduceLT, Nat.reduceEqDiff, reduceCtorEq] <;> exact rfl) ?_
          dsimp only [after, leaving]
          repeat refine Wp.seq ?_
          refine Wp.ret ?_
          dsimp only [after, leaving]
          have hr : runP p most T at' = ([], false, at' + most) := by unfold runP; rw [hw, if_pos (by omega)]
          exact ⟨rfl, rfl, _, rfl, by rw [hr]; rfl, by rw [hr, ← hH, hjm2]⟩
        · have he : ((j : Int) == (most : Int)) = false := by simp; omega
          repeat refine Wp.seq ?_
          refine Wp.runS (by simp only [bsf, abuiltin, aextract, Nat.reduceLT, Nat.reduceEqDiff, reduceCtorEq, r1, Nat.zero_add, aload_cell agg3, Heap.ld_of hgj (k := 1) rfl, abin_int, ai_sub, hws, ai_eql, he] <;> exact rfl) ?_
          dsimp only [after, leaving]
          repeat refine Wp.seq ?_
          refine Wp.condF (by simp only [bsf, abuiltin, aextract, Nat.reduceLT, Nat.reduceEqDiff, reduceCtorEq]) ?_
          repeat refine Wp.seq ?_
          refine Wp.skip ?_
          dsimp only [after, leaving]
          have hwa : IntKind.i64.wrap (((at' + j : Nat) : Int) + 1) = ((at' + (j + 1) : Nat) : Int) := by rw [wrap_in (by omega) (by omega)]; omega
          repeat refine Wp.seq ?_
          refine Wp.runS (by simp only [bsf, abuiltin, aextract, Nat.reduceLT, Nat.reduceEqDiff, reduceCtorEq, r1, Nat.zero_add, aload_cell agg3, Heap.ld_of hgj (k := 1) rfl, abin_int, ai_add, hwa, storeAt hgj] <;> exact rfl) ?_
          dsimp only [after, leaving]
          refine ⟨j + 1, _, ⟨by omega, by omega⟩, by omega, rfl, ⟨rfl, rfl, rfl, rfl, trivial⟩, rfl, ?_⟩
          rw [← hH, Heap.set_set]
      | false =>
        have hjw : j = w.length := by
          rcases Nat.lt_or_ge j w.length with q | q
          · obtain ⟨b2, q2, q3⟩ := hin j q
            rw [hb] at q2; cases q2; rw [hpb] at q3; cases q3
          · omega
        refine DrT.run 1 (by simp only [List.take_succ_cons, List.take_zero, runSD, stepOD, stepWD, stepVD, isLoud, isPure, isReader, isEqOp, isConstO, decide_true, bsb, bsf, abuiltin, aextract, Nat.reduceLT, Nat.reduceEqDiff, reduceCtorEq] <;> exact rfl) rfl ?_
        try simp only [List.drop_succ_cons, List.drop_zero]
        refine DrT.nil ?_
        dsimp only [after, leaving]
        repeat refine Wp.seq ?_
        refine Wp.condF (by simp only [bsf, abuiltin, aextract, Nat.reduceLT, Nat.reduceEqDiff, reduceCtorEq]) ?_
        repeat refine Wp.seq ?_
        refine Wp.exit ?_
        simp only [after, leaving, blockExit, if_true, if_false, Nat.reduceEqDiff]
        exact ⟨trivial, by omega, by rw [← hH, hjw], _, rfl, rfl, rfl⟩
    · repeat refine Wp.seq ?_
      refine Wp.runSD mixed (by kernel_rfl) (by simp only [runSD, stepOD, stepWD, stepVD, isLoud, isPure, isReader, decide_true, bsb, bsf, abuiltin, aextract, Nat.reduceLT, Nat.reduceEqDiff, reduceCtorEq, r0, r1, Nat.zero_add, aload_cell agg3, aload_cell agg9, Heap.ld_of hgj (k := 0) rfl, Heap.ld_of hgj (k := 1) rfl, alen_str Tryd.underlying9, bs_size, abin_int, ai_lss, decide_eq_false hlt] <;> exact rfl) ?_
      dsimp only [after, leaving]
      repeat refine Wp.seq ?_
      refine Wp.condF (by simp only [bsf, abuiltin, aextract, Nat.reduceLT, Nat.reduceEqDiff, reduceCtorEq]) ?_
      repeat refine Wp.seq ?_
      refine Wp.exit ?_
      simp only [after, leaving, blockExit, if_true, if_false, Nat.reduceEqDiff]
      have hjw : j = w.length := by omega
      exact ⟨trivial, by omega, by rw [← hH, hjw], _, rfl, rfl, rfl⟩
end Go.Mini
end
section
/-
  LEX, part H: a token.
-/
set_option linter.unusedSimpArgs false
set_option maxHeartbeats 8000000
set_option maxRecDepth 100000
set_option maxRecDepth 100000
namespace Go.Mini
open Go.Proofs

/-- A token: its kind, its text, its number, its place. -/
structure Tok where
  kind : Nat
  text : List UInt8
  n : Nat
  at' : Nat
def Tok.cells (t : Tok) : List Value := [.int .i64 t.kind, .string (bs t.text), .int .i64 t.n, .int .i64 t.at']
def Tok.row (t : Tok) : AObj := .row { vs := t.cells, elem := 65 }
def Tok.val (t : Tok) : Value := .agg t.cells.toArray
def numOf (w : List UInt8) : Nat := w.foldl (fun n b => 10 * n + (b.toNat - 48)) 0
def blankB (b : UInt8) : Bool := b.toNat == 32 || b.toNat == 9 || b.toNat == 10
/-- What begins at a place: kind, text, number, the place behind; or an error, and its place. -/
def tokBody (T : List UInt8) (a : Nat) : Except (Nat × Nat) (Nat × List UInt8 × Nat × Nat) :=
  let b := peekB T a
  if 97 ≤ b.toNat ∧ b.toNat ≤ 122 then
    let r := runP smallB 16 T a
    if r.2.1 then (if peekB T r.2.2 = 58 then .ok (2, r.1, 0, r.2.2 + 1) else .ok (1, r.1, 0, r.2.2)) else .error (3, r.2.2)
  else if b = 48 then .ok (3, [], 0, a + 1)
  else if 49 ≤ b.toNat ∧ b.toNat ≤ 57 then
    let r := runP digitB 4 T a
    if r.2.1 then .ok (3, [], numOf r.1, r.2.2) else .error (3, r.2.2)
  else if b = 34 then
    match scanQ 64 (T.drop a) with
    | .ok s k => .ok (4, s, 0, a + (k + 1))
    | .bad k => .error (6, a + k)
    | .long k => .error (3, a + k)
  else if b = 60 ∨ b = 123 ∨ b = 125 then .ok (5, [b], 0, a + 1)
  else .error (6, a)
def tokS (T : List UInt8) (a : Nat) : Except (Nat × Nat) (Tok × Nat) :=
  match tokBody T a with
  | .error e => .error e
  | .ok (kd, s, n, to) => if blankB (peekB T to) then .ok (⟨kd, s, n, a⟩, to) else .error (6, to)

theorem t0 (i k : Nat) : afieldAddr Tryd.prog 65 (.pointer (some ⟨i, k, none⟩)) 0 = some (.pointer (some ⟨i, k, none⟩)) := afieldAddr_eq (f := 0) (o := 0) Tryd.underlying65 (by rfl) (s := 0) (by kernel_rfl) i k
theorem t1 (i k : Nat) : afieldAddr Tryd.prog 65 (.pointer (some ⟨i, k, none⟩)) 1 = some (.pointer (some ⟨i, k + 1, none⟩)) := afieldAddr_eq Tryd.underlying65 (by rfl) (s := 0) (by kernel_rfl) i k
theorem t2 (i k : Nat) : afieldAddr Tryd.prog 65 (.pointer (some ⟨i, k, none⟩)) 2 = some (.pointer (some ⟨i, k + 2, none⟩)) := afieldAddr_eq Tryd.underlying65 (by rfl) (s := 0) (by kernel_rfl) i k
theorem s0 (i k : Nat) : afieldAddr Tryd.prog 31 (.pointer (some ⟨i, k, none⟩)) 0 = some (.pointer (some ⟨i, k, none⟩)) := afieldAddr_eq (f := 0) (o := 0) Tryd.underlying31 (by rfl) (s := 0) (by kernel_rfl) i k
theorem s1 (i k : Nat) : afieldAddr Tryd.prog 31 (.pointer (some ⟨i, k, none⟩)) 1 = some (.pointer (some ⟨i, k + 1, none⟩)) := afieldAddr_eq Tryd.underlying31 (by rfl) (s := 0) (by kernel_rfl) i k
theorem sz31 : (Tryd.prog.info? 65).map (·.size) = some 4 := by kernel_rfl
theorem agg31 : Program.agg Tryd.prog 65 = some true := by kernel_rfl
theorem agg25 : Program.agg Tryd.prog 29 = some false := by kernel_rfl
theorem alloc31 (h : Heap) : aalloc Tryd.prog h 65 = some (h.new, h.alloc (Tok.row ⟨0, [], 0, 0⟩)) := aalloc_eq (z := Tok.val ⟨0, [], 0, 0⟩) (by kernel_rfl) rfl
theorem build31 (a : Nat) : abuild Tryd.prog 65 [(3, .int .i64 a)] = some (Tok.val ⟨0, [], 0, a⟩) := by kernel_rfl
section
variable {H : Heap} {j : Nat} {t : Tok} (g : H.get j = some t.row)
include g
theorem tok_kind (k : Nat) : astore Tryd.prog H 3 (.pointer (some ⟨j, 0, none⟩)) (.int .i64 k) = some (H.set j (Tok.row { t with kind := k })) := by
  rw [astore_cell sz3 rfl, Heap.sts_of g (by simp [Tok.cells]) rfl rfl]; rfl
theorem tok_kind' (k : Nat) (z : Int) (hz : (k : Int) = z) : astore Tryd.prog H 3 (.pointer (some ⟨j, 0, none⟩)) (.int .i64 z) = some (H.set j (Tok.row { t with kind := k })) := by
  subst hz; exact tok_kind g k
theorem tok_text (s : List UInt8) : astore Tryd.prog H 9 (.pointer (some ⟨j, 0 + 1, none⟩)) (.string (bs s)) = some (H.set j (Tok.row { t with text := s })) := by
  rw [astore_cell sz9 rfl, Heap.sts_of g (by simp [Tok.cells]) rfl rfl]; rfl
theorem tok_n (n : Nat) : astore Tryd.prog H 3 (.pointer (some ⟨j, 0 + 2, none⟩)) (.int .i64 n) = some (H.set j (Tok.row { t with n := n })) := by
  rw [astore_cell sz3 rfl, Heap.sts_of g (by simp [Tok.cells]) rfl rfl]; rfl
theorem tok_all (u : Tok) : astore Tryd.prog H 65 (.pointer (some ⟨j, 0, none⟩)) u.val = some (H.set j u.row) := by
  have := astore_agg (P := Tryd.prog) (h := H) (i := j) (k := 0) (cs := u.cells) sz31 rfl rfl
  unfold Tok.val
  rw [this, Heap.sts_of g (by simp [Tok.cells]) rfl rfl]; rfl
theorem tok_load : aload Tryd.prog H 65 (.pointer (some ⟨j, 0, none⟩)) = some t.val := by
  rw [aload_agg agg31 sz31, Heap.lds_of g (by simp [Tok.cells])]; rfl
end

/-- What holds while a token is read. -/
structure TokSt (h H : Heap) (i : Nat) (T : List UInt8) (a : Nat) (out : Value) (x y : Tok) : Prop where
  r : H.get i = some (readerRow T a out)
  x : H.get h.next = some x.row
  y : H.get (h.next + 1) = some y.row
  lt : i < h.next
  but : h.but i H
theorem but_set_new {h H : Heap} {i : Nat} (b : h.but i H) {j : Nat} (hj : h.next ≤ j) (o : AObj) : h.but i (H.set j o) := ⟨by simpa using b.1, fun l hl hne => by rw [Heap.get_set_ne (by omega)]; exact b.2 l hl hne⟩
theorem but_set_at {h H : Heap} {i : Nat} (b : h.but i H) (o : AObj) : h.but i (H.set i o) := ⟨by simpa using b.1, fun l hl hne => by rw [Heap.get_set_ne hne]; exact b.2 l hl hne⟩
theorem but_alloc {h H : Heap} {i : Nat} (b : h.but i H) (o : AObj) : h.but i (H.alloc o) := ⟨by have := b.1; simp; omega, fun l hl hne => by rw [Heap.get_alloc_old _ _ (by have := b.1; omega)]; exact b.2 l hl hne⟩
section
variable {h H : Heap} {i : Nat} {T : List UInt8} {a : Nat} {out : Value} {x y : Tok} (st : TokSt h H i T a out x y)
include st
theorem TokSt.at (a' : Nat) : TokSt h (H.set i (readerRow T a' out)) i T a' out x y :=
  ⟨Heap.get_set_self st.r, by rw [Heap.get_set_ne (by have := st.lt; omega)]; exact st.x, by rw [Heap.get_set_ne (by have := st.lt; omega)]; exact st.y, st.lt, but_set_at st.but _⟩
theorem TokSt.setY (u : Tok) : TokSt h (H.set (h.next + 1) u.row) i T a out x u :=
  ⟨by rw [Heap.get_set_ne (by have := st.lt; omega)]; exact st.r, by rw [Heap.get_set_ne (by omega)]; exact st.x, Heap.get_set_self st.y, st.lt, but_set_new st.but (by omega) _⟩
theorem TokSt.setX (u : Tok) : TokSt h (H.set h.next u.row) i T a out u y :=
  ⟨by rw [Heap.get_set_ne (by have := st.lt; omega)]; exact st.r, Heap.get_set_self st.x, by rw [Heap.get_set_ne (by omega)]; exact st.y, st.lt, but_set_new st.but (by omega) _⟩
theorem TokSt.alloc (o : AObj) : TokSt h (H.alloc o) i T a out x y :=
  ⟨by rw [Heap.get_alloc_old _ _ (Heap.lt_of_get st.r)]; exact st.r, by rw [Heap.get_alloc_old _ _ (Heap.lt_of_get st.x)]; exact st.x, by rw [Heap.get_alloc_old _ _ (Heap.lt_of_get st.y)]; exact st.y, st.lt, but_alloc st.but _⟩
end
/-- What token comes to. -/
def TokR (h : Heap) (i : Nat) (T : List UInt8) (out : Value) (R : Except (Nat × Nat) (Tok × Nat)) (r : Ending) (h' : Heap) : Prop := match R with
  | .ok (t, to) => r = .returned (.tuple #[t.val, .int .i64 0]) ∧ h'.get i = some (readerRow T to out) ∧ h.but i h' ∧ to ≤ T.length
  | .error (e, p) => ∃ t : Tok, r = .returned (.tuple #[t.val, .int .i64 e]) ∧ h'.get i = some (readerRow T p out) ∧ h.but i h' ∧ p ≤ T.length
theorem ares15 {s : List (Nat × Value)} {d : List Deferred} {h : Heap} {a : Nat} {t : Tok} {v : Value} (s2 : look 2 s = some (.pointer (some ⟨a, 0, none⟩))) (s3 : look 3 s = some v) (ga : h.get a = some t.row) :
    ares Tryd.prog Tryd.f36 ⟨172, s, d⟩ h = some (.tuple #[t.val, v]) := by
  have hr : Tryd.f36.results.toList = [.cell 2 65, .tmp 3] := rfl
  unfold ares
  rw [hr]
  simp only [aresults, aresult, s2, s3, Option.bind_some, tok_load ga]
end Go.Mini
end
