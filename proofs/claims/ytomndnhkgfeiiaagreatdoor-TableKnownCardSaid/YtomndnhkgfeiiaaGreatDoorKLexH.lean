/-
  LEX, part H: a token.
-/
import Derived.Test.YtomndnhkgfeiiaaGreatDoorKLexG
import Derived.Test.YtomndnhkgfeiiaaGreatDoorKLexD
set_option linter.unusedSimpArgs false
set_option maxHeartbeats 8000000
set_option maxRecDepth 100000
namespace Go.Mini
open Go.Proofs

/-- A token: its kind, its text, its number, its place. -/
structure Tok where
  kind : Nat
  text : List UInt8
  n : Nat
  at' : Nat
def Tok.cells (t : Tok) : List Value := [.int .i64 t.kind, .string (bs t.text), .int .i64 t.n, .int .i64 t.at']
def Tok.row (t : Tok) : AObj := .row { vs := t.cells, elem := 217 }
def Tok.val (t : Tok) : Value := .agg t.cells.toArray
def numOf (w : List UInt8) : Nat := w.foldl (fun n b => 10 * n + (b.toNat - 48)) 0
def blankB (b : UInt8) : Bool := b.toNat == 32 || b.toNat == 9 || b.toNat == 10
/-- What begins at a place: kind, text, number, the place behind; or an error, and its place. -/
def tokBody (T : List UInt8) (a : Nat) : Except (Nat × Nat) (Nat × List UInt8 × Nat × Nat) :=
  let b := peekB T a
  if 97 ≤ b.toNat ∧ b.toNat ≤ 122 then
    let r := runP smallB 16 T a
    if r.2.1 then (if peekB T r.2.2 = 58 then .ok (2, r.1, 0, r.2.2 + 1) else .ok (1, r.1, 0, r.2.2)) else .error (3, r.2.2)
  else if b = 48 then .ok (3, [], 0, a + 1)
  else if 49 ≤ b.toNat ∧ b.toNat ≤ 57 then
    let r := runP digitB 4 T a
    if r.2.1 then .ok (3, [], numOf r.1, r.2.2) else .error (3, r.2.2)
  else if b = 34 then
    match scanQ 64 (T.drop a) with
    | .ok s k => .ok (4, s, 0, a + (k + 1))
    | .bad k => .error (6, a + k)
    | .long k => .error (3, a + k)
  else if b = 60 ∨ b = 123 ∨ b = 125 then .ok (5, [b], 0, a + 1)
  else .error (6, a)
def tokS (T : List UInt8) (a : Nat) : Except (Nat × Nat) (Tok × Nat) :=
  match tokBody T a with
  | .error e => .error e
  | .ok (kd, s, n, to) => if blankB (peekB T to) then .ok (⟨kd, s, n, a⟩, to) else .error (6, to)

theorem t0 (i k : Nat) : afieldAddr Tryz.prog 217 (.pointer (some ⟨i, k, none⟩)) 0 = some (.pointer (some ⟨i, k, none⟩)) := afieldAddr_eq (f := 0) (o := 0) Tryz.underlying217 (by rfl) (s := 0) (by kernel_rfl) i k
theorem t1 (i k : Nat) : afieldAddr Tryz.prog 217 (.pointer (some ⟨i, k, none⟩)) 1 = some (.pointer (some ⟨i, k + 1, none⟩)) := afieldAddr_eq Tryz.underlying217 (by rfl) (s := 0) (by kernel_rfl) i k
theorem t2 (i k : Nat) : afieldAddr Tryz.prog 217 (.pointer (some ⟨i, k, none⟩)) 2 = some (.pointer (some ⟨i, k + 2, none⟩)) := afieldAddr_eq Tryz.underlying217 (by rfl) (s := 0) (by kernel_rfl) i k
theorem s0 (i k : Nat) : afieldAddr Tryz.prog 28 (.pointer (some ⟨i, k, none⟩)) 0 = some (.pointer (some ⟨i, k, none⟩)) := afieldAddr_eq (f := 0) (o := 0) Tryz.underlying28 (by rfl) (s := 0) (by kernel_rfl) i k
theorem s1 (i k : Nat) : afieldAddr Tryz.prog 28 (.pointer (some ⟨i, k, none⟩)) 1 = some (.pointer (some ⟨i, k + 1, none⟩)) := afieldAddr_eq Tryz.underlying28 (by rfl) (s := 0) (by kernel_rfl) i k
theorem sz31 : (Tryz.prog.info? 217).map (·.size) = some 4 := by kernel_rfl
theorem agg31 : Program.agg Tryz.prog 217 = some true := by kernel_rfl
theorem agg25 : Program.agg Tryz.prog 26 = some false := by kernel_rfl
theorem alloc31 (h : Heap) : aalloc Tryz.prog h 217 = some (h.new, h.alloc (Tok.row ⟨0, [], 0, 0⟩)) := aalloc_eq (z := Tok.val ⟨0, [], 0, 0⟩) (by kernel_rfl) rfl
theorem build31 (a : Nat) : abuild Tryz.prog 217 [(3, .int .i64 a)] = some (Tok.val ⟨0, [], 0, a⟩) := by kernel_rfl
section
variable {H : Heap} {j : Nat} {t : Tok} (g : H.get j = some t.row)
include g
theorem tok_kind (k : Nat) : astore Tryz.prog H 3 (.pointer (some ⟨j, 0, none⟩)) (.int .i64 k) = some (H.set j (Tok.row { t with kind := k })) := by
  rw [astore_cell sz3 rfl, Heap.sts_of g (by simp [Tok.cells]) rfl rfl]; rfl
theorem tok_kind' (k : Nat) (z : Int) (hz : (k : Int) = z) : astore Tryz.prog H 3 (.pointer (some ⟨j, 0, none⟩)) (.int .i64 z) = some (H.set j (Tok.row { t with kind := k })) := by
  subst hz; exact tok_kind g k
theorem tok_text (s : List UInt8) : astore Tryz.prog H 9 (.pointer (some ⟨j, 0 + 1, none⟩)) (.string (bs s)) = some (H.set j (Tok.row { t with text := s })) := by
  rw [astore_cell sz9 rfl, Heap.sts_of g (by simp [Tok.cells]) rfl rfl]; rfl
theorem tok_n (n : Nat) : astore Tryz.prog H 3 (.pointer (some ⟨j, 0 + 2, none⟩)) (.int .i64 n) = some (H.set j (Tok.row { t with n := n })) := by
  rw [astore_cell sz3 rfl, Heap.sts_of g (by simp [Tok.cells]) rfl rfl]; rfl
theorem tok_all (u : Tok) : astore Tryz.prog H 217 (.pointer (some ⟨j, 0, none⟩)) u.val = some (H.set j u.row) := by
  have := astore_agg (P := Tryz.prog) (h := H) (i := j) (k := 0) (cs := u.cells) sz31 rfl rfl
  unfold Tok.val
  rw [this, Heap.sts_of g (by simp [Tok.cells]) rfl rfl]; rfl
theorem tok_load : aload Tryz.prog H 217 (.pointer (some ⟨j, 0, none⟩)) = some t.val := by
  rw [aload_agg agg31 sz31, Heap.lds_of g (by simp [Tok.cells])]; rfl
end

/-- What holds while a token is read. -/
structure TokSt (h H : Heap) (i : Nat) (T : List UInt8) (a : Nat) (out : Value) (x y : Tok) : Prop where
  r : H.get i = some (readerRow T a out)
  x : H.get h.next = some x.row
  y : H.get (h.next + 1) = some y.row
  lt : i < h.next
  but : h.but i H
theorem but_set_new {h H : Heap} {i : Nat} (b : h.but i H) {j : Nat} (hj : h.next ≤ j) (o : AObj) : h.but i (H.set j o) := ⟨by simpa using b.1, fun l hl hne => by rw [Heap.get_set_ne (by omega)]; exact b.2 l hl hne⟩
theorem but_set_at {h H : Heap} {i : Nat} (b : h.but i H) (o : AObj) : h.but i (H.set i o) := ⟨by simpa using b.1, fun l hl hne => by rw [Heap.get_set_ne hne]; exact b.2 l hl hne⟩
theorem but_alloc {h H : Heap} {i : Nat} (b : h.but i H) (o : AObj) : h.but i (H.alloc o) := ⟨by have := b.1; simp; omega, fun l hl hne => by rw [Heap.get_alloc_old _ _ (by have := b.1; omega)]; exact b.2 l hl hne⟩
section
variable {h H : Heap} {i : Nat} {T : List UInt8} {a : Nat} {out : Value} {x y : Tok} (st : TokSt h H i T a out x y)
include st
theorem TokSt.at (a' : Nat) : TokSt h (H.set i (readerRow T a' out)) i T a' out x y :=
  ⟨Heap.get_set_self st.r, by rw [Heap.get_set_ne (by have := st.lt; omega)]; exact st.x, by rw [Heap.get_set_ne (by have := st.lt; omega)]; exact st.y, st.lt, but_set_at st.but _⟩
theorem TokSt.setY (u : Tok) : TokSt h (H.set (h.next + 1) u.row) i T a out x u :=
  ⟨by rw [Heap.get_set_ne (by have := st.lt; omega)]; exact st.r, by rw [Heap.get_set_ne (by omega)]; exact st.x, Heap.get_set_self st.y, st.lt, but_set_new st.but (by omega) _⟩
theorem TokSt.setX (u : Tok) : TokSt h (H.set h.next u.row) i T a out u y :=
  ⟨by rw [Heap.get_set_ne (by have := st.lt; omega)]; exact st.r, Heap.get_set_self st.x, by rw [Heap.get_set_ne (by omega)]; exact st.y, st.lt, but_set_new st.but (by omega) _⟩
theorem TokSt.alloc (o : AObj) : TokSt h (H.alloc o) i T a out x y :=
  ⟨by rw [Heap.get_alloc_old _ _ (Heap.lt_of_get st.r)]; exact st.r, by rw [Heap.get_alloc_old _ _ (Heap.lt_of_get st.x)]; exact st.x, by rw [Heap.get_alloc_old _ _ (Heap.lt_of_get st.y)]; exact st.y, st.lt, but_alloc st.but _⟩
end
/-- What token comes to. -/
def TokR (h : Heap) (i : Nat) (T : List UInt8) (out : Value) (R : Except (Nat × Nat) (Tok × Nat)) (r : Ending) (h' : Heap) : Prop := match R with
  | .ok (t, to) => r = .returned (.tuple #[t.val, .int .i64 0]) ∧ h'.get i = some (readerRow T to out) ∧ h.but i h' ∧ to ≤ T.length
  | .error (e, p) => ∃ t : Tok, r = .returned (.tuple #[t.val, .int .i64 e]) ∧ h'.get i = some (readerRow T p out) ∧ h.but i h' ∧ p ≤ T.length
theorem ares15 {s : List (Nat × Value)} {d : List Deferred} {h : Heap} {a : Nat} {t : Tok} {v : Value} (s2 : look 2 s = some (.pointer (some ⟨a, 0, none⟩))) (s3 : look 3 s = some v) (ga : h.get a = some t.row) :
    ares Tryz.prog Tryz.f134 ⟨172, s, d⟩ h = some (.tuple #[t.val, v]) := by
  have hr : Tryz.f134.results.toList = [.cell 2 217, .tmp 3] := rfl
  unfold ares
  rw [hr]
  simp only [aresults, aresult, s2, s3, Option.bind_some, tok_load ga]
end Go.Mini
