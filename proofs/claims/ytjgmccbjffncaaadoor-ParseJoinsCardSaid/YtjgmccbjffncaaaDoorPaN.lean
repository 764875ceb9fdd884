/-
  PARSE, part N: a dialogue, walked: what holds on the way.
-/
import Derived.Test.YtjgmccbjffncaaaDoorPaKtoPaM
set_option linter.unusedSimpArgs false
set_option maxHeartbeats 8000000
set_option maxRecDepth 100000
namespace Go.Mini
open Go.Proofs

theorem lex_ok (h : Heap) {T : List UInt8} {o : List Tok} (hs : lexS T = .ok o) : ∃ v, lexV h T = .tuple #[v, .agg #[.int .i64 0, .int .i64 0]] ∧ Toks (lexH h T) v o ∧ h.more (lexH h T) ∧ one v = true := by
  unfold lexV lexH
  rw [hs]
  cases o with
  | nil => exact ⟨_, rfl, .inl ⟨rfl, rfl⟩, Heap.more_refl h, rfl⟩
  | cons t o => exact ⟨_, rfl, .inr ⟨h.next, _, Heap.get_alloc_new _ _, rfl, rfl⟩, Heap.more_alloc _ _, rfl⟩
theorem lex_bad' (h : Heap) {T : List UInt8} {c p : Nat} (hs : lexS T = .error (c, p)) : lexV h T = .tuple #[.slice none 0 0, .agg #[.int .i64 c, .int .i64 p]] ∧ lexH h T = h := by
  unfold lexV lexH
  rw [hs]
  exact ⟨rfl, rfl⟩
theorem spot_load {H : Heap} {j : Nat} {k p : Int} (g : H.get j = some (spotRow k p)) : aload Tryd.prog H 31 (.pointer (some ⟨j, 0, none⟩)) = some (.agg #[.int .i64 k, .int .i64 p]) := by
  rw [aload_agg agg27 sz27, Heap.lds_of g (by simp)]; rfl
/-- While blocks are read. -/
structure Bs (h : Heap) (lo i j2 j3 : Nat) (v : Value) (o : List Tok) (e : Nat) (H : Heap) (a r : Nat) (bl : List BlockT) (bv : Value) : Prop where
  rd : Rd H i v o a e r
  g2 : H.get j2 = some (scriptRow bv)
  g3 : H.get j3 = some (spotRow 0 0)
  bm : BlocksM lo H bl bv
  lh : lo ≤ H.next
  old : ∀ j, j < h.next → H.get j = h.get j
  vb : ∀ b l c, v = .slice (some ⟨b, 0, none⟩) l c → b < lo
  li : i < lo
  l2 : j2 < lo
  l3 : j3 < lo
  k2 : h.next ≤ j2
  k3 : h.next ≤ j3
  ki : h.next ≤ i
  n2 : j2 ≠ i
  n3 : j3 ≠ i
  n23 : j3 ≠ j2
section
variable {h : Heap} {lo i j2 j3 : Nat} {v : Value} {o : List Tok} {e : Nat} {H H2 : Heap} {a r : Nat} {bl : List BlockT} {bv : Value} (st : Bs h lo i j2 j3 v o e H a r bl bv)
include st
theorem Bs.base : h.next ≤ H.next := by have := st.lh; have := st.l2; have := st.k2; omega
theorem Bs.step (x : Nat) {a' r' : Nat} (hx : lo ≤ x) (hp : ∀ p, H.get x = some p → p.plain = true) (hn : H.next ≤ H2.next) (hold : ∀ j, j < H.next → j ≠ i → j ≠ x → H2.get j = H.get j) (rd2 : Rd H2 i v o a' e r') : Bs h lo i j2 j3 v o e H2 a' r' bl bv where
  rd := rd2
  g2 := by rw [hold j2 (by have := st.lh; have := st.l2; omega) st.n2 (by have := st.l2; omega)]; exact st.g2
  g3 := by rw [hold j3 (by have := st.lh; have := st.l3; omega) st.n3 (by have := st.l3; omega)]; exact st.g3
  bm := st.bm.keep fun j p hq hpl => by
    rw [hold j (Heap.lt_of_get hq) (by rintro rfl; rw [st.rd.g] at hq; cases hq; cases hpl) (by rintro rfl; rw [hp p hq] at hpl; cases hpl)]
    exact hq
  lh := Nat.le_trans st.lh hn
  old := fun j hj => by rw [hold j (by have := st.base; omega) (by have := st.ki; omega) (by have := st.l2; have := st.k2; omega)]; exact st.old j hj
  vb := st.vb
  li := st.li
  l2 := st.l2
  l3 := st.l3
  k2 := st.k2
  k3 := st.k3
  ki := st.ki
  n2 := st.n2
  n3 := st.n3
  n23 := st.n23
theorem Bs.step' {a' r' : Nat} (hn : H.next ≤ H2.next) (hold : ∀ j, j < H.next → j ≠ i → H2.get j = H.get j) (rd2 : Rd H2 i v o a' e r') : Bs h lo i j2 j3 v o e H2 a' r' bl bv :=
  st.step H.next st.lh (fun p hp => by have := Heap.lt_of_get hp; omega) hn (fun j hj h1 _ => hold j hj h1) rd2
theorem Bs.more (hm : H.more H2) : Bs h lo i j2 j3 v o e H2 a r bl bv := st.step' hm.1 (fun j hj _ => hm.2 j hj) ⟨hm.get st.rd.g, st.rd.t.more hm, st.rd.ne⟩
theorem Bs.at (a' : Nat) : Bs h lo i j2 j3 v o e (rdAt H i v e r a') a' r bl bv := st.step' (by rw [rdAt_next]; exact Nat.le_refl _) (fun j _ hj => by unfold rdAt; exact Heap.get_set_ne hj) (st.rd.at a')
end
theorem prog_bad {E : EXT} (G : Nat) {h : Heap} {lo i j2 j3 : Nat} {v : Value} {o : List Tok} {e : Nat} {H H2 : Heap} {a r : Nat} {bl : List BlockT} {bv : Value} (st : Bs h lo i j2 j3 v o e H a r bl bv) (x : Nat) (hx : lo ≤ x) (hn : H.next ≤ H2.next) (hold : ∀ j, j < H.next → j ≠ i → j ≠ x → H2.get j = H.get j)
    {s : List (Nat × Value)} {ds : List Deferred} {d : Deferred} (s2 : look 2 s = some (.pointer (some ⟨j2, 0, none⟩))) (s3 : look 3 s = some (.pointer (some ⟨j3, 0, none⟩))) (hd : d.target = .fn (.func 22) #[.pointer (some ⟨j2, 0, none⟩), .pointer (some ⟨j3, 0, none⟩)]) (hda : d.args = #[]) (c p : Nat) :
    Leaves Tryd.prog G E Tryd.f13 ⟨75, s, ds⟩ [d] (.panicking (wrongQ c p)) H2 (ProgR h (.error (c, p))) := by
  have c22 : canEnter Tryd.prog 22 = true := by kernel_rfl
  have g2 : H2.get j2 = some (scriptRow bv) := by rw [hold j2 (by have := st.lh; have := st.l2; omega) st.n2 (by have := st.l2; omega)]; exact st.g2
  have g3 : H2.get j3 = some (spotRow 0 0) := by rw [hold j3 (by have := st.lh; have := st.l3; omega) st.n3 (by have := st.l3; omega)]; exact st.g3
  have hb := st.base
  refine Leaves.cons (by simp) hd c22 ?_
  rw [hda]
  obtain ⟨e9, u9, h9, b9, rfl, rfl, k1, k2, k3, k4⟩ := progCatch_spec (E := E) G H2 j2 j3 bv 0 0 st.n23 g2 g3 c p
  refine ⟨_, _, h9, b9, _, rfl, Leaves.ret (ares13' s2 s3 k1 k2) ⟨rfl, by omega, fun j hj => ?_⟩⟩
  rw [k4 j (by omega) (by have := st.k2; omega) (by have := st.k3; omega), hold j (by omega) (by have := st.ki; omega) (by have := st.l2; have := st.k2; omega)]
  exact st.old j hj
/-- While a block's lines are read; H1 is how it was ahead of them. -/
structure Ins (H1 : Heap) (i j8 : Nat) (v : Value) (o : List Tok) (e : Nat) (name : List UInt8) (H : Heap) (a r : Nat) (l : List LineT) (lv : Value) : Prop where
  rd : Rd H i v o a e r
  g8 : H.get j8 = some (blockRow name lv)
  lm : LinesM H1.next H l lv
  lo : H1.next ≤ H.next
  old : ∀ j, j < H1.next → j ≠ i → j ≠ j8 → H.get j = H1.get j
  vb : ∀ b l c, v = .slice (some ⟨b, 0, none⟩) l c → b < H1.next ∧ b ≠ j8
  li : i < H1.next
  l8 : j8 < H1.next
  n8 : j8 ≠ i
section
variable {H1 : Heap} {i j8 : Nat} {v : Value} {o : List Tok} {e : Nat} {name : List UInt8} {H H2 : Heap} {a r : Nat} {l : List LineT} {lv : Value} (st : Ins H1 i j8 v o e name H a r l lv)
include st
theorem Ins.step (x : Nat) {a' r' : Nat} (hx : H1.next ≤ x) (hp : ∀ p, H.get x = some p → p.plain = true) (hn : H.next ≤ H2.next) (hold : ∀ j, j < H.next → j ≠ i → j ≠ x → H2.get j = H.get j) (rd2 : Rd H2 i v o a' e r') : Ins H1 i j8 v o e name H2 a' r' l lv where
  rd := rd2
  g8 := by rw [hold j8 (by have := st.lo; have := st.l8; omega) st.n8 (by have := st.l8; omega)]; exact st.g8
  lm := st.lm.keep fun j p hq hpl => by
    rw [hold j (Heap.lt_of_get hq) (by rintro rfl; rw [st.rd.g] at hq; cases hq; cases hpl) (by rintro rfl; rw [hp p hq] at hpl; cases hpl)]
    exact hq
  lo := Nat.le_trans st.lo hn
  old := fun j hj h1 h2 => by rw [hold j (by have := st.lo; omega) h1 (by omega)]; exact st.old j hj h1 h2
  vb := st.vb
  li := st.li
  l8 := st.l8
  n8 := st.n8
theorem Ins.step' {a' r' : Nat} (hn : H.next ≤ H2.next) (hold : ∀ j, j < H.next → j ≠ i → H2.get j = H.get j) (rd2 : Rd H2 i v o a' e r') : Ins H1 i j8 v o e name H2 a' r' l lv :=
  st.step H.next st.lo (fun p hp => by have := Heap.lt_of_get hp; omega) hn (fun j hj h1 _ => hold j hj h1) rd2
/-- Behind a push: what lay there at the beginning is as it was. -/
theorem Ins.push {l' : List LineT} {lv' : Value} (hn : H.next ≤ H2.next) (hlow : ∀ j, j < H1.next → H2.get j = H.get j) (hl : LinesM H1.next H2 l' lv') : Ins H1 i j8 v o e name (H2.set j8 (blockRow name lv')) a r l' lv' where
  rd := by
    refine ⟨by rw [Heap.get_set_ne (Ne.symm st.n8), hlow i st.li]; exact st.rd.g, ?_, st.rd.ne⟩
    rcases st.rd.t with q | ⟨b, r2, q1, q2, q3⟩
    · exact .inl q
    · exact .inr ⟨b, r2, by rw [Heap.get_set_ne (st.vb b _ _ q3).2, hlow b (st.vb b _ _ q3).1]; exact q1, q2, q3⟩
  g8 := Heap.get_set_self (by rw [hlow j8 st.l8]; exact st.g8)
  lm := hl.keep fun j p hq hpl => by
    rw [Heap.get_set_ne (by rintro rfl; rw [hlow j st.l8, st.g8] at hq; cases hq; cases hpl)]
    exact hq
  lo := by rw [Heap.next_set]; exact Nat.le_trans st.lo hn
  old := fun j hj h1 h2 => by rw [Heap.get_set_ne h2, hlow j hj]; exact st.old j hj h1 h2
  vb := st.vb
  li := st.li
  l8 := st.l8
  n8 := st.n8
end
end Go.Mini
