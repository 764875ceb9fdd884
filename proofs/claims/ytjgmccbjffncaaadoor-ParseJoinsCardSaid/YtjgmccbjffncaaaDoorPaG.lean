/-
  PARSE, part G: the arms of an expect, walked.
-/
import Derived.Test.YtjgmccbjffncaaaDoorPaF
import Derived.Test.YtjgmccbjffncaaaDoorMiniYLtoV
set_option linter.unusedSimpArgs false
set_option maxHeartbeats 8000000
set_option maxRecDepth 100000
namespace Go.Mini
open Go.Proofs

/-! ### what is read lies ahead of the last token -/
theorem takeS_le {o : List Tok} {e k a a' : Nat} {t : Tok} (h : takeS o e k a = .ok (t, a')) (hk : k ≠ 0) : a' = a + 1 ∧ a < o.length := by
  unfold takeS at h
  split at h
  · rename_i hq
    cases h
    refine ⟨rfl, ?_⟩
    rcases Nat.lt_or_ge a o.length with q | q
    · exact q
    · unfold nextS at hq
      rw [List.getElem?_eq_none q] at hq
      exact absurd hq.symm hk
  · cases h
theorem isS_le {o : List Tok} {e k a : Nat} {w : List UInt8} (h : isS o e k w a = true) (hk : k ≠ 0) : a < o.length := by
  unfold isS at h
  simp only [Bool.and_eq_true, decide_eq_true_eq] at h
  rcases Nat.lt_or_ge a o.length with q | q
  · exact q
  · have := h.1
    unfold nextS at this
    rw [List.getElem?_eq_none q] at this
    exact absurd this.symm hk
theorem mustS_le {o : List Tok} {e k a a' : Nat} {w : List UInt8} {u : Unit} (h : mustS o e k w a = .ok (u, a')) (hk : k ≠ 0) : a' = a + 1 ∧ a < o.length := by
  obtain ⟨h1, h2⟩ := mustS_ok h
  exact ⟨h1, isS_le h2 hk⟩
theorem nameRS_le {o : List Tok} {e k a a' : Nat} {s : List UInt8} (h : nameRS o e k a = .ok (s, a')) (hk : k ≠ 0) : a' = a + 1 ∧ a < o.length := by
  unfold nameRS at h
  cases ht : takeS o e k a with
  | error x => rw [ht] at h; cases h
  | ok ta =>
    obtain ⟨t, b⟩ := ta
    rw [ht] at h
    simp only [] at h
    split at h
    · cases h; exact takeS_le ht hk
    · cases h
theorem numberS_le {o : List Tok} {e lo hi a a' n : Nat} (h : numberS o e lo hi a = .ok (n, a')) : a' = a + 1 ∧ a < o.length := by
  unfold numberS at h
  cases ht : takeS o e 3 a with
  | error x => rw [ht] at h; cases h
  | ok ta =>
    obtain ⟨t, b⟩ := ta
    rw [ht] at h
    simp only [] at h
    split at h
    · cases h; exact takeS_le ht (by decide)
    · cases h
theorem leadsS_le {o : List Tok} {e a a' : Nat} {s : List UInt8} (h : leadsS o e a = .ok (s, a')) : a' = a + 2 ∧ a + 1 < o.length := by
  unfold leadsS at h
  cases ht : mustS o e 1 gotoB a with
  | error x => rw [ht] at h; cases h
  | ok ta =>
    obtain ⟨u, b⟩ := ta
    rw [ht] at h
    obtain ⟨h1, _⟩ := mustS_le ht (by decide)
    obtain ⟨h2, h3⟩ := nameRS_le h (by decide)
    omega
theorem patternS_le {o : List Tok} {e a a' : Nat} {x : Nat × List UInt8} (h : patternS o e a = .ok (x, a')) : a < a' ∧ a' ≤ o.length := by
  have hk : a ≤ (patKind o e a).2 := by unfold patKind; split <;> (try split) <;> simp
  unfold patternS at h
  cases ht : takeS o e 4 (patKind o e a).2 with
  | error x => rw [ht] at h; cases h
  | ok ta =>
    obtain ⟨t, b⟩ := ta
    rw [ht] at h
    simp only [] at h
    obtain ⟨h1, h2⟩ := takeS_le ht (by decide)
    split at h
    · cases h; omega
    · cases h

/-! ### lines in memory -/
def ArmT.cells (x : ArmT) : List Value := [.int .i64 x.kind, .string (bs x.text), .string (bs x.to)]
def lineCells (x : LineT) (av : Value) : List Value := [.int .i64 x.op, .string (bs x.text), .string (bs x.name), .int .i64 x.n, .string (bs x.to), av, .int .i64 x.wait, .string (bs x.late)]
def lineRow (x : LineT) (av : Value) : AObj := .row { vs := lineCells x av, elem := 49 }
theorem ln (f : Nat) (hf : f < 8) (i k : Nat) : afieldAddr Tryd.prog 49 (.pointer (some ⟨i, k, none⟩)) f = some (.pointer (some ⟨i, k + f, none⟩)) := by
  match f, hf with
  | 0, _ => exact afieldAddr_eq (f := 0) (o := 0) Tryd.underlying49 (by rfl) (s := 0) (by kernel_rfl) i k
  | 1, _ => exact afieldAddr_eq Tryd.underlying49 (by rfl) (s := 0) (by kernel_rfl) i k
  | 2, _ => exact afieldAddr_eq Tryd.underlying49 (by rfl) (s := 0) (by kernel_rfl) i k
  | 3, _ => exact afieldAddr_eq Tryd.underlying49 (by rfl) (s := 0) (by kernel_rfl) i k
  | 4, _ => exact afieldAddr_eq Tryd.underlying49 (by rfl) (s := 0) (by kernel_rfl) i k
  | 5, _ => exact afieldAddr_eq Tryd.underlying49 (by rfl) (s := 0) (by kernel_rfl) i k
  | 6, _ => exact afieldAddr_eq Tryd.underlying49 (by rfl) (s := 0) (by kernel_rfl) i k
  | 7, _ => exact afieldAddr_eq Tryd.underlying49 (by rfl) (s := 0) (by kernel_rfl) i k
theorem ln0 (i k : Nat) : afieldAddr Tryd.prog 49 (.pointer (some ⟨i, k, none⟩)) 0 = some (.pointer (some ⟨i, k, none⟩)) := ln 0 (by decide) i k
theorem ln1 (i k : Nat) : afieldAddr Tryd.prog 49 (.pointer (some ⟨i, k, none⟩)) 1 = some (.pointer (some ⟨i, k + 1, none⟩)) := ln 1 (by decide) i k
theorem ln2 (i k : Nat) : afieldAddr Tryd.prog 49 (.pointer (some ⟨i, k, none⟩)) 2 = some (.pointer (some ⟨i, k + 2, none⟩)) := ln 2 (by decide) i k
theorem ln3 (i k : Nat) : afieldAddr Tryd.prog 49 (.pointer (some ⟨i, k, none⟩)) 3 = some (.pointer (some ⟨i, k + 3, none⟩)) := ln 3 (by decide) i k
theorem ln4 (i k : Nat) : afieldAddr Tryd.prog 49 (.pointer (some ⟨i, k, none⟩)) 4 = some (.pointer (some ⟨i, k + 4, none⟩)) := ln 4 (by decide) i k
theorem ln5 (i k : Nat) : afieldAddr Tryd.prog 49 (.pointer (some ⟨i, k, none⟩)) 5 = some (.pointer (some ⟨i, k + 5, none⟩)) := ln 5 (by decide) i k
theorem ln6 (i k : Nat) : afieldAddr Tryd.prog 49 (.pointer (some ⟨i, k, none⟩)) 6 = some (.pointer (some ⟨i, k + 6, none⟩)) := ln 6 (by decide) i k
theorem ln7 (i k : Nat) : afieldAddr Tryd.prog 49 (.pointer (some ⟨i, k, none⟩)) 7 = some (.pointer (some ⟨i, k + 7, none⟩)) := ln 7 (by decide) i k
theorem agg47 : Program.agg Tryd.prog 47 = some false := by kernel_rfl
theorem sz47 : (Tryd.prog.info? 47).map (·.size) = some 1 := by kernel_rfl
theorem elem54 : elemOk Tryd.prog 54 3 40 = true := by kernel_rfl
section
variable {H : Heap} {j : Nat} {x : LineT} {av : Value} (g : H.get j = some (lineRow x av))
include g
theorem ln_op (n : Int) : astore Tryd.prog H 3 (.pointer (some ⟨j, 0, none⟩)) (.int .i64 n) = some (H.set j (lineRow { x with op := n } av)) := by
  rw [astore_cell sz3 rfl, Heap.sts_of g (by simp [lineCells]) rfl rfl]; rfl
theorem ln_text (s : List UInt8) : astore Tryd.prog H 9 (.pointer (some ⟨j, 0 + 1, none⟩)) (.string (bs s)) = some (H.set j (lineRow { x with text := s } av)) := by
  rw [astore_cell sz9 rfl, Heap.sts_of g (by simp [lineCells]) rfl rfl]; rfl
theorem ln_name (s : List UInt8) : astore Tryd.prog H 9 (.pointer (some ⟨j, 0 + 2, none⟩)) (.string (bs s)) = some (H.set j (lineRow { x with name := s } av)) := by
  rw [astore_cell sz9 rfl, Heap.sts_of g (by simp [lineCells]) rfl rfl]; rfl
theorem ln_n (n : Int) : astore Tryd.prog H 3 (.pointer (some ⟨j, 0 + 3, none⟩)) (.int .i64 n) = some (H.set j (lineRow { x with n := n } av)) := by
  rw [astore_cell sz3 rfl, Heap.sts_of g (by simp [lineCells]) rfl rfl]; rfl
theorem ln_to (s : List UInt8) : astore Tryd.prog H 9 (.pointer (some ⟨j, 0 + 4, none⟩)) (.string (bs s)) = some (H.set j (lineRow { x with to := s } av)) := by
  rw [astore_cell sz9 rfl, Heap.sts_of g (by simp [lineCells]) rfl rfl]; rfl
theorem ln_arms (s : Option Addr) (l c : Nat) (ar : List ArmT) : astore Tryd.prog H 47 (.pointer (some ⟨j, 0 + 5, none⟩)) (.slice s l c) = some (H.set j (lineRow { x with arms := ar } (.slice s l c))) := by
  rw [astore_cell sz47 rfl, Heap.sts_of g (by simp [lineCells]) rfl rfl]; rfl
theorem ln_wait (n : Int) : astore Tryd.prog H 3 (.pointer (some ⟨j, 0 + 6, none⟩)) (.int .i64 n) = some (H.set j (lineRow { x with wait := n } av)) := by
  rw [astore_cell sz3 rfl, Heap.sts_of g (by simp [lineCells]) rfl rfl]; rfl
theorem ln_late (s : List UInt8) : astore Tryd.prog H 9 (.pointer (some ⟨j, 0 + 7, none⟩)) (.string (bs s)) = some (H.set j (lineRow { x with late := s } av)) := by
  rw [astore_cell sz9 rfl, Heap.sts_of g (by simp [lineCells]) rfl rfl]; rfl
end
/-- While a line is read into its cell. -/
structure As (h H : Heap) (i ix : Nat) (v : Value) (o : List Tok) (a e r : Nat) (x : LineT) (av : Value) : Prop where
  rd : Rd H i v o a e r
  gx : H.get ix = some (lineRow x av)
  ow : OwnF h.next H av 54 x.arms.length (x.arms.flatMap ArmT.cells)
  lo : h.next ≤ H.next
  old : ∀ j, j < h.next → j ≠ i → j ≠ ix → H.get j = h.get j
  vb : ∀ b l c, v = .slice (some ⟨b, 0, none⟩) l c → b ≠ ix ∧ b < h.next
  li : i < h.next
  lx : ix < h.next
  ne : ix ≠ i
section
variable {h H : Heap} {i ix : Nat} {v : Value} {o : List Tok} {a e r : Nat} {x : LineT} {av : Value} (st : As h H i ix v o a e r x av)
include st
theorem As.more {H2 : Heap} (hm : H.more H2) : As h H2 i ix v o a e r x av := ⟨⟨hm.get st.rd.g, st.rd.t.more hm, st.rd.ne⟩, hm.get st.gx, st.ow.keep fun j p hq _ => hm.get hq, Nat.le_trans st.lo hm.1,
  fun j hj h1 h2 => by rw [hm.2 j (by have := st.lo; omega)]; exact st.old j hj h1 h2, st.vb, st.li, st.lx, st.ne⟩
theorem As.at (a' : Nat) : As h (rdAt H i v e r a') i ix v o a' e r x av := ⟨st.rd.at a', by unfold rdAt; rw [Heap.get_set_ne st.ne]; exact st.gx,
  st.ow.keep fun j p hq hp => by unfold rdAt; rw [Heap.get_set_ne (by rintro rfl; rw [st.rd.g] at hq; cases hq; cases hp)]; exact hq, by rw [rdAt_next]; exact st.lo,
  fun j hj h1 h2 => by unfold rdAt; rw [Heap.get_set_ne h1]; exact st.old j hj h1 h2, st.vb, st.li, st.lx, st.ne⟩
theorem As.setX {x' : LineT} {av' : Value} (how : OwnF h.next H av' 54 x'.arms.length (x'.arms.flatMap ArmT.cells)) : As h (H.set ix (lineRow x' av')) i ix v o a e r x' av' := by
  refine ⟨⟨by rw [Heap.get_set_ne (Ne.symm st.ne)]; exact st.rd.g, ?_, st.rd.ne⟩, Heap.get_set_self st.gx, how.keep fun j p hq hp => ?_, by simpa using st.lo, fun j hj h1 h2 => by rw [Heap.get_set_ne h2]; exact st.old j hj h1 h2, st.vb, st.li, st.lx, st.ne⟩
  · rcases st.rd.t with h1 | ⟨b, r2, hb, hr, hv⟩
    · exact .inl h1
    · exact .inr ⟨b, r2, by rw [Heap.get_set_ne (st.vb b _ _ hv).1]; exact hb, hr, hv⟩
  · rw [Heap.get_set_ne (by rintro rfl; rw [st.gx] at hq; cases hq; cases hp)]; exact hq
theorem As.push {H2 : Heap} (h1 : H.next ≤ H2.next) (h2 : ∀ j q, H.get j = some q → q.plain = true → H2.get j = some q) (h3 : ∀ j, j < h.next → H2.get j = H.get j) : Rd H2 i v o a e r ∧ H2.get ix = some (lineRow x av) ∧ h.next ≤ H2.next ∧ ∀ j, j < h.next → j ≠ i → j ≠ ix → H2.get j = h.get j := by
  refine ⟨⟨h2 _ _ st.rd.g rfl, ?_, st.rd.ne⟩, h2 _ _ st.gx rfl, Nat.le_trans st.lo h1, fun j hj q1 q2 => by rw [h3 j hj]; exact st.old j hj q1 q2⟩
  rcases st.rd.t with q1 | ⟨b, r2, hb, hr, hv⟩
  · exact .inl q1
  · exact .inr ⟨b, r2, by rw [h3 b (st.vb b _ _ hv).2]; exact hb, hr, hv⟩
end
/-- What reading a line's parts comes to. -/
def ArmsR (h : Heap) (i ix : Nat) (v : Value) (o : List Tok) (e r : Nat) (R : RdR LineT) (x : Ending) (h' : Heap) : Prop := match R with
  | .ok (x', a') => ∃ av, x = .returned (.tuple #[]) ∧ As h h' i ix v o a' e r x' av
  | .error (c, p) => x = .panicked (wrongQ c p) ∧ h.next ≤ h'.next ∧ ∀ j, j < h.next → j ≠ i → j ≠ ix → h'.get j = h.get j
theorem As.err {h H H2 : Heap} {i ix : Nat} {v : Value} {o : List Tok} {a e r : Nat} {x : LineT} {av : Value} (st : As h H i ix v o a e r x av) (hb : H.but i H2) : h.next ≤ H2.next ∧ ∀ j, j < h.next → j ≠ i → j ≠ ix → H2.get j = h.get j :=
  ⟨Nat.le_trans st.lo hb.1, fun j hj h1 h2 => by rw [hb.2 j (by have := st.lo; omega) h1]; exact st.old j hj h1 h2⟩
end Go.Mini
