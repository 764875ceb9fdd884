import Derived.Test.YtjgmccbjffncaaaDoorPjBtoPjA
import Derived.Test.YtjgmccbjffncaaaDoorPaKtoPaM
set_option maxHeartbeats 4000000
set_option linter.unusedSimpArgs false
namespace Go.Mini
def okR {α : Type} (K : α → Prop) : Except (Nat × Nat) α → Prop
 | .error (c, _) => c ≠ 0
 | .ok x => K x
theorem okR.mono {α : Type} {K L : α → Prop} {r : Except (Nat × Nat) α} (h : okR K r) (hk : ∀ x, K x → L x) : okR L r := by
 cases r with
 | error e => exact h
 | ok x => exact hk x h
section
variable {o : List Tok} {e : Nat}
theorem take_err (k a : Nat) : okR (fun _ => True) (takeS o e k a) := by
 unfold takeS
 split
 ·trivial
 ·exact (by decide : (6 : Nat) ≠ 0)
theorem must_err (k : Nat) (w : List UInt8) (a : Nat) : okR (fun _ => True) (mustS o e k w a) := by
 unfold mustS
 split
 ·trivial
 ·exact (by decide : (6 : Nat) ≠ 0)
theorem name_nil : nameS [] = false := by unfold nameS; rfl
theorem name_err (k a : Nat) : okR (fun x : List UInt8 × Nat => x.1 ≠ []) (nameRS o e k a) := by
 unfold nameRS
 have h := take_err (o := o) (e := e) k a
 cases ht : takeS o e k a with
 | error z => rw [ht] at h; exact h
 | ok ta =>
  obtain ⟨t, b⟩ := ta
  simp only []
  split
  ·rename_i hq
   intro q
   simp only at q
   rw [q, name_nil] at hq
   cases hq
  ·exact (by decide : (6 : Nat) ≠ 0)
theorem number_err (lo hi a : Nat) : okR (fun _ => True) (numberS o e lo hi a) := by
 unfold numberS
 have h := take_err (o := o) (e := e) 3 a
 cases ht : takeS o e 3 a with
 | error z => rw [ht] at h; exact h
 | ok ta =>
  obtain ⟨t, b⟩ := ta
  simp only []
  split
  ·trivial
  ·exact (by decide : (5 : Nat) ≠ 0)
theorem leads_err (a : Nat) : okR (fun x : List UInt8 × Nat => x.1 ≠ []) (leadsS o e a) := by
 unfold leadsS
 have h := must_err (o := o) (e := e) 1 gotoB a
 cases ht : mustS o e 1 gotoB a with
 | error z => rw [ht] at h; exact h
 | ok ta => exact name_err _ _
theorem pattern_err (a : Nat) : okR (fun _ => True) (patternS o e a) := by
 unfold patternS
 have h := take_err (o := o) (e := e) 4 (patKind o e a).2
 cases ht : takeS o e 4 (patKind o e a).2 with
 | error z => rw [ht] at h; exact h
 | ok ta =>
  obtain ⟨t, b⟩ := ta
  simp only []
  split
  ·trivial
  ·rename_i hq; exact hq
theorem arms_err : ∀ (f : Nat) (x : LineT) (a : Nat), x.arms.length ≤ 8 → 10 ≤ f + x.arms.length + (if x.late = [] then 0 else 1) → okR (fun y : LineT × Nat => y.1.arms.length ≤ 8 ∧ y.1.op = x.op) (armsL o e f x a)
 | 0, x, a, h8, h => by
  exfalso
  split at h <;> omega
 | f + 1, x, a, h8, h => by
  rw [armsL]
  split
  ·rename_i hq
   have h1 := number_err (o := o) (e := e) 1 1000 (a + 1)
   cases e1 : numberS o e 1 1000 (a + 1) with
   | error z => rw [e1] at h1; exact h1
   | ok na =>
    obtain ⟨n, a1⟩ := na
    simp only []
    have h2 := leads_err (o := o) (e := e) a1
    cases e2 : leadsS o e a1 with
    | error z => rw [e2] at h2; exact h2
    | ok la =>
     obtain ⟨l, a2⟩ := la
     rw [e2] at h2
     simp only []
     have h3 := take_err (o := o) (e := e) 6 a2
     cases e3 : takeS o e 6 a2 with
     | error z => rw [e3] at h3; exact h3
     | ok ta =>
      obtain ⟨t, a3⟩ := ta
      simp only []
      refine arms_err f _ _ h8 ?_
      simp only
      rw [if_pos hq.1] at h
      rw [if_neg h2]
      omega
  ·split
   ·exact ⟨h8, rfl⟩
   ·split
    ·exact (by decide : (6 : Nat) ≠ 0)
    ·rename_i hl
     split
     ·exact (by decide : (8 : Nat) ≠ 0)
     ·rename_i h9
      have h1 := pattern_err (o := o) (e := e) a
      cases e1 : patternS o e a with
      | error z => rw [e1] at h1; exact h1
      | ok na =>
       obtain ⟨⟨k, s⟩, a1⟩ := na
       simp only []
       have h2 := leads_err (o := o) (e := e) a1
       cases e2 : leadsS o e a1 with
       | error z => rw [e2] at h2; exact h2
       | ok la =>
        obtain ⟨l, a2⟩ := la
        simp only []
        have h3 := take_err (o := o) (e := e) 6 a2
        cases e3 : takeS o e 6 a2 with
        | error z => rw [e3] at h3; exact h3
        | ok ta =>
         obtain ⟨t, a3⟩ := ta
         simp only []
         refine arms_err f _ _ (by simp only [List.length_append, List.length_singleton]; omega) ?_
         simp only [List.length_append, List.length_singleton]
         split at h <;> rename_i hlz
         ·rw [if_pos hlz]; omega
         ·rw [if_neg hlz]; omega
theorem body_err (op a : Nat) : okR (fun y : LineT × Nat => y.1.arms.length ≤ 8 ∧ (1 ≤ op → op ≤ 7 → y.1.op = op)) (bodyS o e op a) := by
 unfold bodyS
 split
 ·have h1 := take_err (o := o) (e := e) 4 a
  cases e1 : takeS o e 4 a with
  | error z => rw [e1] at h1; exact h1
  | ok ta => exact ⟨Nat.zero_le _, fun _ _ => rfl⟩
 ·have h1 := name_err (o := o) (e := e) 1 a
  cases e1 : nameRS o e 1 a with
  | error z => rw [e1] at h1; exact h1
  | ok na =>
   obtain ⟨m, a1⟩ := na
   simp only []
   have h2 := number_err (o := o) (e := e) 0 255 a1
   cases e2 : numberS o e 0 255 a1 with
   | error z => rw [e2] at h2; exact h2
   | ok nb => exact ⟨Nat.zero_le _, fun _ _ => rfl⟩
 ·have h1 := name_err (o := o) (e := e) 1 a
  cases e1 : nameRS o e 1 a with
  | error z => rw [e1] at h1; exact h1
  | ok na => exact ⟨Nat.zero_le _, fun _ _ => rfl⟩
 ·have h1 := name_err (o := o) (e := e) 1 a
  cases e1 : nameRS o e 1 a with
  | error z => rw [e1] at h1; exact h1
  | ok na =>
   obtain ⟨m, a1⟩ := na
   simp only []
   have h2 := must_err (o := o) (e := e) 5 [60] a1
   cases e2 : mustS o e 5 [60] a1 with
   | error z => rw [e2] at h2; exact h2
   | ok ua =>
    obtain ⟨u, a2⟩ := ua
    simp only []
    have h3 := number_err (o := o) (e := e) 0 255 a2
    cases e3 : numberS o e 0 255 a2 with
    | error z => rw [e3] at h3; exact h3
    | ok nb =>
     obtain ⟨n, a3⟩ := nb
     simp only []
     have h4 := leads_err (o := o) (e := e) a3
     cases e4 : leadsS o e a3 with
     | error z => rw [e4] at h4; exact h4
     | ok la => exact ⟨Nat.zero_le _, fun _ _ => rfl⟩
 ·have h1 := name_err (o := o) (e := e) 1 a
  cases e1 : nameRS o e 1 a with
  | error z => rw [e1] at h1; exact h1
  | ok na => exact ⟨Nat.zero_le _, fun _ _ => rfl⟩
 ·have h1 := number_err (o := o) (e := e) 0 255 a
  cases e1 : numberS o e 0 255 a with
  | error z => rw [e1] at h1; exact h1
  | ok na => exact ⟨Nat.zero_le _, fun _ _ => rfl⟩
 ·rename_i n1 n2 n3 n4 n5 n6
  unfold armsS
  have h1 := must_err (o := o) (e := e) 5 [123] a
  cases e1 : mustS o e 5 [123] a with
  | error z => rw [e1] at h1; exact h1
  | ok ua =>
   obtain ⟨u, a1⟩ := ua
   simp only []
   have h2 := take_err (o := o) (e := e) 6 a1
   cases e2 : takeS o e 6 a1 with
   | error z => rw [e2] at h2; exact h2
   | ok ta =>
    obtain ⟨t, a2⟩ := ta
    simp only []
    refine (arms_err 11 (line0 7) a2 (Nat.zero_le _) (by decide)).mono fun y hy => ⟨hy.1, fun q1 q2 => ?_⟩
    rw [hy.2]
    have : op = 7 := by
     have m1 : op ≠ 1 := n1
     have m2 : op ≠ 2 := n2
     have m3 : op ≠ 3 := n3
     have m4 : op ≠ 4 := n4
     have m5 : op ≠ 5 := n5
     have m6 : op ≠ 6 := n6
     omega
    rw [this]
    rfl
theorem line_err (r a : Nat) : okR (fun y : LineT × Nat => y.1.arms.length ≤ 8 ∧ r + 1 ≤ 128 ∧ 1 ≤ y.1.op ∧ y.1.op ≤ 7) (lineS o e r a) := by
 unfold lineS
 split
 ·exact (by decide : (6 : Nat) ≠ 0)
 rename_i h0
 split
 ·exact (by decide : (8 : Nat) ≠ 0)
 have h1 := body_err (o := o) (e := e) (opOf (nextS o e a)) (a + 1)
 cases e1 : bodyS o e (opOf (nextS o e a)) (a + 1) with
 | error z => rw [e1] at h1; exact h1
 | ok ya =>
  obtain ⟨x, a1⟩ := ya
  rw [e1] at h1
  simp only []
  have h2 := take_err (o := o) (e := e) 6 a1
  cases e2 : takeS o e 6 a1 with
  | error z => rw [e2] at h2; exact h2
  | ok ta =>
   have h7 := opOf_le (nextS o e a)
   have := h1.2 (by omega) h7
   exact ⟨h1.1, by omega, by rw [this]; omega, by rw [this]; omega⟩
def ends (l : List LineT) : Prop := ∃ b x, l = b ++ [x] ∧ 5 ≤ x.op ∧ ∀ y ∈ b, y.op < 5
theorem lines_err : ∀ (f r a : Nat) (l : List LineT), r ≤ 128 → 130 ≤ f + r → (∀ x ∈ l, x.arms.length ≤ 8 ∧ 1 ≤ x.op ∧ x.op < 5) → okR (fun y : List LineT × Nat × Nat => y.2.1 ≤ 128 ∧ (∀ x ∈ y.1, x.arms.length ≤ 8 ∧ 1 ≤ x.op ∧ x.op ≤ 7) ∧ ends y.1) (linesL o e f r a l)
 | 0, _, _, _, h, h2, _ => by omega
 | f + 1, r, a, l, h, h2, hl => by
  rw [linesL]
  have h1 := line_err (o := o) (e := e) r a
  cases e1 : lineS o e r a with
  | error z => rw [e1] at h1; exact h1
  | ok ya =>
   obtain ⟨x, a1⟩ := ya
   rw [e1] at h1
   obtain ⟨k1, k2, k3, k4⟩ := h1
   simp only [] at k1 k3 k4 ⊢
   split
   ·rename_i h5
    refine ⟨k2, fun y hy => ?_, l, x, rfl, h5, fun y hy => (hl y hy).2.2⟩
    rcases List.mem_append.1 hy with q | q
    ·have := hl y q; exact ⟨this.1, this.2.1, by omega⟩
    ·simp only [List.mem_singleton] at q; subst q; exact ⟨k1, k3, k4⟩
   ·rename_i h5
    refine lines_err f _ _ _ k2 (by omega) fun y hy => ?_
    rcases List.mem_append.1 hy with q | q
    ·exact hl y q
    ·simp only [List.mem_singleton] at q; subst q; exact ⟨k1, k3, by omega⟩
def fewS (bl : List BlockT) : Prop := bl.length ≤ 32 ∧ linesOf bl ≤ 128 ∧ ∀ b ∈ bl, (∀ x ∈ b.lines, x.arms.length ≤ 8 ∧ 1 ≤ x.op ∧ x.op ≤ 7) ∧ ends b.lines
theorem blocks_err : ∀ (f a : Nat) (bl : List BlockT), fewS bl → 33 ≤ f + bl.length → okR fewS (blocksL o e f (linesOf bl) a bl)
 | 0, _, bl, h, h2 => by have := h.1; omega
 | f + 1, a, bl, h, h2 => by
  rw [blocksL]
  split
  ·have h1 := name_err (o := o) (e := e) 2 a
   cases e1 : nameRS o e 2 a with
   | error z => rw [e1] at h1; exact h1
   | ok ma =>
    obtain ⟨m, a1⟩ := ma
    simp only []
    split
    ·exact (by decide : (8 : Nat) ≠ 0)
    rename_i h32
    have h2' := take_err (o := o) (e := e) 6 a1
    cases e2 : takeS o e 6 a1 with
    | error z => rw [e2] at h2'; exact h2'
    | ok ta =>
     obtain ⟨t, a2⟩ := ta
     simp only []
     have h3 := lines_err (o := o) (e := e) 130 (linesOf bl) a2 [] h.2.1 (by omega) (by simp)
     cases e3 : linesL o e 130 (linesOf bl) a2 [] with
     | error z => rw [e3] at h3; exact h3
     | ok la =>
      obtain ⟨l, r', a3⟩ := la
      rw [e3] at h3
      obtain ⟨k1, k2, k3⟩ := h3
      obtain ⟨_, q2, _⟩ := linesL_ok e3
      simp only [] at k1 k2 k3 ⊢
      have hr : r' = linesOf (bl ++ [⟨m, l⟩]) := by
       rw [linesOf_append, linesOf_one]
       simpa using q2
      rw [hr]
      refine blocks_err f _ _ ⟨by rw [List.length_append, List.length_singleton]; have := h.1; omega, by omega, fun b hb => ?_⟩ (by rw [List.length_append, List.length_singleton]; omega)
      rcases List.mem_append.1 hb with q | q
      ·exact h.2.2 b q
      ·simp only [List.mem_singleton] at q; subst q; exact ⟨k2, k3⟩
  ·exact h
end
theorem prog_err (T : List UInt8) : okR fewS (progS T) := by
 unfold progS
 have h := (lexS_bound T).1
 cases e1 : lexS T with
 | error z => rw [e1] at h; obtain ⟨c, p⟩ := z; exact h
 | ok o => exact blocks_err 34 0 [] ⟨by decide, by decide, by simp⟩ (by decide)
theorem progS_ne {T : List UInt8} {bl : List BlockT} (h : progS T = .ok bl) : bl ≠ [] := by
 unfold progS at h
 cases e1 : lexS T with
 | error z => rw [e1] at h; cases h
 | ok o => rw [e1] at h; exact blocksL_ne h
theorem progS_few {T : List UInt8} {bl : List BlockT} (h : progS T = .ok bl) : fewS bl := by
 have := prog_err T
 rw [h] at this
 exact this
theorem progS_bad {T : List UInt8} {c p : Nat} (h : progS T = .error (c, p)) : c ≠ 0 := by
 have := prog_err T
 rw [h] at this
 exact this
end Go.Mini
