/-
  PARSE, ParseJoins A: what is read does not hang on what stands behind it, nor on the place. Plain.
-/
import Derived.Test.YtjgmccbjffncaaaDoorPaG
import Derived.Test.YtjgmccbjffncaaaDoorPLexNtoPLexO
set_option linter.unusedSimpArgs false
set_option maxHeartbeats 4000000
namespace Go.Mini

def Alike (t t' : Tok) : Prop := t'.kind = t.kind ∧ t'.text = t.text ∧ t'.n = t.n
/-- The tokens of o stand in o', from d on. -/
def Near (o o' : List Tok) (d : Nat) : Prop := ∀ a t, o[a]? = some t → ∃ t', o'[d + a]? = some t' ∧ Alike t t'
theorem opOf_lt {o : List Tok} {e a : Nat} (h : opOf (nextS o e a) ≠ 0) : a < o.length := by
  rcases Nat.lt_or_ge a o.length with q | q
  · exact q
  · exfalso
    have hn : nextS o e a = ⟨0, [], 0, e⟩ := by unfold nextS; rw [List.getElem?_eq_none q]; rfl
    rw [hn] at h
    exact h rfl
section
variable {o o' : List Tok} {d e e' : Nat} (nr : Near o o' d)
include nr
theorem Near.next {a : Nat} (ha : a < o.length) : Alike (nextS o e a) (nextS o' e' (d + a)) := by
  obtain ⟨t', h1, h2⟩ := nr a _ (List.getElem?_eq_getElem ha)
  unfold nextS
  rw [h1, List.getElem?_eq_getElem ha]
  exact h2
theorem Near.take {k a a' : Nat} {t : Tok} (hk : k ≠ 0) (h : takeS o e k a = .ok (t, a')) : ∃ t', takeS o' e' k (d + a) = .ok (t', d + a') ∧ Alike t t' := by
  obtain ⟨h1, h2⟩ := takeS_le h hk
  have hn := nr.next (e := e) (e' := e') h2
  unfold takeS at h ⊢
  split at h
  · rename_i hq
    cases h
    rw [hn.1, if_pos hq]
    exact ⟨_, rfl, hn⟩
  · cases h
theorem Near.is {k a : Nat} (w : List UInt8) (ha : a < o.length) : isS o' e' k w (d + a) = isS o e k w a := by
  have hn := nr.next (e := e) (e' := e') ha
  unfold isS
  rw [hn.1, hn.2.1]
theorem Near.must {k a a' : Nat} {w : List UInt8} {u : Unit} (hk : k ≠ 0) (h : mustS o e k w a = .ok (u, a')) : mustS o' e' k w (d + a) = .ok ((), d + a') := by
  obtain ⟨h1, h2⟩ := mustS_le h hk
  obtain ⟨h3, h4⟩ := mustS_ok h
  unfold mustS
  rw [nr.is (e := e) w h2, if_pos h4, h3]
  rfl
theorem Near.name {k a a' : Nat} {s : List UInt8} (hk : k ≠ 0) (h : nameRS o e k a = .ok (s, a')) : nameRS o' e' k (d + a) = .ok (s, d + a') := by
  unfold nameRS at h ⊢
  cases ht : takeS o e k a with
  | error x => rw [ht] at h; cases h
  | ok ta =>
    obtain ⟨t, b⟩ := ta
    rw [ht] at h
    obtain ⟨t', q1, _, q2, _⟩ := nr.take (e' := e') hk ht
    rw [q1]
    simp only [] at h ⊢
    rw [q2]
    split at h
    · rename_i hq
      cases h
      rw [if_pos hq]
    · cases h
theorem Near.number {lo hi a a' n : Nat} (h : numberS o e lo hi a = .ok (n, a')) : numberS o' e' lo hi (d + a) = .ok (n, d + a') := by
  unfold numberS at h ⊢
  cases ht : takeS o e 3 a with
  | error x => rw [ht] at h; cases h
  | ok ta =>
    obtain ⟨t, b⟩ := ta
    rw [ht] at h
    obtain ⟨t', q1, _, _, q2⟩ := nr.take (e' := e') (by decide) ht
    rw [q1]
    simp only [] at h ⊢
    rw [q2]
    split at h
    · rename_i hq
      cases h
      rw [if_pos hq]
    · cases h
theorem Near.leads {a a' : Nat} {s : List UInt8} (h : leadsS o e a = .ok (s, a')) : leadsS o' e' (d + a) = .ok (s, d + a') := by
  unfold leadsS at h ⊢
  cases ht : mustS o e 1 gotoB a with
  | error x => rw [ht] at h; cases h
  | ok ta =>
    obtain ⟨u, b⟩ := ta
    rw [ht] at h
    rw [nr.must (e' := e') (by decide) ht]
    exact nr.name (by decide) h
theorem Near.pattern {a a' : Nat} {x : Nat × List UInt8} (h : patternS o e a = .ok (x, a')) : patternS o' e' (d + a) = .ok (x, d + a') := by
  have ha : a < o.length := by have := patternS_le h; omega
  have hk : patKind o' e' (d + a) = ((patKind o e a).1, d + (patKind o e a).2) := by
    unfold patKind
    rw [nr.is (e := e) globB ha, nr.is (e := e) reB ha]
    split <;> (try split) <;> rfl
  unfold patternS at h ⊢
  rw [hk]
  cases ht : takeS o e 4 (patKind o e a).2 with
  | error x => rw [ht] at h; cases h
  | ok ta =>
    obtain ⟨t, b⟩ := ta
    rw [ht] at h
    obtain ⟨t', q1, _, q2, _⟩ := nr.take (e' := e') (by decide) ht
    simp only [] at h ⊢
    rw [q1]
    simp only []
    rw [q2]
    split at h
    · rename_i hq
      cases h
      rw [if_pos hq]
    · cases h
theorem Near.arms : ∀ (f : Nat) (x : LineT) (a : Nat) (y : LineT) (a' : Nat), armsL o e f x a = .ok (y, a') → armsL o' e' f x (d + a) = .ok (y, d + a')
  | 0, _, _, _, _, h => by cases h
  | f + 1, x, a, y, a', h => by
    have ha : a < o.length := by
      rcases Nat.lt_or_ge a o.length with q | q
      · exact q
      · exfalso
        have hn : nextS o e a = ⟨0, [], 0, e⟩ := by unfold nextS; rw [List.getElem?_eq_none q]; rfl
        have i1 : isS o e 1 timeoutB a = false := by unfold isS; rw [hn]; rfl
        have i2 : isS o e 5 [125] a = false := by unfold isS; rw [hn]; rfl
        rw [armsL, i1, i2, hn] at h
        simp only [Bool.false_eq_true, and_false, if_false] at h
        rw [if_pos (.inr rfl)] at h
        cases h
    have hn := nr.next (e := e) (e' := e') ha
    have hb : begins (nextS o' e' (d + a)) = begins (nextS o e a) := by unfold begins; rw [hn.1, hn.2.1]
    rw [armsL] at h ⊢
    rw [nr.is (e := e) timeoutB ha, nr.is (e := e) [125] ha, hb]
    split at h
    · rename_i hq
      rw [if_pos hq]
      cases h1 : numberS o e 1 1000 (a + 1) with
      | error z => rw [h1] at h; cases h
      | ok na =>
        obtain ⟨n, a1⟩ := na
        rw [h1] at h
        simp only [] at h
        cases h2 : leadsS o e a1 with
        | error z => rw [h2] at h; cases h
        | ok la =>
          obtain ⟨l, a2⟩ := la
          rw [h2] at h
          simp only [] at h
          cases h3 : takeS o e 6 a2 with
          | error z => rw [h3] at h; cases h
          | ok ta =>
            obtain ⟨t, a3⟩ := ta
            rw [h3] at h
            simp only [] at h
            obtain ⟨t', q3, _⟩ := nr.take (e' := e') (by decide) h3
            have e1 : d + a + 1 = d + (a + 1) := by omega
            rw [e1, nr.number h1]
            simp only []
            rw [nr.leads h2]
            simp only []
            rw [q3]
            exact Near.arms f _ _ _ _ h
    · rename_i hq
      rw [if_neg hq]
      split at h
      · rename_i hq2
        rw [if_pos hq2]
        cases h
        rw [Nat.add_assoc]
      · rename_i hq2
        rw [if_neg hq2]
        split at h
        · cases h
        · rename_i hq3
          rw [if_neg hq3]
          split at h
          · cases h
          · rename_i hq4
            rw [if_neg hq4]
            cases h1 : patternS o e a with
            | error z => rw [h1] at h; cases h
            | ok na =>
              obtain ⟨⟨k, s⟩, a1⟩ := na
              rw [h1] at h
              simp only [] at h
              cases h2 : leadsS o e a1 with
              | error z => rw [h2] at h; cases h
              | ok la =>
                obtain ⟨l, a2⟩ := la
                rw [h2] at h
                simp only [] at h
                cases h3 : takeS o e 6 a2 with
                | error z => rw [h3] at h; cases h
                | ok ta =>
                  obtain ⟨t, a3⟩ := ta
                  rw [h3] at h
                  simp only [] at h
                  obtain ⟨t', q3, _⟩ := nr.take (e' := e') (by decide) h3
                  rw [nr.pattern h1]
                  simp only []
                  rw [nr.leads h2]
                  simp only []
                  rw [q3]
                  exact Near.arms f _ _ _ _ h
theorem Near.expect {x y : LineT} {a a' : Nat} (h : armsS o e x a = .ok (y, a')) : armsS o' e' x (d + a) = .ok (y, d + a') := by
  unfold armsS at h ⊢
  cases h1 : mustS o e 5 [123] a with
  | error z => rw [h1] at h; cases h
  | ok ua =>
    obtain ⟨u, a1⟩ := ua
    rw [h1] at h
    simp only [] at h
    cases h2 : takeS o e 6 a1 with
    | error z => rw [h2] at h; cases h
    | ok ta =>
      obtain ⟨t, a2⟩ := ta
      rw [h2] at h
      obtain ⟨t', q2, _⟩ := nr.take (e' := e') (by decide) h2
      rw [nr.must (by decide) h1]
      simp only []
      rw [q2]
      exact nr.arms _ _ _ _ _ h
theorem Near.body {op : Nat} {y : LineT} {a a' : Nat} (h : bodyS o e op a = .ok (y, a')) : bodyS o' e' op (d + a) = .ok (y, d + a') := by
  unfold bodyS at h ⊢
  split at h
  · cases h1 : takeS o e 4 a with
    | error z => rw [h1] at h; cases h
    | ok ta =>
      obtain ⟨t, a1⟩ := ta
      rw [h1] at h
      obtain ⟨t', q1, _, q2, _⟩ := nr.take (e' := e') (by decide) h1
      cases h
      simp only []
      rw [q1]
      simp only []
      rw [q2]
  · cases h1 : nameRS o e 1 a with
    | error z => rw [h1] at h; cases h
    | ok na =>
      obtain ⟨m, a1⟩ := na
      rw [h1] at h
      simp only [] at h
      cases h2 : numberS o e 0 255 a1 with
      | error z => rw [h2] at h; cases h
      | ok nb =>
        obtain ⟨n, a2⟩ := nb
        rw [h2] at h
        cases h
        simp only []
        rw [nr.name (by decide) h1]
        simp only []
        rw [nr.number h2]
  · cases h1 : nameRS o e 1 a with
    | error z => rw [h1] at h; cases h
    | ok na =>
      obtain ⟨m, a1⟩ := na
      rw [h1] at h
      cases h
      simp only []
      rw [nr.name (by decide) h1]
  · cases h1 : nameRS o e 1 a with
    | error z => rw [h1] at h; cases h
    | ok na =>
      obtain ⟨m, a1⟩ := na
      rw [h1] at h
      simp only [] at h
      cases h2 : mustS o e 5 [60] a1 with
      | error z => rw [h2] at h; cases h
      | ok nb =>
        obtain ⟨u, a2⟩ := nb
        rw [h2] at h
        simp only [] at h
        cases h3 : numberS o e 0 255 a2 with
        | error z => rw [h3] at h; cases h
        | ok nb =>
          obtain ⟨n, a3⟩ := nb
          rw [h3] at h
          simp only [] at h
          cases h4 : leadsS o e a3 with
          | error z => rw [h4] at h; cases h
          | ok la =>
            obtain ⟨l, a4⟩ := la
            rw [h4] at h
            cases h
            simp only []
            rw [nr.name (by decide) h1]
            simp only []
            rw [nr.must (by decide) h2]
            simp only []
            rw [nr.number h3]
            simp only []
            rw [nr.leads h4]
  · cases h1 : nameRS o e 1 a with
    | error z => rw [h1] at h; cases h
    | ok na =>
      obtain ⟨m, a1⟩ := na
      rw [h1] at h
      cases h
      simp only []
      rw [nr.name (by decide) h1]
  · cases h1 : numberS o e 0 255 a with
    | error z => rw [h1] at h; cases h
    | ok nb =>
      obtain ⟨n, a1⟩ := nb
      rw [h1] at h
      cases h
      simp only []
      rw [nr.number h1]
  · exact nr.expect h
theorem Near.line {r r' a a' : Nat} {y : LineT} (h : lineS o e r a = .ok (y, a')) (hr : r' + 1 ≤ 128) : lineS o' e' r' (d + a) = .ok (y, d + a') := by
  unfold lineS at h ⊢
  split at h
  · cases h
  rename_i h0
  have ha := opOf_lt h0
  have hn := nr.next (e := e) (e' := e') ha
  have hop : opOf (nextS o' e' (d + a)) = opOf (nextS o e a) := by unfold opOf; rw [hn.1, hn.2.1]
  rw [hop, if_neg h0, if_neg (by omega)]
  split at h
  · cases h
  cases h1 : bodyS o e (opOf (nextS o e a)) (a + 1) with
  | error z => rw [h1] at h; cases h
  | ok ya =>
    obtain ⟨x, a1⟩ := ya
    rw [h1] at h
    simp only [] at h
    cases h2 : takeS o e 6 a1 with
    | error z => rw [h2] at h; cases h
    | ok ta =>
      obtain ⟨t, a2⟩ := ta
      rw [h2] at h
      cases h
      obtain ⟨t', q2, _⟩ := nr.take (e' := e') (by decide) h2
      rw [Nat.add_assoc, nr.body h1]
      simp only []
      rw [q2]
end
theorem lineS_le {o : List Tok} {e r a a' : Nat} {y : LineT} (h : lineS o e r a = .ok (y, a')) : a' ≤ o.length := by
  unfold lineS at h
  split at h
  · cases h
  split at h
  · cases h
  cases h1 : bodyS o e (opOf (nextS o e a)) (a + 1) with
  | error z => rw [h1] at h; cases h
  | ok ya =>
    obtain ⟨x, a1⟩ := ya
    rw [h1] at h
    simp only [] at h
    cases h2 : takeS o e 6 a1 with
    | error z => rw [h2] at h; cases h
    | ok ta =>
      obtain ⟨t, a2⟩ := ta
      rw [h2] at h
      cases h
      have := takeS_le h2 (by decide)
      omega
theorem linesL_ok {o : List Tok} {e : Nat} : ∀ {f r a : Nat} {l l2 : List LineT} {r2 a2 : Nat}, linesL o e f r a l = .ok (l2, r2, a2) → a2 ≤ o.length ∧ r2 + l.length = r + l2.length ∧ r < r2
  | 0, _, _, _, _, _, _, h => by cases h
  | f + 1, r, a, l, l2, r2, a2, h => by
    rw [linesL] at h
    cases h1 : lineS o e r a with
    | error z => rw [h1] at h; cases h
    | ok ya =>
      obtain ⟨x, a1⟩ := ya
      rw [h1] at h
      simp only [] at h
      split at h
      · cases h
        refine ⟨lineS_le h1, ?_, by omega⟩
        rw [List.length_append, List.length_singleton]; omega
      · obtain ⟨q1, q2, q3⟩ := linesL_ok h
        rw [List.length_append, List.length_singleton] at q2
        exact ⟨q1, by omega, by omega⟩
theorem Near.lines {o o' : List Tok} {d e e' : Nat} (nr : Near o o' d) (r0 : Nat) : ∀ (f r a : Nat) (l l2 : List LineT) (r2 a2 : Nat), linesL o e f r a l = .ok (l2, r2, a2) → r0 + r2 ≤ 128 → linesL o' e' f (r0 + r) (d + a) l = .ok (l2, r0 + r2, d + a2)
  | 0, _, _, _, _, _, _, h, _ => by cases h
  | f + 1, r, a, l, l2, r2, a2, h, hr => by
    have hle := (linesL_ok h).2.2
    rw [linesL] at h ⊢
    cases h1 : lineS o e r a with
    | error z => rw [h1] at h; cases h
    | ok ya =>
      obtain ⟨x, a1⟩ := ya
      rw [h1] at h
      rw [nr.line (e' := e') (r' := r0 + r) h1 (by omega)]
      simp only [] at h ⊢
      split at h
      · rename_i hq
        cases h
        rw [if_pos hq]
        rfl
      · rename_i hq
        rw [if_neg hq, Nat.add_assoc]
        exact nr.lines r0 f _ _ _ _ _ _ h hr
def linesOf (bl : List BlockT) : Nat := (bl.map fun b => b.lines.length).sum
theorem linesOf_append (a b : List BlockT) : linesOf (a ++ b) = linesOf a + linesOf b := by unfold linesOf; rw [List.map_append, List.sum_append]
theorem linesOf_one (b : BlockT) : linesOf [b] = b.lines.length := by simp [linesOf]
theorem nameRS_lt {o : List Tok} {e a a' : Nat} {s : List UInt8} (h : nameRS o e 2 a = .ok (s, a')) : a < o.length := (nameRS_le h (by decide)).2
/-- A block, and how far: what blocksL does at a step. -/
def blockS (o : List Tok) (e r a : Nat) : Except (Nat × Nat) (BlockT × Nat × Nat) := match nameRS o e 2 a with
  | .error z => .error z
  | .ok (m, a1) => match takeS o e 6 a1 with
    | .error z => .error z
    | .ok (_, a2) => match linesL o e 130 r a2 [] with
      | .error z => .error z
      | .ok (l, r', a3) => .ok (⟨m, l⟩, r', a3)
theorem blocksL_step {o : List Tok} {e f r a : Nat} {bl : List BlockT} {b : BlockT} {r' a' : Nat} (h : blockS o e r a = .ok (b, r', a')) (hl : bl.length ≠ 32) (ha : a < o.length ∨ bl = []) : blocksL o e (f + 1) r a bl = blocksL o e f r' a' (bl ++ [b]) := by
  unfold blockS at h
  rw [blocksL, if_pos ha]
  cases h1 : nameRS o e 2 a with
  | error z => rw [h1] at h; cases h
  | ok ma =>
    obtain ⟨m, a1⟩ := ma
    rw [h1] at h
    simp only [] at h ⊢
    rw [if_neg hl]
    cases h2 : takeS o e 6 a1 with
    | error z => rw [h2] at h; cases h
    | ok ta =>
      obtain ⟨t, a2⟩ := ta
      rw [h2] at h
      simp only [] at h ⊢
      cases h3 : linesL o e 130 r a2 [] with
      | error z => rw [h3] at h; cases h
      | ok la =>
        obtain ⟨l, r3, a3⟩ := la
        rw [h3] at h
        cases h
        rfl
theorem blocksL_inv {o : List Tok} {e f r a : Nat} {bl res : List BlockT} (h : blocksL o e f r a bl = .ok res) : (o.length ≤ a ∧ bl ≠ [] ∧ res = bl) ∨ ∃ b r' a' f', f = f' + 1 ∧ a < o.length ∧ bl.length ≠ 32 ∧ blockS o e r a = .ok (b, r', a') ∧ blocksL o e f' r' a' (bl ++ [b]) = .ok res := by
  cases f with
  | zero => cases h
  | succ f =>
    rw [blocksL] at h
    split at h
    · right
      unfold blockS
      cases h1 : nameRS o e 2 a with
      | error z => rw [h1] at h; cases h
      | ok ma =>
        obtain ⟨m, a1⟩ := ma
        rw [h1] at h
        simp only [] at h ⊢
        split at h
        · cases h
        rename_i h32
        cases h2 : takeS o e 6 a1 with
        | error z => rw [h2] at h; cases h
        | ok ta =>
          obtain ⟨t, a2⟩ := ta
          rw [h2] at h
          simp only [] at h ⊢
          cases h3 : linesL o e 130 r a2 [] with
          | error z => rw [h3] at h; cases h
          | ok la =>
            obtain ⟨l, r3, a3⟩ := la
            rw [h3] at h
            exact ⟨⟨m, l⟩, r3, a3, f, rfl, nameRS_lt h1, h32, rfl, h⟩
    · rename_i hq
      cases h
      exact .inl ⟨by omega, fun q => hq (.inr q), rfl⟩
theorem blocksL_ne {o : List Tok} {e : Nat} : ∀ {f r a : Nat} {bl res : List BlockT}, blocksL o e f r a bl = .ok res → res ≠ []
  | 0, _, _, _, _, h => by cases h
  | f + 1, r, a, bl, res, h => by
    rcases blocksL_inv h with ⟨_, k2, rfl⟩ | ⟨b, r', a', f', hf, k1, k2, k3, k4⟩
    · exact k2
    · obtain rfl : f = f' := by omega
      exact blocksL_ne k4
theorem blockS_ok {o : List Tok} {e r a r' a' : Nat} {b : BlockT} (h : blockS o e r a = .ok (b, r', a')) : a' ≤ o.length ∧ r' = r + b.lines.length := by
  unfold blockS at h
  cases h1 : nameRS o e 2 a with
  | error z => rw [h1] at h; cases h
  | ok ma =>
    obtain ⟨m, a1⟩ := ma
    rw [h1] at h
    simp only [] at h
    cases h2 : takeS o e 6 a1 with
    | error z => rw [h2] at h; cases h
    | ok ta =>
      obtain ⟨t, a2⟩ := ta
      rw [h2] at h
      simp only [] at h
      cases h3 : linesL o e 130 r a2 [] with
      | error z => rw [h3] at h; cases h
      | ok la =>
        obtain ⟨l, r3, a3⟩ := la
        rw [h3] at h
        cases h
        obtain ⟨q1, q2, _⟩ := linesL_ok h3
        exact ⟨q1, by simpa using q2⟩
theorem Near.block {o o' : List Tok} {d e e' : Nat} (nr : Near o o' d) {r0 r a r' a' : Nat} {b : BlockT} (h : blockS o e r a = .ok (b, r', a')) (hr : r0 + r' ≤ 128) : blockS o' e' (r0 + r) (d + a) = .ok (b, r0 + r', d + a') := by
  unfold blockS at h ⊢
  cases h1 : nameRS o e 2 a with
  | error z => rw [h1] at h; cases h
  | ok ma =>
    obtain ⟨m, a1⟩ := ma
    rw [h1] at h
    simp only [] at h
    cases h2 : takeS o e 6 a1 with
    | error z => rw [h2] at h; cases h
    | ok ta =>
      obtain ⟨t, a2⟩ := ta
      rw [h2] at h
      simp only [] at h
      cases h3 : linesL o e 130 r a2 [] with
      | error z => rw [h3] at h; cases h
      | ok la =>
        obtain ⟨l, r3, a3⟩ := la
        rw [h3] at h
        cases h
        obtain ⟨t', q2, _⟩ := nr.take (e' := e') (by decide) h2
        rw [nr.name (by decide) h1]
        simp only []
        rw [q2]
        simp only []
        rw [nr.lines r0 _ _ _ _ _ _ _ h3 hr]
/-- All the blocks of one text, read in another one. -/
theorem Near.blocks {o o' : List Tok} {d e e' : Nat} (nr : Near o o' d) (hd : d + o.length ≤ o'.length) (pre : List BlockT) (r0 : Nat) : ∀ (f r a : Nat) (bl res : List BlockT), blocksL o e f r a bl = .ok res → a ≤ o.length → r0 + (r + linesOf res) ≤ 128 + linesOf bl → pre.length + res.length ≤ 32 →
    bl.length ≤ res.length ∧ linesOf bl ≤ linesOf res ∧ ∀ F, blocksL o' e' (F + (res.length - bl.length)) (r0 + r) (d + a) (pre ++ bl) = blocksL o' e' F (r0 + (r + linesOf res - linesOf bl)) (d + o.length) (pre ++ res) := by
  intro f
  induction f with
  | zero => intro r a bl res h; cases h
  | succ f ih =>
    intro r a bl res h ha hr hl
    rcases blocksL_inv h with ⟨h1, h2, rfl⟩ | ⟨b, r', a', f', hf, h1, h2, h3, h4⟩
    · obtain rfl : a = o.length := by omega
      refine ⟨Nat.le_refl _, Nat.le_refl _, fun F => ?_⟩
      rw [Nat.sub_self, Nat.add_sub_cancel]
      rfl
    · obtain rfl : f = f' := by omega
      obtain ⟨k1, k2⟩ := blockS_ok h3
      have hlo : linesOf (bl ++ [b]) = linesOf bl + b.lines.length := by rw [linesOf_append, linesOf_one]
      have hll : (bl ++ [b]).length = bl.length + 1 := by simp
      obtain ⟨q1, q2, q3⟩ := ih r' a' (bl ++ [b]) res h4 k1 (by omega) hl
      refine ⟨by omega, by omega, fun F => ?_⟩
      have e1 : F + (res.length - bl.length) = (F + (res.length - (bl ++ [b]).length)) + 1 := by omega
      rw [e1, blocksL_step (nr.block h3 (by omega)) (by rw [List.length_append]; omega) (.inl (by omega)), List.append_assoc, q3 F]
      congr 1
      omega
theorem movedL_ok {d : Nat} {oa ob : List Tok} : movedL d oa (.ok ob) = .ok (oa ++ ob.map (Tok.moved d)) := rfl
/-- The law. -/
theorem progS_joins (A B : List UInt8) (h : A.length + 1 + B.length ≤ 2048) {s t : List BlockT} (hs : progS A = .ok s) (ht : progS B = .ok t) (h32 : s.length + t.length ≤ 32) (h128 : linesOf s + linesOf t ≤ 128) : progS (A ++ 10 :: B) = .ok (s ++ t) := by
  have hT : (A ++ 10 :: B).length = A.length + 1 + B.length := by rw [List.length_append, List.length_cons]; omega
  unfold progS at hs ht ⊢
  rw [lexS_lines A B h]
  cases ha : lexS A with
  | error z => rw [ha] at hs; cases hs
  | ok oa =>
    cases hb : lexS B with
    | error z => rw [hb] at ht; cases ht
    | ok ob =>
      rw [ha] at hs
      rw [hb] at ht
      simp only [] at hs ht
      simp only [movedL_ok]
      have n1 : Near oa (oa ++ ob.map (Tok.moved (A.length + 1))) 0 := by
        intro a t h
        have := (List.getElem?_eq_some_iff.1 h).1
        refine ⟨t, ?_, rfl, rfl, rfl⟩
        rw [Nat.zero_add, List.getElem?_append_left this]
        exact h
      have n2 : Near ob (oa ++ ob.map (Tok.moved (A.length + 1))) oa.length := by
        intro a t h
        refine ⟨t.moved (A.length + 1), ?_, rfl, rfl, rfl⟩
        rw [List.getElem?_append_right (by omega), Nat.add_sub_cancel_left, List.getElem?_map, h]
        rfl
      obtain ⟨_, _, q1⟩ := n1.blocks (e' := (A ++ 10 :: B).length) (by rw [List.length_append]; omega) [] 0 34 0 0 [] s hs (Nat.zero_le _) (by show _ ≤ 128 + 0; omega) (by simp; omega)
      have hne := blocksL_ne hs
      obtain ⟨_, _, q2⟩ := n2.blocks (e' := (A ++ 10 :: B).length) (by rw [List.length_append, List.length_map]; exact Nat.le_refl _) s (linesOf s) 34 0 0 [] t ht (Nat.zero_le _) (by show _ ≤ 128 + 0; omega) h32
      have w1 := q1 (34 - s.length)
      have w2 := q2 (34 - s.length - t.length)
      have f1 : 34 - s.length + (s.length - ([] : List BlockT).length) = 34 := by simp; omega
      have f2 : 34 - s.length - t.length + (t.length - ([] : List BlockT).length) = 34 - s.length := by simp; omega
      rw [f1] at w1
      rw [f2] at w2
      have z0 : linesOf ([] : List BlockT) = 0 := rfl
      simp only [Nat.zero_add, Nat.add_zero, List.nil_append, List.append_nil, z0, Nat.sub_zero] at w1 w2
      rw [w1, w2]
      obtain ⟨F, hF⟩ : ∃ F, 34 - s.length - t.length = F + 1 := ⟨33 - s.length - t.length, by omega⟩
      rw [hF, blocksL, if_neg]
      rintro (q | q)
      · rw [List.length_append, List.length_map] at q; omega
      · exact hne (List.append_eq_nil_iff.1 q).1
end Go.Mini
