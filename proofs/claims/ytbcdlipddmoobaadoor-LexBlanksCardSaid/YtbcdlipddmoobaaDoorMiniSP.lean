/-
  MINI, part SP: a slice of pairs of numbers among a law's arguments.
-/
import Derived.Test.YtbcdlipddmoobaaDoorMiniOtoYK
namespace Go.Mini
open Go.ChangeShapes Go.WideShapes Go.RowKit

/-- A list of pairs of numbers in memory. -/
def Pairs (h : Heap) (v : Value) (ns : List (Int × Int)) : Prop :=
  ∃ a cap, v = .slice a ns.length cap ∧ ∀ j n, ns[j]? = some n → ∃ b o sp, a = some ⟨b, o, sp⟩ ∧ h.ld b (o + 2 * j) = some (.int .i64 n.1) ∧ h.ld b (o + 2 * j + 1) = some (.int .i64 n.2)
theorem Pairs.more {h h' : Heap} {v : Value} {ns : List (Int × Int)} (hs : Pairs h v ns) (hm : h.more h') : Pairs h' v ns := by
  obtain ⟨a, cap, rfl, hj⟩ := hs
  exact ⟨a, cap, rfl, fun j l e => by obtain ⟨b, o, sp, rfl, q, r⟩ := hj j l e; exact ⟨b, o, sp, rfl, hm.ld q, hm.ld r⟩⟩
def flatPairs (ns : List (Int × Int)) : List Value := ns.flatMap fun n => [.int .i64 n.1, .int .i64 n.2]
theorem flatPairs_at : ∀ (ns : List (Int × Int)) (j : Nat) (n : Int × Int), ns[j]? = some n → (flatPairs ns)[2 * j]? = some (.int .i64 n.1) ∧ (flatPairs ns)[2 * j + 1]? = some (.int .i64 n.2)
  | [], j, n, h => by simp at h
  | x :: ns, 0, n, h => by simp at h; subst h; simp [flatPairs]
  | x :: ns, j + 1, n, h => by
    have := flatPairs_at ns j n (by simpa using h)
    have e1 : (flatPairs (x :: ns))[2 * (j + 1)]? = (flatPairs ns)[2 * j]? := by simp [flatPairs, show 2 * (j + 1) = 2 * j + 1 + 1 by omega]
    have e2 : (flatPairs (x :: ns))[2 * (j + 1) + 1]? = (flatPairs ns)[2 * j + 1]? := by simp [flatPairs, show 2 * (j + 1) + 1 = (2 * j + 1) + 1 + 1 by omega]
    rw [e1, e2]; exact this
theorem flatPairs_back : ∀ (ns : List (Int × Int)) (i : Nat) (v : Value), (flatPairs ns)[i]? = some v → ∃ n, ns[i / 2]? = some n ∧ v = (if i % 2 = 0 then .int .i64 n.1 else .int .i64 n.2)
  | [], i, v, h => by simp [flatPairs] at h
  | x :: ns, 0, v, h => by simp [flatPairs] at h; exact ⟨x, rfl, by simp [h]⟩
  | x :: ns, 1, v, h => by simp [flatPairs] at h; exact ⟨x, rfl, by simp [h]⟩
  | x :: ns, i + 2, v, h => by
    obtain ⟨n, h1, h2⟩ := flatPairs_back ns i v (by simpa [flatPairs] using h)
    exact ⟨n, by rw [show (i + 2) / 2 = i / 2 + 1 by omega]; simpa using h1, by rw [show (i + 2) % 2 = i % 2 by omega]; exact h2⟩

section
variable {H : Type} {enc : TypeId × Value → H} {P : Program} {W : World} {G : Nat} {m : Ren} {h : Heap}
theorem open_pairs {t e : TypeId} {v : Value} {d : DataW H} {ps : List MemPlace} {base : Nat} {fs : Array Field} {f0 f1 : Field} (ht : P.underlying t = some (.slice e)) (he : P.underlying e = some (.struct fs)) (hfs : fs.toList = [f0, f1]) (ho0 : f0.offset = 0) (ho1 : f1.offset = 1)
    (hu0 : P.underlying f0.type = some (.int .i64)) (hu1 : P.underlying f1.type = some (.int .i64)) (hc : P.cellsOf e = 2) (hc0 : P.cellsOf f0.type = 1) (hc1 : P.cellsOf f1.type = 1)
    (hok : Value.okWide P W .any base t v) (h0 : DataW.Trod enc P W 0 (fun _ => true) true t v d ps) (hr : HRel P ⟨G, W.heap.size, W⟩ m h W) :
    ∃ m' h' v' ns, HRel P ⟨G, W.heap.size, W⟩ m' h' W ∧ m.agree h.next m' ∧ h.more h' ∧ ren m' v' = v ∧ sc h'.next v' ∧ Pairs h' v' ns ∧ (∀ n ∈ ns, (Lit.int .i64 n.1).wf = true ∧ (Lit.int .i64 n.2).wf = true) ∧ ns.length ≤ maxLen := by
  obtain ⟨a0, len, cap, rfl⟩ := okWide_slice ht hok
  have hsp : ∀ a, a0 = some a → a.spot = none := by
    rintro a rfl
    simp only [Value.okWide, ht, Cell.okWide, Cell.ok] at hok
    exact hok.2.2.2.1
  obtain ⟨fuel, hf⟩ := h0
  rcases DataW.trod_slice ht hf with ⟨hcs, hx⟩ | ⟨a, len', cap', elems, rest, n, _, hcs, _, hb, hl, hm, hlen, hel, _, _⟩
  · simp [Value.cells] at hcs
    obtain ⟨rfl, rfl, rfl⟩ := hcs
    exact ⟨m, h, .slice none 0 0, [], hr, Ren.agree_refl _ _, Heap.more_refl _, by simp [ren], by simp [sc], ⟨none, 0, rfl, fun j l e => by simp at e⟩, by simp, by simp⟩
  · simp [Value.cells] at hcs
    obtain ⟨rfl, rfl, rfl⟩ := hcs
    -- each element is two numbers
    have each : ∀ i, i < len → ∃ x y : Int, W.cell? (a.add (2 * i)) = some (.int .i64 x) ∧ W.cell? (a.add (2 * i + 1)) = some (.int .i64 y) ∧ (Lit.int .i64 x).wf = true ∧ (Lit.int .i64 y).wf = true := by
      intro i hi
      have h1 := hel i hi
      obtain ⟨y, hy⟩ : ∃ y, elems[i]? = some y := ⟨_, List.getElem?_eq_getElem (by omega)⟩
      rw [hy, hc] at h1
      obtain ⟨cs, h2, h3⟩ := Option.bind_eq_some_iff.1 h1
      obtain ⟨xs, k, _, _, hcl, _, hfe⟩ := DataW.trod_struct he h3
      rw [hc] at hcl
      have hf0 : fs[0]? = some f0 := by rw [← Array.getElem?_toList, hfs]; rfl
      have hf1 : fs[1]? = some f1 := by rw [← Array.getElem?_toList, hfs]; rfl
      have q0 := hfe 0 f0 hf0
      have q1 := hfe 1 f1 hf1
      obtain ⟨x0, hx0⟩ : ∃ x, xs[0]? = some x := by
        cases hxx : xs[0]? with
        | some x => exact ⟨x, rfl⟩
        | none => rename_i hxl; rw [List.getElem?_eq_none_iff] at hxx; have : fs.size = 2 := by rw [← Array.length_toList, hfs]; rfl
                  omega
      obtain ⟨x1, hx1⟩ : ∃ x, xs[1]? = some x := by
        cases hxx : xs[1]? with
        | some x => exact ⟨x, rfl⟩
        | none => rename_i hxl; rw [List.getElem?_eq_none_iff] at hxx; have : fs.size = 2 := by rw [← Array.length_toList, hfs]; rfl
                  omega
      rw [hx0] at q0
      rw [hx1] at q1
      obtain ⟨z0, e0, _, w0⟩ := DataW.trod_int hu0 q0
      obtain ⟨z1, e1, _, w1⟩ := DataW.trod_int hu1 q1
      rw [ho0, hc0, List.drop_zero] at e0
      rw [ho1, hc1] at e1
      have hcs : cs = [.int .i64 z0, .int .i64 z1] := by
        match cs, hcl with
        | [c, d], _ => simp at e0 e1; rw [e0, e1]
      subst hcs
      unfold World.cells? at h2
      split at h2
      · have g0 := mapM_some_get h2 0 0 (by simp)
        have g1 := mapM_some_get h2 1 1 (by simp)
        have ad : ∀ p q : Nat, (a.add p).add q = a.add (p + q) := by
          intro p q
          unfold Addr.add
          by_cases hp : p = 0 <;> by_cases hq : q = 0 <;> simp [hp, hq]; omega
        rw [ad] at g0 g1
        refine ⟨z0, z1, ?_, ?_, w0, w1⟩
        · rw [show 2 * i = i * 2 + 0 by omega]; exact g0
        · rw [show 2 * i + 1 = i * 2 + 1 by omega]; exact g1
      · cases h2
    have key : ∀ k, k ≤ len → ∃ ns : List (Int × Int), ns.length = k ∧ ∀ (j : Nat) n, ns[j]? = some n → W.cell? (a.add (2 * j)) = some (.int .i64 n.1) ∧ W.cell? (a.add (2 * j + 1)) = some (.int .i64 n.2) ∧ (Lit.int .i64 n.1).wf = true ∧ (Lit.int .i64 n.2).wf = true := by
      intro k
      induction k with
      | zero => intro _; exact ⟨[], rfl, fun j n e => by simp at e⟩
      | succ k ih =>
        intro hk
        obtain ⟨ns, h1, h2⟩ := ih (by omega)
        obtain ⟨x, y, h3⟩ := each k (by omega)
        refine ⟨ns ++ [(x, y)], by simp [h1], fun j n e => ?_⟩
        rw [List.getElem?_append] at e
        split at e
        · exact h2 j n e
        · have : j = k := by
            have := (List.getElem?_eq_some_iff.1 e).1
            simp at this; omega
          subst this
          simp [h1] at e
          subst e
          exact h3
    obtain ⟨ns, hns, hcell⟩ := key len (Nat.le_refl _)
    obtain ⟨o, hr', hld⟩ := hr.outerRow rfl a (flatPairs ns) (fun v hv => by
      obtain ⟨i, hi⟩ := List.getElem?_of_mem hv
      obtain ⟨n, _, e⟩ := flatPairs_back ns i v hi
      rw [e]; split <;> rfl) (by
      intro i v hi
      obtain ⟨n, h1, e⟩ := flatPairs_back ns i v hi
      obtain ⟨c1, c2, _⟩ := hcell _ _ h1
      rw [e]
      split
      · rename_i q; rw [show 2 * (i / 2) = i by omega] at c1; exact c1
      · rename_i q; rw [show 2 * (i / 2) + 1 = i by omega] at c2; exact c2)
    refine ⟨_, _, .slice (some ⟨h.next, 0, none⟩) len cap, ns, hr', Ren.agree_put m _ _ _ _ _ (Nat.le_refl _), Heap.more_alloc _ _, ?_, ?_, ⟨some ⟨h.next, 0, none⟩, cap, ?_, ?_⟩, ?_, by omega⟩
    · have h2 := hsp a rfl
      obtain ⟨b, o2, sp⟩ := a
      simp only at h2
      subst h2
      simp only [ren, Ren.put_blk, Ren.put_sh, Ren.put_ext, Nat.zero_add, Nat.add_zero, Option.isSome_none, Bool.false_eq_true, if_false]
    · simp [sc]
    · rw [hns]
    · intro j n hj
      obtain ⟨q1, q2⟩ := flatPairs_at ns j n hj
      exact ⟨h.next, 0, none, rfl, by rw [Nat.zero_add]; exact hld _ _ q1, by rw [Nat.zero_add]; exact hld _ _ q2⟩
    · intro n hn
      obtain ⟨j, hj⟩ := List.getElem?_of_mem hn
      exact (hcell j n hj).2.2
end
end Go.Mini
