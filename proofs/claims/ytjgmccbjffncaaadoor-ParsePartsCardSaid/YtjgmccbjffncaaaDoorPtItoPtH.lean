import Derived.Test.YtjgmccbjffncaaaDoorPtF
import Derived.Test.YtjgmccbjffncaaaDoorPLexZc
import Derived.Test.YtjgmccbjffncaaaDoorMiniYOtoYS
import Derived.Test.YtjgmccbjffncaaaDoorPtEtoPtG
set_option maxHeartbeats 16000000
set_option maxRecDepth 100000
set_option linter.unusedSimpArgs false
namespace Go.Mini
section
section
variable {o : List Tok} {e : Nat} (hat : ∀ t ∈ o, t.at' ≤ e)
include hat
end
end
section
open Nat (reduceLT reduceEqDiff)
open Go.Proofs Tryd
theorem mem_sum {α : Type} (f : α → Nat) : ∀ {l : List α} {x : α}, x ∈ l → f x ≤ (l.map f).sum
 | [], _, h => by cases h
 | y :: l, x, h => by
  rw [List.map_cons, List.sum_cons]
  rcases List.mem_cons.1 h with rfl | q
  ·omega
  ·have := mem_sum f q; omega
theorem len_sum {α : Type} (f : α → Nat) (hf : ∀ x, 1 ≤ f x) : ∀ l : List α, l.length ≤ (l.map f).sum
 | [] => by simp
 | y :: l => by rw [List.map_cons, List.sum_cons, List.length_cons]; have := len_sum f hf l; have := hf y; omega
theorem roomy_of {bl : List BlockT} (hf : fineD bl) (hs : sizeS bl ≤ 65536) : roomy bl := by
 refine ⟨?_, fun b hb => ?_⟩
 ·have : linesOf bl ≤ sizeS bl := by
   clear hf hs
   induction bl with
   | nil => simp [linesOf, sizeS]
   | cons b bl ih =>
    have h1 := len_sum sizeL (fun x => by simp only [sizeL, sizeX]; omega) b.lines
    simp only [linesOf, sizeS, List.map_cons, List.sum_cons, sizeB, linesSz] at ih ⊢
    omega
  omega
 ·have h1 : sizeB b ≤ sizeS bl := mem_sum sizeB hb
  have h2 : sizeB b = 1 + b.name.length + linesSz b.lines := rfl
  refine ⟨by omega, fun x hx => ?_⟩
  have h3 : sizeL x ≤ linesSz b.lines := mem_sum sizeL hx
  have h4 : sizeL x = 1 + x.text.length + x.name.length + x.to.length + x.late.length + armsSz x.arms := rfl
  obtain ⟨_, _, _, _, q5, q6, _⟩ := (hf b hb).2 x hx
  refine ⟨by omega, by omega, by omega, by omega, q5, q6, fun a ha => ?_⟩
  have h5 : sizeA a ≤ armsSz x.arms := mem_sum sizeA ha
  have h6 : sizeA a = 1 + a.text.length + a.to.length := rfl
  omega
theorem nameS_len {s : List UInt8} (h : nameS s = true) : s.length ≤ 16 := by
 cases s with
 | nil => simp
 | cons b r =>
  rw [nameS_cons] at h
  simp only [Bool.and_eq_true, decide_eq_true_eq] at h
  exact h.1.1.1.1
theorem roomy_read {T : List UInt8} {t : List BlockT} (h : progS T = .ok t) : roomy t := by
 obtain ⟨o, _, _, _, g⟩ := progS_toks h
 have hf := progS_few h
 refine ⟨by have := hf.2.1; omega, fun b hb => ?_⟩
 obtain ⟨g1, g2⟩ := g b hb
 refine ⟨by have := nameS_len g1; omega, fun x hx => ?_⟩
 have gx := g2 x hx
 have nl : ∀ {s : List UInt8}, s = [] ∨ nameS s = true → s.length ≤ 100000 := by
  intro s hs
  rcases hs with rfl | q
  ·simp
  ·have := nameS_len q; omega
 refine ⟨by have := gx.text; omega, nl gx.name, nl gx.to, nl gx.late, by have := gx.n; omega, by have := gx.wait; omega, fun a ha => ?_⟩
 exact nl (.inr (gx.arms a ha).2)
theorem few_read {T : List UInt8} {t : List BlockT} (h : progS T = .ok t) : fewF t = true := by
 obtain ⟨o, _, _, _, g⟩ := progS_toks h
 have hf := progS_few h
 unfold fewF
 rw [decide_eq_true hf.1, decide_eq_true hf.2.1]
 simp only [Bool.and_true, List.all_eq_true]
 intro b hb x hx
 have gx := (g b hb).2 x hx
 unfold fewX
 rw [decide_eq_true gx.few, decide_eq_true gx.text]
 rfl
theorem prog_nil : progS [] = .error (6, 0) := by kernel_rfl
theorem prog_len {T : List UInt8} {t : List BlockT} (h : progS T = .ok t) : T.length ≤ 2048 := by
 obtain ⟨o, h1, _⟩ := progS_toks h
 exact (lexS_bound T).2 o h1
theorem may_ok {bl : List BlockT} (h : mayS bl = true) : progS (textS bl) = .ok bl ∧ printS bl = textS bl := by
 refine ⟨?_, by unfold printS; rw [if_pos h]⟩
 unfold mayS at h
 rw [Bool.and_eq_true] at h
 have h2 := h.2
 cases hp : progS (textS bl) with
 | error z => rw [hp] at h2; cases h2
 | ok t =>
  rw [hp] at h2
  simp only [decide_eq_true_eq] at h2
  rw [h2]
theorem bneq_self (b : Bool) : abin prog .neq 4 (.bool b) (.bool b) = some (.bool false) := by cases b <;> kernel_rfl
theorem eq_txt (a b : List UInt8) : abinS .eql (bs a) (bs b) = some (.bool (decide (a = b))) := by unfold abinS; simp only [strEq_bs]
end
end Go.Mini
