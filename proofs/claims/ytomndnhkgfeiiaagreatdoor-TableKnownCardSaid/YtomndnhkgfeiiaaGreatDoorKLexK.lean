/-
  LEX, part K: Lex, as it may be leant on: its tokens in one row.
-/
import Derived.Test.YtomndnhkgfeiiaaGreatDoorKLexJ
set_option linter.unusedSimpArgs false
set_option maxRecDepth 100000
namespace Go.Mini
open Go.Proofs

/-- What Lex hands back, from a heap. -/
def lexV (h : Heap) (T : List UInt8) : Value := match lexS T with
  | .ok [] => .tuple #[.slice none 0 0, .agg #[.int .i64 0, .int .i64 0]]
  | .ok (t :: o) => .tuple #[.slice (some ⟨h.next, 0, none⟩) (t :: o).length (t :: o).length, .agg #[.int .i64 0, .int .i64 0]]
  | .error (e, p) => .tuple #[.slice none 0 0, .agg #[.int .i64 e, .int .i64 p]]
def lexH (h : Heap) (T : List UInt8) : Heap := match lexS T with
  | .ok (t :: o) => h.alloc (grownRow 217 ((t :: o).flatMap Tok.cells))
  | _ => h
theorem cells_flat (o : List Tok) : ∀ v ∈ o.flatMap Tok.cells, flat v = true := by
  intro v hv
  obtain ⟨t, _, hv⟩ := List.mem_flatMap.1 hv
  simp only [Tok.cells, List.mem_cons, List.not_mem_nil, or_false] at hv
  rcases hv with rfl | rfl | rfl | rfl <;> rfl
theorem lex_good (G : Nat) (B : Base Tryz.prog G) (h : Heap) (T : List UInt8) (hT : T.length ≤ 281474976710656) : GoodE Tryz.prog B 92 [.string (bs T)] h (lexV h T) (lexH h T) := by
  obtain ⟨e, h', hb, hr⟩ := lex_spec G B h T hT
  unfold lexV lexH
  cases hs : lexS T with
  | error ep =>
    obtain ⟨e, p⟩ := ep
    rw [hs] at hr
    obtain ⟨rfl, hm⟩ := hr
    exact (GoodE.of hb).forget hm rfl
  | ok o =>
    rw [hs] at hr
    obtain ⟨v, rfl, ho, hm⟩ := hr
    cases o with
    | nil =>
      rcases ho with ⟨rfl, _⟩ | ⟨b, _, h0, _⟩
      · exact (GoodE.of hb).forget hm rfl
      · simp at h0
    | cons t o =>
      rcases ho with ⟨_, h0, _⟩ | ⟨b, hb2, _, rfl, hg⟩
      · simp at h0
      · exact GoodE.gather (g := fun x => .tuple #[x, .agg #[.int .i64 0, .int .i64 0]]) (GoodE.of hb) hm (by omega) hg (cells_flat _) (fun m x => by simp [ren, renA, renL]) (fun k x hx => by simp [sc, scA, scL, hx])
theorem lex_does (G : Nat) (B : Base Tryz.prog G) (h : Heap) (T : List UInt8) (hT : T.length ≤ 281474976710656) : Does Tryz.prog G (GoodE Tryz.prog B) 92 [.string (bs T)] h (fun r h' => r = .returned (lexV h T) ∧ h' = lexH h T) :=
  ⟨_, _, .ext (lex_good G B h T hT), rfl, rfl⟩
end Go.Mini
