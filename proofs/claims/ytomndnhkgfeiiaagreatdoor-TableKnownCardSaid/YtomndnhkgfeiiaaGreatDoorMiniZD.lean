/-
  MINI, part ZD: operations by their laws: appends, calls that build.
-/
import Derived.Test.YtomndnhkgfeiiaaGreatDoorMiniZC
namespace Go.Mini
theorem aop_bslice {P : Program} {h h1 : Heap} {ρ : Operand → Option Value} {o : Oper} {t : TypeId} {n : Nat} {parts : Array (Nat × Operand)} {ps : List (Nat × Value)} {v : Value} (ho : o.op = .buildSlice t n parts) (hp : evp ρ parts.toList = some ps) (e : abuildSlice P h t n ps = some (v, h1)) :
    aop P ρ o h = some (.val v, h1) := by unfold aop; rw [ho]; simp only [hp, e, Option.bind_some]
theorem aop_append {P : Program} {h h1 : Heap} {ρ : Operand → Option Value} {o : Oper} {a b : TypeId} {args : Array Operand} {s x v : Value} (ho : o.op = .call { callee := .builtin .append, args := args, argTypes := #[a, b] }) (hp : evs ρ args.toList = some [s, x]) (e : aappend P h a b s x = some (v, h1)) :
    aop P ρ o h = some (.val v, h1) := by unfold aop; rw [ho]; simp only [hp, e, Option.bind_some, abuiltin]
theorem aop_convB {P : Program} {h h1 : Heap} {ρ : Operand → Option Value} {o : Oper} {s d : TypeId} {x : Operand} {a v : Value} (ho : o.op = .convert s d x) (hx : ρ x = some a) (h0 : aconv P s d a = none) (e : aconvB P h s d a = some (v, h1)) :
    aop P ρ o h = some (.val v, h1) := by unfold aop; rw [ho]; simp only [hx, h0, e, Option.bind_some]

theorem ne_of_plain {h : Heap} {i j : Nat} {o p : AObj} (hi : h.get i = some o) (hj : h.get j = some p) (ho : o.plain = true) (hp : p.plain = false) : j ≠ i := by
  rintro rfl
  rw [hi] at hj; cases hj
  rw [ho] at hp; cases hp
theorem Own.form {h : Heap} {v : Value} {e : TypeId} {n : Nat} {cs : List Value} (o : Own h v e n cs) : ∃ a, v = .slice a n n := by
  rcases o with ⟨rfl, rfl, _⟩ | ⟨b, rfl, _⟩
  · exact ⟨none, rfl⟩
  · exact ⟨_, rfl⟩
theorem Own.alloc {h : Heap} {v : Value} {e : TypeId} {n : Nat} {cs : List Value} (o : Own h v e n cs) (p : AObj) : Own (h.alloc p) v e n cs := by
  rcases o with o | ⟨b, o, hg⟩
  · exact .inl o
  · exact .inr ⟨b, o, by rw [Heap.get_alloc_old _ _ (Heap.lt_of_get hg)]; exact hg⟩
theorem Own.set {h : Heap} {v : Value} {e : TypeId} {n : Nat} {cs : List Value} (o : Own h v e n cs) {i : Nat} {q : AObj} (hi : h.get i = some q) (hq : q.plain = true) (p : AObj) : Own (h.set i p) v e n cs := by
  rcases o with o | ⟨b, o, hg⟩
  · exact .inl o
  · refine .inr ⟨b, o, ?_⟩
    rw [Heap.get_set_ne (by rintro rfl; rw [hg] at hi; cases hi; cases hq)]; exact hg
theorem Keeps.set_new {h H : Heap} (k : Keeps h H) {i : Nat} (hi : h.next ≤ i) (p : AObj) : Keeps h (H.set i p) :=
  ⟨by simpa using k.1, fun j o q r => by rw [Heap.get_set_ne (by have := Heap.lt_of_get q; omega)]; exact k.2 j o q r⟩

/-- A list of bytes that this call made, as a string. -/
theorem conv_own {P : Program} {h : Heap} {s d e : TypeId} {v : Value} {o : List UInt8} (hs : P.underlying s = some (.slice e)) (hd : P.underlying d = some .string) (he : P.underlying e = some (.int .u8)) {g : TypeId} (ho : Own h v g o.length (o.map byteV)) :
    aconv P s d v = none ∧ aconvB P h s d v = some (.string (bs o), h) := by
  have key : strOfNums (o.map fun b => (b.toNat : Int)) = bs o := by
    apply ByteArray.ext
    unfold strOfNums bs
    simp
    rw [show ((fun (n : Int) => n.toNat.toUInt8) ∘ fun (b : UInt8) => (b.toNat : Int)) = id from funext fun b => by simp]
    simp
  rcases ho with ⟨rfl, h1, h2⟩ | ⟨b, rfl, hg⟩
  · have : o = [] := List.length_eq_zero_iff.1 h1
    subst this
    refine ⟨by unfold aconv; rw [hs, hd], ?_⟩
    unfold aconvB
    simp only [hs, hd, he]
    rfl
  · refine ⟨by unfold aconv; rw [hs, hd], ?_⟩
    unfold aconvB
    simp only [hs, hd, he]
    rw [Heap.lds_of hg (by simp)]
    simp only [List.drop_zero, Option.bind_some]
    rw [List.take_of_length_le (by simp)]
    have hb : bytesOf (o.map byteV) = some (o.map fun b => (b.toNat : Int)) := by
      have := bytesOf_map (o.map fun b => (b.toNat : Int))
      rw [List.map_map] at this
      exact this
    rw [hb, Option.bind_some, key]
end Go.Mini
