import Derived.Test.YtjgmccbjffncaaaDoorPtEtoPtG
import Derived.Test.YtjgmccbjffncaaaDoorPLexZc
import Derived.Test.YtjgmccbjffncaaaDoorMiniYOtoYS
set_option maxHeartbeats 16000000
set_option maxRecDepth 100000
set_option linter.unusedSimpArgs false
namespace Go.Mini
section
open Go.Proofs Tryd
theorem splice_one {l : List Value} {i : Nat} (h : i < l.length) (v : Value) : splice l i [v] = l.set i v := by
 unfold splice
 rw [List.set_eq_take_append_cons_drop, if_pos h]
 simp
theorem chunk_len {α : Type} {f : α → List Value} {n : Nat} (hf : ∀ x, (f x).length = n) : ∀ l : List α, (l.flatMap f).length = l.length * n
 | [] => by simp
 | x :: l => by rw [List.flatMap_cons, List.length_append, hf, chunk_len hf l, List.length_cons, Nat.succ_mul, Nat.add_comm]
theorem chunk_get {α : Type} {f : α → List Value} {n : Nat} (hf : ∀ x, (f x).length = n) : ∀ (l : List α) (k j : Nat) (x : α), l[k]? = some x → j < n → (l.flatMap f)[k * n + j]? = (f x)[j]?
 | [], _, _, _, h, _ => by cases h
 | y :: l, 0, j, x, h, hj => by
  cases h
  rw [List.flatMap_cons, Nat.zero_mul, Nat.zero_add, List.getElem?_append, if_pos (by rw [hf]; exact hj)]
 | y :: l, k + 1, j, x, h, hj => by
  rw [List.flatMap_cons, List.getElem?_append, if_neg (by rw [hf, Nat.succ_mul]; omega), hf, show (k + 1) * n + j - n = k * n + j by rw [Nat.succ_mul]; omega]
  exact chunk_get hf l k j x (by simpa using h) hj
theorem chunk_put {α : Type} {f : α → List Value} {n : Nat} (hf : ∀ x, (f x).length = n) {v : Value} : ∀ (l : List α) (k j : Nat) (x y : α), l[k]? = some x → j < n → f y = (f x).set j v → (l.flatMap f).set (k * n + j) v = (l.set k y).flatMap f
 | [], _, _, _, _, h, _, _ => by cases h
 | z :: l, 0, j, x, y, h, hj, he => by
  cases h
  rw [List.flatMap_cons, Nat.zero_mul, Nat.zero_add, List.set_append, if_pos (by rw [hf]; exact hj), ← he]
  rfl
 | z :: l, k + 1, j, x, y, h, hj, he => by
  rw [List.flatMap_cons, List.set_append, if_neg (by rw [hf, Nat.succ_mul]; omega), hf, show (k + 1) * n + j - n = k * n + j by rw [Nat.succ_mul]; omega, chunk_put hf l k j x y (by simpa using h) hj he]
  rfl
theorem chunk_set {α : Type} {f : α → List Value} {n : Nat} (hf : ∀ x, (f x).length = n) {v : Value} {l : List α} {k j : Nat} {x y : α} (h : l[k]? = some x) (hj : j < n) (he : f y = (f x).set j v) : splice (l.flatMap f) (k * n + j) [v] = (l.set k y).flatMap f := by
 have hl : k * n + j < (l.flatMap f).length := by
  rw [chunk_len hf]
  have := (List.getElem?_eq_some_iff.1 h).1
  have : (k + 1) * n ≤ l.length * n := Nat.mul_le_mul_right _ this
  rw [Nat.succ_mul] at this
  omega
 rw [splice_one hl]
 exact chunk_put hf l k j x y h hj he
def Stay (e : TypeId) (h h' : Heap) : Prop := (∀ j o, h.get j = some o → o.plain = false → o.notE e = true → h'.get j = some o) ∧ ∀ j r, h.get j = some (.row r) → r.grown = false → ∃ r', h'.get j = some (.row r') ∧ r'.grown = false
theorem Stay.keepsE {e : TypeId} {h h' : Heap} (k : KeepsE e h h') : Stay e h h' := ⟨fun j o q _ n => k.2 j o q n, fun j r q p => ⟨r, k.2 j _ q (AObj.notE_of e (by simp [AObj.plain, p])), p⟩⟩
theorem Stay.more {e : TypeId} {h h' : Heap} (k : h.more h') : Stay e h h' := ⟨fun _ _ q _ _ => k.get q, fun _ r q p => ⟨r, k.get q, p⟩⟩
theorem Stay.set {h : Heap} {j : Nat} {r r' : Row} (e : TypeId) (g : h.get j = some (.row r)) (p : r.grown = false) (p' : r'.grown = false) : Stay e h (h.set j (.row r')) := by
 refine ⟨fun i o q n _ => ?_, fun i s q n => ?_⟩
 ·rw [Heap.gs (by rintro rfl; rw [g] at q; cases q; simp [AObj.plain, p] at n)]; exact q
 ·by_cases hi : i = j
  ·subst hi; exact ⟨r', Heap.gf g, p'⟩
  ·exact ⟨s, by rw [Heap.gs hi]; exact q, n⟩
theorem Stay.grown {h : Heap} {j : Nat} {e : TypeId} {cs : List Value} (g : h.get j = some (grownRow e cs)) (cs' : List Value) : Stay e h (h.set j (grownRow e cs')) := by
 refine ⟨fun i o q _ n => ?_, fun i s q n => ?_⟩
 ·rw [Heap.gs (by rintro rfl; rw [g] at q; cases q; simp [AObj.notE, grownRow] at n)]; exact q
 ·exact ⟨s, by rw [Heap.gs (by rintro rfl; rw [g] at q; cases q; cases n)]; exact q, n⟩
theorem OwnF.stay {lo : Nat} {h h' : Heap} {v : Value} {e e' n : Nat} {cs : List Value} (o : OwnF lo h v e n cs) (k : Stay e' h h') (hne : e ≠ e') : OwnF lo h' v e n cs := by
 rcases o with o | ⟨b, hb, hn, o, hg⟩
 ·exact .inl o
 ·exact .inr ⟨b, hb, hn, o, k.1 _ _ hg rfl (by simp [AObj.notE, grownRow, hne])⟩
def armsN (lo : Nat) (h : Heap) (l : List ArmT) (v : Value) : Prop := (l = [] ∧ ∃ b r, v = .slice (some ⟨b, 0, none⟩) 0 0 ∧ h.get b = some (.row r) ∧ r.grown = false) ∨ OwnF lo h v 54 l.length (l.flatMap ArmT.cells)
def LinesN (lo : Nat) (h : Heap) (m : List (LineT × Value)) (lv : Value) : Prop := OwnF lo h lv 49 m.length (linesC m) ∧ ∀ p ∈ m, armsN lo h p.1.arms p.2
def LinesQ (lo : Nat) (h : Heap) (l : List LineT) (lv : Value) : Prop := ∃ m : List (LineT × Value), m.map (·.1) = l ∧ LinesN lo h m lv
def atB (v : Value) (i : Nat) : Prop := ∃ n c, v = .slice (some ⟨i, 0, none⟩) n c
def BlocksN (lo : Nat) (h : Heap) (m : List (BlockT × Value)) (bv : Value) : Prop := OwnF lo h bv 42 m.length (blocksC m) ∧ (∀ p ∈ m, LinesQ lo h p.1.lines p.2) ∧ (m.map (·.2)).Pairwise fun a b => ∀ i, atB a i → ¬ atB b i
section
variable {lo : Nat} {h h' : Heap}
theorem armsN.one {l : List ArmT} {v : Value} (o : armsN lo h l v) : one v = true := by
 rcases o with ⟨_, b, r, rfl, _⟩ | o
 ·rfl
 ·obtain ⟨q, rfl⟩ := o.form; rfl
theorem armsN.stay {l : List ArmT} {v : Value} {e : Nat} (o : armsN lo h l v) (k : Stay e h h') (hne : e ≠ 54) : armsN lo h' l v := by
 rcases o with ⟨h1, b, r, rfl, h2, h3⟩ | o
 ·obtain ⟨r', q1, q2⟩ := k.2 b r h2 h3
  exact .inl ⟨h1, b, r', rfl, q1, q2⟩
 ·exact .inr (o.stay k (Ne.symm hne))
theorem LinesN.stay {m : List (LineT × Value)} {v : Value} {e : Nat} (o : LinesN lo h m v) (k : Stay e h h') (hne : e ≠ 54) (hn2 : e ≠ 49) : LinesN lo h' m v := ⟨o.1.stay k (Ne.symm hn2), fun p hp => (o.2 p hp).stay k hne⟩
theorem LinesQ.stay {l : List LineT} {v : Value} {e : Nat} (o : LinesQ lo h l v) (k : Stay e h h') (hne : e ≠ 54) (hn2 : e ≠ 49) : LinesQ lo h' l v := by
 obtain ⟨m, h1, h2⟩ := o
 exact ⟨m, h1, h2.stay k hne hn2⟩
theorem BlocksN.stay {m : List (BlockT × Value)} {v : Value} {e : Nat} (o : BlocksN lo h m v) (k : Stay e h h') (hne : e ≠ 54) (hn2 : e ≠ 49) (hn3 : e ≠ 42) : BlocksN lo h' m v := ⟨o.1.stay k (Ne.symm hn3), fun p hp => (o.2.1 p hp).stay k hne hn2, o.2.2⟩
theorem BlocksN.more {m : List (BlockT × Value)} {v : Value} (o : BlocksN lo h m v) (k : h.more h') : BlocksN lo h' m v := o.stay (Stay.more (e := 0) k) (by decide) (by decide) (by decide)
theorem armsN.mono {lo' : Nat} {l : List ArmT} {v : Value} (o : armsN lo h l v) (hl : lo' ≤ lo) : armsN lo' h l v := by
 rcases o with q | o
 ·exact .inl q
 ·exact .inr (o.mono hl)
theorem LinesQ.mono {lo' : Nat} {l : List LineT} {v : Value} (o : LinesQ lo h l v) (hl : lo' ≤ lo) : LinesQ lo' h l v := by
 obtain ⟨m, h1, h2, h3⟩ := o
 exact ⟨m, h1, h2.mono hl, fun p hp => (h3 p hp).mono hl⟩
theorem BlocksN.mono {lo' : Nat} {m : List (BlockT × Value)} {v : Value} (o : BlocksN lo h m v) (hl : lo' ≤ lo) : BlocksN lo' h m v := ⟨o.1.mono hl, fun p hp => (o.2.1 p hp).mono hl, o.2.2⟩
theorem LinesQ.lt {l : List LineT} {v : Value} (o : LinesQ lo h l v) {i : Nat} (hi : atB v i) : lo ≤ i ∧ i < h.next := by
 obtain ⟨m, _, h2, _⟩ := o
 obtain ⟨n, c, rfl⟩ := hi
 rcases h2 with ⟨q, _⟩ | ⟨b, hb, _, q, g⟩
 ·cases q
 ·cases q; exact ⟨hb, Heap.lg g⟩
theorem LinesQ.one {l : List LineT} {v : Value} (o : LinesQ lo h l v) : one v = true := by
 obtain ⟨m, _, h2, _⟩ := o
 obtain ⟨q, rfl⟩ := h2.form; rfl
theorem LinesQ.nil (lo : Nat) (h : Heap) : LinesQ lo h [] (.slice none 0 0) := ⟨[], rfl, OwnF.nil lo h 49, by simp⟩
theorem BlocksN.nil (lo : Nat) (h : Heap) : BlocksN lo h [] (.slice none 0 0) := ⟨OwnF.nil lo h 42, by simp, by simp⟩
theorem armsN.view {l : List ArmT} {v : Value} (o : armsN lo h l v) (hb : l.length ≤ maxLen) : ArmsV h l v := by
 rcases o with ⟨rfl, b, r, rfl, g, _⟩ | o
 ·exact ⟨[], rfl, by simp, Nat.zero_le _, .inl ⟨rfl, .inl ⟨_, _, rfl, fun b2 k2 sp2 e => by cases e; rw [Heap.lds_of g (by simp)]; simp⟩⟩⟩
 ·exact armsM.view (p := (⟨0, [], [], 0, [], l, 0, []⟩, v)) o hb
theorem LinesN.view {m : List (LineT × Value)} {v : Value} (o : LinesN lo h m v) (hb : m.length ≤ maxLen) (hx : ∀ p ∈ m, p.1.few) : LinesV h (m.map (·.1)) v := by
 have := OwnF.view (k := 8) (R := LineC) o.1 (m.map fun p => (p.1, lineCells p.1 p.2)) (by simp) (by rw [List.flatMap_map]; rfl) (by
  intro q hq
  obtain ⟨a, ha, rfl⟩ := List.mem_map.1 hq
  exact ⟨rfl, a.2, rfl, (o.2 a ha).view (hx a ha)⟩) hb
 rw [List.map_map] at this
 exact this
theorem LinesQ.view {l : List LineT} {v : Value} (o : LinesQ lo h l v) (hb : l.length ≤ maxLen) (hx : ∀ x ∈ l, x.few) : LinesV h l v := by
 obtain ⟨m, rfl, h2⟩ := o
 rw [List.length_map] at hb
 exact h2.view hb fun p hp => hx p.1 (List.mem_map_of_mem hp)
theorem BlocksN.view {m : List (BlockT × Value)} {v : Value} (o : BlocksN lo h m v) (hx : fewB (m.map (·.1))) : BlocksV h (m.map (·.1)) v := by
 obtain ⟨hb, hx⟩ := hx
 rw [List.length_map] at hb
 have := OwnF.view (k := 2) (R := BlockC) o.1 (m.map fun p => (p.1, [.string (bs p.1.name), p.2])) (by simp) (by rw [List.flatMap_map]; rfl) (by
  intro q hq
  obtain ⟨a, ha, rfl⟩ := List.mem_map.1 hq
  have := hx a.1 (List.mem_map_of_mem ha)
  exact ⟨rfl, a.2, rfl, (o.2.1 a ha).view this.1 this.2⟩) hb
 rw [List.map_map] at this
 exact this
theorem LinesQ.push {H : Heap} {l : List LineT} {lv : Value} (o : LinesQ lo H l lv) (hlo : lo ≤ H.next) (hn : l.length ≤ 1000000) (x : LineT) (av : Value) (ha : armsN lo H x.arms av) :
  abuildSlice prog H 40 1 [(0, lineVal x av)] = some (.slice (some ⟨H.next, 0, none⟩) 1 1, H.alloc (.row { vs := lineCells x av, elem := 49 })) ∧
  ∃ v' H', aappend prog (H.alloc (.row { vs := lineCells x av, elem := 49 })) 40 40 lv (.slice (some ⟨H.next, 0, none⟩) 1 1) = some (v', H') ∧ LinesQ lo H' (l ++ [x]) v' ∧ KeepsE 49 H H' ∧ ∀ j, j < lo → H'.get j = H.get j := by
 obtain ⟨m, rfl, h2, h3⟩ := o
 rw [List.length_map] at hn
 have hone : (lineVal x av).cells.toList.all Mini.one = true := line_all ha.one
 obtain ⟨q1, v', H', q2, q3, q4, q5⟩ := own_pushK (w := lineVal x av) underlying40 elem49 (by omega) h2 hlo (linesC_len m) rfl hone (by omega) (by omega)
 refine ⟨q1, v', H', q2, ⟨m ++ [(x, av)], by simp, ?_, ?_⟩, q4, q5⟩
 ·have hc : linesC (m ++ [(x, av)]) = linesC m ++ (lineVal x av).cells.toList := by unfold linesC; rw [List.flatMap_append]; rfl
  rw [hc, List.length_append]; exact q3
 ·intro p hp
  rcases List.mem_append.1 hp with q | q
  ·exact (h3 p q).stay (Stay.keepsE q4) (by decide)
  ·simp only [List.mem_singleton] at q; subst q; exact ha.stay (Stay.keepsE q4) (by decide)
theorem BlocksN.push {mid : Nat} {H : Heap} {m : List (BlockT × Value)} {bv : Value} (o : BlocksN lo H m bv) (hlo : lo ≤ mid) (hlo2 : mid ≤ H.next) (hn : m.length ≤ 1000000) (x : BlockT) (lv : Value) (ha : LinesQ mid H x.lines lv) (hlt : ∀ p ∈ m, ∀ i, atB p.2 i → i < mid) :
  abuildSlice prog H 22 1 [(0, .agg #[.string (bs x.name), lv])] = some (.slice (some ⟨H.next, 0, none⟩) 1 1, H.alloc (.row { vs := [.string (bs x.name), lv], elem := 42 })) ∧
  ∃ v' H', aappend prog (H.alloc (.row { vs := [.string (bs x.name), lv], elem := 42 })) 22 22 bv (.slice (some ⟨H.next, 0, none⟩) 1 1) = some (v', H') ∧ BlocksN lo H' (m ++ [(x, lv)]) v' ∧ KeepsE 42 H H' ∧ ∀ j, j < lo → H'.get j = H.get j := by
 obtain ⟨h2, h3, h4⟩ := o
 have hone : (Value.agg #[.string (bs x.name), lv]).cells.toList.all Mini.one = true := by simp [Value.cells, ha.one]; rfl
 obtain ⟨q1, v', H', q2, q3, q4, q5⟩ := own_pushK (w := .agg #[.string (bs x.name), lv]) underlying22 elem42 (by omega) h2 (by omega) (blocksC_len m) rfl hone (by omega) (by omega)
 refine ⟨q1, v', H', q2, ⟨?_, ?_, ?_⟩, q4, q5⟩
 ·have hc : blocksC (m ++ [(x, lv)]) = blocksC m ++ (Value.agg #[.string (bs x.name), lv]).cells.toList := by unfold blocksC; rw [List.flatMap_append]; rfl
  rw [hc, List.length_append]; exact q3
 ·intro p hp
  rcases List.mem_append.1 hp with q | q
  ·exact (h3 p q).stay (Stay.keepsE q4) (by decide) (by decide)
  ·simp only [List.mem_singleton] at q; subst q; exact (ha.mono hlo).stay (Stay.keepsE q4) (by decide) (by decide)
 ·rw [List.map_append, List.pairwise_append]
  refine ⟨h4, by simp, fun a ha' b hb i hi hj => ?_⟩
  simp only [List.map_cons, List.map_nil, List.mem_singleton] at hb
  subst hb
  obtain ⟨p, hp, rfl⟩ := List.mem_map.1 ha'
  have := hlt p hp i hi
  have := (ha.lt hj).1
  omega
theorem build47 (H : Heap) : abuildSlice prog H 47 0 [] = some (.slice (some ⟨H.next, 0, none⟩) 0 0, H.alloc (.row { vs := [], elem := 54 })) := by kernel_rfl
theorem arms_copy {H : Heap} {l : List ArmT} {av : Value} (hv : ArmsV h l av) {j : Nat} (hm : h.more H) (g : H.get j = some (.row { vs := [], elem := 54 })) (hl : l.length ≤ 1000000) (hlo : lo ≤ H.next) :
  ∃ v' H', aappend prog H 47 47 (.slice (some ⟨j, 0, none⟩) 0 0) av = some (v', H') ∧ H.more H' ∧ armsN lo H' l v' ∧ ∃ s n c, v' = .slice s n c := by
 obtain ⟨el, rfl, h2, h0, h3⟩ := hv
 obtain ⟨i, z, e1, e2, e3, e4, e5, e6⟩ := elemOk_info elem54
 rw [List.length_map] at hl
 have hlen := elems_len el fun p hp => (h2 p hp).1
 have hcs : el.flatMap (·.2) = (el.map (·.1)).flatMap ArmT.cells := by
  rw [List.flatMap_map]
  clear h3 h0 hl hlen
  induction el with
  | nil => rfl
  | cons p el ih =>
   rw [List.flatMap_cons, List.flatMap_cons, ih fun p hp => h2 p (List.mem_cons_of_mem _ hp), (h2 p (List.mem_cons_self ..)).2]
 rcases h3 with ⟨rfl, q⟩ | ⟨b, k, sp, c, hne, rfl, hld⟩
 ·refine ⟨.slice (some ⟨j, 0, none⟩) 0 0, H, ?_, Heap.mr H, .inl ⟨rfl, j, _, rfl, g, rfl⟩, _, _, _, rfl⟩
  unfold aappend
  simp only [underlying47, e1, Option.bind_some, e2]
  rcases q with ⟨a, c, rfl, q⟩ | ⟨r, rfl⟩
  ·have hf : afirst H 3 0 (.slice a 0 c) = some [] := by
    unfold afirst
    cases a with
    | none => rfl
    | some a => obtain ⟨b, k, sp⟩ := a; exact hm.lds (q b k sp rfl)
   simp only [alenOf, Option.bind_some, hf, seqD]
   simp
  ·simp [alenOf, afirst, seqD]
 ·have hpos : 0 < el.length := by cases el with | nil => exact absurd rfl hne | cons _ _ => simp
  have hld' := hm.lds hld
  refine ⟨.slice (some ⟨H.next, 0, none⟩) el.length el.length, H.alloc (grownRow 54 (el.flatMap (·.2))), ?_, Heap.ma _ _, .inr ?_, _, _, _, rfl⟩
  ·unfold aappend
   simp only [underlying47, e1, Option.bind_some, e2, alenOf, afirst, hld', seqD, Nat.zero_add, Nat.zero_mul, Nat.add_zero]
   rw [if_neg (by simp), if_neg (by omega), Heap.lds_of g (by simp), Heap.row_of g]
   simp only [Option.bind_some, List.drop_zero, List.take_zero, List.nil_append, Bool.not_false, Bool.or_true, if_true]
   exact agrow_eq elem54 (by omega) (by omega) hlen
  ·rw [List.length_map]
   exact .inr ⟨H.next, hlo, hpos, rfl, by rw [hcs]; exact Heap.gn _ _⟩
end
end
section
open Nat (reduceLT reduceEqDiff)
open Go.Proofs
def fewC (bl : List BlockT) : Prop := bl.length ≤ 100000 ∧ ∀ b ∈ bl, b.lines.length ≤ 100000 ∧ ∀ x ∈ b.lines, x.arms.length ≤ 100000
structure CpB (h H0 : Heap) (v : Value) (bl : List BlockT) (i : Nat) (K : Heap) (m : List (BlockT × Value)) (bw : Value) : Prop where
 le : i ≤ bl.length
 mm : m.map (·.1) = bl.take i
 nx : H0.next ≤ K.next
 old : h.more K
 g1 : K.get h.next = some (scriptRow v)
 g2 : K.get (h.next + 1) = some (scriptRow (.slice none 0 0))
 g3 : K.get (h.next + 2) = some (scriptRow bw)
 bn : BlocksN H0.next K m bw
structure CpL (K1 : Heap) (j5 : Nat) (t : BlockT) (n : Nat) (L : Heap) (lv : Value) : Prop where
 le : n ≤ t.lines.length
 nx : K1.next ≤ L.next
 old : ∀ j, j < K1.next → j ≠ j5 → L.get j = K1.get j
 g5 : L.get j5 = some (blockRow t.name lv)
 lq : LinesQ K1.next L (t.lines.take n) lv
theorem copy_spec {E : EXT} (G : Nat) (h : Heap) (bl : List BlockT) (v : Value) (hv : BlocksV h bl v) (hf : fewC bl) :
  Does Tryd.prog G E 16 [.agg #[v]] h fun r h' => ∃ m bw, r = .returned (.agg #[bw]) ∧ m.map (·.1) = bl ∧ BlocksN h.next h' m bw ∧ h.more h' := by
 refine Does.body Tryd.func16 rfl ?_
 have hn : enterF Tryd.f16 [.agg #[v]] = ⟨60, [(0, .agg #[v])], []⟩ := rfl
 rw [hn]; clear hn
 repeat apply Wq
 refine Wp.r (Aq @hbox24 @alloc24) ?_
 repeat apply Wq
 refine Wp.r @alloc24 ?_
 have h1 := Heap.ma h (scriptRow v)
 have h2 := Heap.ma (h.alloc (scriptRow v)) (scriptRow (.slice none 0 0))
 have h3 := Heap.ma ((h.alloc (scriptRow v)).alloc (scriptRow (.slice none 0 0))) (scriptRow (.slice none 0 0))
 obtain ⟨H0, e0⟩ : ∃ H0, H0 = ((h.alloc (scriptRow v)).alloc (scriptRow (.slice none 0 0))).alloc (scriptRow (.slice none 0 0)) := ⟨_, rfl⟩
 have n0 : H0.next = h.next + 3 := by rw [e0]; rfl
 have c0 : CpB h H0 v bl 0 H0 [] (.slice none 0 0) := by
  refine ⟨Nat.zero_le _, rfl, Nat.le_refl _, by rw [e0]; exact (h1.trans h2).trans h3, ?_, ?_, ?_, BlocksN.nil _ _⟩
  ·rw [e0]; exact (h2.trans h3).get (Heap.gn h _)
  ·rw [e0]; exact h3.get (Heap.gn (h.alloc (scriptRow v)) _)
  ·rw [e0]; exact Heap.gn ((h.alloc (scriptRow v)).alloc (scriptRow (.slice none 0 0))) _
 rw [← e0]
 clear h1 h2 h3 e0
 have hmax := SliceR.le hv
 repeat apply Wq
 refine Wp.rS ?_
 repeat apply Wq
 refine Wp.block ?_
 refine Wp.loopI (X := Nat × Heap × List (BlockT × Value) × Value) (fun x => [(1, .pointer (some ⟨h.next, 0, none⟩)), (2, .pointer (some ⟨h.next + 1, 0, none⟩)), (3, .pointer (some ⟨h.next + 2, 0, none⟩)), (4, .int .i64 x.1)]) (fun x => x.2.1)
  (fun x => CpB h H0 v bl x.1 x.2.1 x.2.2.1 x.2.2.2) (fun x => bl.length - x.1) (0, H0, [], .slice none 0 0) c0 ⟨rfl, rfl, rfl, rfl, trivial⟩ rfl ?_
 rintro ⟨i, K, m, bw⟩ st
 simp only at st ⊢
 have k1 := st.g1
 have hle := st.le
 by_cases hlt : (i : Int) < (bl.length : Int)
 ·repeat apply Wq
  refine Wp.r (Aq @sc0 (Aq @lc22 (Aq (Heap.lf k1 (k := 0) rfl) (Aq hv.len (decide_eq_true hlt))))) ?_
  repeat apply Wq
  refine Wp.cT ?_
  repeat apply Wq
  refine Wp.skip ?_
  repeat apply Wq
  refine Wp.block ?_
  obtain ⟨t, ht⟩ : ∃ t, bl[i]? = some t := ⟨_, List.getElem?_eq_getElem (by omega)⟩
  obtain ⟨b, k, lv0, hb2, hp, lt, ta, tb⟩ := hv.at ht
  have hw1 := succ_in (i := i) (n := bl.length) (by omega) hmax
  obtain ⟨hfl, hfa⟩ := hf.2 t (List.mem_of_getElem? ht)
  have tn := lds_cells (ta K st.old)
  have tl := tb K st.old
  repeat apply Wq
  refine Wp.r (Aq @sc0 (Aq @bk0 (Aq @lc22 (Aq (Heap.lf k1 (k := 0) rfl) (Aq hp (Aq tn (Aq (build42 t.name) (Aq @alloc42 (block_new K t.name))))))))) ?_
  have mK := Heap.ma K (blockRow t.name (.slice none 0 0))
  have gK := Heap.gn K (blockRow t.name (.slice none 0 0))
  obtain ⟨K1, eK⟩ : ∃ K1, K1 = K.alloc (blockRow t.name (.slice none 0 0)) := ⟨_, rfl⟩
  rw [← eK] at mK gK ⊢
  have nK : K1.next = K.next + 1 := by rw [eK]; rfl
  clear eK
  obtain ⟨j5, ej5⟩ : ∃ j5, j5 = K.next := ⟨_, rfl⟩
  rw [← ej5] at gK nK ⊢
  have sn := st.nx
  have c1 : CpL K1 j5 t 0 K1 (.slice none 0 0) := ⟨Nat.zero_le _, Nat.le_refl _, fun _ _ _ => rfl, gK, LinesQ.nil _ _⟩
  have hlm := SliceR.le lt
  repeat apply Wq
  refine Wp.rS ?_
  repeat apply Wq
  refine Wp.cut (fun fr u h' => u = none ∧ (∃ lv, CpL K1 j5 t t.lines.length h' lv) ∧ ∃ sl, fr = ⟨60, sl, []⟩ ∧ holds [(1, .pointer (some ⟨h.next, 0, none⟩)), (2, .pointer (some ⟨h.next + 1, 0, none⟩)), (3, .pointer (some ⟨h.next + 2, 0, none⟩)), (4, .int .i64 i), (5, .pointer (some ⟨j5, 0, none⟩))] sl) ?_ ?_
  rotate_left
  ·repeat apply Wq
   refine Wp.block ?_
   refine Wp.loopI (X := Nat × Heap × Value) (fun x => [(1, .pointer (some ⟨h.next, 0, none⟩)), (2, .pointer (some ⟨h.next + 1, 0, none⟩)), (3, .pointer (some ⟨h.next + 2, 0, none⟩)), (4, .int .i64 i), (5, .pointer (some ⟨j5, 0, none⟩)), (6, .int .i64 x.1)]) (fun x => x.2.1)
    (fun x => CpL K1 j5 t x.1 x.2.1 x.2.2) (fun x => t.lines.length - x.1) (0, K1, .slice none 0 0) c1 ⟨rfl, rfl, rfl, rfl, rfl, rfl, trivial⟩ rfl ?_
   rintro ⟨n, L, lv⟩ sl
   simp only at sl ⊢
   have hle2 := sl.le
   have mKL : K.more L := ⟨by have := sl.nx; omega, fun j hj => by rw [sl.old j (by omega) (by omega)]; exact mK.2 j hj⟩
   have mL : h.more L := st.old.trans mKL
   have l1 := mKL.get k1
   have tl2 := tb L mL
   by_cases hlt2 : (n : Int) < (t.lines.length : Int)
   ·repeat apply Wq
    refine Wp.r (Aq @sc0 (Aq @bk1 (Aq @lc22 (Aq (Heap.lf l1 (k := 0) rfl) (Aq hp (Aq tl2 (Aq lt.len (decide_eq_true hlt2)))))))) ?_
    repeat apply Wq
    refine Wp.cT ?_
    repeat apply Wq
    refine Wp.skip ?_
    repeat apply Wq
    refine Wp.block ?_
    obtain ⟨x, hx⟩ : ∃ x, t.lines[n]? = some x := ⟨_, List.getElem?_eq_getElem (by omega)⟩
    obtain ⟨b1, k1', av, _, hp1, aa, ta1⟩ := lt.at hx
    have hw2 := succ_in (i := n) (n := t.lines.length) (by omega) hlm
    have hax := hfa x (List.mem_of_getElem? hx)
    have tx : t.lines.take (n + 1) = t.lines.take n ++ [x] := by rw [List.take_add_one, hx]; rfl
    repeat apply Wq
    refine Wp.r (Aq @sc0 (Aq @bk1 (Aq @lc22 (Aq (Heap.lf l1 (k := 0) rfl) (Aq hp (Aq tl2 (Aq hp1 (Aq (ta1 L mL) (Aq @alloc49' (lcell0 L x (SliceR.one aa))))))))))) ?_
    have g7 : (L.alloc (lineRow x av)).get L.next = some (lineRow x av) := Heap.gn L _
    have m1 := Heap.ma L (lineRow x av)
    have n1 : (L.alloc (lineRow x av)).next = L.next + 1 := rfl
    generalize L.alloc (lineRow x av) = L1 at g7 m1 n1 ⊢
    obtain ⟨j7, ej7⟩ : ∃ j7, j7 = L.next := ⟨_, rfl⟩
    rw [← ej7] at g7 n1 ⊢
    have m2 := Heap.ma L1 (.row { vs := [], elem := 54 })
    have g8 : (L1.alloc (.row { vs := [], elem := 54 })).get L1.next = some (.row { vs := [], elem := 54 }) := Heap.gn L1 _
    obtain ⟨v', L3, ap, m3, an, s', n', c', rfl⟩ := arms_copy (lo := K1.next) aa (mL.trans (m1.trans m2)) g8 (by omega) (by have := sl.nx; have := m2.1; omega)
    have g7' := (m2.trans m3).get g7
    repeat apply Wq
    refine Wp.r (Aq @build47 (Aq @ln5 (Aq @lc47 (Aq (Heap.lf (m2.get g7) (k := 5) rfl) (Aq ap (ln_arms g7' s' n' c' x.arms)))))) ?_
    have sy : Stay 49 L3 (L3.set j7 (lineRow x (.slice s' n' c'))) := Stay.set 49 g7' rfl rfl
    have an' : armsN K1.next (L3.set j7 (lineRow x (.slice s' n' c'))) x.arms (.slice s' n' c') := an.stay sy (by decide)
    have g9 : (L3.set j7 (lineRow x (.slice s' n' c'))).get j7 = some (lineRow x (.slice s' n' c')) := Heap.gf g7'
    have g5 : (L3.set j7 (lineRow x (.slice s' n' c'))).get j5 = some (blockRow t.name lv) := by
     have := sl.nx
     rw [Heap.gs (by omega)]
     exact ((m1.trans m2).trans m3).get sl.g5
    have lq : LinesQ K1.next (L3.set j7 (lineRow x (.slice s' n' c'))) (t.lines.take n) lv := (sl.lq.stay (Stay.more (e := 0) ((m1.trans m2).trans m3)) (by decide) (by decide)).stay (Stay.set 0 g7' rfl rfl) (by decide) (by decide)
    have nx4 : K1.next ≤ (L3.set j7 (lineRow x (.slice s' n' c'))).next := by
     have := sl.nx; have := m2.1; have := m3.1
     rw [Heap.ns]; omega
    have old4 : ∀ j, j < K1.next → j ≠ j5 → (L3.set j7 (lineRow x (.slice s' n' c'))).get j = K1.get j := by
     intro j hj hne
     have := sl.nx
     rw [Heap.gs (by omega), ((m1.trans m2).trans m3).2 j (by omega)]
     exact sl.old j hj hne
    generalize L3.set j7 (lineRow x (.slice s' n' c')) = L4 at an' g9 g5 lq nx4 old4 ⊢
    obtain ⟨q1, lv2, L5, q2, lq2, q3, q4⟩ := lq.push nx4 (by rw [List.length_take]; omega) x _ an'
    have g5' : L5.get j5 = some (blockRow t.name lv) := by rw [q4 j5 (by omega)]; exact g5
    repeat apply Wq
    refine Wp.r (Aq @bk1 (Aq @lc40 (Aq (Heap.lf g5 (k := 1) rfl) (Aq (line_load g9) (Aq @q1 (Aq @q2 (block_lines g5' lv2 lq2.one))))))) ?_
    repeat apply Wq
    refine Wp.r hw2 ?_
    refine ⟨(n + 1, L5.set j5 (blockRow t.name lv2), lv2), _, ⟨by simp only; omega, ?_, ?_, Heap.gf g5', ?_⟩, by simp only; omega, rfl, ⟨rfl, rfl, rfl, rfl, rfl, rfl, trivial⟩, rfl, rfl⟩
    ·have := q3.1
     simp only [Heap.ns]; omega
    ·intro j hj hne
     simp only [Heap.gs hne]
     rw [q4 j hj]
     exact old4 j hj hne
    ·simp only
     rw [tx]
     exact lq2.stay (Stay.set 0 g5' rfl rfl) (by decide) (by decide)
   ·repeat apply Wq
    refine Wp.r (Aq @sc0 (Aq @bk1 (Aq @lc22 (Aq (Heap.lf l1 (k := 0) rfl) (Aq hp (Aq tl2 (Aq lt.len (decide_eq_false hlt2)))))))) ?_
    repeat apply Wq
    refine Wp.cF ?_
    repeat apply Wq
    refine Wp.exit ?_
    simp only [bx, Nat.reduceEqDiff]
    have hn : n = t.lines.length := by omega
    subst hn
    exact ⟨by trivial, ⟨lv, sl⟩, _, rfl, ⟨rfl, rfl, rfl, rfl, rfl, trivial⟩⟩
  rintro fr u L ⟨rfl, ⟨lv, sl⟩, s9, rfl, hs9⟩
  refine Wp.weaken (Frm.le_of hs9) ?_
  clear hs9 s9
  have mKL : K.more L := ⟨by have := sl.nx; omega, fun j hj => by rw [sl.old j (by omega) (by omega)]; exact mK.2 j hj⟩
  have l3 := mKL.get st.g3
  have hml : m.length = i := by
   have := congrArg List.length st.mm
   rw [List.length_map, List.length_take] at this
   omega
  have lq := sl.lq
  rw [List.take_length] at lq
  obtain ⟨q1, bw2, L2, q2, bn2, q3, q4⟩ := (st.bn.more mKL).push (mid := K1.next) (by have := st.nx; omega) sl.nx (by have := hf.1; omega) t lv lq (by
   intro p hp i hi
   have := ((st.bn.2.1 p hp).lt hi).2
   omega)
  have o2 : one bw2 = true := by obtain ⟨a, rfl⟩ := bn2.1.form; rfl
  have l3' : L2.get (h.next + 2) = some (scriptRow bw) := by rw [q4 _ (by omega)]; exact l3
  repeat apply Wq
  refine Wp.r (Aq @sc0 (Aq @lc22 (Aq (Heap.lf l3 (k := 0) rfl) (Aq (block_load sl.g5) (Aq @q1 (Aq @q2 (script_blocks l3' bw2 o2))))))) ?_
  repeat apply Wq
  refine Wp.r hw1 ?_
  refine ⟨(i + 1, L2.set (h.next + 2) (scriptRow bw2), m ++ [(t, lv)], bw2), _, ⟨by simp only; omega, ?_, ?_, ?_, ?_, ?_, Heap.gf l3', ?_⟩, by simp only; omega, rfl, ⟨rfl, rfl, rfl, rfl, trivial⟩, rfl, rfl⟩
  ·simp only
   rw [List.map_append, st.mm, List.take_add_one, ht]
   rfl
  ·have := q3.1; have := mKL.1; have := st.nx
   simp only [Heap.ns]; omega
  ·have mh := st.old.trans mKL
   refine ⟨?_, fun j hj => ?_⟩
   ·simp only
    rw [Heap.ns]
    exact Nat.le_trans mh.1 q3.1
   ·simp only
    rw [Heap.gs (by omega), q4 j (by omega)]
    exact mh.2 j hj
  ·simp only
   rw [Heap.gs (by omega), q4 _ (by omega)]
   exact mKL.get st.g1
  ·simp only
   rw [Heap.gs (by omega), q4 _ (by omega)]
   exact mKL.get st.g2
  ·simp only
   exact bn2.stay (Stay.set 0 l3' rfl rfl) (by decide) (by decide) (by decide)
 ·repeat apply Wq
  refine Wp.r (Aq @sc0 (Aq @lc22 (Aq (Heap.lf k1 (k := 0) rfl) (Aq hv.len (decide_eq_false hlt))))) ?_
  repeat apply Wq
  refine Wp.cF ?_
  repeat apply Wq
  refine Wp.exit ?_
  simp only [bx, Nat.reduceEqDiff]
  have o2 : one bw = true := by obtain ⟨a, rfl⟩ := st.bn.1.form; rfl
  repeat apply Wq
  refine Wp.r (Aq (script_load st.g3) (script_put st.g2 o2)) ?_
  repeat apply Wq
  refine Wp.ret ?_
  refine ⟨rfl, rfl, _, ares_cell (c := 2) (ty := 24) rfl rfl (script_load (Heap.gf st.g2)), m, bw, rfl, ?_, ?_, ?_⟩
  ·rw [st.mm, List.take_of_length_le (by omega)]
  ·exact ((st.bn.stay (Stay.set 0 st.g2 rfl rfl) (by decide) (by decide) (by decide))).mono (by omega)
  ·refine ⟨by have := st.old.1; simp only [Heap.ns]; omega, fun j hj => ?_⟩
   rw [Heap.gs (by omega)]
   exact st.old.2 j hj
end
end Go.Mini
