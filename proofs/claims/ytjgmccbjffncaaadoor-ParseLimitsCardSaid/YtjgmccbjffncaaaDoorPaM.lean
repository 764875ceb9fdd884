/-
  PARSE, part M: a dialogue in memory.
-/
import Derived.Test.YtjgmccbjffncaaaDoorPaL
set_option linter.unusedSimpArgs false
set_option maxHeartbeats 8000000
set_option maxRecDepth 100000
namespace Go.Mini
open Go.Proofs

def armsM (lo : Nat) (h : Heap) (p : LineT × Value) : Prop := OwnF lo h p.2 54 p.1.arms.length (p.1.arms.flatMap ArmT.cells)
def linesC (m : List (LineT × Value)) : List Value := m.flatMap fun p => lineCells p.1 p.2
def LinesM (lo : Nat) (h : Heap) (l : List LineT) (lv : Value) : Prop := ∃ m : List (LineT × Value), m.map (·.1) = l ∧ OwnF lo h lv 49 m.length (linesC m) ∧ ∀ p ∈ m, armsM lo h p
def blocksC (m : List (BlockT × Value)) : List Value := m.flatMap fun p => [.string (bs p.1.name), p.2]
def BlocksM (lo : Nat) (h : Heap) (bl : List BlockT) (bv : Value) : Prop := ∃ m : List (BlockT × Value), m.map (·.1) = bl ∧ OwnF lo h bv 42 m.length (blocksC m) ∧ ∀ p ∈ m, LinesM lo h p.1.lines p.2
section
variable {lo : Nat} {h h' : Heap}
theorem LinesM.keep {l : List LineT} {lv : Value} (o : LinesM lo h l lv) (k : ∀ j p, h.get j = some p → p.plain = false → h'.get j = some p) : LinesM lo h' l lv := by
  obtain ⟨m, h1, h2, h3⟩ := o
  exact ⟨m, h1, h2.keep k, fun p hp => OwnF.keep (h3 p hp) k⟩
theorem BlocksM.keep {l : List BlockT} {lv : Value} (o : BlocksM lo h l lv) (k : ∀ j p, h.get j = some p → p.plain = false → h'.get j = some p) : BlocksM lo h' l lv := by
  obtain ⟨m, h1, h2, h3⟩ := o
  exact ⟨m, h1, h2.keep k, fun p hp => (h3 p hp).keep k⟩
theorem LinesM.mono {lo' : Nat} {l : List LineT} {lv : Value} (o : LinesM lo h l lv) (hl : lo' ≤ lo) : LinesM lo' h l lv := by
  obtain ⟨m, h1, h2, h3⟩ := o
  exact ⟨m, h1, h2.mono hl, fun p hp => OwnF.mono (h3 p hp) hl⟩
theorem OwnF.keepE {v : Value} {e e' n : Nat} {cs : List Value} (o : OwnF lo h v e n cs) (k : KeepsE e' h h') (hne : e ≠ e') : OwnF lo h' v e n cs := by
  rcases o with o | ⟨b, hb, hn, o, hg⟩
  · exact .inl o
  · exact .inr ⟨b, hb, hn, o, k.2 _ _ hg (by simp [AObj.notE, grownRow, hne])⟩
theorem LinesM.keepE {l : List LineT} {lv : Value} (o : LinesM lo h l lv) (k : KeepsE 42 h h') : LinesM lo h' l lv := by
  obtain ⟨m, h1, h2, h3⟩ := o
  exact ⟨m, h1, h2.keepE k (by decide), fun p hp => OwnF.keepE (h3 p hp) k (by decide)⟩
end
theorem elem49 : elemOk Tryd.prog 49 8 112 = true := by kernel_rfl
theorem elem42 : elemOk Tryd.prog 42 2 40 = true := by kernel_rfl
theorem linesC_len (m : List (LineT × Value)) : (linesC m).length = m.length * 8 := by
  induction m with
  | nil => rfl
  | cons x l ih => unfold linesC at ih ⊢; rw [List.flatMap_cons, List.length_append, ih, List.length_cons]; simp only [lineCells, List.length_cons, List.length_nil]; omega
theorem blocksC_len (m : List (BlockT × Value)) : (blocksC m).length = m.length * 2 := by
  induction m with
  | nil => rfl
  | cons x l ih => unfold blocksC at ih ⊢; rw [List.flatMap_cons, List.length_append, ih, List.length_cons]; simp only [List.length_cons, List.length_nil]; omega
/-- A line more. -/
theorem LinesM.push {lo : Nat} {H : Heap} {l : List LineT} {lv : Value} (o : LinesM lo H l lv) (hlo : lo ≤ H.next) (hn : l.length ≤ 1000) (x : LineT) (av : Value) (ha : armsM lo H (x, av)) :
    abuildSlice Tryd.prog H 40 1 [(0, lineVal x av)] = some (.slice (some ⟨H.next, 0, none⟩) 1 1, H.alloc (.row { vs := lineCells x av, elem := 49 })) ∧
    ∃ v' H', aappend Tryd.prog (H.alloc (.row { vs := lineCells x av, elem := 49 })) 40 40 lv (.slice (some ⟨H.next, 0, none⟩) 1 1) = some (v', H') ∧ LinesM lo H' (l ++ [x]) v' ∧ H.next ≤ H'.next ∧ ∀ j, j < lo → H'.get j = H.get j := by
  obtain ⟨m, rfl, h2, h3⟩ := o
  rw [List.length_map] at hn
  have hav : one av = true := by obtain ⟨q, hq⟩ := OwnF.form ha; simp only at hq; rw [hq]; rfl
  have hone : (lineVal x av).cells.toList.all one = true := line_all hav
  obtain ⟨q1, v', H', q2, q3, q4, q5⟩ := own_pushK (w := lineVal x av) Tryd.underlying40 elem49 (by omega) h2 hlo (linesC_len m) rfl hone (by omega) (by omega)
  refine ⟨q1, v', H', q2, ⟨m ++ [(x, av)], by simp, ?_, ?_⟩, q4.1, q5⟩
  · have hc : linesC (m ++ [(x, av)]) = linesC m ++ (lineVal x av).cells.toList := by unfold linesC; rw [List.flatMap_append]; rfl
    rw [hc, List.length_append]; exact q3
  · intro p hp
    rcases List.mem_append.1 hp with q | q
    · exact OwnF.keepE (h3 p q) q4 (by decide)
    · simp only [List.mem_singleton] at q; subst q; exact OwnF.keepE ha q4 (by decide)
/-- A block more. -/
theorem BlocksM.push {lo : Nat} {H : Heap} {l : List BlockT} {bv : Value} (o : BlocksM lo H l bv) (hlo : lo ≤ H.next) (hn : l.length ≤ 1000) (x : BlockT) (lv : Value) (ha : LinesM lo H x.lines lv) :
    abuildSlice Tryd.prog H 22 1 [(0, .agg #[.string (bs x.name), lv])] = some (.slice (some ⟨H.next, 0, none⟩) 1 1, H.alloc (.row { vs := [.string (bs x.name), lv], elem := 42 })) ∧
    ∃ v' H', aappend Tryd.prog (H.alloc (.row { vs := [.string (bs x.name), lv], elem := 42 })) 22 22 bv (.slice (some ⟨H.next, 0, none⟩) 1 1) = some (v', H') ∧ BlocksM lo H' (l ++ [x]) v' ∧ H.next ≤ H'.next ∧ (∀ j, j < lo → H'.get j = H.get j) ∧ KeepsE 42 H H' := by
  obtain ⟨m, rfl, h2, h3⟩ := o
  rw [List.length_map] at hn
  have hav : one lv = true := by obtain ⟨_, _, q0, _⟩ := ha; obtain ⟨q, rfl⟩ := q0.form; rfl
  have hone : (Value.agg #[.string (bs x.name), lv]).cells.toList.all one = true := by simp [Value.cells, hav]; rfl
  obtain ⟨q1, v', H', q2, q3, q4, q5⟩ := own_pushK (w := .agg #[.string (bs x.name), lv]) Tryd.underlying22 elem42 (by omega) h2 hlo (blocksC_len m) rfl hone (by omega) (by omega)
  refine ⟨q1, v', H', q2, ⟨m ++ [(x, lv)], by simp, ?_, ?_⟩, q4.1, q5, q4⟩
  · have hc : blocksC (m ++ [(x, lv)]) = blocksC m ++ (Value.agg #[.string (bs x.name), lv]).cells.toList := by unfold blocksC; rw [List.flatMap_append]; rfl
    rw [hc, List.length_append]; exact q3
  · intro p hp
    rcases List.mem_append.1 hp with q | q
    · exact (h3 p q).keepE q4
    · simp only [List.mem_singleton] at q; subst q; exact ha.keepE q4
/-- What Program comes to. -/
def ProgR (h : Heap) (R : Except (Nat × Nat) (List BlockT)) (x : Ending) (h' : Heap) : Prop := match R with
  | .ok bl => ∃ bv, x = .returned (.tuple #[.agg #[bv], .agg #[.int .i64 0, .int .i64 0]]) ∧ BlocksM h.next h' bl bv ∧ h.next ≤ h'.next ∧ ∀ j, j < h.next → h'.get j = h.get j
  | .error (c, p) => x = .returned (.tuple #[.agg #[.slice none 0 0], .agg #[.int .i64 c, .int .i64 p]]) ∧ h.next ≤ h'.next ∧ ∀ j, j < h.next → h'.get j = h.get j
def blockRow (name : List UInt8) (lv : Value) : AObj := .row { vs := [.string (bs name), lv], elem := 42 }
theorem sz42 : (Tryd.prog.info? 42).map (·.size) = some 2 := by kernel_rfl
theorem agg42 : Program.agg Tryd.prog 42 = some true := by kernel_rfl
theorem sz22 : (Tryd.prog.info? 22).map (·.size) = some 1 := by kernel_rfl
theorem agg22 : Program.agg Tryd.prog 22 = some false := by kernel_rfl
theorem sz40 : (Tryd.prog.info? 40).map (·.size) = some 1 := by kernel_rfl
theorem agg40 : Program.agg Tryd.prog 40 = some false := by kernel_rfl
theorem build42 (m : List UInt8) : abuild Tryd.prog 42 [(0, .string (bs m))] = some (.agg #[.string (bs m), .slice none 0 0]) := by kernel_rfl
theorem alloc42 (h : Heap) : aalloc Tryd.prog h 42 = some (h.new, h.alloc (blockRow [] (.slice none 0 0))) := aalloc_eq (z := .agg #[.string (bs []), .slice none 0 0]) (by kernel_rfl) rfl
theorem block_new (H : Heap) (m : List UInt8) : astore Tryd.prog (H.alloc (blockRow [] (.slice none 0 0))) 42 (.pointer (some ⟨H.next, 0, none⟩)) (.agg #[.string (bs m), .slice none 0 0]) = some (H.alloc (blockRow m (.slice none 0 0))) := by
  have := astore_agg (P := Tryd.prog) (h := H.alloc (blockRow [] (.slice none 0 0))) (i := H.next) (k := 0) (cs := [.string (bs m), .slice none 0 0]) sz42 rfl rfl
  rw [this, Heap.sts_of (Heap.get_alloc_new H (blockRow [] (.slice none 0 0))) (by simp) rfl rfl]
  show some ((H.alloc (blockRow [] (.slice none 0 0))).set H.next (blockRow m (.slice none 0 0))) = _
  rw [Heap.set_alloc]
theorem block_load {H : Heap} {j : Nat} {m : List UInt8} {lv : Value} (g : H.get j = some (blockRow m lv)) : aload Tryd.prog H 42 (.pointer (some ⟨j, 0, none⟩)) = some (.agg #[.string (bs m), lv]) := by
  rw [aload_agg agg42 sz42, Heap.lds_of g (by simp)]; rfl
theorem block_lines {H : Heap} {j : Nat} {m : List UInt8} {lv0 : Value} (g : H.get j = some (blockRow m lv0)) (lv : Value) (hv : one lv = true) : astore Tryd.prog H 40 (.pointer (some ⟨j, 0 + 1, none⟩)) lv = some (H.set j (blockRow m lv)) := by
  rw [astore_cell sz40 hv, Heap.sts_of g (by simp) rfl rfl]; rfl
theorem script_blocks {H : Heap} {j : Nat} {bv0 : Value} (g : H.get j = some (scriptRow bv0)) (bv : Value) (hv : one bv = true) : astore Tryd.prog H 22 (.pointer (some ⟨j, 0, none⟩)) bv = some (H.set j (scriptRow bv)) := by
  rw [astore_cell sz22 hv, Heap.sts_of g (by simp) rfl rfl]; rfl
theorem sc0 (i k : Nat) : afieldAddr Tryd.prog 24 (.pointer (some ⟨i, k, none⟩)) 0 = some (.pointer (some ⟨i, k, none⟩)) := afieldAddr_eq (f := 0) (o := 0) Tryd.underlying24 (by rfl) (s := 0) (by kernel_rfl) i k
theorem bk0 (i k : Nat) : afieldAddr Tryd.prog 42 (.pointer (some ⟨i, k, none⟩)) 0 = some (.pointer (some ⟨i, k, none⟩)) := afieldAddr_eq (f := 0) (o := 0) Tryd.underlying42 (by rfl) (s := 0) (by kernel_rfl) i k
theorem bk1 (i k : Nat) : afieldAddr Tryd.prog 42 (.pointer (some ⟨i, k, none⟩)) 1 = some (.pointer (some ⟨i, k + 1, none⟩)) := afieldAddr_eq Tryd.underlying42 (by rfl) (s := 0) (by kernel_rfl) i k
theorem ares13' {s : List (Nat × Value)} {d : List Deferred} {h : Heap} {a c : Nat} {bv : Value} {e p : Int} (s2 : look 2 s = some (.pointer (some ⟨a, 0, none⟩))) (s3 : look 3 s = some (.pointer (some ⟨c, 0, none⟩)))
    (ga : h.get a = some (scriptRow bv)) (gc : h.get c = some (spotRow e p)) : ares Tryd.prog Tryd.f13 ⟨75, s, d⟩ h = some (.tuple #[.agg #[bv], .agg #[.int .i64 e, .int .i64 p]]) := by
  have hr : Tryd.f13.results.toList = [.cell 2 24, .cell 3 31] := rfl
  unfold ares
  rw [hr]
  simp only [aresults, aresult, s2, s3, Option.bind_some, script_load ga, aload_agg agg27 sz27, Heap.lds_of gc (k := 0) (n := 2) (by simp), Option.map_some]
  rfl
end Go.Mini
