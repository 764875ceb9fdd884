/-
  PARSE, part I: a line, walked.
-/
import Derived.Test.YtjgmccbjffncaaaDoorPaH
set_option linter.unusedSimpArgs false
set_option maxHeartbeats 8000000
set_option maxRecDepth 100000
namespace Go.Mini
open Go.Proofs

def wordsL : List (List UInt8) := [] :: opsL
def wordK (k : Nat) : List UInt8 := (wordsL[k]?).getD []
def opTo (t : Tok) : Nat → Nat
  | 0 => 0
  | k + 1 => if 0 < k ∧ t.kind = 1 ∧ t.text = wordK k then k else opTo t k
theorem opTo_8 (t : Tok) : opTo t 8 = opOf t := by
  unfold opOf
  by_cases hk : t.kind = 1
  · by_cases hm : t.text ∈ opsL
    · rw [if_pos ⟨hk, hm⟩]
      unfold opsL at hm
      simp only [List.mem_cons, List.not_mem_nil, or_false] at hm
      rcases hm with h | h | h | h | h | h | h <;> simp only [opTo, hk, h] <;> decide
    · rw [if_neg (fun q => hm q.2)]
      have : ∀ k, 0 < k → k < 8 → t.text ≠ wordK k := by
        intro k h1 h2 h3
        rw [h3] at hm
        refine hm ?_
        clear h3 hm
        match k, h1, h2 with
        | 1, _, _ => decide
        | 2, _, _ => decide
        | 3, _, _ => decide
        | 4, _, _ => decide
        | 5, _, _ => decide
        | 6, _, _ => decide
        | 7, _, _ => decide
      have key : ∀ k, k ≤ 8 → opTo t k = 0 := by
        intro k
        induction k with
        | zero => intro _; rfl
        | succ k ih =>
          intro hk8
          unfold opTo
          rw [if_neg (fun q => this k q.1 (by omega) q.2.2)]
          exact ih (by omega)
      exact key 8 (Nat.le_refl _)
  · rw [if_neg (fun q => hk q.1)]
    have key : ∀ k, opTo t k = 0 := by
      intro k
      induction k with
      | zero => rfl
      | succ k ih =>
        unfold opTo
        rw [if_neg (fun q => hk q.2.1)]
        exact ih
    exact key 8
theorem opOf_le (t : Tok) : opOf t ≤ 7 := by
  unfold opOf
  split
  · rename_i q
    have : opsL.idxOf t.text < opsL.length := List.idxOf_lt_length_of_mem q.2
    have h7 : opsL.length = 7 := rfl
    omega
  · omega
def opsC : List Value := [.string ⟨#[]⟩, .string ⟨#[115, 101, 110, 100]⟩, .string ⟨#[115, 101, 116]⟩, .string ⟨#[105, 110, 99]⟩, .string ⟨#[105, 102]⟩, .string ⟨#[103, 111, 116, 111]⟩, .string ⟨#[101, 120, 105, 116]⟩, .string ⟨#[101, 120, 112, 101, 99, 116]⟩]
def opsV : Value := .agg opsC.toArray
def opsRow : AObj := .row { vs := opsC, elem := 90 }
def ops0 : AObj := .row { vs := [.string ⟨#[]⟩, .string ⟨#[]⟩, .string ⟨#[]⟩, .string ⟨#[]⟩, .string ⟨#[]⟩, .string ⟨#[]⟩, .string ⟨#[]⟩, .string ⟨#[]⟩], elem := 90 }
theorem aindex_ops0 : aindex Tryd.prog 90 opsV (.int .i64 0) = some (.string (bs (wordK 0))) := by kernel_rfl
theorem aindex_ops1 : aindex Tryd.prog 90 opsV (.int .i64 1) = some (.string (bs (wordK 1))) := by kernel_rfl
theorem aindex_ops2 : aindex Tryd.prog 90 opsV (.int .i64 2) = some (.string (bs (wordK 2))) := by kernel_rfl
theorem aindex_ops3 : aindex Tryd.prog 90 opsV (.int .i64 3) = some (.string (bs (wordK 3))) := by kernel_rfl
theorem aindex_ops4 : aindex Tryd.prog 90 opsV (.int .i64 4) = some (.string (bs (wordK 4))) := by kernel_rfl
theorem aindex_ops5 : aindex Tryd.prog 90 opsV (.int .i64 5) = some (.string (bs (wordK 5))) := by kernel_rfl
theorem aindex_ops6 : aindex Tryd.prog 90 opsV (.int .i64 6) = some (.string (bs (wordK 6))) := by kernel_rfl
theorem aindex_ops7 : aindex Tryd.prog 90 opsV (.int .i64 7) = some (.string (bs (wordK 7))) := by kernel_rfl
theorem aindex_ops (k : Nat) (hk : k < 8) : aindex Tryd.prog 90 opsV (.int .i64 k) = some (.string (bs (wordK k))) := by
  match k, hk with
  | 0, _ => exact aindex_ops0
  | 1, _ => exact aindex_ops1
  | 2, _ => exact aindex_ops2
  | 3, _ => exact aindex_ops3
  | 4, _ => exact aindex_ops4
  | 5, _ => exact aindex_ops5
  | 6, _ => exact aindex_ops6
  | 7, _ => exact aindex_ops7
theorem sz90 : (Tryd.prog.info? 90).map (·.size) = some 8 := by kernel_rfl
theorem agg90 : Program.agg Tryd.prog 90 = some true := by kernel_rfl
theorem sz49 : (Tryd.prog.info? 49).map (·.size) = some 8 := by kernel_rfl
theorem agg49 : Program.agg Tryd.prog 49 = some true := by kernel_rfl
theorem build90 : abuild Tryd.prog 90 [(0, .string ⟨#[]⟩), (1, .string ⟨#[115, 101, 110, 100]⟩), (2, .string ⟨#[115, 101, 116]⟩), (3, .string ⟨#[105, 110, 99]⟩), (4, .string ⟨#[105, 102]⟩), (5, .string ⟨#[103, 111, 116, 111]⟩), (6, .string ⟨#[101, 120, 105, 116]⟩), (7, .string ⟨#[101, 120, 112, 101, 99, 116]⟩)] = some opsV := by kernel_rfl
theorem alloc90 (h : Heap) : aalloc Tryd.prog h 90 = some (h.new, h.alloc ops0) := aalloc_eq (z := .agg #[.string ⟨#[]⟩, .string ⟨#[]⟩, .string ⟨#[]⟩, .string ⟨#[]⟩, .string ⟨#[]⟩, .string ⟨#[]⟩, .string ⟨#[]⟩, .string ⟨#[]⟩]) (by kernel_rfl) rfl
theorem put90 (H : Heap) : astore Tryd.prog (H.alloc ops0) 90 (.pointer (some ⟨H.next, 0, none⟩)) opsV = some (H.alloc opsRow) := by
  have := astore_agg (P := Tryd.prog) (h := H.alloc ops0) (i := H.next) (k := 0) (cs := opsC) sz90 rfl rfl
  unfold opsV
  rw [this, Heap.sts_of (Heap.get_alloc_new H ops0) (by simp [opsC]) rfl rfl]
  show some ((H.alloc ops0).set H.next opsRow) = _
  rw [Heap.set_alloc]
theorem load90 {H : Heap} {j : Nat} (g : H.get j = some opsRow) : aload Tryd.prog H 90 (.pointer (some ⟨j, 0, none⟩)) = some opsV := by
  rw [aload_agg agg90 sz90, Heap.lds_of g (by simp [opsC])]; rfl
def lineVal (x : LineT) (av : Value) : Value := .agg (lineCells x av).toArray
theorem alloc49 (h : Heap) : aalloc Tryd.prog h 49 = some (h.new, h.alloc (lineRow (line0 0) (.slice none 0 0))) := aalloc_eq (z := lineVal (line0 0) (.slice none 0 0)) (by kernel_rfl) rfl
theorem build49 : abuild Tryd.prog 49 [] = some (lineVal (line0 0) (.slice none 0 0)) := by kernel_rfl
theorem line_all {x : LineT} {av : Value} (hav : one av = true) : (lineCells x av).all one = true := by
  simp only [lineCells, List.all_cons, hav, List.all_nil, Bool.and_true]
  rfl
theorem line_put {H : Heap} {j : Nat} {x0 : LineT} {av0 : Value} (g : H.get j = some (lineRow x0 av0)) (x : LineT) {av : Value} (hav : one av = true) : astore Tryd.prog H 49 (.pointer (some ⟨j, 0, none⟩)) (lineVal x av) = some (H.set j (lineRow x av)) := by
  have := astore_agg (P := Tryd.prog) (h := H) (i := j) (k := 0) (cs := lineCells x av) sz49 rfl (line_all hav)
  unfold lineVal
  rw [this, Heap.sts_of g (by simp [lineCells]) rfl rfl]; rfl
theorem line_new (H : Heap) : astore Tryd.prog (H.alloc (lineRow (line0 0) (.slice none 0 0))) 49 (.pointer (some ⟨H.next, 0, none⟩)) (lineVal (line0 0) (.slice none 0 0)) = some (H.alloc (lineRow (line0 0) (.slice none 0 0))) := by
  rw [line_put (Heap.get_alloc_new H _) _ rfl, Heap.set_alloc]
theorem line_load {H : Heap} {j : Nat} {x : LineT} {av : Value} (g : H.get j = some (lineRow x av)) : aload Tryd.prog H 49 (.pointer (some ⟨j, 0, none⟩)) = some (lineVal x av) := by
  rw [aload_agg agg49 sz49, Heap.lds_of g (by simp [lineCells])]; rfl
theorem ares27 {s : List (Nat × Value)} {d : List Deferred} {h : Heap} {j : Nat} {x : LineT} {av : Value} {b : Bool} (s2 : look 2 s = some (.pointer (some ⟨j, 0, none⟩))) (s3 : look 3 s = some (.bool b)) (g : h.get j = some (lineRow x av)) : ares Tryd.prog Tryd.f27 ⟨114, s, d⟩ h = some (.tuple #[lineVal x av, .bool b]) := by
  have hr : Tryd.f27.results.toList = [.cell 2 49, .tmp 3] := rfl
  unfold ares
  rw [hr]
  simp only [aresults, aresult, s2, s3, Option.bind_some, line_load g]
theorem rd_rows {H : Heap} {i : Nat} {v : Value} {a e r : Nat} (g : H.get i = some (rdRow v a e r)) : astore Tryd.prog H 3 (.pointer (some ⟨i, 0 + 3, none⟩)) (.int .i64 ((r : Int) + 1)) = some (rdAt H i v e (r + 1) a) := by
  rw [astore_cell sz3 rfl, Heap.sts_of g (by simp) rfl rfl]; rfl
theorem Rs.atR {h H : Heap} {i : Nat} {v : Value} {o : List Tok} {a e r : Nat} (st : Rs h H i v o a e r) (a' r' : Nat) : Rs h (rdAt H i v e r' a') i v o a' e r' := by
  refine ⟨⟨Heap.get_set_self st.rd.g, ?_, st.rd.ne⟩, but_set_at st.but _, st.vb, st.lt⟩
  rcases st.rd.t with h1 | ⟨b, r2, hb, hr, hv⟩
  · exact .inl h1
  · exact .inr ⟨b, r2, by unfold rdAt; rw [Heap.get_set_ne (st.rd.ne b _ _ hv)]; exact hb, hr, hv⟩
/-- What reading a line comes to. -/
def LineR (h : Heap) (i : Nat) (v : Value) (o : List Tok) (e r : Nat) (R : RdR LineT) (x : Ending) (h' : Heap) : Prop := match R with
  | .ok (x', a') => ∃ av, x = .returned (.tuple #[lineVal x' av, .bool (decide (5 ≤ x'.op))]) ∧ Rd h' i v o a' e (r + 1) ∧ OwnF h.next h' av 54 x'.arms.length (x'.arms.flatMap ArmT.cells) ∧ h.next ≤ h'.next ∧ ∀ j, j < h.next → j ≠ i → h'.get j = h.get j
  | .error (c, p) => x = .panicked (wrongQ c p) ∧ h.next ≤ h'.next ∧ ∀ j, j < h.next → j ≠ i → h'.get j = h.get j
theorem eql_bs (a b : List UInt8) : abinS .eql (bs a) (bs b) = some (.bool (decide (a = b))) := by unfold abinS; simp only [strEq_bs]
/-- While a line's word is looked for. -/
structure Ls (h H : Heap) (i : Nat) (v : Value) (o : List Tok) (a e r : Nat) (j2 j5 j6 : Nat) (op : Int) (t : Tok) : Prop where
  st : Rs h H i v o a e r
  g2 : H.get j2 = some (lineRow (line0 0) (.slice none 0 0))
  g5 : H.get j5 = some (lineRow (line0 op) (.slice none 0 0))
  g6 : H.get j6 = some t.row
  l2 : h.next ≤ j2
  l5 : h.next ≤ j5
  l6 : h.next ≤ j6
  n1 : j2 ≠ j5
theorem Ls.op {h H : Heap} {i : Nat} {v : Value} {o : List Tok} {a e r j2 j5 j6 : Nat} {op : Int} {t : Tok} (s : Ls h H i v o a e r j2 j5 j6 op t) (n : Int) : Ls h (H.set j5 (lineRow (line0 n) (.slice none 0 0))) i v o a e r j2 j5 j6 n t :=
  ⟨s.st.set s.l5 _, by rw [Heap.get_set_ne s.n1]; exact s.g2, Heap.get_set_self s.g5, by rw [Heap.get_set_ne (by rintro rfl; have := s.g5; rw [s.g6] at this; have q := congrArg (fun (o : Option AObj) => match o with | some (.row r) => r.elem | _ => 0) this; exact absurd q (by show ¬ ((65 : Nat) = 49); decide))]; exact s.g6, s.l2, s.l5, s.l6, s.n1⟩
theorem Ls.atR {h H : Heap} {i : Nat} {v : Value} {o : List Tok} {a e r j2 j5 j6 : Nat} {op : Int} {t : Tok} (s : Ls h H i v o a e r j2 j5 j6 op t) (a' r' : Nat) : Ls h (rdAt H i v e r' a') i v o a' e r' j2 j5 j6 op t := by
  have hi := s.st.lt
  have k : ∀ j x, h.next ≤ j → H.get j = some x → (rdAt H i v e r' a').get j = some x := fun j x hj hg => by unfold rdAt; rw [Heap.get_set_ne (by omega)]; exact hg
  exact ⟨s.st.atR a' r', k _ _ s.l2 s.g2, k _ _ s.l5 s.g5, k _ _ s.l6 s.g6, s.l2, s.l5, s.l6, s.n1⟩
end Go.Mini
