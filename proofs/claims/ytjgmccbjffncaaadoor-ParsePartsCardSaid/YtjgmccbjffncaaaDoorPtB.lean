import Derived.Test.YtjgmccbjffncaaaDoorPLexZc
import Derived.Test.YtjgmccbjffncaaaDoorMiniYOtoYS
import Derived.Test.YtjgmccbjffncaaaDoorPtA
import Derived.Test.YtjgmccbjffncaaaDoorPjBtoPjC
import Derived.Test.YtjgmccbjffncaaaDoorPatFtoPatG
import Derived.Test.YtjgmccbjffncaaaDoorPaFtoPaG
import Derived.Lib.ItoaLen
set_option maxHeartbeats 8000000
set_option maxRecDepth 100000
set_option linter.unusedSimpArgs false
namespace Go.Mini
open Nat (reduceLT reduceEqDiff)
open Go.Proofs Tryd
theorem itoaN_does (G : Nat) (h : Heap) (n : Int) (h0 : -9223372036854775808 ≤ n) (h1 : n ≤ 9223372036854775807) : Does prog G (GoodE prog (baseM G)) 31 [.int .i64 n] h fun r h' => r = .returned (.string (bs (Lib.itoa n))) ∧ h' = h := by
 refine FlatC.does (B := baseM G) ⟨by simp [flat], rfl, fun w hw => (Tryd.strconv_Itoa n h0 h1 w hw.2).mono ?_⟩ h
 rintro e w' ⟨rfl, k, os, rfl⟩
 refine ⟨rfl, ?_⟩
 refine ⟨by simp [Sort.grow, World.drewN], fun b hb => ?_, rfl⟩
 simp only [Sort.grow, World.drewN]
 exact Array.getElem?_append_left hb
def patWord (k : Int) : List UInt8 := if k = 2 then [103, 108, 111, 98, 32] else if k = 3 then [114, 101, 32] else []
def patS (k : Int) (T : List UInt8) : List UInt8 := if (treeS k T).1 = 0 then patWord k ++ quoteS T else []
theorem treeS_ok {k : Int} {T : List UInt8} (h : (treeS k T).1 = 0) : (k = 1 ∨ k = 2 ∨ k = 3) ∧ T.length ≤ 64 := by
 unfold treeS at h
 split at h
 ·cases h
 ·split at h
  ·cases h
  ·exact ⟨by omega, by omega⟩
theorem add_small (a b : List UInt8) (h : a.length + b.length ≤ 1000000) : abinS .add (bs a) (bs b) = some (.string (bs (a ++ b))) := by
 unfold abinS
 rw [if_pos (by simp only [bs_size, maxLen]; omega)]
 exact congrArg (fun x => some (Value.string x)) (bs_append a b)
theorem signs_len (s : List UInt8) : (quoteS s).length ≤ 4 * s.length + 2 := by
 have hl4 : ∀ c : UInt8, (signB c).length ≤ 4 := by refine all_bytes ?_; decide +kernel
 have hlen : ∀ l : List UInt8, (l.flatMap signB).length ≤ 4 * l.length := by
  intro l
  induction l with
  | nil => simp
  | cons c l ih => have := hl4 c; rw [List.flatMap_cons, List.length_append, List.length_cons]; omega
 have := hlen s
 simp only [quoteS, List.length_cons, List.length_append, List.length_nil]
 omega
def wordsA : Value := .agg #[.string ⟨#[]⟩, .string ⟨#[103, 108, 111, 98, 32]⟩, .string ⟨#[114, 101, 32]⟩]
theorem build111 : abuild prog 111 [(0, .string ⟨#[]⟩), (1, .string ⟨#[103, 108, 111, 98, 32]⟩), (2, .string ⟨#[114, 101, 32]⟩)] = some wordsA := by kernel_rfl
theorem ix111 (k : Int) (hk : k = 1 ∨ k = 2 ∨ k = 3) : aindex prog 111 wordsA (.int .i64 (k - 1)) = some (.string (bs (patWord k))) := by
 rcases hk with rfl | rfl | rfl <;> kernel_rfl
theorem patPrint_bare (G : Nat) (h : Heap) (k : Int) (T : List UInt8) :
  Does prog G (GoodE prog (baseM G)) 32 [patVal k T] h fun r _ => r = .returned (.string (bs (patS k T))) := by
 have c48 : canEnter prog 48 = true := by kernel_rfl
 have c30 : canEnter prog 30 = true := by kernel_rfl
 refine Does.body func32 rfl ?_
 have hn : enterF Tryd.f32 [patVal k T] = ⟨22, [(0, patVal k T)], []⟩ := rfl
 rw [hn]; clear hn
 repeat apply Wq
 refine Wp.r @abox52 ?_
 have gp : (h.alloc (patRow k T)).get h.next = some (patRow k T) := Heap.gn h _
 generalize h.alloc (patRow k T) = H3 at gp ⊢
 repeat apply Wq
 refine Wp.regionAs (is := List.range' 0 1 ++ (1 :: (List.range' 2 7 ++ []))) rfl ?_
 refine WpO.r 1 (pat_load gp) ?_
 refine WpO.cS c48 ((tree_does G (baseM G) H3 k T).mono ?_)
 rintro x H4 ⟨nv, rfl, hm, hn⟩
 have gz : ((H4.alloc (nodeRow zeroCells)).alloc (spotRow 0 0)).get H4.next = some (nodeRow zeroCells) := by rw [Heap.go _ _ (by simp)]; exact Heap.gn _ _
 have gs : ((H4.alloc (nodeRow zeroCells)).alloc (spotRow 0 0)).get (H4.next + 1) = some (spotRow 0 0) := Heap.gn (H4.alloc (nodeRow zeroCells)) (spotRow 0 0)
 obtain ⟨H5, e1, _, e3, e4, _⟩ := node_fin gz rfl hn (by simp; omega)
 have gs5 : H5.get (H4.next + 1) = some (spotRow 0 0) := by rw [e4 _ (by omega)]; exact gs
 have sA := spot_store' gs5 (treeS k T).1 (treeS k T).2
 have gp6 : (H5.set (H4.next + 1) (spotRow (treeS k T).1 (treeS k T).2)).get h.next = some (patRow k T) := by
  have h1 := hm.get gp
  have h2 := Heap.lg h1
  rw [Heap.gs (by omega), e4 _ (by omega), Heap.go _ _ (by simp; omega), Heap.go _ _ h2]
  exact h1
 refine pt ?_
 refine WpO.runS 7 (by simp only [bsd, bsg, reduceLT, reduceEqDiff, reduceCtorEq, List.getElem?_toArray, alloc108', alloc27, Heap.na, e1, sA] <;> exact rfl) (by decide) ?_
 refine WpO.nil ?_
 have gs6 : (H5.set (H4.next + 1) (spotRow (treeS k T).1 (treeS k T).2)).get (H4.next + 1) = some (spotRow (treeS k T).1 (treeS k T).2) := Heap.gf gs5
 generalize H5.set (H4.next + 1) (spotRow (treeS k T).1 (treeS k T).2) = H6 at gs6 gp6 ⊢
 by_cases h0 : (treeS k T).1 = 0
 ·obtain ⟨hk, hT⟩ := treeS_ok h0
  have hP : patS k T = patWord k ++ quoteS T := by unfold patS; rw [if_pos h0]
  have hw : IntKind.i64.wrap (k - 1) = k - 1 := by rw [wrap_in (by omega) (by omega)]
  have hl := signs_len T
  have ha : abinS .add (bs (patWord k)) (bs (quoteS T)) = some (.string (bs (patS k T))) := by
   rw [hP]
   refine add_small _ _ ?_
   have : (patWord k).length ≤ 5 := by rcases hk with rfl | rfl | rfl <;> decide
   omega
  repeat apply Wq
  refine Wp.runS (by simp only [bsg, reduceLT, reduceEqDiff, reduceCtorEq, s0, lc29, Heap.lf gs6 (k := 0) rfl, show (((treeS k T).1 : Int) != 0) = false by rw [h0]; rfl] <;> exact rfl) ?_
  repeat apply Wq
  refine Wp.cF ?_
  repeat apply Wq
  refine Wp.skip ?_
  repeat apply Wq
  refine Wp.drawAs [] [20] 0 (fun _ => True) mixed (by kernel_rfl) trivial ?_
  refine DrT.run 7 (by simp only [bsd, bss, bsg, reduceLT, reduceEqDiff, reduceCtorEq, build111, p0, p1, lc3, lc9, Heap.lf gp6 (k := 0) rfl, Heap.lf gp6 (k := 1) rfl, hw, ix111 k hk] <;> exact rfl) rfl ?_
  try simp only [List.drop_succ_cons, List.drop_zero]
  refine DrT.callP (fun H => quote_does G (baseM G) H T (by omega)) (by simp only [bsg, reduceLT, reduceEqDiff, reduceCtorEq]) (fun H => by simp only [bsc, bsg, reduceLT, reduceEqDiff, reduceCtorEq, c30] <;> exact rfl) (by simp only [bsg, reduceLT, reduceEqDiff, reduceCtorEq] <;> exact rfl) ?_
  refine DrT.run 2 (by simp only [bsd, bss, bsg, reduceLT, reduceEqDiff, reduceCtorEq, ha] <;> exact rfl) rfl ?_
  try simp only [List.drop_succ_cons, List.drop_zero]
  refine DrT.nil ?_
  repeat apply Wq
  refine Wp.ret ?_
  exact ⟨rfl, rfl, _, rfl, rfl⟩
 ·have hP : patS k T = [] := by unfold patS; rw [if_neg h0]
  repeat apply Wq
  refine Wp.runS (by simp only [bsg, reduceLT, reduceEqDiff, reduceCtorEq, s0, lc29, Heap.lf gs6 (k := 0) rfl, show (((treeS k T).1 : Int) != 0) = true by rw [bne_iff_ne]; omega] <;> exact rfl) ?_
  repeat apply Wq
  refine Wp.cT ?_
  repeat apply Wq
  refine Wp.rS ?_
  repeat apply Wq
  refine Wp.ret ?_
  exact ⟨rfl, rfl, _, rfl, by rw [hP]; rfl⟩
theorem patPrint_does (G : Nat) (h : Heap) (k : Int) (T : List UInt8) :
  Does prog G (GoodE prog (baseM G)) 32 [patVal k T] h fun r h' => r = .returned (.string (bs (patS k T))) ∧ h' = h :=
 Does.fromBare (by simp [flat, patVal, flatA, flatL]) rfl (patPrint_bare G (baseM G).hB k T) h
theorem wb1 (H : Heap) (a : List UInt8) : abuildSlice prog H 45 1 [(0, .string (bs a))] = some (.slice (some ⟨H.next, 0, none⟩) 1 1, H.alloc (wordsRow [a])) := by kernel_rfl
theorem wb2 (H : Heap) (a b : List UInt8) : abuildSlice prog H 45 2 [(0, .string (bs a)), (1, .string (bs b))] = some (.slice (some ⟨H.next, 0, none⟩) 2 2, H.alloc (wordsRow [a, b])) := by kernel_rfl
theorem wb3 (H : Heap) (a b c : List UInt8) : abuildSlice prog H 45 3 [(0, .string (bs a)), (1, .string (bs b)), (2, .string (bs c))] = some (.slice (some ⟨H.next, 0, none⟩) 3 3, H.alloc (wordsRow [a, b, c])) := by kernel_rfl
theorem wb4 (H : Heap) (a b c d : List UInt8) : abuildSlice prog H 45 4 [(0, .string (bs a)), (1, .string (bs b)), (2, .string (bs c)), (3, .string (bs d))] = some (.slice (some ⟨H.next, 0, none⟩) 4 4, H.alloc (wordsRow [a, b, c, d])) := by kernel_rfl
theorem wb6 (H : Heap) (a b c d e f : List UInt8) : abuildSlice prog H 45 6 [(0, .string (bs a)), (1, .string (bs b)), (2, .string (bs c)), (3, .string (bs d)), (4, .string (bs e)), (5, .string (bs f))] = some (.slice (some ⟨H.next, 0, none⟩) 6 6, H.alloc (wordsRow [a, b, c, d, e, f])) := by kernel_rfl
def sendW : List UInt8 := [115, 101, 110, 100]
def setW : List UInt8 := [115, 101, 116]
def incW : List UInt8 := [105, 110, 99]
def ifW : List UInt8 := [105, 102]
def lessW : List UInt8 := [60]
def exitW : List UInt8 := [101, 120, 105, 116]
def expectW : List UInt8 := [101, 120, 112, 101, 99, 116]
def openW : List UInt8 := [123]
def shutW : List UInt8 := [125]
def armRowS (a : ArmT) : List (List UInt8) := [patS a.kind a.text, gotoB, a.to]
def lateRowS (x : LineT) : List (List (List UInt8)) := if x.late = [] then [] else [[timeoutB, Lib.itoa x.wait, gotoB, x.late]]
def rowsL (x : LineT) : List (List (List UInt8)) :=
 if x.op = 1 then [[sendW, quoteS x.text]]
 else if x.op = 2 then [[setW, x.name, Lib.itoa x.n]]
 else if x.op = 3 then [[incW, x.name]]
 else if x.op = 4 then [[ifW, x.name, lessW, Lib.itoa x.n, gotoB, x.to]]
 else if x.op = 5 then [[gotoB, x.to]]
 else if x.op = 6 then [[exitW, Lib.itoa x.n]]
 else if x.op = 7 then [[expectW, openW]] ++ x.arms.map armRowS ++ lateRowS x ++ [[shutW]]
 else []
def rowsB (b : BlockT) : List (List (List UInt8)) := [b.name ++ [58]] :: b.lines.flatMap rowsL
def wr (o : List UInt8) (rs : List (List (List UInt8))) : List UInt8 := rs.foldl rowS o
def textS (bl : List BlockT) : List UInt8 := wr [] (bl.flatMap rowsB)
theorem wr_append (o : List UInt8) (a b : List (List (List UInt8))) : wr o (a ++ b) = wr (wr o a) b := List.foldl_append
theorem wr_one (o : List UInt8) (r : List (List UInt8)) : wr o [r] = rowS o r := rfl
def wlen (ws : List (List UInt8)) : Nat := (ws.map fun w => w.length + 1).sum
theorem join_len : ∀ ws : List (List UInt8), (Lib.join ws [32]).length ≤ wlen ws
 | [] => by simp [Lib.join]
 | [x] => by rw [Lib.join_one]; simp [wlen]
 | x :: y :: l => by
  have := join_len (y :: l)
  rw [← joinK_eq] at this ⊢
  rw [joinK]
  simp only [wlen, List.map_cons, List.sum_cons, List.length_append, List.length_cons, List.length_nil] at this ⊢
  omega
theorem rowS_len (o : List UInt8) (ws : List (List UInt8)) : (rowS o ws).length ≤ o.length + 1 + wlen ws := by
 have := join_len ws
 unfold rowS
 split
 ·rename_i h; simp only [List.nil_append]; omega
 ·simp only [List.length_append, List.length_cons, List.length_nil]; omega
structure LineT.small (x : LineT) : Prop where
 text : x.text.length ≤ 100000
 name : x.name.length ≤ 100000
 to : x.to.length ≤ 100000
 late : x.late.length ≤ 100000
 n : -9223372036854775808 ≤ x.n ∧ x.n ≤ 9223372036854775807
 wait : -9223372036854775808 ≤ x.wait ∧ x.wait ≤ 9223372036854775807
 arms : x.arms.length ≤ 8 ∧ ∀ a ∈ x.arms, a.to.length ≤ 100000
def smallD (bl : List BlockT) : Prop := bl.length ≤ 32 ∧ linesOf bl ≤ 128 ∧ ∀ b ∈ bl, b.name.length ≤ 100000 ∧ ∀ x ∈ b.lines, x.small
theorem patS_len (k : Int) (T : List UInt8) : (patS k T).length ≤ 300 := by
 unfold patS
 split
 ·rename_i h
  obtain ⟨hk, hT⟩ := treeS_ok h
  have h1 := signs_len T
  have h2 : (patWord k).length ≤ 5 := by rcases hk with rfl | rfl | rfl <;> decide
  rw [List.length_append]; omega
 ·simp
theorem armRow_len {x : LineT} (s : x.small) {a : ArmT} (ha : a ∈ x.arms) : wlen (armRowS a) ≤ 1000000 := by
 have h1 := s.arms.2 a ha
 have h2 := patS_len a.kind a.text
 have h3 : gotoB.length = 4 := rfl
 simp only [armRowS, wlen, List.map_cons, List.map_nil, List.sum_cons, List.sum_nil]
 omega
theorem rowsL_len {x : LineT} (s : x.small) : (rowsL x).length ≤ 11 ∧ ∀ r ∈ rowsL x, wlen r ≤ 1000000 := by
  obtain ⟨s1, s2, s3, s4, s5, s6, s7⟩ := s
  have hq := signs_len x.text
  have hn := Lib.itoa_length_le x.n s5.1 s5.2
  have hw := Lib.itoa_length_le x.wait s6.1 s6.2
  have e1 : sendW.length = 4 := rfl
  have e2 : setW.length = 3 := rfl
  have e3 : incW.length = 3 := rfl
  have e4 : ifW.length = 2 := rfl
  have e5 : lessW.length = 1 := rfl
  have e6 : exitW.length = 4 := rfl
  have e7 : expectW.length = 6 := rfl
  have e8 : openW.length = 1 := rfl
  have e9 : shutW.length = 1 := rfl
  have e10 : gotoB.length = 4 := rfl
  have e11 : timeoutB.length = 7 := rfl
  have hl : (lateRowS x).length ≤ 1 ∧ ∀ r ∈ lateRowS x, wlen r ≤ 1000000 := by
    unfold lateRowS
    split
    · simp
    · refine ⟨by simp, fun r hr => ?_⟩
      simp only [List.mem_singleton] at hr
      subst hr
      simp only [wlen, List.map_cons, List.map_nil, List.sum_cons, List.sum_nil]
      omega
  unfold rowsL
  repeat' split
  all_goals first
    | (refine ⟨by simp, fun r hr => ?_⟩
       simp only [List.mem_singleton] at hr
       subst hr
       simp only [wlen, List.map_cons, List.map_nil, List.sum_cons, List.sum_nil]
       omega)
    | (refine ⟨by simp only [List.length_append, List.length_cons, List.length_nil, List.length_map]; omega, fun r hr => ?_⟩
       simp only [List.mem_append, List.mem_singleton, List.mem_map] at hr
       rcases hr with ((rfl | ⟨a, ha, rfl⟩) | hr) | rfl
       · simp only [wlen, List.map_cons, List.map_nil, List.sum_cons, List.sum_nil]; omega
       · exact armRow_len ⟨s1, s2, s3, s4, s5, s6, s7⟩ ha
       · exact hl.2 r hr
       · simp only [wlen, List.map_cons, List.map_nil, List.sum_cons, List.sum_nil]; omega)
    | (refine ⟨by simp, fun r hr => ?_⟩; simp at hr)
theorem wr_len : ∀ (rs : List (List (List UInt8))) (o : List UInt8), (∀ r ∈ rs, wlen r ≤ 1000000) → (wr o rs).length ≤ o.length + rs.length * 1000001
 | [], o, _ => by simp [wr]
 | r :: rs, o, h => by
  have h1 := rowS_len o r
  have h2 := h r (List.mem_cons_self ..)
  have h3 := wr_len rs (rowS o r) fun q hq => h q (List.mem_cons_of_mem _ hq)
  rw [show wr o (r :: rs) = wr (rowS o r) rs from rfl, List.length_cons, Nat.succ_mul]
  omega
theorem flat_rows {l : List LineT} (h : ∀ x ∈ l, x.small) : (l.flatMap rowsL).length ≤ l.length * 11 ∧ ∀ r ∈ l.flatMap rowsL, wlen r ≤ 1000000 := by
 induction l with
 | nil => simp
 | cons x l ih =>
  obtain ⟨h1, h2⟩ := rowsL_len (h x (List.mem_cons_self ..))
  obtain ⟨h3, h4⟩ := ih fun y hy => h y (List.mem_cons_of_mem _ hy)
  rw [List.flatMap_cons, List.length_append, List.length_cons, Nat.succ_mul]
  refine ⟨by omega, fun r hr => ?_⟩
  rcases List.mem_append.1 hr with q | q
  ·exact h2 r q
  ·exact h4 r q
theorem rowsB_len {b : BlockT} (hn : b.name.length ≤ 100000) (h : ∀ x ∈ b.lines, x.small) : (rowsB b).length ≤ 1 + b.lines.length * 11 ∧ ∀ r ∈ rowsB b, wlen r ≤ 1000000 := by
 obtain ⟨h1, h2⟩ := flat_rows h
 unfold rowsB
 refine ⟨by rw [List.length_cons]; omega, fun r hr => ?_⟩
 rcases List.mem_cons.1 hr with rfl | q
 ·simp only [wlen, List.map_cons, List.map_nil, List.sum_cons, List.sum_nil, List.length_append, List.length_cons, List.length_nil]; omega
 ·exact h2 r q
theorem flat_blocks : ∀ {l : List BlockT}, (∀ b ∈ l, b.name.length ≤ 100000 ∧ ∀ x ∈ b.lines, x.small) → (l.flatMap rowsB).length ≤ l.length + linesOf l * 11 ∧ ∀ r ∈ l.flatMap rowsB, wlen r ≤ 1000000
 | [], _ => by simp [linesOf]
 | b :: l, h => by
  have hb := h b (List.mem_cons_self ..)
  obtain ⟨h1, h2⟩ := rowsB_len hb.1 hb.2
  obtain ⟨h3, h4⟩ := flat_blocks (l := l) fun y hy => h y (List.mem_cons_of_mem _ hy)
  have e : linesOf (b :: l) = b.lines.length + linesOf l := by simp [linesOf]
  rw [List.flatMap_cons, List.length_append, List.length_cons, e, Nat.add_mul]
  refine ⟨by omega, fun r hr => ?_⟩
  rcases List.mem_append.1 hr with q | q
  ·exact h2 r q
  ·exact h4 r q
end Go.Mini
