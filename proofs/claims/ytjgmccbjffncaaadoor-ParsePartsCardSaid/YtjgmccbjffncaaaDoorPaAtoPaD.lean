import Derived.Test.YtjgmccbjffncaaaDoorPLexZc
import Derived.Test.YtjgmccbjffncaaaDoorMiniYOtoYS
import Derived.Test.YtjgmccbjffncaaaDoorPLexMatoPLexO
import Derived.Test.YtjgmccbjffncaaaDoorMiniZFtoZJ
set_option maxHeartbeats 4000000
set_option maxRecDepth 100000
set_option linter.unusedSimpArgs false
namespace Go.Mini
section
open Nat (reduceLT reduceEqDiff)
open Go.Proofs Tryd
theorem q0 (i k : Nat) : afieldAddr prog 63 (.pointer (some ⟨i, k, none⟩)) 0 = some (.pointer (some ⟨i, k, none⟩)) := afieldAddr_eq (f := 0) (o := 0) underlying63 (by rfl) (s := 0) (by kernel_rfl) i k
theorem q1 (i k : Nat) : afieldAddr prog 63 (.pointer (some ⟨i, k, none⟩)) 1 = some (.pointer (some ⟨i, k + 1, none⟩)) := afieldAddr_eq underlying63 (by rfl) (s := 0) (by kernel_rfl) i k
theorem q2 (i k : Nat) : afieldAddr prog 63 (.pointer (some ⟨i, k, none⟩)) 2 = some (.pointer (some ⟨i, k + 2, none⟩)) := afieldAddr_eq underlying63 (by rfl) (s := 0) (by kernel_rfl) i k
theorem q3 (i k : Nat) : afieldAddr prog 63 (.pointer (some ⟨i, k, none⟩)) 3 = some (.pointer (some ⟨i, k + 3, none⟩)) := afieldAddr_eq underlying63 (by rfl) (s := 0) (by kernel_rfl) i k
theorem agg43 : Program.agg prog 56 = some false := by kernel_rfl
def rdRow (v : Value) (a e r : Nat) : AObj := .row { vs := [v, .int .i64 a, .int .i64 e, .int .i64 r], elem := 63 }
def nextS (o : List Tok) (e a : Nat) : Tok := (o[a]?).getD ⟨0, [], 0, e⟩
theorem ares13 {s : List (Nat × Value)} {d : List Deferred} {h : Heap} {a : Nat} {t : Tok} (s2 : look 2 s = some (.pointer (some ⟨a, 0, none⟩))) (ga : h.get a = some t.row) : ares prog Tryd.f23 ⟨28, s, d⟩ h = some t.val := by
 have hr : Tryd.f23.results.toList = [.cell 2 65] := rfl
 unfold ares
 rw [hr]
 simp only [aresults, aresult, s2, Option.bind_some, tok_load ga]
theorem next_raw {E : EXT} (G : Nat) (h : Heap) (i : Nat) (v : Value) (o : List Tok) (a e r : Nat) (hg : h.get i = some (rdRow v a e r)) (ho : Toks h v o) :
  Does prog G E 23 [.pointer (some ⟨i, 0, none⟩)] h (fun x h' => x = .returned (nextS o e a).val ∧ h.next ≤ h'.next ∧ ∀ j, j < h.next → h'.get j = h.get j) := by
 refine Does.body func23 rfl ?_
 have hn : enterF Tryd.f23 [.pointer (some ⟨i, 0, none⟩)] = ⟨28, [(0, .pointer (some ⟨i, 0, none⟩))], []⟩ := rfl
 rw [hn]; clear hn
 repeat apply Wq
 refine Wp.r @alloc31 ?_
 have hi := Heap.lg hg
 have hg1 : (h.alloc (Tok.row ⟨0, [], 0, 0⟩)).get i = some (rdRow v a e r) := by rw [Heap.go _ _ hi]; exact hg
 have ho1 : Toks (h.alloc (Tok.row ⟨0, [], 0, 0⟩)) v o := ho.more (Heap.ma _ _)
 have fin : ∀ t : Tok, h.next ≤ (h.alloc t.row).next ∧ ∀ j, j < h.next → (h.alloc t.row).get j = h.get j := fun t => ⟨Nat.le_succ _, fun j hj => Heap.go _ _ hj⟩
 by_cases hlt : (a : Int) < (o.length : Int)
 ·repeat apply Wq
  refine Wp.runSD mixed (by kernel_rfl) (by simp only [runSD, stepOD, stepWD, stepVD, isLoud, isPure, isReader, decide_true, bsb, bsg, reduceLT, reduceEqDiff, reduceCtorEq, q0, q1, lc3, lc56, Heap.lf hg1 (k := 0) rfl, Heap.lf hg1 (k := 1) rfl, ho1.len, decide_eq_true hlt] <;> exact rfl) ?_
  repeat apply Wq
  refine Wp.cT ?_
  obtain ⟨t, ht⟩ : ∃ t, o[a]? = some t := ⟨_, List.getElem?_eq_getElem (by omega)⟩
  obtain ⟨p, hp1, hp2⟩ := ho1.at ht
  repeat apply Wq
  refine Wp.runSD mixed (by kernel_rfl) (by simp only [runSD, stepOD, stepWD, stepVD, isLoud, isPure, isReader, decide_true, bsb, bsg, reduceLT, reduceEqDiff, reduceCtorEq, q0, q1, lc3, lc56, Heap.lf hg1 (k := 0) rfl, Heap.lf hg1 (k := 1) rfl, hp1, hp2, tok_put] <;> exact rfl) ?_
  repeat apply Wq
  refine Wp.ret ?_
  have hn : nextS o e a = t := by unfold nextS; rw [ht]; rfl
  exact ⟨rfl, rfl, _, ares13 rfl (Heap.gn _ _), by rw [hn], fin t⟩
 ·repeat apply Wq
  refine Wp.runSD mixed (by kernel_rfl) (by simp only [runSD, stepOD, stepWD, stepVD, isLoud, isPure, isReader, decide_true, bsb, bsg, reduceLT, reduceEqDiff, reduceCtorEq, q0, q1, lc3, lc56, Heap.lf hg1 (k := 0) rfl, Heap.lf hg1 (k := 1) rfl, ho1.len, decide_eq_false hlt] <;> exact rfl) ?_
  repeat apply Wq
  refine Wp.cF ?_
  repeat apply Wq
  refine Wp.skip ?_
  repeat apply Wq
  refine Wp.r (Aq @q2 (Aq @lc3 (Aq (Heap.lf hg1 (k := 2) rfl) (Aq @build31 @tok_put)))) ?_
  repeat apply Wq
  refine Wp.ret ?_
  have hn : nextS o e a = ⟨0, [], 0, e⟩ := by unfold nextS; rw [List.getElem?_eq_none (by omega)]; rfl
  exact ⟨rfl, rfl, _, ares13 rfl (Heap.gn _ _), by rw [hn], fin _⟩
theorem next_good (G : Nat) (B : Base prog G) (h : Heap) (i : Nat) (v : Value) (o : List Tok) (a e r : Nat) (hg : h.get i = some (rdRow v a e r)) (ho : Toks h v o) : GoodE prog B 23 [.pointer (some ⟨i, 0, none⟩)] h (nextS o e a).val h :=
 Does.clean (next_raw G h i v o a e r hg ho) rfl rfl fun _ _ ho => .inl ho
theorem next_does (G : Nat) (B : Base prog G) (h : Heap) (i : Nat) (v : Value) (o : List Tok) (a e r : Nat) (hg : h.get i = some (rdRow v a e r)) (ho : Toks h v o) : Does prog G (GoodE prog B) 23 [.pointer (some ⟨i, 0, none⟩)] h fun x h' => x = .returned (nextS o e a).val ∧ h' = h :=
 (next_good G B h i v o a e r hg ho).does
end
section
open Nat (reduceLT reduceEqDiff)
open Go.Proofs Tryd
theorem ares_cell {P : Program} {fn : Func} {fr : Frm} {h : Heap} {c : Nat} {ty : TypeId} {p v : Value} (hr : fn.results.toList = [.cell c ty]) (s : look c fr.slots = some p) (l : aload P h ty p = some v) : ares P fn fr h = some v := by
 unfold ares
 rw [hr]
 simp only [aresults, aresult, s, Option.bind_some, l]
def wrongQ (e p : Nat) : List PanicEntry := [{ v := .iface 59 (.agg #[.int .i64 e, .int .i64 p]), recovered := false }]
theorem build46 (e p : Int) : abuild prog 59 [(0, .int .i64 e), (1, .int .i64 p)] = some (.agg #[.int .i64 e, .int .i64 p]) := by kernel_rfl
theorem fail_spec {E : EXT} (G : Nat) (h : Heap) (e p : Nat) : Does prog G E 25 [.int .i64 e, .int .i64 p] h (fun x h' => x = .panicked (wrongQ e p) ∧ h' = h) := by
 refine Does.body func25 rfl ?_
 have hn : enterF Tryd.f25 [.int .i64 e, .int .i64 p] = ⟨8, [(0, .int .i64 e), (1, .int .i64 p)], []⟩ := rfl
 rw [hn]; clear hn
 repeat apply Wq
 refine Wp.regionAs (is := List.range' 0 4 ++ (4 :: [])) rfl ?_
 refine WpO.runS 4 (by simp only [bsd, bsg, reduceLT, reduceEqDiff, reduceCtorEq, build46, underlying59] <;> exact rfl) (by decide) ?_
 refine WpO.panicS (by simp only [bsg, reduceLT, reduceEqDiff, reduceCtorEq] <;> exact rfl) rfl (by simp only [bsg, reduceLT, reduceEqDiff, reduceCtorEq]) ?_
 exact ⟨rfl, rfl, rfl, rfl⟩
abbrev RdR (α : Type) := Except (Nat × Nat) (α × Nat)
def takeS (o : List Tok) (e k a : Nat) : RdR Tok := if (nextS o e a).kind = k then .ok (nextS o e a, a + 1) else .error (6, (nextS o e a).at')
def rdAt (h : Heap) (i : Nat) (v : Value) (e r a' : Nat) : Heap := h.set i (rdRow v a' e r)
theorem rdAt_next (h : Heap) (i : Nat) (v : Value) (e r a' : Nat) : (rdAt h i v e r a').next = h.next := by unfold rdAt; simp
theorem rd_store {H : Heap} {i : Nat} {v : Value} {a e r : Nat} (hg : H.get i = some (rdRow v a e r)) (a' : Nat) : astore prog H 3 (.pointer (some ⟨i, 0 + 1, none⟩)) (.int .i64 (a' : Nat)) = some (H.set i (rdRow v a' e r)) := by
 rw [astore_cell sz3 rfl, Heap.sts_of hg (by simp) rfl rfl]; rfl
theorem wrap1 {a : Nat} (ha : a ≤ 1000000) : IntKind.i64.wrap ((a : Int) + 1) = ((a + 1 : Nat) : Int) := by rw [wrap_in (by omega) (by omega)]; omega
theorem rdAt_sc {h : Heap} {i : Nat} {v : Value} {a e r a' : Nat} (hg : h.get i = some (rdRow v a e r)) (hv : scO h.next (rdRow v a' e r)) : ∀ j o, (rdAt h i v e r a').get j = some o → h.get j = some o ∨ scO h.next o := by
 intro j o ho
 unfold rdAt at ho
 by_cases e2 : j = i
 ·subst e2
  rw [Heap.gf hg] at ho
  cases ho
  exact .inr hv
 ·rw [Heap.gs e2] at ho; exact .inl ho
def RdOut {α : Type} (g : α → Value) (h : Heap) (i : Nat) (v : Value) (e r : Nat) (R : RdR α) (x : Ending) (h' : Heap) : Prop := match R with
 | .ok (t, a') => x = .returned (g t) ∧ h' = rdAt h i v e r a'
 | .error (c, p) => x = .panicked (wrongQ c p) ∧ h.but i h'
def RdRaw {α : Type} (g : α → Value) (h : Heap) (i : Nat) (v : Value) (e r : Nat) (R : RdR α) (x : Ending) (h' : Heap) : Prop := match R with
 | .ok (t, a') => x = .returned (g t) ∧ h.next ≤ h'.next ∧ ∀ j, j < h.next → h'.get j = (rdAt h i v e r a').get j
 | .error (c, p) => x = .panicked (wrongQ c p) ∧ h.but i h'
theorem RdRaw.out {α : Type} {g : α → Value} (hf : ∀ t, flat (g t) = true) {G : Nat} {B : Base prog G} {f : FuncId} {args : List Value} {h : Heap} {i : Nat} {v : Value} {o : List Tok} {a e r : Nat} {R : RdR α} (hg : h.get i = some (rdRow v a e r)) (ho : Toks h v o)
  (hd : Does prog G (GoodE prog B) f args h (RdRaw g h i v e r R)) : Does prog G (GoodE prog B) f args h (RdOut g h i v e r R) := by
 cases R with
 | error c => exact hd
 | ok t =>
  obtain ⟨t, a'⟩ := t
  have hsc : scO h.next (rdRow v a' e r) := by
   have hv : sc h.next v := by
    rcases ho with ⟨_, rfl⟩ | ⟨b, r2, hb, _, rfl⟩
    ·simp [sc]
    ·simp only [sc]; exact Heap.lg hb
   simp [scO, rdRow, scL, sc, hv]
  exact (Does.clean hd (hf t) (rdAt_next _ _ _ _ _ _) (rdAt_sc hg hsc)).does
theorem take_does (G : Nat) (B : Base prog G) (h : Heap) (i : Nat) (v : Value) (o : List Tok) (a e r k : Nat) (hg : h.get i = some (rdRow v a e r)) (ho : Toks h v o) (ha : a ≤ 1000000) :
  Does prog G (GoodE prog B) 26 [.pointer (some ⟨i, 0, none⟩), .int .i64 k] h (RdOut Tok.val h i v e r (takeS o e k a)) := by
 refine RdRaw.out (fun _ => rfl) hg ho ?_
 have c13 : canEnter prog 23 = true := by kernel_rfl
 have c15 : canEnter prog 25 = true := by kernel_rfl
 have hi := Heap.lg hg
 refine Does.body func26 rfl ?_
 have hn : enterF Tryd.f26 [.pointer (some ⟨i, 0, none⟩), .int .i64 k] = ⟨23, [(0, .pointer (some ⟨i, 0, none⟩)), (1, .int .i64 k)], []⟩ := rfl
 rw [hn]; clear hn
 repeat apply Wq
 refine Wp.r @alloc31 ?_
 have hg1 : (h.alloc (Tok.row ⟨0, [], 0, 0⟩)).get i = some (rdRow v a e r) := by rw [Heap.go _ _ hi]; exact hg
 have ho1 : Toks (h.alloc (Tok.row ⟨0, [], 0, 0⟩)) v o := ho.more (Heap.ma _ _)
 repeat apply Wq
 refine Wp.regionAs (is := List.range' 0 1 ++ (1 :: (List.range' 2 2 ++ []))) rfl ?_
 refine WpO.rS 1 ?_
 refine WpO.cR (next_does G B (h.alloc (Tok.row ⟨0, [], 0, 0⟩)) i v o a e r hg1 ho1) c13 ?_
 rintro _ h9 ⟨rfl, hh9⟩
 obtain rfl := hh9.symm
 clear hh9
 refine pu ?_
 refine WpO.r 2 (Aq @alloc31 @tok_put) ?_
 refine WpO.nil ?_
 unfold takeS
 generalize nextS o e a = t
 have gy : ((h.alloc (Tok.row ⟨0, [], 0, 0⟩)).alloc t.row).get (h.next + 1) = some t.row := Heap.gn _ _
 have gx : ((h.alloc (Tok.row ⟨0, [], 0, 0⟩)).alloc t.row).get h.next = some (Tok.row ⟨0, [], 0, 0⟩) := by rw [Heap.go _ _ (by simp)]; exact Heap.gn _ _
 have gi : ((h.alloc (Tok.row ⟨0, [], 0, 0⟩)).alloc t.row).get i = some (rdRow v a e r) := by rw [Heap.go _ _ (by simp; omega)]; exact hg1
 have hold : ∀ j, j < h.next → ((h.alloc (Tok.row ⟨0, [], 0, 0⟩)).alloc t.row).get j = h.get j := fun j hj => by rw [Heap.go _ _ (by simp; omega), Heap.go _ _ hj]
 generalize hH : (h.alloc (Tok.row ⟨0, [], 0, 0⟩)).alloc t.row = H at gy gx gi hold
 have hHn : H.next = h.next + 2 := by rw [← hH]; rfl
 by_cases hk : t.kind = k
 ·rw [if_pos hk]
  have hb : ((t.kind : Int) != (k : Int)) = false := by rw [hk]; simp
  repeat apply Wq
  refine Wp.r (Aq @Heap.na (Aq @t0 (Aq @lc3 (Aq (Heap.lf gy (k := 0) rfl) hb)))) ?_
  repeat apply Wq
  refine Wp.cF ?_
  repeat apply Wq
  refine Wp.skip ?_
  repeat apply Wq
  refine Wp.r (Aq @q1 (Aq @lc3 (Aq (Heap.lf gi (k := 1) rfl) (Aq (wrap1 ha) (rd_store gi))))) ?_
  have gy2 : (H.set i (rdRow v (a + 1) e r)).get (h.next + 1) = some t.row := by rw [Heap.gs (by omega)]; exact gy
  have gx2 : (H.set i (rdRow v (a + 1) e r)).get h.next = some (Tok.row ⟨0, [], 0, 0⟩) := by rw [Heap.gs (by omega)]; exact gx
  repeat apply Wq
  refine Wp.r (Aq @Heap.na (Aq (tok_load gy2) (tok_all gx2))) ?_
  repeat apply Wq
  refine Wp.ret ?_
  refine ⟨rfl, rfl, _, ares_cell rfl rfl (tok_load (Heap.gf gx2)), rfl, by simp [hHn], fun j hj => ?_⟩
  unfold rdAt
  rw [Heap.gs (by omega)]
  by_cases e2 : j = i
  ·subst e2; rw [Heap.gf gi, Heap.gf hg]
  ·rw [Heap.gs e2, Heap.gs e2]; exact hold j hj
 ·rw [if_neg hk]
  have hb : ((t.kind : Int) != (k : Int)) = true := by rw [bne_iff_ne]; omega
  repeat apply Wq
  refine Wp.r (Aq @Heap.na (Aq @t0 (Aq @lc3 (Aq (Heap.lf gy (k := 0) rfl) hb)))) ?_
  repeat apply Wq
  refine Wp.cT ?_
  repeat apply Wq
  refine Wp.regionAs (is := List.range' 0 2 ++ (2 :: [])) rfl ?_
  refine WpO.r 2 (Aq @Heap.na (Aq @t3 (Aq @lc3 (Heap.lf gy (k := 3) rfl)))) ?_
  refine WpO.cS c15 ((fail_spec G H 6 t.at').mono ?_)
  intro x h2 hr
  obtain ⟨rfl, rfl⟩ := hr
  exact ⟨rfl, rfl, rfl, by omega, fun j hj _ => hold j hj⟩
end
section
open Nat (reduceLT reduceEqDiff)
open Go.Proofs Tryd
theorem toks_rdAt {h : Heap} {i : Nat} {v : Value} {o : List Tok} {a e r : Nat} (hg : h.get i = some (rdRow v a e r)) (ho : Toks h v o) (hne : ∀ b l c, v = .slice (some ⟨b, 0, none⟩) l c → b ≠ i) (a' : Nat) : Toks (rdAt h i v e r a') v o := by
 rcases ho with h1 | ⟨b, r2, hb, hr, rfl⟩
 ·exact .inl h1
 ·exact .inr ⟨b, r2, by unfold rdAt; rw [Heap.gs (hne _ _ _ rfl)]; exact hb, hr, rfl⟩
theorem get_rdAt {h : Heap} {i : Nat} {v : Value} {a e r : Nat} (hg : h.get i = some (rdRow v a e r)) (a' : Nat) : (rdAt h i v e r a').get i = some (rdRow v a' e r) := Heap.gf hg
theorem rdAt_rdAt (h : Heap) (i : Nat) (v : Value) (e r a a' : Nat) : rdAt (rdAt h i v e r a) i v e r a' = rdAt h i v e r a' := Heap.set_set _ _ _ _
theorem rdAt_self {h : Heap} {i : Nat} {v : Value} {a e r : Nat} (hg : h.get i = some (rdRow v a e r)) : rdAt h i v e r a = h := Heap.set_same hg
theorem but_rdAt {h H : Heap} {i : Nat} {v : Value} {e r a : Nat} (b : (rdAt h i v e r a).but i H) : h.but i H := by
 refine ⟨by have := b.1; rw [rdAt_next] at this; exact this, fun j hj hne => ?_⟩
 rw [b.2 j (by rw [rdAt_next]; exact hj) hne]
 unfold rdAt
 rw [Heap.gs hne]
structure Rd (h : Heap) (i : Nat) (v : Value) (o : List Tok) (a e r : Nat) : Prop where
 g : h.get i = some (rdRow v a e r)
 t : Toks h v o
 ne : ∀ b l c, v = .slice (some ⟨b, 0, none⟩) l c → b ≠ i
theorem Rd.lt {h : Heap} {i : Nat} {v : Value} {o : List Tok} {a e r : Nat} (d : Rd h i v o a e r) : i < h.next := Heap.lg d.g
theorem Rd.at {h : Heap} {i : Nat} {v : Value} {o : List Tok} {a e r : Nat} (d : Rd h i v o a e r) (a' : Nat) : Rd (rdAt h i v e r a') i v o a' e r := ⟨get_rdAt d.g a', toks_rdAt d.g d.t d.ne a', d.ne⟩
theorem Rd.alloc {h : Heap} {i : Nat} {v : Value} {o : List Tok} {a e r : Nat} (d : Rd h i v o a e r) (x : AObj) : Rd (h.alloc x) i v o a e r := ⟨by rw [Heap.go _ _ d.lt]; exact d.g, d.t.more (Heap.ma _ _), d.ne⟩
theorem alloc_rdAt {h : Heap} {i : Nat} {v : Value} {o : List Tok} {a e r : Nat} (d : Rd h i v o a e r) (a' : Nat) (x : AObj) : rdAt (h.alloc x) i v e r a' = (rdAt h i v e r a').alloc x := Heap.as h x _ d.lt
def isS (o : List Tok) (e k : Nat) (w : List UInt8) (a : Nat) : Bool := decide ((nextS o e a).kind = k) && decide ((nextS o e a).text = w)
theorem is_does (G : Nat) (B : Base prog G) (h : Heap) (i : Nat) (v : Value) (o : List Tok) (a e r k : Nat) (w : List UInt8) (d : Rd h i v o a e r) (ha : a ≤ 1000000) :
  Does prog G (GoodE prog B) 55 [.pointer (some ⟨i, 0, none⟩), .int .i64 k, .string (bs w)] h fun x h' => x = .returned (.bool (isS o e k w a)) ∧ h' = if isS o e k w a then rdAt h i v e r (a + 1) else h := by
 have key : Does prog G (GoodE prog B) 55 [.pointer (some ⟨i, 0, none⟩), .int .i64 k, .string (bs w)] h (RdOut Value.bool h i v e r (.ok (isS o e k w a, if isS o e k w a then a + 1 else a))) := by
  refine RdRaw.out (fun _ => rfl) d.g d.t ?_
  have c13 : canEnter prog 23 = true := by kernel_rfl
  have hi := d.lt
  refine Does.body func55 rfl ?_
  have hn : enterF Tryd.f55 [.pointer (some ⟨i, 0, none⟩), .int .i64 k, .string (bs w)] = ⟨27, [(0, .pointer (some ⟨i, 0, none⟩)), (1, .int .i64 k), (2, .string (bs w))], []⟩ := rfl
  rw [hn]; clear hn
  repeat apply Wq
  refine Wp.rS ?_
  repeat apply Wq
  refine Wp.regionAs (is := List.range' 0 1 ++ (1 :: (List.range' 2 2 ++ []))) rfl ?_
  refine WpO.rS 1 ?_
  refine WpO.cR (next_does G B h i v o a e r d.g d.t) c13 ?_
  rintro _ h9 ⟨rfl, hh9⟩
  obtain rfl := hh9.symm
  clear hh9
  refine pu ?_
  refine WpO.r 2 (Aq @alloc31 @tok_put) ?_
  refine WpO.nil ?_
  dsimp only [after, leaving]
  unfold isS
  generalize nextS o e a = t
  have gy : (h.alloc t.row).get h.next = some t.row := Heap.gn _ _
  have d1 := d.alloc t.row
  by_cases hk : t.kind = k
  ·have hb : ((t.kind : Int) != (k : Int)) = false := by rw [hk]; simp
   by_cases hw : t.text = w
   ·have hb2 : strEq (bs t.text) (bs w) = true := by rw [strEq_bs, hw]; simp
    repeat apply Wq
    refine Wp.runS (by simp only [bsg, reduceLT, reduceEqDiff, reduceCtorEq, t0, t1, lc3, lc9, Heap.lf gy (k := 0) rfl, Heap.lf gy (k := 1) rfl, hb, abinS, hb2] <;> exact rfl) ?_
    repeat apply Wq
    refine Wp.cF ?_
    repeat apply Wq
    refine Wp.skip ?_
    repeat apply Wq
    refine Wp.r (Aq @q1 (Aq @lc3 (Aq (Heap.lf d1.g (k := 1) rfl) (Aq (wrap1 ha) (rd_store d1.g))))) ?_
    repeat apply Wq
    refine Wp.rS ?_
    repeat apply Wq
    refine Wp.ret ?_
    dsimp only [after, leaving]
    simp only [decide_eq_true hk, decide_eq_true hw, Bool.and_self, if_true]
    refine ⟨trivial, trivial, _, rfl, rfl, by simp, fun j hj => ?_⟩
    show (rdAt (h.alloc t.row) i v e r (a + 1)).get j = _
    rw [alloc_rdAt d, Heap.go _ _ (by rw [rdAt_next]; exact hj)]
   ·have hb2 : strEq (bs t.text) (bs w) = false := by rw [strEq_bs]; simp [hw]
    repeat apply Wq
    refine Wp.runS (by simp only [bsg, reduceLT, reduceEqDiff, reduceCtorEq, t0, t1, lc3, lc9, Heap.lf gy (k := 0) rfl, Heap.lf gy (k := 1) rfl, hb, abinS, hb2] <;> exact rfl) ?_
    repeat apply Wq
    refine Wp.cT ?_
    repeat apply Wq
    refine Wp.rS ?_
    repeat apply Wq
    refine Wp.ret ?_
    dsimp only [after, leaving]
    simp only [decide_eq_false hw, Bool.and_false, Bool.false_eq_true, if_false]
    refine ⟨trivial, trivial, _, rfl, rfl, by simp, fun j hj => ?_⟩
    rw [rdAt_self d.g, Heap.go _ _ hj]
  ·have hb : ((t.kind : Int) != (k : Int)) = true := by rw [bne_iff_ne]; omega
   repeat apply Wq
   refine Wp.r (Aq @t0 (Aq @t1 (Aq @lc3 (Aq @lc9 (Aq (Heap.lf gy (k := 0) rfl) (Aq (Heap.lf gy (k := 1) rfl) hb)))))) ?_
   repeat apply Wq
   refine Wp.cT ?_
   repeat apply Wq
   refine Wp.rS ?_
   repeat apply Wq
   refine Wp.ret ?_
   dsimp only [after, leaving]
   simp only [decide_eq_false hk, Bool.false_and, Bool.false_eq_true, if_false]
   refine ⟨trivial, trivial, _, rfl, rfl, by simp, fun j hj => ?_⟩
   rw [rdAt_self d.g, Heap.go _ _ hj]
 refine key.mono ?_
 rintro x h' ⟨rfl, rfl⟩
 refine ⟨rfl, ?_⟩
 cases isS o e k w a with
 | true => rfl
 | false => exact rdAt_self d.g
theorem afield_tok3 (t : Tok) : afield prog 65 t.val 3 = some (.int .i64 t.at') := by kernel_rfl
theorem afield_tok1 (t : Tok) : afield prog 65 t.val 1 = some (.string (bs t.text)) := by kernel_rfl
def mustS (o : List Tok) (e k : Nat) (w : List UInt8) (a : Nat) : RdR Unit := if isS o e k w a then .ok ((), a + 1) else .error (6, (nextS o e a).at')
def unitV (_ : Unit) : Value := .tuple #[]
theorem must_does (G : Nat) (B : Base prog G) (h : Heap) (i : Nat) (v : Value) (o : List Tok) (a e r k : Nat) (w : List UInt8) (d : Rd h i v o a e r) (ha : a ≤ 1000000) :
  Does prog G (GoodE prog B) 39 [.pointer (some ⟨i, 0, none⟩), .int .i64 k, .string (bs w)] h (RdOut unitV h i v e r (mustS o e k w a)) := by
 have c13 : canEnter prog 23 = true := by kernel_rfl
 have c15 : canEnter prog 25 = true := by kernel_rfl
 have c47 : canEnter prog 55 = true := by kernel_rfl
 have hi := d.lt
 refine Does.body func39 rfl ?_
 have hn : enterF Tryd.f39 [.pointer (some ⟨i, 0, none⟩), .int .i64 k, .string (bs w)] = ⟨15, [(0, .pointer (some ⟨i, 0, none⟩)), (1, .int .i64 k), (2, .string (bs w))], []⟩ := rfl
 rw [hn]; clear hn
 repeat apply Wq
 refine Wp.regionAs (is := List.range' 0 3 ++ (3 :: (List.range' 4 1 ++ []))) rfl ?_
 refine WpO.rS 3 ?_
 refine WpO.cR (is_does G B h i v o a e r k w d ha) c47 ?_
 rintro _ h9 ⟨rfl, hh9⟩
 obtain rfl := hh9.symm
 clear hh9
 refine pu ?_
 unfold mustS
 cases hs : isS o e k w a with
 | true =>
  simp only [if_true]
  refine WpO.rS 1 ?_
  refine WpO.nil ?_
  repeat apply Wq
  refine Wp.cF ?_
  repeat apply Wq
  refine Wp.skip ?_
  dsimp only [after, leaving]
  exact ⟨rfl, rfl, _, rfl, rfl, rfl⟩
 | false =>
  simp only [Bool.false_eq_true, if_false]
  refine WpO.rS 1 ?_
  refine WpO.nil ?_
  repeat apply Wq
  refine Wp.cT ?_
  repeat apply Wq
  refine Wp.regionAs (is := List.range' 0 1 ++ (1 :: (List.range' 2 1 ++ (3 :: [])))) rfl ?_
  refine WpO.rS 1 ?_
  refine WpO.cR (next_does G B h i v o a e r d.g d.t) c13 ?_
  rintro _ h9 ⟨rfl, hh9⟩
  obtain rfl := hh9.symm
  clear hh9
  refine pu ?_
  refine WpO.r 1 @afield_tok3 ?_
  refine WpO.cS c15 ((fail_spec G h 6 (nextS o e a).at').mono ?_)
  intro x h2 hr
  obtain ⟨rfl, rfl⟩ := hr
  exact ⟨rfl, rfl, rfl, Nat.le_refl _, fun _ _ _ => rfl⟩
def nameRS (o : List Tok) (e k a : Nat) : RdR (List UInt8) := match takeS o e k a with
 | .error x => .error x
 | .ok (t, a') => if nameS t.text then .ok (t.text, a') else .error (6, t.at')
def strV (s : List UInt8) : Value := .string (bs s)
theorem name_does' (G : Nat) (h : Heap) (i : Nat) (v : Value) (o : List Tok) (a e r k : Nat) (d : Rd h i v o a e r) (ha : a ≤ 1000000) (hl : ∀ t ∈ o, t.text.length ≤ 1000000) :
  Does prog G (GoodE prog (baseM G)) 24 [.pointer (some ⟨i, 0, none⟩), .int .i64 k] h (RdOut strV h i v e r (nameRS o e k a)) := by
 refine RdRaw.out (fun _ => rfl) d.g d.t ?_
 have c16 : canEnter prog 26 = true := by kernel_rfl
 have c15 : canEnter prog 25 = true := by kernel_rfl
 have c28 : canEnter prog 37 = true := by kernel_rfl
 have hi := d.lt
 refine Does.body func24 rfl ?_
 have hn : enterF Tryd.f24 [.pointer (some ⟨i, 0, none⟩), .int .i64 k] = ⟨18, [(0, .pointer (some ⟨i, 0, none⟩)), (1, .int .i64 k)], []⟩ := rfl
 rw [hn]; clear hn
 repeat apply Wq
 refine Wp.rS ?_
 repeat apply Wq
 refine Wp.regionAs (is := List.range' 0 2 ++ (2 :: (List.range' 3 2 ++ []))) rfl ?_
 refine WpO.rS 2 ?_
 refine WpO.cS c16 ((take_does G (baseM G) h i v o a e r k d.g d.t ha).mono ?_)
 intro x h2 hr
 unfold nameRS
 cases ht : takeS o e k a with
 | error c =>
  obtain ⟨c, p⟩ := c
  rw [ht] at hr
  obtain ⟨rfl, hb⟩ := hr
  exact ⟨rfl, rfl, rfl, hb⟩
 | ok ta =>
  obtain ⟨t, a'⟩ := ta
  rw [ht] at hr
  obtain ⟨rfl, rfl⟩ := hr
  refine pt ?_
  refine WpO.r 2 (Aq @alloc31 @tok_put) ?_
  refine WpO.nil ?_
  dsimp only [after, leaving]
  have d2 := d.at a'
  have gy : ((rdAt h i v e r a').alloc t.row).get h.next = some t.row := by rw [← rdAt_next h i v e r a']; exact Heap.gn _ _
  have htl : t.text.length ≤ 1000000 := by
   have hm : t = nextS o e a := by
    unfold takeS at ht
    split at ht
    ·cases ht; rfl
    ·cases ht
   subst hm
   unfold nextS
   cases hoa : o[a]? with
   | none => simp
   | some u => exact hl u (List.mem_of_getElem? hoa)
  repeat apply Wq
  refine Wp.regionAs (is := List.range' 0 2 ++ (2 :: (List.range' 3 1 ++ []))) rfl ?_
  refine WpO.r 2 (Aq @rdAt_next (Aq @t1 (Aq @lc9 (Heap.lf gy (k := 1) rfl)))) ?_
  refine WpO.cR (name_spec G ((rdAt h i v e r a').alloc t.row) t.text (by omega)) c28 ?_
  rintro _ h9 ⟨rfl, hh9⟩
  obtain rfl := hh9.symm
  clear hh9
  refine pu ?_
  cases hn : nameS t.text with
  | true =>
   simp only [if_true]
   refine WpO.rS 1 ?_
   refine WpO.nil ?_
   repeat apply Wq
   refine Wp.cF ?_
   repeat apply Wq
   refine Wp.skip ?_
   repeat apply Wq
   refine Wp.r (Aq @rdAt_next (Aq @t1 (Aq @lc9 (Heap.lf gy (k := 1) rfl)))) ?_
   repeat apply Wq
   refine Wp.ret ?_
   dsimp only [after, leaving]
   exact ⟨rfl, rfl, _, rfl, rfl, by rw [Heap.na, rdAt_next]; omega, fun j hj => Heap.go _ _ (by rw [rdAt_next]; exact hj)⟩
  | false =>
   simp only [Bool.false_eq_true, if_false]
   refine WpO.rS 1 ?_
   refine WpO.nil ?_
   repeat apply Wq
   refine Wp.cT ?_
   repeat apply Wq
   refine Wp.regionAs (is := List.range' 0 2 ++ (2 :: [])) rfl ?_
   refine WpO.r 2 (Aq @rdAt_next (Aq @t3 (Aq @lc3 (Heap.lf gy (k := 3) rfl)))) ?_
   refine WpO.cS c15 ((fail_spec G ((rdAt h i v e r a').alloc t.row) 6 t.at').mono ?_)
   intro x h2 hr
   obtain ⟨rfl, rfl⟩ := hr
   exact ⟨rfl, rfl, rfl, but_rdAt ((Heap.ma _ _).but _)⟩
def numberS (o : List Tok) (e lo hi a : Nat) : RdR Nat := match takeS o e 3 a with
 | .error x => .error x
 | .ok (t, a') => if lo ≤ t.n ∧ t.n ≤ hi then .ok (t.n, a') else .error (5, t.at')
def natV (n : Nat) : Value := .int .i64 n
end
section
open Nat (reduceLT reduceEqDiff)
open Go.Proofs Tryd
theorem number_does (G : Nat) (B : Base prog G) (h : Heap) (i : Nat) (v : Value) (o : List Tok) (a e r lo hi' : Nat) (d : Rd h i v o a e r) (ha : a ≤ 1000000) :
  Does prog G (GoodE prog B) 38 [.pointer (some ⟨i, 0, none⟩), .int .i64 lo, .int .i64 hi'] h (RdOut natV h i v e r (numberS o e lo hi' a)) := by
 refine RdRaw.out (fun _ => rfl) d.g d.t ?_
 have c16 : canEnter prog 26 = true := by kernel_rfl
 have c15 : canEnter prog 25 = true := by kernel_rfl
 have hi := d.lt
 refine Does.body func38 rfl ?_
 have hn : enterF Tryd.f38 [.pointer (some ⟨i, 0, none⟩), .int .i64 lo, .int .i64 hi'] = ⟨25, [(0, .pointer (some ⟨i, 0, none⟩)), (1, .int .i64 lo), (2, .int .i64 hi')], []⟩ := rfl
 rw [hn]; clear hn
 repeat apply Wq
 refine Wp.rS ?_
 repeat apply Wq
 refine Wp.regionAs (is := List.range' 0 1 ++ (1 :: (List.range' 2 2 ++ []))) rfl ?_
 refine WpO.rS 1 ?_
 refine WpO.cS c16 ((take_does G B h i v o a e r 3 d.g d.t ha).mono ?_)
 intro x h2 hr
 unfold numberS
 cases ht : takeS o e 3 a with
 | error c =>
  obtain ⟨c, p⟩ := c
  rw [ht] at hr
  obtain ⟨rfl, hb⟩ := hr
  exact ⟨rfl, rfl, rfl, hb⟩
 | ok ta =>
  obtain ⟨t, a'⟩ := ta
  rw [ht] at hr
  obtain ⟨rfl, rfl⟩ := hr
  refine pt ?_
  refine WpO.r 2 (Aq @alloc31 @tok_put) ?_
  refine WpO.nil ?_
  dsimp only [after, leaving]
  have gy : ((rdAt h i v e r a').alloc t.row).get h.next = some t.row := by rw [← rdAt_next h i v e r a']; exact Heap.gn _ _
  by_cases h1 : (t.n : Int) < (lo : Int)
  ·rw [if_neg (by omega)]
   repeat apply Wq
   refine Wp.r (Aq @rdAt_next (Aq @t2 (Aq @lc3 (Aq (Heap.lf gy (k := 2) rfl) (decide_eq_true h1))))) ?_
   repeat apply Wq
   refine Wp.cT ?_
   repeat apply Wq
   refine Wp.regionAs (is := List.range' 0 2 ++ (2 :: [])) rfl ?_
   refine WpO.r 2 (Aq @rdAt_next (Aq @t3 (Aq @lc3 (Heap.lf gy (k := 3) rfl)))) ?_
   refine WpO.cS c15 ((fail_spec G ((rdAt h i v e r a').alloc t.row) 5 t.at').mono ?_)
   intro x h2 hr
   obtain ⟨rfl, rfl⟩ := hr
   exact ⟨rfl, rfl, rfl, but_rdAt ((Heap.ma _ _).but _)⟩
  ·by_cases h2 : (hi' : Int) < (t.n : Int)
   ·rw [if_neg (by omega)]
    repeat apply Wq
    refine Wp.r (Aq @rdAt_next (Aq @t2 (Aq @lc3 (Aq (Heap.lf gy (k := 2) rfl) (Aq (decide_eq_false h1) (decide_eq_true h2)))))) ?_
    repeat apply Wq
    refine Wp.cT ?_
    repeat apply Wq
    refine Wp.regionAs (is := List.range' 0 2 ++ (2 :: [])) rfl ?_
    refine WpO.r 2 (Aq @rdAt_next (Aq @t3 (Aq @lc3 (Heap.lf gy (k := 3) rfl)))) ?_
    refine WpO.cS c15 ((fail_spec G ((rdAt h i v e r a').alloc t.row) 5 t.at').mono ?_)
    intro x h2 hr
    obtain ⟨rfl, rfl⟩ := hr
    exact ⟨rfl, rfl, rfl, but_rdAt ((Heap.ma _ _).but _)⟩
   ·rw [if_pos (by omega)]
    repeat apply Wq
    refine Wp.r (Aq @rdAt_next (Aq @t2 (Aq @lc3 (Aq (Heap.lf gy (k := 2) rfl) (Aq (decide_eq_false h1) (decide_eq_false h2)))))) ?_
    repeat apply Wq
    refine Wp.cF ?_
    repeat apply Wq
    refine Wp.skip ?_
    repeat apply Wq
    refine Wp.r (Aq @rdAt_next (Aq @t2 (Aq @lc3 (Heap.lf gy (k := 2) rfl)))) ?_
    repeat apply Wq
    refine Wp.ret ?_
    dsimp only [after, leaving]
    exact ⟨rfl, rfl, _, rfl, rfl, by rw [Heap.na, rdAt_next]; omega, fun j hj => Heap.go _ _ (by rw [rdAt_next]; exact hj)⟩
def gotoB : List UInt8 := [103, 111, 116, 111]
def leadsS (o : List Tok) (e a : Nat) : RdR (List UInt8) := match mustS o e 1 gotoB a with
 | .error x => .error x
 | .ok (_, a') => nameRS o e 1 a'
theorem mustS_ok {o : List Tok} {e k : Nat} {w : List UInt8} {a a' : Nat} {u : Unit} (h : mustS o e k w a = .ok (u, a')) : a' = a + 1 ∧ isS o e k w a = true := by
 unfold mustS at h
 split at h
 ·rename_i hs; cases h; exact ⟨rfl, hs⟩
 ·cases h
theorem leads_does (G : Nat) (h : Heap) (i : Nat) (v : Value) (o : List Tok) (a e r : Nat) (d : Rd h i v o a e r) (ha : a + 1 ≤ 1000000) (hl : ∀ t ∈ o, t.text.length ≤ 1000000) :
  Does prog G (GoodE prog (baseM G)) 40 [.pointer (some ⟨i, 0, none⟩)] h (RdOut strV h i v e r (leadsS o e a)) := by
 have c30 : canEnter prog 39 = true := by kernel_rfl
 have c14 : canEnter prog 24 = true := by kernel_rfl
 have hi := d.lt
 refine Does.body func40 rfl ?_
 have hn : enterF Tryd.f40 [.pointer (some ⟨i, 0, none⟩)] = ⟨7, [(0, .pointer (some ⟨i, 0, none⟩))], []⟩ := rfl
 rw [hn]; clear hn
 repeat apply Wq
 refine Wp.rS ?_
 repeat apply Wq
 refine Wp.regionAs (is := List.range' 0 1 ++ (1 :: [])) rfl ?_
 refine WpO.rS 1 ?_
 refine WpO.cS c30 ((must_does G (baseM G) h i v o a e r 1 gotoB d (by omega)).mono ?_)
 intro x h2 hr
 unfold leadsS
 cases hm : mustS o e 1 gotoB a with
 | error c =>
  obtain ⟨c, p⟩ := c
  rw [hm] at hr
  obtain ⟨rfl, hb⟩ := hr
  exact ⟨rfl, rfl, rfl, hb⟩
 | ok ua =>
  obtain ⟨u, a'⟩ := ua
  rw [hm] at hr
  obtain ⟨rfl, rfl⟩ := hr
  obtain ⟨rfl, _⟩ := mustS_ok hm
  refine pt ?_
  refine WpO.nil ?_
  dsimp only [after, leaving]
  have d2 := d.at (a + 1)
  repeat apply Wq
  refine Wp.regionAs (is := List.range' 0 1 ++ (1 :: (List.range' 2 1 ++ []))) rfl ?_
  refine WpO.rS 1 ?_
  refine WpO.cS c14 ((name_does' G (rdAt h i v e r (a + 1)) i v o (a + 1) e r 1 d2 ha hl).mono ?_)
  intro x h3 hr
  cases hn : nameRS o e 1 (a + 1) with
  | error c =>
   obtain ⟨c, p⟩ := c
   rw [hn] at hr
   obtain ⟨rfl, hb⟩ := hr
   exact ⟨rfl, rfl, rfl, but_rdAt hb⟩
  | ok sa =>
   obtain ⟨s, a''⟩ := sa
   rw [hn] at hr
   obtain ⟨rfl, rfl⟩ := hr
   refine pt ?_
   refine WpO.rS 1 ?_
   refine WpO.nil ?_
   repeat apply Wq
   refine Wp.ret ?_
   dsimp only [after, leaving]
   exact ⟨rfl, rfl, _, rfl, rfl, rdAt_rdAt _ _ _ _ _ _ _⟩
end
end Go.Mini
