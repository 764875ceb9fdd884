import Derived.Test.YtjgmccbjffncaaaDoorPLexZc
import Derived.Test.YtjgmccbjffncaaaDoorMiniYOtoYS
import Derived.Test.YtjgmccbjffncaaaDoorPBackC
import Derived.Test.YtjgmccbjffncaaaDoorPaKtoPaM
import Derived.Test.YtjgmccbjffncaaaDoorMiniZFtoZJ
set_option maxHeartbeats 8000000
set_option maxRecDepth 100000
set_option linter.unusedSimpArgs false
namespace Go.Mini
open Nat (reduceLT reduceEqDiff)
open Go.Proofs Tryd
open Go.Lib (strCells strCells_length strCells_oneCell)
def wrRow (a v : Value) : AObj := .row { vs := [a, v], elem := 78 }
theorem lies78 : liesAt prog prog.depth 78 (2 / prog.cellsOf 78) 0 76 1 = true := by kernel_rfl
theorem wcp1 {H : Heap} {i : Nat} {a v : Value} (g : H.get i = some (wrRow a v)) : aconvP prog H 73 139 (.pointer (some ⟨i, 0, none⟩)) = some (.pointer (some ⟨i, 0, none⟩)) := by
 obtain ⟨x, h1, h2⟩ := info_some sz58
 unfold aconvP
 simp only [underlying73, underlying139, h1, Heap.row_of g, Option.bind_some, h2]
 rfl
theorem wcp2 {H : Heap} {i : Nat} {a v : Value} (g : H.get i = some (wrRow a v)) : aconvP prog H 139 73 (.pointer (some ⟨i, 0, none⟩)) = some (.pointer (some ⟨i, 0, none⟩)) := by
 obtain ⟨x, h1, h2⟩ := info_some sz58
 unfold aconvP
 simp only [underlying73, underlying139, h1, Heap.row_of g, Option.bind_some]
 rw [if_pos ⟨trivial, trivial, lies78⟩]
theorem wput_addr {H : Heap} {i : Nat} {a v : Value} (g : H.get i = some (wrRow a v)) (x : Option Addr) : astore prog H 73 (.pointer (some ⟨i, 0, none⟩)) (.pointer x) = some (H.set i (wrRow (.pointer x) v)) := by
 rw [astore_cell sz56 rfl, Heap.sts_of g (by simp) rfl rfl]; rfl
theorem wput_buf {H : Heap} {i : Nat} {a v : Value} (g : H.get i = some (wrRow a v)) (x : Option Addr) (l c : Nat) : astore prog H 74 (.pointer (some ⟨i, 0 + 1, none⟩)) (.slice x l c) = some (H.set i (wrRow a (.slice x l c))) := by
 rw [astore_cell sz55 rfl, Heap.sts_of g (by simp) rfl rfl]; rfl
theorem wcheck_spec {E : EXT} (G : Nat) (H : Heap) (i : Nat) (a v : Value) (g : H.get i = some (wrRow a v)) (ha : selfA i a) :
  Does prog G E 57 [.pointer (some ⟨i, 0, none⟩)] H fun r h' => r = .returned (.tuple #[]) ∧ h' = H.set i (wrRow (.pointer (some ⟨i, 0, none⟩)) v) := by
 refine Does.body func57 rfl ?_
 have hn : enterF Tryd.f57 [.pointer (some ⟨i, 0, none⟩)] = ⟨20, [(0, .pointer (some ⟨i, 0, none⟩))], []⟩ := rfl
 rw [hn]; clear hn
 rcases ha with rfl | rfl
 ·repeat apply Wq
  refine Wp.runS (by simp only [bsg, reduceLT, reduceEqDiff, reduceCtorEq, d0, lc73, Heap.lf g (k := 0) rfl, abin_ptr_nil underlying73, Option.isNone] <;> exact rfl) ?_
  repeat apply Wq
  refine Wp.cT ?_
  repeat apply Wq
  refine Wp.runS (by simp only [bsg, reduceLT, reduceEqDiff, reduceCtorEq, calleeOf, fnOf, cv1, cv2, cb1, cb2, wcp1 g, wcp2 g, no48, ne48, d0, wput_addr g, List.nil_append, List.append_nil] <;> exact rfl) ?_
  exact ⟨rfl, rfl, _, rfl, rfl, rfl⟩
 ·repeat apply Wq
  refine Wp.runS (by simp only [bsg, reduceLT, reduceEqDiff, reduceCtorEq, d0, lc73, Heap.lf g (k := 0) rfl, abin_ptr_nil underlying73, Option.isNone] <;> exact rfl) ?_
  repeat apply Wq
  refine Wp.cF ?_
  have h1 : abin prog .neq 73 (.pointer (some ⟨i, 0, none⟩)) (.pointer (some ⟨i, 0, none⟩)) = none := rfl
  have h2 : aptr prog H .neq 73 (.pointer (some ⟨i, 0, none⟩)) (.pointer (some ⟨i, 0, none⟩)) = some (.bool false) := by
   unfold aptr
   simp only [underlying73]
   have h58 : Program.cellsOf prog 76 = 2 := by kernel_rfl
   rw [if_neg (by rw [h58]; decide)]
   simp [eqOp]
  repeat apply Wq
  refine Wp.runS (by simp only [bsg, reduceLT, reduceEqDiff, reduceCtorEq, d0, lc73, Heap.lf g (k := 0) rfl, h1, h2, isEqOp, isConstO, Bool.and_self] <;> exact rfl) ?_
  repeat apply Wq
  refine Wp.cF ?_
  repeat apply Wq
  refine Wp.skip ?_
  refine ⟨rfl, rfl, _, rfl, rfl, ?_⟩
  exact (Heap.set_same g).symm
def Wrt (lo : Nat) (H : Heap) (i : Nat) (o : List UInt8) : Prop := ∃ a v, H.get i = some (wrRow a v) ∧ selfA i a ∧ lo ≤ i ∧ OwnF lo H v 5 o.length (o.map byteV)
def KeepB (lo i : Nat) (H H' : Heap) : Prop := H.next ≤ H'.next ∧ (∀ j, j < lo → H'.get j = H.get j) ∧ ∀ j p, H.get j = some p → j ≠ i → p.plain = true → H'.get j = some p
theorem KeepB.trans {lo i : Nat} {A B C : Heap} (a : KeepB lo i A B) (b : KeepB lo i B C) : KeepB lo i A C := ⟨Nat.le_trans a.1 b.1, fun j hj => (b.2.1 j hj).trans (a.2.1 j hj), fun j p q h1 h2 => b.2.2 j p (a.2.2 j p q h1 h2) h1 h2⟩
theorem KeepB.set {lo i : Nat} (H : Heap) (hi : lo ≤ i) (p : AObj) : KeepB lo i H (H.set i p) := ⟨by simp, fun j hj => Heap.gs (by omega), fun j q h1 h2 _ => by rw [Heap.gs h2]; exact h1⟩
theorem Wrt.more {lo : Nat} {H H' : Heap} {i : Nat} {o : List UInt8} (w : Wrt lo H i o) (hm : H.more H') : Wrt lo H' i o := by
 obtain ⟨a, v, g, ha, hl, ho⟩ := w
 exact ⟨a, v, hm.get g, ha, hl, ho.keep fun j p q _ => hm.get q⟩
theorem ownF_append {lo n m : Nat} {h : Heap} {st xt e : TypeId} {xd : TypeDesc} {sz by' : Nat} {v x : Value} {cs new : List Value} (hst : prog.underlying st = some (.slice e)) (hxt : prog.underlying xt = some xd) (hxd : seqD xd = true) (he : elemOk prog e sz by' = true)
  (hv : OwnF lo h v e n cs) (hlo : lo ≤ h.next) (hc : cs.length = n * sz) (hx : alenOf x = some m) (hf : ∀ h', (∀ j o, h.get j = some o → h'.get j = some o) → afirst h' sz m x = some new) (hm : 0 < m) (hnew : new.length = m * sz) (hone : new.all one = true)
  (hb : (n + m) * by' ≤ 140737488355328) (hb2 : n + m ≤ 140737488355328) :
  ∃ v' h', aappend prog h st xt v x = some (v', h') ∧ OwnF lo h' v' e (n + m) (cs ++ new) ∧ h.next ≤ h'.next ∧ (∀ j, j < lo → h'.get j = h.get j) ∧ (∀ j p, h.get j = some p → p.plain = true → h'.get j = some p) ∧ v' = .slice (some ⟨h.next, 0, none⟩) (n + m) (n + m) := by
 obtain ⟨v', h', q1, q2, q3, q4, q5, q6⟩ := own_append hst hxt hxd he hv.own hc hx hf hm hnew hone hb hb2
 refine ⟨v', h', q1, ?_, by omega, fun j hj => q6 j (by omega) ?_, fun j p hj hp => q3.2 j p hj (AObj.notE_of e hp), q5⟩
 ·rcases q2 with ⟨_, h1, _⟩ | ⟨b, h1, h2⟩
  ·omega
  ·rw [q5] at h1
   simp only [Value.slice.injEq, Option.some.injEq, Addr.mk.injEq] at h1
   exact .inr ⟨b, by omega, by omega, by rw [q5, ← h1.1.1], h2⟩
 ·rintro b l c hvb rfl
  rcases hv with ⟨h1, _⟩ | ⟨b', hb', _, h1, _⟩
  ·rw [h1] at hvb; cases hvb
  ·rw [h1] at hvb; cases hvb; omega
theorem wrByte_spec {E : EXT} (G : Nat) (lo : Nat) (H : Heap) (i : Nat) (o : List UInt8) (c : UInt8) (hb : Wrt lo H i o) (hl : o.length ≤ 1000000000000) :
  Does prog G E 43 [.pointer (some ⟨i, 0, none⟩), byteV c] H fun r h' => r = .returned .nilIface ∧ Wrt lo h' i (o ++ [c]) ∧ KeepB lo i H h' := by
 obtain ⟨a, v, g, ha, hli, ho⟩ := hb
 have c34 : canEnter prog 57 = true := by kernel_rfl
 refine Does.body func43 rfl ?_
 have hn : enterF Tryd.f43 [.pointer (some ⟨i, 0, none⟩), byteV c] = ⟨17, [(0, .pointer (some ⟨i, 0, none⟩)), (1, byteV c)], []⟩ := rfl
 rw [hn]; clear hn
 repeat apply Wq
 refine Wp.rS ?_
 repeat apply Wq
 refine Wp.regionAs (is := List.range' 0 1 ++ (1 :: [])) rfl ?_
 refine WpO.rS 1 ?_
 refine WpO.cR (wcheck_spec G H i a v g ha) c34 ?_
 rintro _ h9 ⟨rfl, hh9⟩
 obtain rfl := hh9.symm
 clear hh9
 refine pu ?_
 refine WpO.nil ?_
 have hin := Heap.lg g
 have g1 : (H.set i (wrRow (.pointer (some ⟨i, 0, none⟩)) v)).get i = some (wrRow (.pointer (some ⟨i, 0, none⟩)) v) := Heap.gf g
 have o1 : OwnF lo (H.set i (wrRow (.pointer (some ⟨i, 0, none⟩)) v)) v 5 o.length (o.map byteV) := ho.keep fun j p q hp => by rw [Heap.gs (by rintro rfl; rw [g] at q; cases q; cases hp)]; exact q
 have k1 := KeepB.set H hli (wrRow (.pointer (some ⟨i, 0, none⟩)) v)
 have n1 : lo ≤ (H.set i (wrRow (.pointer (some ⟨i, 0, none⟩)) v)).next := by simp; omega
 generalize H.set i (wrRow (.pointer (some ⟨i, 0, none⟩)) v) = H1 at g1 o1 k1 n1 ⊢
 obtain ⟨e1, v', h', e2, e3, e4, e5, e7⟩ := own_pushF (w := byteV c) underlying74 elem5b (by omega) o1 n1 (by simp) rfl rfl (by omega) (by omega)
 have g2 : h'.get i = some (wrRow (.pointer (some ⟨i, 0, none⟩)) v) := e5 _ _ g1 rfl
 obtain ⟨b, hv'⟩ := e3.form
 rw [hv'] at e2 e3
 repeat apply Wq
 refine Wp.r (Aq @d1 (Aq @lc74 (Aq (Heap.lf g1 (k := 1) rfl) (Aq e1 (Aq e2 (wput_buf g2)))))) ?_
 repeat apply Wq
 refine Wp.rS ?_
 repeat apply Wq
 refine Wp.ret ?_
 have k2 : KeepB lo i H1 h' := ⟨e4, e7, fun j p q _ hp => e5 j p q hp⟩
 refine ⟨rfl, rfl, _, rfl, rfl, ⟨_, _, Heap.gf g2, .inr rfl, hli, ?_⟩, (k1.trans k2).trans (KeepB.set h' hli _)⟩
 have : (o ++ [c]).map byteV = o.map byteV ++ (byteV c).cells.toList := by simp [byteV, Value.cells]
 rw [this, List.length_append]
 exact e3.keep fun j p q hp => by rw [Heap.gs (by rintro rfl; rw [g2] at q; cases q; cases hp)]; exact q
theorem wrStr_spec {E : EXT} (G : Nat) (lo : Nat) (H : Heap) (i : Nat) (o s : List UInt8) (hb : Wrt lo H i o) (hl : o.length ≤ 1000000000000) (hs : s.length ≤ 1000000000000) (h0 : s ≠ []) :
  Does prog G E 44 [.pointer (some ⟨i, 0, none⟩), .string (bs s)] H fun r h' => r = .returned (.tuple #[.int .i64 s.length, .nilIface]) ∧ Wrt lo h' i (o ++ s) ∧ KeepB lo i H h' := by
 obtain ⟨a, v, g, ha, hli, ho⟩ := hb
 have c34 : canEnter prog 57 = true := by kernel_rfl
 refine Does.body func44 rfl ?_
 have hn : enterF Tryd.f44 [.pointer (some ⟨i, 0, none⟩), .string (bs s)] = ⟨19, [(0, .pointer (some ⟨i, 0, none⟩)), (1, .string (bs s))], []⟩ := rfl
 rw [hn]; clear hn
 repeat apply Wq
 refine Wp.rS ?_
 repeat apply Wq
 refine Wp.regionAs (is := List.range' 0 1 ++ (1 :: [])) rfl ?_
 refine WpO.rS 1 ?_
 refine WpO.cR (wcheck_spec G H i a v g ha) c34 ?_
 rintro _ h9 ⟨rfl, hh9⟩
 obtain rfl := hh9.symm
 clear hh9
 refine pu ?_
 refine WpO.nil ?_
 have hin := Heap.lg g
 have g1 : (H.set i (wrRow (.pointer (some ⟨i, 0, none⟩)) v)).get i = some (wrRow (.pointer (some ⟨i, 0, none⟩)) v) := Heap.gf g
 have o1 : OwnF lo (H.set i (wrRow (.pointer (some ⟨i, 0, none⟩)) v)) v 5 o.length (o.map byteV) := ho.keep fun j p q hp => by rw [Heap.gs (by rintro rfl; rw [g] at q; cases q; cases hp)]; exact q
 have k1 := KeepB.set H hli (wrRow (.pointer (some ⟨i, 0, none⟩)) v)
 have n1 : lo ≤ (H.set i (wrRow (.pointer (some ⟨i, 0, none⟩)) v)).next := by simp; omega
 generalize H.set i (wrRow (.pointer (some ⟨i, 0, none⟩)) v) = H1 at g1 o1 k1 n1 ⊢
 have hpos : 0 < s.length := List.length_pos_iff.2 h0
 obtain ⟨v', h', e2, e3, e4, e7, e5, e6⟩ := ownF_append (x := .string (bs s)) (new := s.map byteV) (m := s.length) underlying74 underlying9 rfl elem5b o1 n1 (by simp) (by simp only [alenOf, bs_size]) (fun h' _ => by
  show some ((strCells (bs s)).take s.length) = _
  rw [show strCells (bs s) = s.map byteV from rfl, List.take_of_length_le (by simp)]) hpos (by simp) (by simp [byteV, one]) (by omega) (by omega)
 have g2 : h'.get i = some (wrRow (.pointer (some ⟨i, 0, none⟩)) v) := e5 _ _ g1 rfl
 rw [e6] at e2 e3
 repeat apply Wq
 refine Wp.r (Aq @d1 (Aq @lc74 (Aq (Heap.lf g1 (k := 1) rfl) (Aq e2 (wput_buf g2))))) ?_
 repeat apply Wq
 refine Wp.r @ls9 ?_
 repeat apply Wq
 refine Wp.ret ?_
 have k2 : KeepB lo i H1 h' := ⟨e4, e7, fun j p q _ hp => e5 j p q hp⟩
 refine ⟨rfl, rfl, _, rfl, rfl, ⟨_, _, Heap.gf g2, .inr rfl, hli, ?_⟩, (k1.trans k2).trans (KeepB.set h' hli _)⟩
 rw [List.map_append, List.length_append]
 exact e3.keep fun j p q hp => by rw [Heap.gs (by rintro rfl; rw [g2] at q; cases q; cases hp)]; exact q
theorem wrLen_spec {E : EXT} (G : Nat) (lo : Nat) (H : Heap) (i : Nat) (o : List UInt8) (hb : Wrt lo H i o) :
  Does prog G E 42 [.pointer (some ⟨i, 0, none⟩)] H fun r h' => r = .returned (.int .i64 o.length) ∧ h' = H := by
 obtain ⟨a, v, g, ha, hli, ho⟩ := hb
 have hv : alen prog H 74 v = some (.int .i64 (o.length : Nat)) := by
  obtain ⟨b, rfl⟩ := ho.form
  exact alen_slice underlying74 _ _ _
 refine Does.body func42 rfl ?_
 have hn : enterF Tryd.f42 [.pointer (some ⟨i, 0, none⟩)] = ⟨8, [(0, .pointer (some ⟨i, 0, none⟩))], []⟩ := rfl
 rw [hn]; clear hn
 repeat apply Wq
 refine Wp.rS ?_
 repeat apply Wq
 refine Wp.r (Aq @d1 (Aq @lc74 (Aq (Heap.lf g (k := 1) rfl) hv))) ?_
 repeat apply Wq
 refine Wp.ret ?_
 exact ⟨rfl, rfl, _, rfl, rfl, rfl⟩
theorem wrEnd_spec {E : EXT} (G : Nat) (lo : Nat) (H : Heap) (i : Nat) (o : List UInt8) (hb : Wrt lo H i o) (hl : o.length ≤ 1000000000000) :
  Does prog G E 33 [.pointer (some ⟨i, 0, none⟩)] H fun r h' => r = .returned (.string (bs o)) ∧ H.next ≤ h'.next ∧ ∀ j, j < lo → h'.get j = H.get j := by
 obtain ⟨a, v, g, ha, hli, ho⟩ := hb
 have hu : ∃ p H2, asliceData v = some (.pointer p) ∧ aunsafeString prog H 112 (.pointer p) (o.length : Int) = some (.string (bs o), H2) ∧ H.next ≤ H2.next ∧ ∀ j, j < lo → H2.get j = H.get j := by
  rcases ho with ⟨rfl, h1, h2⟩ | ⟨b, hlb, hpos, rfl, hg⟩
  ·have : o = [] := List.length_eq_zero_iff.1 h1
   subst this
   exact ⟨none, H, rfl, by unfold aunsafeString; rfl, Nat.le_refl _, fun _ _ => rfl⟩
  ·have hd : asliceData (.slice (some ⟨b, 0, none⟩) o.length o.length) = some (.pointer (some ⟨b, 0, none⟩)) := by
    unfold asliceData; simp only []; rw [if_neg (by omega)]
   have key : strOfNums (o.map fun b => (b.toNat : Int)) = bs o := by
    apply ByteArray.ext
    unfold strOfNums bs
    simp
    rw [show ((fun (n : Int) => n.toNat.toUInt8) ∘ fun (b : UInt8) => (b.toNat : Int)) = id from funext fun b => by simp]
    simp
   refine ⟨_, H.set b (.row { vs := o.map byteV, elem := 5, grown := true, ro := true }), hd, ?_, by simp, fun j hj => Heap.gs (by omega)⟩
   have hb : bytesOf (o.map byteV) = some (o.map fun b => (b.toNat : Int)) := by
    have := bytesOf_map (o.map fun b => (b.toNat : Int))
    rw [List.map_map] at this
    exact this
   unfold aunsafeString
   rw [if_neg (by omega), if_neg (by omega)]
   simp only [underlying112, Heap.row_of hg, Option.bind_some]
   rw [if_pos ⟨trivial, by kernel_rfl, trivial, by simp⟩]
   rw [List.drop_zero, Int.toNat_natCast, List.take_of_length_le (by simp), hb, Option.bind_some, key]
 obtain ⟨p, H2, hd, hu, n2, k2⟩ := hu
 have hv : alen prog H 74 v = some (.int .i64 (o.length : Nat)) := by
  obtain ⟨b, rfl⟩ := ho.form
  exact alen_slice underlying74 _ _ _
 refine Does.body func33 rfl ?_
 have hn : enterF Tryd.f33 [.pointer (some ⟨i, 0, none⟩)] = ⟨14, [(0, .pointer (some ⟨i, 0, none⟩))], []⟩ := rfl
 rw [hn]; clear hn
 repeat apply Wq
 refine Wp.rS ?_
 repeat apply Wq
 refine Wp.drawAs [] [7] 0 (fun _ => True) mixed (by kernel_rfl) trivial ?_
 refine DrT.run 4 (by simp only [bsd, bss, bsg, reduceLT, reduceEqDiff, reduceCtorEq, d1, lc74, Heap.lf g (k := 1) rfl] <;> exact rfl) rfl ?_
 try simp only [List.drop_succ_cons, List.drop_zero]
 refine DrT.pure (by simp only [bsg, reduceLT, reduceEqDiff, reduceCtorEq]) (fun H => by simp only [bsg, reduceLT, reduceEqDiff, reduceCtorEq, hd] <;> exact rfl) (by simp only [bsg, reduceLT, reduceEqDiff, reduceCtorEq] <;> exact rfl) ?_
 refine DrT.run 5 (by simp only [bsd, bss, bsg, reduceLT, reduceEqDiff, reduceCtorEq, d1, lc74, Heap.lf g (k := 1) rfl, hv] <;> exact rfl) rfl ?_
 try simp only [List.drop_succ_cons, List.drop_zero]
 refine DrT.val (by simp only [bsg, reduceLT, reduceEqDiff, reduceCtorEq, hu] <;> exact rfl) rfl rfl (by simp only [bsg, reduceLT, reduceEqDiff, reduceCtorEq]) (by simp only [bsg, reduceLT, reduceEqDiff, reduceCtorEq] <;> exact rfl) (fun _ => trivial) ?_
 refine DrT.run 1 (by simp only [bsd, bss, bsg, reduceLT, reduceEqDiff, reduceCtorEq] <;> exact rfl) rfl ?_
 try simp only [List.drop_succ_cons, List.drop_zero]
 refine DrT.nil ?_
 repeat apply Wq
 refine Wp.ret ?_
 exact ⟨rfl, rfl, _, rfl, rfl, n2, k2⟩
def rowS (o : List UInt8) (ws : List (List UInt8)) : List UInt8 := (if o = [] then [] else o ++ [10]) ++ Lib.join ws [32]
theorem joinIs : JoinSays prog 45 := fun bk o c xs sep w h1 h2 h3 h4 h5 => Tryd.strings_Join bk o c xs sep w h1 h2 h3 h4 h5
theorem strsOf_map : ∀ ws : List (List UInt8), strsOf (ws.map fun w => .string (bs w)) = some (ws.map bs)
 | [] => rfl
 | w :: ws => by rw [List.map_cons, strsOf, strsOf_map ws]; rfl
def wordsRow (ws : List (List UInt8)) : AObj := .row { vs := ws.map fun w => .string (bs w), elem := 9 }
theorem join_does {G : Nat} (B : Base prog G) (h : Heap) (b n c : Nat) (ws : List (List UInt8)) (g : h.get b = some (wordsRow ws)) (hn : n = ws.length) (hc : n ≤ c) (h1 : n ≤ 1000) (h2 : (Lib.join ws [32]).length ≤ 1000000000) :
  Does prog G (GoodE prog B) 45 [.slice (some ⟨b, 0, none⟩) n c, .string ⟨#[32]⟩] h fun r h' => r = .returned (.string (bs (Lib.join ws [32]))) ∧ h' = h := by
 have e : joinX [.slice (some ⟨b, 0, none⟩) n c, .string ⟨#[32]⟩] h = some (.string (bs (Lib.join ws [32])), h) := by
  unfold joinX
  simp only []
  rw [if_pos ⟨hc, h1⟩, Heap.lds_of g (by simp [hn])]
  simp only [List.drop_zero]
  rw [List.take_of_length_le (by simp [hn]), strsOf_map]
  simp only [joinK_eq]
  have e2 : (ws.map bs).map (·.data.toList) = ws := by
   rw [List.map_map]
   conv => rhs; rw [← List.map_id ws]
   exact List.map_congr_left fun w _ => by simp [bs]
  rw [e2, if_pos h2]
 exact ⟨_, _, .ext (joinX_ok joinIs e), rfl, rfl⟩
theorem w0 (i k : Nat) : afieldAddr prog 78 (.pointer (some ⟨i, k, none⟩)) 0 = some (.pointer (some ⟨i, k, none⟩)) := afieldAddr_eq (f := 0) (o := 0) underlying78 (by rfl) (s := 1) (by kernel_rfl) i k
theorem row_spec {G : Nat} (B : Base prog G) (lo : Nat) (H : Heap) (i : Nat) (o : List UInt8) (hb : Wrt lo H i o) (ho : o.length ≤ 100000000000) (b n c : Nat) (ws : List (List UInt8)) (g : H.get b = some (wordsRow ws)) (hbi : b ≠ i) (hn : n = ws.length) (hc : n ≤ c) (h1 : n ≤ 1000) (h2 : (Lib.join ws [32]).length ≤ 1000000000) (h3 : Lib.join ws [32] ≠ []) :
  Does prog G (GoodE prog B) 29 [.pointer (some ⟨i, 0, none⟩), .slice (some ⟨b, 0, none⟩) n c] H fun r h' => r = .returned (.tuple #[]) ∧ Wrt lo h' i (rowS o ws) ∧ KeepB lo i H h' := by
 have c42 : canEnter prog 42 = true := by kernel_rfl
 have c43 : canEnter prog 43 = true := by kernel_rfl
 have c44 : canEnter prog 44 = true := by kernel_rfl
 have c45 : canEnter prog 45 = true := by kernel_rfl
 refine Does.body func29 rfl ?_
 have hn : enterF Tryd.f29 [.pointer (some ⟨i, 0, none⟩), .slice (some ⟨b, 0, none⟩) n c] = ⟨19, [(0, .pointer (some ⟨i, 0, none⟩)), (1, .slice (some ⟨b, 0, none⟩) n c)], []⟩ := rfl
 rw [hn]; clear hn
 repeat apply Wq
 refine Wp.regionAs (is := List.range' 0 3 ++ (3 :: (List.range' 4 1 ++ []))) rfl ?_
 refine WpO.r 3 @w0 ?_
 refine WpO.cR (wrLen_spec G lo H i o hb) c42 ?_
 rintro _ h9 ⟨rfl, hh9⟩
 obtain rfl := hh9.symm
 clear hh9
 refine pu ?_
 by_cases h0 : o = []
 ·subst h0
  refine WpO.r 1 (decide_eq_false (show ¬ (0 : Int) < ((([] : List UInt8).length : Nat) : Int) by simp)) ?_
  refine WpO.nil ?_
  repeat apply Wq
  refine Wp.cF ?_
  repeat apply Wq
  refine Wp.skip ?_
  repeat apply Wq
  refine Wp.drawAs [] [] 0 (fun _ => True) mixed (by kernel_rfl) trivial ?_
  refine DrT.run 4 (by simp only [bsd, bss, bsg, reduceLT, reduceEqDiff, reduceCtorEq, w0] <;> exact rfl) rfl ?_
  try simp only [List.drop_succ_cons, List.drop_zero]
  refine DrT.call (join_does B H b n c ws g hn hc h1 h2) rfl rfl (by simp only [bsg, reduceLT, reduceEqDiff, reduceCtorEq]) (by simp only [bsc, bsg, reduceLT, reduceEqDiff, reduceCtorEq, c45] <;> exact rfl) ?_
  rintro _ h9 ⟨rfl, hh9⟩
  obtain rfl := hh9.symm
  clear hh9
  refine ⟨_, _, rfl, fun _ => trivial, by simp only [bsg, reduceLT, reduceEqDiff, reduceCtorEq]; exact rfl, ?_⟩
  refine DrT.call (wrStr_spec G lo H i [] (Lib.join ws [32]) hb (by simp) (by omega) h3) rfl rfl (by simp only [bsg, reduceLT, reduceEqDiff, reduceCtorEq]) (by simp only [bsc, bsg, reduceLT, reduceEqDiff, reduceCtorEq, c44] <;> exact rfl) ?_
  intro r H2 hr
  obtain ⟨rfl, w2, k2⟩ := hr
  refine ⟨_, _, rfl, fun _ => trivial, by simp only [bsg, reduceLT, reduceEqDiff, reduceCtorEq]; exact rfl, ?_⟩
  refine DrT.nil ?_
  exact ⟨trivial, rfl, _, rfl, rfl, w2, k2⟩
 ·have hpos : (0 : Int) < ((o.length : Nat) : Int) := by have := List.length_pos_iff.2 h0; omega
  refine WpO.r 1 (decide_eq_true hpos) ?_
  refine WpO.nil ?_
  repeat apply Wq
  refine Wp.cT ?_
  repeat apply Wq
  refine Wp.regionAs (is := List.range' 0 3 ++ (3 :: [])) rfl ?_
  refine WpO.r 3 @w0 ?_
  refine WpO.cS c43 ((wrByte_spec G lo H i o 10 hb (by omega)).mono ?_)
  intro r H1 hr
  obtain ⟨rfl, w1, k1⟩ := hr
  refine pt ?_
  refine WpO.nil ?_
  have g1 := k1.2.2 b _ g hbi rfl
  repeat apply Wq
  refine Wp.drawAs [] [] 0 (fun _ => True) mixed (by kernel_rfl) trivial ?_
  refine DrT.run 4 (by simp only [bsd, bss, bsg, reduceLT, reduceEqDiff, reduceCtorEq, w0] <;> exact rfl) rfl ?_
  try simp only [List.drop_succ_cons, List.drop_zero]
  refine DrT.call (join_does B H1 b n c ws g1 hn hc h1 h2) rfl rfl (by simp only [bsg, reduceLT, reduceEqDiff, reduceCtorEq]) (by simp only [bsc, bsg, reduceLT, reduceEqDiff, reduceCtorEq, c45] <;> exact rfl) ?_
  rintro _ h9 ⟨rfl, hh9⟩
  obtain rfl := hh9.symm
  clear hh9
  refine ⟨_, _, rfl, fun _ => trivial, by simp only [bsg, reduceLT, reduceEqDiff, reduceCtorEq]; exact rfl, ?_⟩
  refine DrT.call (wrStr_spec G lo H1 i (o ++ [10]) (Lib.join ws [32]) w1 (by rw [List.length_append]; simp only [List.length_cons, List.length_nil]; omega) (by omega) h3) rfl rfl (by simp only [bsg, reduceLT, reduceEqDiff, reduceCtorEq]) (by simp only [bsc, bsg, reduceLT, reduceEqDiff, reduceCtorEq, c44] <;> exact rfl) ?_
  intro r H2 hr
  obtain ⟨rfl, w2, k2⟩ := hr
  refine ⟨_, _, rfl, fun _ => trivial, by simp only [bsg, reduceLT, reduceEqDiff, reduceCtorEq]; exact rfl, ?_⟩
  refine DrT.nil ?_
  refine ⟨trivial, rfl, _, rfl, rfl, ?_, k1.trans k2⟩
  unfold rowS
  rw [if_neg h0]
  exact w2
end Go.Mini
