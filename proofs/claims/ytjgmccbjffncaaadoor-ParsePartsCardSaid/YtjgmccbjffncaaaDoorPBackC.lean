import Derived.Test.YtjgmccbjffncaaaDoorPLexZc
import Derived.Test.YtjgmccbjffncaaaDoorMiniYOtoYS
import Derived.Test.YtjgmccbjffncaaaDoorPBackA
import Derived.Test.YtjgmccbjffncaaaDoorPLexL
set_option maxHeartbeats 8000000
set_option maxRecDepth 100000
set_option linter.unusedSimpArgs false
namespace Go.Mini
open Nat (reduceLT reduceEqDiff)
open Go.Proofs Tryd
open Go.Lib (strCells strCells_length strCells_oneCell)
theorem sign_ok : byteOk prog (fun _ _ _ => none) 46 (fun b => .string (bs (signB b))) 256 = true := by kernel_rfl
theorem sign_does {G : Nat} (B : Base prog G) (b : UInt8) (h : Heap) : Does prog G (GoodE prog B) 46 [byteV b] h fun r h' => r = .returned (.string (bs (signB b))) ∧ h' = h := byteFn (noKnown _ _ _) sign_ok b h
theorem agg55 : Program.agg prog 74 = some false := by kernel_rfl
theorem agg56 : Program.agg prog 73 = some false := by kernel_rfl
theorem sz55 : (prog.info? 74).map (·.size) = some 1 := by kernel_rfl
theorem sz56 : (prog.info? 73).map (·.size) = some 1 := by kernel_rfl
theorem d0 (i k : Nat) : afieldAddr prog 76 (.pointer (some ⟨i, k, none⟩)) 0 = some (.pointer (some ⟨i, k, none⟩)) := afieldAddr_eq (f := 0) (o := 0) underlying76 (by rfl) (s := 0) (by kernel_rfl) i k
theorem d1 (i k : Nat) : afieldAddr prog 76 (.pointer (some ⟨i, k, none⟩)) 1 = some (.pointer (some ⟨i, k + 1, none⟩)) := afieldAddr_eq underlying76 (by rfl) (s := 0) (by kernel_rfl) i k
def bldRow (a v : Value) : AObj := .row { vs := [a, v], elem := 76 }
theorem alloc58 (h : Heap) : aalloc prog h 76 = some (h.new, h.alloc (bldRow (.pointer none) (.slice none 0 0))) := aalloc_eq (z := .agg #[.pointer none, .slice none 0 0]) (by kernel_rfl) rfl
theorem cv1 (x : Option Addr) : aconv prog 73 139 (.pointer x) = none := by unfold aconv; rw [underlying73, underlying139]
theorem cv2 (x : Option Addr) : aconv prog 139 73 (.pointer x) = none := by unfold aconv; rw [underlying73, underlying139]
theorem cb1 (H : Heap) (x : Option Addr) : aconvB prog H 73 139 (.pointer x) = none := by unfold aconvB; rw [underlying73, underlying139]
theorem cb2 (H : Heap) (x : Option Addr) : aconvB prog H 139 73 (.pointer x) = none := by unfold aconvB; rw [underlying73, underlying139]
theorem lies58 : liesAt prog prog.depth 76 (2 / prog.cellsOf 76) 0 76 1 = true := by kernel_rfl
theorem sz58 : (prog.info? 76).map (·.size) = some 2 := by kernel_rfl
theorem cp1 {H : Heap} {i : Nat} {a v : Value} (g : H.get i = some (bldRow a v)) : aconvP prog H 73 139 (.pointer (some ⟨i, 0, none⟩)) = some (.pointer (some ⟨i, 0, none⟩)) := by
 obtain ⟨x, h1, h2⟩ := info_some sz58
 unfold aconvP
 simp only [underlying73, underlying139, h1, Heap.row_of g, Option.bind_some, h2]
 rfl
theorem cp2 {H : Heap} {i : Nat} {a v : Value} (g : H.get i = some (bldRow a v)) : aconvP prog H 139 73 (.pointer (some ⟨i, 0, none⟩)) = some (.pointer (some ⟨i, 0, none⟩)) := by
 obtain ⟨x, h1, h2⟩ := info_some sz58
 unfold aconvP
 simp only [underlying73, underlying139, h1, Heap.row_of g, Option.bind_some]
 rw [if_pos ⟨trivial, trivial, lies58⟩]
theorem no48 : canEnter prog 72 = false := by kernel_rfl
theorem ne48 : aNoEsc prog 72 = true := by kernel_rfl
theorem put_addr {H : Heap} {i : Nat} {a v : Value} (g : H.get i = some (bldRow a v)) (x : Option Addr) : astore prog H 73 (.pointer (some ⟨i, 0, none⟩)) (.pointer x) = some (H.set i (bldRow (.pointer x) v)) := by
 rw [astore_cell sz56 rfl, Heap.sts_of g (by simp) rfl rfl]; rfl
theorem put_buf {H : Heap} {i : Nat} {a v : Value} (g : H.get i = some (bldRow a v)) (x : Option Addr) (l c : Nat) : astore prog H 74 (.pointer (some ⟨i, 0 + 1, none⟩)) (.slice x l c) = some (H.set i (bldRow a (.slice x l c))) := by
 rw [astore_cell sz55 rfl, Heap.sts_of g (by simp) rfl rfl]; rfl
def selfA (i : Nat) (a : Value) : Prop := a = .pointer none ∨ a = .pointer (some ⟨i, 0, none⟩)
theorem check_spec {E : EXT} (G : Nat) (H : Heap) (i : Nat) (a v : Value) (g : H.get i = some (bldRow a v)) (ha : selfA i a) :
  Does prog G E 57 [.pointer (some ⟨i, 0, none⟩)] H fun r h' => r = .returned (.tuple #[]) ∧ h' = H.set i (bldRow (.pointer (some ⟨i, 0, none⟩)) v) := by
 refine Does.body func57 rfl ?_
 have hn : enterF Tryd.f57 [.pointer (some ⟨i, 0, none⟩)] = ⟨20, [(0, .pointer (some ⟨i, 0, none⟩))], []⟩ := rfl
 rw [hn]; clear hn
 rcases ha with rfl | rfl
 ·repeat apply Wq
  refine Wp.runS (by simp only [bsg, reduceLT, reduceEqDiff, reduceCtorEq, d0, lc73, Heap.lf g (k := 0) rfl, abin_ptr_nil underlying73, Option.isNone] <;> exact rfl) ?_
  repeat apply Wq
  refine Wp.cT ?_
  repeat apply Wq
  refine Wp.runS (by simp only [bsg, reduceLT, reduceEqDiff, reduceCtorEq, calleeOf, fnOf, cv1, cv2, cb1, cb2, cp1 g, cp2 g, no48, ne48, d0, put_addr g, List.nil_append, List.append_nil] <;> exact rfl) ?_
  exact ⟨rfl, rfl, _, rfl, rfl, rfl⟩
 ·repeat apply Wq
  refine Wp.runS (by simp only [bsg, reduceLT, reduceEqDiff, reduceCtorEq, d0, lc73, Heap.lf g (k := 0) rfl, abin_ptr_nil underlying73, Option.isNone] <;> exact rfl) ?_
  repeat apply Wq
  refine Wp.cF ?_
  have h1 : abin prog .neq 73 (.pointer (some ⟨i, 0, none⟩)) (.pointer (some ⟨i, 0, none⟩)) = none := rfl
  have h2 : aptr prog H .neq 73 (.pointer (some ⟨i, 0, none⟩)) (.pointer (some ⟨i, 0, none⟩)) = some (.bool false) := by
   unfold aptr
   simp only [underlying73]
   have h58 : Program.cellsOf prog 76 = 2 := by kernel_rfl
   rw [if_neg (by rw [h58]; decide)]
   simp [eqOp]
  repeat apply Wq
  refine Wp.runS (by simp only [bsg, reduceLT, reduceEqDiff, reduceCtorEq, d0, lc73, Heap.lf g (k := 0) rfl, h1, h2, isEqOp, isConstO, Bool.and_self] <;> exact rfl) ?_
  repeat apply Wq
  refine Wp.cF ?_
  repeat apply Wq
  refine Wp.skip ?_
  refine ⟨rfl, rfl, _, rfl, rfl, ?_⟩
  exact (Heap.set_same g).symm
def Bld (H : Heap) (i : Nat) (o : List UInt8) : Prop := ∃ a v, H.get i = some (bldRow a v) ∧ selfA i a ∧ Own H v 5 o.length (o.map byteV)
theorem elem5b : elemOk prog 5 1 1 = true := by kernel_rfl
theorem bld_check {H : Heap} {i : Nat} {a v : Value} {o : List UInt8} (g : H.get i = some (bldRow a v)) (ho : Own H v 5 o.length (o.map byteV)) (p : Value) :
  (H.set i (bldRow p v)).get i = some (bldRow p v) ∧ Own (H.set i (bldRow p v)) v 5 o.length (o.map byteV) := ⟨Heap.gf g, ho.set g rfl _⟩
theorem wByte_spec {E : EXT} (G : Nat) (H : Heap) (i : Nat) (o : List UInt8) (c : UInt8) (hb : Bld H i o) (hl : o.length ≤ 1000000) :
  Does prog G E 43 [.pointer (some ⟨i, 0, none⟩), byteV c] H fun r h' => r = .returned .nilIface ∧ Bld h' i (o ++ [c]) := by
 obtain ⟨a, v, g, ha, ho⟩ := hb
 have c34 : canEnter prog 57 = true := by kernel_rfl
 refine Does.body func43 rfl ?_
 have hn : enterF Tryd.f43 [.pointer (some ⟨i, 0, none⟩), byteV c] = ⟨17, [(0, .pointer (some ⟨i, 0, none⟩)), (1, byteV c)], []⟩ := rfl
 rw [hn]; clear hn
 repeat apply Wq
 refine Wp.rS ?_
 repeat apply Wq
 refine Wp.regionAs (is := List.range' 0 1 ++ (1 :: [])) rfl ?_
 refine WpO.rS 1 ?_
 refine WpO.cR (check_spec G H i a v g ha) c34 ?_
 rintro _ h9 ⟨rfl, hh9⟩
 obtain rfl := hh9.symm
 clear hh9
 refine pu ?_
 refine WpO.nil ?_
 obtain ⟨g1, o1⟩ := bld_check g ho (.pointer (some ⟨i, 0, none⟩))
 generalize H.set i (bldRow (.pointer (some ⟨i, 0, none⟩)) v) = H1 at g1 o1 ⊢
 obtain ⟨e1, v', h', e2, e3, e4, _, e6, _⟩ := own_push (w := byteV c) underlying74 elem5b (by omega) o1 (by simp) rfl rfl (by omega) (by omega)
 have g2 : h'.get i = some (bldRow (.pointer (some ⟨i, 0, none⟩)) v) := e4.2 _ _ g1 rfl
 rw [e6] at e2 e3
 repeat apply Wq
 refine Wp.r (Aq @d1 (Aq @lc74 (Aq (Heap.lf g1 (k := 1) rfl) (Aq e1 (Aq e2 (put_buf g2)))))) ?_
 repeat apply Wq
 refine Wp.rS ?_
 repeat apply Wq
 refine Wp.ret ?_
 refine ⟨rfl, rfl, _, rfl, rfl, _, _, Heap.gf g2, .inr rfl, ?_⟩
 have : (o ++ [c]).map byteV = o.map byteV ++ (byteV c).cells.toList := by simp [byteV, Value.cells]
 rw [this, List.length_append]
 exact e3.set g2 rfl _
theorem wStr_spec {E : EXT} (G : Nat) (H : Heap) (i : Nat) (o s : List UInt8) (hb : Bld H i o) (hl : o.length ≤ 1000000) (hs : s.length ≤ 1000000) (h0 : s ≠ []) :
  Does prog G E 44 [.pointer (some ⟨i, 0, none⟩), .string (bs s)] H fun r h' => r = .returned (.tuple #[.int .i64 s.length, .nilIface]) ∧ Bld h' i (o ++ s) := by
 obtain ⟨a, v, g, ha, ho⟩ := hb
 have c34 : canEnter prog 57 = true := by kernel_rfl
 refine Does.body func44 rfl ?_
 have hn : enterF Tryd.f44 [.pointer (some ⟨i, 0, none⟩), .string (bs s)] = ⟨19, [(0, .pointer (some ⟨i, 0, none⟩)), (1, .string (bs s))], []⟩ := rfl
 rw [hn]; clear hn
 repeat apply Wq
 refine Wp.rS ?_
 repeat apply Wq
 refine Wp.regionAs (is := List.range' 0 1 ++ (1 :: [])) rfl ?_
 refine WpO.rS 1 ?_
 refine WpO.cR (check_spec G H i a v g ha) c34 ?_
 rintro _ h9 ⟨rfl, hh9⟩
 obtain rfl := hh9.symm
 clear hh9
 refine pu ?_
 refine WpO.nil ?_
 obtain ⟨g1, o1⟩ := bld_check g ho (.pointer (some ⟨i, 0, none⟩))
 generalize H.set i (bldRow (.pointer (some ⟨i, 0, none⟩)) v) = H1 at g1 o1 ⊢
 have hpos : 0 < s.length := List.length_pos_iff.2 h0
 obtain ⟨v', h', e2, e3, e4, _, e6, _⟩ := own_append (x := .string (bs s)) (new := s.map byteV) (m := s.length) underlying74 underlying9 rfl elem5b o1 (by simp) (by simp only [alenOf, bs_size]) (fun h' _ => by
  show some ((strCells (bs s)).take s.length) = _
  rw [show strCells (bs s) = s.map byteV from rfl, List.take_of_length_le (by simp)]) hpos (by simp) (by simp [byteV, one]) (by omega) (by omega)
 have g2 : h'.get i = some (bldRow (.pointer (some ⟨i, 0, none⟩)) v) := e4.2 _ _ g1 rfl
 rw [e6] at e2 e3
 repeat apply Wq
 refine Wp.r (Aq @d1 (Aq @lc74 (Aq (Heap.lf g1 (k := 1) rfl) (Aq e2 (put_buf g2))))) ?_
 repeat apply Wq
 refine Wp.r @ls9 ?_
 repeat apply Wq
 refine Wp.ret ?_
 refine ⟨rfl, rfl, _, rfl, rfl, _, _, Heap.gf g2, .inr rfl, ?_⟩
 rw [List.map_append, List.length_append]
 exact e3.set g2 rfl _
theorem str_spec {E : EXT} (G : Nat) (H : Heap) (i : Nat) (o : List UInt8) (hb : Bld H i o) (h0 : o ≠ []) (hl : o.length ≤ 1000000) :
  Does prog G E 33 [.pointer (some ⟨i, 0, none⟩)] H fun r _ => r = .returned (.string (bs o)) := by
 obtain ⟨a, v, g, ha, ho⟩ := hb
 rcases ho with ⟨_, h1, _⟩ | ⟨b, rfl, hg⟩
 ·exact absurd (List.length_eq_zero_iff.1 h1) h0
 have hpos : 0 < o.length := List.length_pos_iff.2 h0
 have hd : asliceData (.slice (some ⟨b, 0, none⟩) o.length o.length) = some (.pointer (some ⟨b, 0, none⟩)) := by
  unfold asliceData; simp only []; rw [if_neg (by omega)]
 have key : strOfNums (o.map fun b => (b.toNat : Int)) = bs o := by
  apply ByteArray.ext
  unfold strOfNums bs
  simp
  rw [show ((fun (n : Int) => n.toNat.toUInt8) ∘ fun (b : UInt8) => (b.toNat : Int)) = id from funext fun b => by simp]
  simp
 have hu : aunsafeString prog H 112 (.pointer (some ⟨b, 0, none⟩)) (o.length : Int) = some (.string (bs o), H.set b (.row { vs := o.map byteV, elem := 5, grown := true, ro := true })) := by
  have hb : bytesOf (o.map byteV) = some (o.map fun b => (b.toNat : Int)) := by
   have := bytesOf_map (o.map fun b => (b.toNat : Int))
   rw [List.map_map] at this
   exact this
  unfold aunsafeString
  rw [if_neg (by omega), if_neg (by omega)]
  simp only [underlying112, Heap.row_of hg, Option.bind_some]
  rw [if_pos ⟨trivial, by kernel_rfl, trivial, by simp⟩]
  rw [List.drop_zero, Int.toNat_natCast, List.take_of_length_le (by simp), hb, Option.bind_some, key]
 refine Does.body func33 rfl ?_
 have hn : enterF Tryd.f33 [.pointer (some ⟨i, 0, none⟩)] = ⟨14, [(0, .pointer (some ⟨i, 0, none⟩))], []⟩ := rfl
 rw [hn]; clear hn
 repeat apply Wq
 refine Wp.rS ?_
 repeat apply Wq
 refine Wp.drawAs [] [7] 0 (fun _ => True) mixed (by kernel_rfl) trivial ?_
 refine DrT.run 4 (by simp only [bsd, bss, bsg, reduceLT, reduceEqDiff, reduceCtorEq, d1, lc74, Heap.lf g (k := 1) rfl] <;> exact rfl) rfl ?_
 try simp only [List.drop_succ_cons, List.drop_zero]
 refine DrT.pure (by simp only [bsg, reduceLT, reduceEqDiff, reduceCtorEq]) (fun H => by simp only [bsg, reduceLT, reduceEqDiff, reduceCtorEq, hd] <;> exact rfl) (by simp only [bsg, reduceLT, reduceEqDiff, reduceCtorEq] <;> exact rfl) ?_
 refine DrT.run 5 (by simp only [bsd, bss, bsg, reduceLT, reduceEqDiff, reduceCtorEq, d1, lc74, Heap.lf g (k := 1) rfl, lv74] <;> exact rfl) rfl ?_
 try simp only [List.drop_succ_cons, List.drop_zero]
 refine DrT.val (by simp only [bsg, reduceLT, reduceEqDiff, reduceCtorEq, hu] <;> exact rfl) rfl rfl (by simp only [bsg, reduceLT, reduceEqDiff, reduceCtorEq]) (by simp only [bsg, reduceLT, reduceEqDiff, reduceCtorEq] <;> exact rfl) (fun _ => trivial) ?_
 refine DrT.run 1 (by simp only [bsd, bss, bsg, reduceLT, reduceEqDiff, reduceCtorEq] <;> exact rfl) rfl ?_
 try simp only [List.drop_succ_cons, List.drop_zero]
 refine DrT.nil ?_
 repeat apply Wq
 refine Wp.ret ?_
 exact ⟨rfl, rfl, _, rfl, rfl⟩
theorem quote_bare (G : Nat) (B : Base prog G) (h : Heap) (s : List UInt8) (hs : s.length ≤ 100000) :
  Does prog G (GoodE prog B) 30 [.string (bs s)] h fun r _ => r = .returned (.string (bs (quoteS s))) := by
 have c25 : canEnter prog 43 = true := by kernel_rfl
 have c26 : canEnter prog 44 = true := by kernel_rfl
 have c27 : canEnter prog 46 = true := by kernel_rfl
 have c28 : canEnter prog 33 = true := by kernel_rfl
 have hq : ∀ n, (s.take n).flatMap signB = (s.take n).flatMap signB := fun _ => rfl
 have hl4 : ∀ c : UInt8, (signB c).length ≤ 4 := by refine all_bytes ?_; decide +kernel
 have hlen : ∀ l : List UInt8, (l.flatMap signB).length ≤ 4 * l.length := by
  intro l
  induction l with
  | nil => simp
  | cons c l ih => have := hl4 c; rw [List.flatMap_cons, List.length_append, List.length_cons]; omega
 refine Does.body func30 rfl ?_
 have hn : enterF Tryd.f30 [.string (bs s)] = ⟨19, [(0, .string (bs s))], []⟩ := rfl
 rw [hn]; clear hn
 repeat apply Wq
 refine Wp.rS ?_
 repeat apply Wq
 refine Wp.r @alloc58 ?_
 have b0 : Bld (h.alloc (bldRow (.pointer none) (.slice none 0 0))) h.next [] := ⟨_, _, Heap.gn _ _, .inl rfl, Own.nil _ _⟩
 generalize h.alloc (bldRow (.pointer none) (.slice none 0 0)) = H0 at b0 ⊢
 repeat apply Wq
 refine Wp.regionAs (is := 0 :: []) rfl ?_
 refine WpO.cS c25 ((wByte_spec G H0 h.next [] 34 b0 (by simp)).mono ?_)
 rintro x H1 ⟨rfl, b1⟩
 refine pt ?_
 refine WpO.nil ?_
 repeat apply Wq
 refine Wp.r @ls9 ?_
 repeat apply Wq
 refine Wp.block ?_
 refine Wp.loopI (X := Nat × Heap) (fun x => [(0, .string (bs s)), (3, .pointer (some ⟨h.next, 0, none⟩)), (7, .int .i64 s.length), (8, .int .i64 x.1)]) (fun x => x.2)
  (fun x => x.1 ≤ s.length ∧ Bld x.2 h.next (34 :: (s.take x.1).flatMap signB)) (fun x => s.length - x.1) (0, H1) ⟨Nat.zero_le _, b1⟩ ⟨rfl, rfl, rfl, rfl, trivial⟩ rfl ?_
 rintro ⟨i, H⟩ ⟨hle, hb⟩
 simp only at hle hb
 by_cases hlt : (i : Int) < (s.length : Int)
 ·repeat apply Wq
  refine Wp.r (decide_eq_true hlt) ?_
  repeat apply Wq
  refine Wp.cT ?_
  repeat apply Wq
  refine Wp.skip ?_
  repeat apply Wq
  refine Wp.block ?_
  obtain ⟨c, hc⟩ : ∃ c, s[i]? = some c := ⟨_, List.getElem?_eq_getElem (by omega)⟩
  repeat apply Wq
  refine Wp.rS ?_
  repeat apply Wq
  refine Wp.regionAs (is := List.range' 0 3 ++ (3 :: (4 :: []))) rfl ?_
  refine WpO.runS 3 (by simp only [bsd, bsg, reduceLT, reduceEqDiff, reduceCtorEq, aindex_bs underlying9 hc] <;> exact rfl) (by decide) ?_
  refine WpO.cR (sign_does B c H) c27 ?_
  rintro _ h9 ⟨rfl, hh9⟩
  obtain rfl := hh9.symm
  clear hh9
  refine pu ?_
  refine WpO.cS c26 ((wStr_spec G H h.next _ (signB c) hb (by have := hlen (s.take i); simp at this ⊢; omega) (by have := hl4 c; omega) (sign_head c).2).mono ?_)
  rintro x H2 ⟨rfl, b2⟩
  refine pt ?_
  refine WpO.nil ?_
  have hw : IntKind.i64.wrap ((i : Int) + 1) = ((i + 1 : Nat) : Int) := by rw [wrap_in (by omega) (by omega)]; omega
  repeat apply Wq
  refine Wp.r hw ?_
  have ht : s.take (i + 1) = s.take i ++ [c] := by rw [List.take_add_one, hc]; rfl
  exact ⟨(i + 1, H2), _, ⟨by omega, by rw [ht, List.flatMap_append]; simpa using b2⟩, by simp only; omega, rfl, ⟨rfl, rfl, rfl, rfl, trivial⟩, rfl, rfl⟩
 ·repeat apply Wq
  refine Wp.r (decide_eq_false hlt) ?_
  repeat apply Wq
  refine Wp.cF ?_
  repeat apply Wq
  refine Wp.exit ?_
  simp only [bx, Nat.reduceEqDiff]
  have hi : i = s.length := by omega
  subst hi
  rw [List.take_length] at hb
  repeat apply Wq
  refine Wp.regionAs (is := 0 :: []) rfl ?_
  refine WpO.cS c25 ((wByte_spec G H h.next _ 34 hb (by have := hlen s; simp at this ⊢; omega)).mono ?_)
  rintro x H2 ⟨rfl, b2⟩
  refine pt ?_
  refine WpO.nil ?_
  repeat apply Wq
  refine Wp.regionAs (is := 0 :: (List.range' 1 1 ++ [])) rfl ?_
  refine WpO.cS c28 ((str_spec G H2 h.next _ b2 (by simp) (by have := hlen s; simp at this ⊢; omega)).mono ?_)
  rintro x H3 rfl
  refine pt ?_
  refine WpO.rS 1 ?_
  refine WpO.nil ?_
  repeat apply Wq
  refine Wp.ret ?_
  exact ⟨rfl, rfl, _, rfl, by simp [quoteS]⟩
theorem quote_does (G : Nat) (B : Base prog G) (h : Heap) (s : List UInt8) (hs : s.length ≤ 100000) :
  Does prog G (GoodE prog B) 30 [.string (bs s)] h fun r h' => r = .returned (.string (bs (quoteS s))) ∧ h' = h :=
 Does.fromBare (by simp [flat]) rfl (quote_bare G B B.hB s hs) h
end Go.Mini
