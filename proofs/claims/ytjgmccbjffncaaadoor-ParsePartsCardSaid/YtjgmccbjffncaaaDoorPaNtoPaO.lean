import Derived.Test.YtjgmccbjffncaaaDoorPaKtoPaM
import Derived.Test.YtjgmccbjffncaaaDoorPLexZc
import Derived.Test.YtjgmccbjffncaaaDoorMiniYOtoYS
set_option maxHeartbeats 8000000
set_option maxRecDepth 100000
set_option linter.unusedSimpArgs false
namespace Go.Mini
section
open Go.Proofs
theorem lex_ok (h : Heap) {T : List UInt8} {o : List Tok} (hs : lexS T = .ok o) : ∃ v, lexV h T = .tuple #[v, .agg #[.int .i64 0, .int .i64 0]] ∧ Toks (lexH h T) v o ∧ h.more (lexH h T) ∧ one v = true := by
 unfold lexV lexH
 rw [hs]
 cases o with
 | nil => exact ⟨_, rfl, .inl ⟨rfl, rfl⟩, Heap.mr h, rfl⟩
 | cons t o => exact ⟨_, rfl, .inr ⟨h.next, _, Heap.gn _ _, rfl, rfl⟩, Heap.ma _ _, rfl⟩
theorem lex_bad' (h : Heap) {T : List UInt8} {c p : Nat} (hs : lexS T = .error (c, p)) : lexV h T = .tuple #[.slice none 0 0, .agg #[.int .i64 c, .int .i64 p]] ∧ lexH h T = h := by
 unfold lexV lexH
 rw [hs]
 exact ⟨rfl, rfl⟩
theorem spot_load {H : Heap} {j : Nat} {k p : Int} (g : H.get j = some (spotRow k p)) : aload Tryd.prog H 31 (.pointer (some ⟨j, 0, none⟩)) = some (.agg #[.int .i64 k, .int .i64 p]) := by
 rw [aload_agg agg27 sz27, Heap.lds_of g (by simp)]; rfl
structure Bs (h : Heap) (lo i j2 j3 : Nat) (v : Value) (o : List Tok) (e : Nat) (H : Heap) (a r : Nat) (bl : List BlockT) (bv : Value) : Prop where
 rd : Rd H i v o a e r
 g2 : H.get j2 = some (scriptRow bv)
 g3 : H.get j3 = some (spotRow 0 0)
 bm : BlocksM lo H bl bv
 lh : lo ≤ H.next
 old : ∀ j, j < h.next → H.get j = h.get j
 vb : ∀ b l c, v = .slice (some ⟨b, 0, none⟩) l c → b < lo
 li : i < lo
 l2 : j2 < lo
 l3 : j3 < lo
 k2 : h.next ≤ j2
 k3 : h.next ≤ j3
 ki : h.next ≤ i
 n2 : j2 ≠ i
 n3 : j3 ≠ i
 n23 : j3 ≠ j2
section
variable {h : Heap} {lo i j2 j3 : Nat} {v : Value} {o : List Tok} {e : Nat} {H H2 : Heap} {a r : Nat} {bl : List BlockT} {bv : Value} (st : Bs h lo i j2 j3 v o e H a r bl bv)
include st
theorem Bs.base : h.next ≤ H.next := by have := st.lh; have := st.l2; have := st.k2; omega
theorem Bs.step (x : Nat) {a' r' : Nat} (hx : lo ≤ x) (hp : ∀ p, H.get x = some p → p.plain = true) (hn : H.next ≤ H2.next) (hold : ∀ j, j < H.next → j ≠ i → j ≠ x → H2.get j = H.get j) (rd2 : Rd H2 i v o a' e r') : Bs h lo i j2 j3 v o e H2 a' r' bl bv where
 rd := rd2
 g2 := by rw [hold j2 (by have := st.lh; have := st.l2; omega) st.n2 (by have := st.l2; omega)]; exact st.g2
 g3 := by rw [hold j3 (by have := st.lh; have := st.l3; omega) st.n3 (by have := st.l3; omega)]; exact st.g3
 bm := st.bm.keep fun j p hq hpl => by
  rw [hold j (Heap.lg hq) (by rintro rfl; rw [st.rd.g] at hq; cases hq; cases hpl) (by rintro rfl; rw [hp p hq] at hpl; cases hpl)]
  exact hq
 lh := Nat.le_trans st.lh hn
 old := fun j hj => by rw [hold j (by have := st.base; omega) (by have := st.ki; omega) (by have := st.l2; have := st.k2; omega)]; exact st.old j hj
 vb := st.vb
 li := st.li
 l2 := st.l2
 l3 := st.l3
 k2 := st.k2
 k3 := st.k3
 ki := st.ki
 n2 := st.n2
 n3 := st.n3
 n23 := st.n23
theorem Bs.step' {a' r' : Nat} (hn : H.next ≤ H2.next) (hold : ∀ j, j < H.next → j ≠ i → H2.get j = H.get j) (rd2 : Rd H2 i v o a' e r') : Bs h lo i j2 j3 v o e H2 a' r' bl bv :=
 st.step H.next st.lh (fun p hp => by have := Heap.lg hp; omega) hn (fun j hj h1 _ => hold j hj h1) rd2
theorem Bs.more (hm : H.more H2) : Bs h lo i j2 j3 v o e H2 a r bl bv := st.step' hm.1 (fun j hj _ => hm.2 j hj) ⟨hm.get st.rd.g, st.rd.t.more hm, st.rd.ne⟩
theorem Bs.at (a' : Nat) : Bs h lo i j2 j3 v o e (rdAt H i v e r a') a' r bl bv := st.step' (by rw [rdAt_next]; exact Nat.le_refl _) (fun j _ hj => by unfold rdAt; exact Heap.gs hj) (st.rd.at a')
end
theorem prog_bad {E : EXT} (G : Nat) {h : Heap} {lo i j2 j3 : Nat} {v : Value} {o : List Tok} {e : Nat} {H H2 : Heap} {a r : Nat} {bl : List BlockT} {bv : Value} (st : Bs h lo i j2 j3 v o e H a r bl bv) (x : Nat) (hx : lo ≤ x) (hn : H.next ≤ H2.next) (hold : ∀ j, j < H.next → j ≠ i → j ≠ x → H2.get j = H.get j)
  {s : List (Nat × Value)} {ds : List Deferred} {d : Deferred} (s2 : look 2 s = some (.pointer (some ⟨j2, 0, none⟩))) (s3 : look 3 s = some (.pointer (some ⟨j3, 0, none⟩))) (hd : d.target = .fn (.func 22) #[.pointer (some ⟨j2, 0, none⟩), .pointer (some ⟨j3, 0, none⟩)]) (hda : d.args = #[]) (c p : Nat) :
  Leaves Tryd.prog G E Tryd.f13 ⟨75, s, ds⟩ [d] (.panicking (wrongQ c p)) H2 (ProgR h (.error (c, p))) := by
 have c22 : canEnter Tryd.prog 22 = true := by kernel_rfl
 have g2 : H2.get j2 = some (scriptRow bv) := by rw [hold j2 (by have := st.lh; have := st.l2; omega) st.n2 (by have := st.l2; omega)]; exact st.g2
 have g3 : H2.get j3 = some (spotRow 0 0) := by rw [hold j3 (by have := st.lh; have := st.l3; omega) st.n3 (by have := st.l3; omega)]; exact st.g3
 have hb := st.base
 refine Leaves.cons (by simp) hd c22 ?_
 rw [hda]
 obtain ⟨e9, u9, h9, b9, rfl, rfl, k1, k2, k3, k4⟩ := progCatch_spec (E := E) G H2 j2 j3 bv 0 0 st.n23 g2 g3 c p
 refine ⟨_, _, h9, b9, _, rfl, Leaves.ret (ares13' s2 s3 k1 k2) ⟨rfl, by omega, fun j hj => ?_⟩⟩
 rw [k4 j (by omega) (by have := st.k2; omega) (by have := st.k3; omega), hold j (by omega) (by have := st.ki; omega) (by have := st.l2; have := st.k2; omega)]
 exact st.old j hj
structure Ins (H1 : Heap) (i j8 : Nat) (v : Value) (o : List Tok) (e : Nat) (name : List UInt8) (H : Heap) (a r : Nat) (l : List LineT) (lv : Value) : Prop where
 rd : Rd H i v o a e r
 g8 : H.get j8 = some (blockRow name lv)
 lm : LinesM H1.next H l lv
 lo : H1.next ≤ H.next
 old : ∀ j, j < H1.next → j ≠ i → j ≠ j8 → H.get j = H1.get j
 vb : ∀ b l c, v = .slice (some ⟨b, 0, none⟩) l c → b < H1.next ∧ b ≠ j8
 li : i < H1.next
 l8 : j8 < H1.next
 n8 : j8 ≠ i
section
variable {H1 : Heap} {i j8 : Nat} {v : Value} {o : List Tok} {e : Nat} {name : List UInt8} {H H2 : Heap} {a r : Nat} {l : List LineT} {lv : Value} (st : Ins H1 i j8 v o e name H a r l lv)
include st
theorem Ins.step (x : Nat) {a' r' : Nat} (hx : H1.next ≤ x) (hp : ∀ p, H.get x = some p → p.plain = true) (hn : H.next ≤ H2.next) (hold : ∀ j, j < H.next → j ≠ i → j ≠ x → H2.get j = H.get j) (rd2 : Rd H2 i v o a' e r') : Ins H1 i j8 v o e name H2 a' r' l lv where
 rd := rd2
 g8 := by rw [hold j8 (by have := st.lo; have := st.l8; omega) st.n8 (by have := st.l8; omega)]; exact st.g8
 lm := st.lm.keep fun j p hq hpl => by
  rw [hold j (Heap.lg hq) (by rintro rfl; rw [st.rd.g] at hq; cases hq; cases hpl) (by rintro rfl; rw [hp p hq] at hpl; cases hpl)]
  exact hq
 lo := Nat.le_trans st.lo hn
 old := fun j hj h1 h2 => by rw [hold j (by have := st.lo; omega) h1 (by omega)]; exact st.old j hj h1 h2
 vb := st.vb
 li := st.li
 l8 := st.l8
 n8 := st.n8
theorem Ins.step' {a' r' : Nat} (hn : H.next ≤ H2.next) (hold : ∀ j, j < H.next → j ≠ i → H2.get j = H.get j) (rd2 : Rd H2 i v o a' e r') : Ins H1 i j8 v o e name H2 a' r' l lv :=
 st.step H.next st.lo (fun p hp => by have := Heap.lg hp; omega) hn (fun j hj h1 _ => hold j hj h1) rd2
theorem Ins.push {l' : List LineT} {lv' : Value} (hn : H.next ≤ H2.next) (hlow : ∀ j, j < H1.next → H2.get j = H.get j) (hl : LinesM H1.next H2 l' lv') : Ins H1 i j8 v o e name (H2.set j8 (blockRow name lv')) a r l' lv' where
 rd := by
  refine ⟨by rw [Heap.gs (Ne.symm st.n8), hlow i st.li]; exact st.rd.g, ?_, st.rd.ne⟩
  rcases st.rd.t with q | ⟨b, r2, q1, q2, q3⟩
  ·exact .inl q
  ·exact .inr ⟨b, r2, by rw [Heap.gs (st.vb b _ _ q3).2, hlow b (st.vb b _ _ q3).1]; exact q1, q2, q3⟩
 g8 := Heap.gf (by rw [hlow j8 st.l8]; exact st.g8)
 lm := hl.keep fun j p hq hpl => by
  rw [Heap.gs (by rintro rfl; rw [hlow j st.l8, st.g8] at hq; cases hq; cases hpl)]
  exact hq
 lo := by rw [Heap.ns]; exact Nat.le_trans st.lo hn
 old := fun j hj h1 h2 => by rw [Heap.gs h2, hlow j hj]; exact st.old j hj h1 h2
 vb := st.vb
 li := st.li
 l8 := st.l8
 n8 := st.n8
end
end
section
open Nat (reduceLT reduceEqDiff)
open Go.Proofs Tryd
theorem build31y : abuild prog 31 [] = some (.agg #[.int .i64 0, .int .i64 0]) := by kernel_rfl
theorem BlocksM.form {lo : Nat} {h : Heap} {l : List BlockT} {v : Value} (o : BlocksM lo h l v) : ∃ s, v = .slice s l.length l.length := by
 obtain ⟨m, rfl, h2, _⟩ := o
 obtain ⟨s, hs⟩ := h2.form
 exact ⟨s, by rw [hs, List.length_map]⟩
theorem LinesM.form {lo : Nat} {h : Heap} {l : List LineT} {v : Value} (o : LinesM lo h l v) : ∃ s, v = .slice s l.length l.length := by
 obtain ⟨m, rfl, h2, _⟩ := o
 obtain ⟨s, hs⟩ := h2.form
 exact ⟨s, by rw [hs, List.length_map]⟩
theorem BlocksM.mono {lo lo' : Nat} {h : Heap} {l : List BlockT} {lv : Value} (o : BlocksM lo h l lv) (hl : lo' ≤ lo) : BlocksM lo' h l lv := by
 obtain ⟨m, h1, h2, h3⟩ := o
 exact ⟨m, h1, h2.mono hl, fun p hp => (h3 p hp).mono hl⟩
theorem Bs.push {h : Heap} {lo i j2 j3 : Nat} {v : Value} {o : List Tok} {e : Nat} {H H2 : Heap} {a r : Nat} {bl bl' : List BlockT} {bv bv' : Value} (st : Bs h lo i j2 j3 v o e H a r bl bv) (hne : ∀ b l c, v = .slice (some ⟨b, 0, none⟩) l c → b ≠ j2) (hn : H.next ≤ H2.next) (hlow : ∀ j, j < lo → H2.get j = H.get j) (hb : BlocksM lo H2 bl' bv') : Bs h lo i j2 j3 v o e (H2.set j2 (scriptRow bv')) a r bl' bv' where
 rd := by
  refine ⟨by rw [Heap.gs (Ne.symm st.n2), hlow i st.li]; exact st.rd.g, ?_, st.rd.ne⟩
  rcases st.rd.t with q | ⟨b, r2, q1, q2, q3⟩
  ·exact .inl q
  ·exact .inr ⟨b, r2, by rw [Heap.gs (hne b _ _ q3), hlow b (st.vb b _ _ q3)]; exact q1, q2, q3⟩
 g2 := Heap.gf (by rw [hlow j2 st.l2]; exact st.g2)
 g3 := by rw [Heap.gs st.n23, hlow j3 st.l3]; exact st.g3
 bm := hb.keep fun j p hq hpl => by
  rw [Heap.gs (by rintro rfl; rw [hlow j st.l2, st.g2] at hq; cases hq; cases hpl)]
  exact hq
 lh := by rw [Heap.ns]; exact Nat.le_trans st.lh hn
 old := fun j hj => by
  have := st.k2
  have := st.l2
  rw [Heap.gs (by omega), hlow j (by omega)]; exact st.old j hj
 vb := st.vb
 li := st.li
 l2 := st.l2
 l3 := st.l3
 k2 := st.k2
 k3 := st.k3
 ki := st.ki
 n2 := st.n2
 n3 := st.n3
 n23 := st.n23
theorem program_does (G : Nat) (h : Heap) (T : List UInt8) (hT : T.length ≤ 281474976710656) : Does prog G (GoodE prog (baseM G)) 13 [.string (bs T)] h (ProgR h (progS T)) := by
 have c21 : canEnter prog 21 = true := by kernel_rfl
 have c22 : canEnter prog 22 = true := by kernel_rfl
 have c23 : canEnter prog 23 = true := by kernel_rfl
 have c24 : canEnter prog 24 = true := by kernel_rfl
 have c25 : canEnter prog 25 = true := by kernel_rfl
 have c26 : canEnter prog 26 = true := by kernel_rfl
 have c27 : canEnter prog 27 = true := by kernel_rfl
 generalize hS : progS T = R
 unfold progS at hS
 have hbd := lexS_bound T
 refine Does.bodyD func13 rfl ?_
 have hn : enterF Tryd.f13 [.string (bs T)] = ⟨75, [(0, .string (bs T))], []⟩ := rfl
 rw [hn]; clear hn
 repeat apply Wq
 refine Wp.r (Aq @alloc24 (Aq @alloc27 @Heap.na)) ?_
 dsimp only [after, leaving]
 have g2 : ((h.alloc (scriptRow (.slice none 0 0))).alloc (spotRow 0 0)).get h.next = some (scriptRow (.slice none 0 0)) := by rw [Heap.go _ _ (by simp)]; exact Heap.gn h _
 have g3 : ((h.alloc (scriptRow (.slice none 0 0))).alloc (spotRow 0 0)).get (h.next + 1) = some (spotRow 0 0) := Heap.gn (h.alloc (scriptRow (.slice none 0 0))) _
 have hn : h.next + 2 ≤ ((h.alloc (scriptRow (.slice none 0 0))).alloc (spotRow 0 0)).next := by simp
 have old : ∀ j, j < h.next → ((h.alloc (scriptRow (.slice none 0 0))).alloc (spotRow 0 0)).get j = h.get j := fun j hj => by rw [Heap.go _ _ (by simp; omega), Heap.go _ _ hj]
 generalize (h.alloc (scriptRow (.slice none 0 0))).alloc (spotRow 0 0) = H at g2 g3 hn old ⊢
 obtain ⟨j2, hj2⟩ : ∃ j, j = h.next := ⟨_, rfl⟩
 have hw2 : (.pointer (some ⟨h.next, 0, none⟩) : Value) = .pointer (some ⟨j2, 0, none⟩) := by rw [hj2]
 obtain ⟨j3, hj3⟩ : ∃ j, j = h.next + 1 := ⟨_, rfl⟩
 have hw3 : (.pointer (some ⟨h.next + 1, 0, none⟩) : Value) = .pointer (some ⟨j3, 0, none⟩) := by rw [hj3]
 simp only [hw2, hw3]
 rw [← hj2] at g2
 rw [← hj3] at g3
 clear hw2 hw3
 cases hL : lexS T with
 | error z =>
  obtain ⟨c, p⟩ := z
  rw [hL] at hS hbd
  dsimp only at hS
  subst hS
  have hc0 : c ≠ 0 := hbd.1
  obtain ⟨v1, v2⟩ := lex_bad' H hL
  repeat apply Wq
  refine Wp.regionAs (is := List.range' 0 1 ++ (1 :: (List.range' 2 6 ++ []))) rfl ?_
  refine WpO.rS 1 ?_
  refine WpO.cS c21 ((lex_does G (baseM G) H T hT).mono ?_)
  intro x1 h2 hr
  rw [v1, v2] at hr
  obtain ⟨rfl, rfl⟩ := hr
  refine pt ?_
  refine WpO.runS 6 (by simp only [bsd, bsg, reduceLT, reduceEqDiff, reduceCtorEq, alloc27, spot_put, List.getElem?_toArray] <;> exact rfl) (by decide) ?_
  refine WpO.nil ?_
  dsimp only [after, leaving]
  have m1 := Heap.ma h2 (spotRow c p)
  have g5 : (h2.alloc (spotRow c p)).get h2.next = some (spotRow c p) := Heap.gn _ _
  replace g2 := m1.get g2
  replace g3 := m1.get g3
  have hj5 : h.next + 2 ≤ h2.next := hn
  have hn' : h.next ≤ (h2.alloc (spotRow c p)).next := by simp; omega
  have old' : ∀ j, j < h.next → (h2.alloc (spotRow c p)).get j = h.get j := fun j hj => by rw [m1.2 j (by omega)]; exact old j hj
  generalize h2.alloc (spotRow c p) = H1 at g2 g3 g5 hn' old' ⊢
  generalize h2.next = j5 at g5 hj5 ⊢
  have hne : ((c : Int) != 0) = true := by rw [bne_iff_ne]; omega
  repeat apply Wq
  refine Wp.r (Aq @s0 (Aq @lc29 (Aq (Heap.lf g5 (k := 0) rfl) hne))) ?_
  repeat apply Wq
  refine Wp.cT ?_
  have g5' : (H1.set j2 (scriptRow (.slice none 0 0))).get j5 = some (spotRow c p) := by rw [Heap.gs (by omega)]; exact g5
  have g3' : (H1.set j2 (scriptRow (.slice none 0 0))).get j3 = some (spotRow 0 0) := by rw [Heap.gs (by omega)]; exact g3
  repeat apply Wq
  refine Wp.drawAs [20] [] 1 (fun H => H.get j5 = some (spotRow c p)) mixed (by kernel_rfl) g5 ?_
  refine DrT.run 1 (by simp only [bsd, bss, bsg, reduceLT, reduceEqDiff, reduceCtorEq, build24] <;> exact rfl) rfl ?_
  try simp only [List.drop_succ_cons, List.drop_zero]
  refine DrT.read rfl rfl (by simp only [bsg, reduceLT, reduceEqDiff, reduceCtorEq]) (by simp only [bsg, reduceLT, reduceEqDiff, reduceCtorEq, spot_load g5] <;> exact rfl) (fun H hK2 => by simp only [bsg, reduceLT, reduceEqDiff, reduceCtorEq, spot_load hK2] <;> exact rfl) (by simp only [bsg, reduceLT, reduceEqDiff, reduceCtorEq] <;> exact rfl) ?_
  refine DrT.skip (by simp only [bsg, reduceLT, reduceEqDiff, reduceCtorEq, script_put g2 (bv := .slice none 0 0) rfl] <;> exact rfl) rfl rfl (by simp only [bsg, reduceLT, reduceEqDiff, reduceCtorEq]) (by simp only [bsg, reduceLT, reduceEqDiff, reduceCtorEq] <;> exact rfl) (fun _ => g5') ?_
  refine DrT.skip (by simp only [bsg, reduceLT, reduceEqDiff, reduceCtorEq, spot_store' g3'] <;> exact rfl) rfl rfl (by simp only [bsg, reduceLT, reduceEqDiff, reduceCtorEq]) (by simp only [bsg, reduceLT, reduceEqDiff, reduceCtorEq] <;> exact rfl) (fun q => absurd q (by decide)) ?_
  refine DrT.nil ?_
  repeat apply Wq
  refine Wp.ret ?_
  dsimp only [after, leaving]
  refine ⟨rfl, _, rfl, Leaves.ret (ares13' rfl rfl (by rw [Heap.gs (by omega)]; exact Heap.gf g2) (Heap.gf g3')) ⟨rfl, by simp; omega, fun j hj => ?_⟩⟩
  rw [Heap.gs (by omega), Heap.gs (by omega)]; exact old' j hj
 | ok o =>
 rw [hL] at hS hbd
 dsimp only at hS
 obtain ⟨⟨ho1, ho2⟩, ho3⟩ := hbd
 replace ho3 := ho3 o rfl
 have hl : ∀ t ∈ o, t.text.length ≤ 1000000 := fun t ht => by have := ho2 t ht; omega
 obtain ⟨v, v1, v2, v3, v4⟩ := lex_ok H hL
 repeat apply Wq
 refine Wp.regionAs (is := List.range' 0 1 ++ (1 :: (List.range' 2 6 ++ []))) rfl ?_
 refine WpO.rS 1 ?_
 refine WpO.cS c21 ((lex_does G (baseM G) H T hT).mono ?_)
 intro x1 h2 hr
 rw [v1] at hr
 obtain ⟨rfl, rfl⟩ := hr
 refine pt ?_
 replace g2 := v3.get g2
 replace g3 := v3.get g3
 replace old : ∀ j, j < h.next → (lexH H T).get j = h.get j := fun j hj => by rw [v3.2 j (by omega)]; exact old j hj
 replace hn : h.next + 2 ≤ (lexH H T).next := Nat.le_trans hn v3.1
 clear v3
 generalize lexH H T = H1 at g2 g3 old hn v2 ⊢
 clear H v1
 refine WpO.runS 6 (by simp only [bsd, bsg, reduceLT, reduceEqDiff, reduceCtorEq, alloc27, spot_put, List.getElem?_toArray] <;> exact rfl) (by decide) ?_
 refine WpO.nil ?_
 dsimp only [after, leaving]
 have g5 : (H1.alloc (spotRow 0 0)).get H1.next = some (spotRow 0 0) := Heap.gn _ _
 have m1 := Heap.ma H1 (spotRow 0 0)
 replace g2 := m1.get g2
 replace g3 := m1.get g3
 replace v2 := v2.more m1
 replace old : ∀ j, j < h.next → (H1.alloc (spotRow 0 0)).get j = h.get j := fun j hj => by rw [m1.2 j (by omega)]; exact old j hj
 replace hn : h.next + 2 ≤ (H1.alloc (spotRow 0 0)).next := Nat.le_trans hn m1.1
 clear m1
 generalize H1.alloc (spotRow 0 0) = H2 at g2 g3 g5 old hn v2 ⊢
 repeat apply Wq
 refine Wp.runS (by simp only [bsg, reduceLT, reduceEqDiff, reduceCtorEq, s0, lc29, Heap.lf g5 (k := 0) rfl, (show ((0 : Int) != 0) = false from rfl)] <;> exact rfl) ?_
 repeat apply Wq
 refine Wp.cF ?_
 repeat apply Wq
 refine Wp.skip ?_
 dsimp only [after, leaving]
 clear g5
 repeat apply Wq
 refine Wp.regionAs (is := List.range' 0 1 ++ (1 :: [])) rfl ?_
 refine WpO.rS 1 ?_
 refine WpO.deferS (by simp only [calleeOf, fnOf, bsg, reduceLT, reduceEqDiff, reduceCtorEq] <;> exact rfl) rfl (by simp only [bsg, reduceLT, reduceEqDiff, reduceCtorEq]) (by simp only [bsg, reduceLT, reduceEqDiff, reduceCtorEq] <;> exact rfl) ?_
 refine WpO.nil ?_
 dsimp only [after, leaving]
 have hgr : ∀ Hx : Heap, abox Hx 63 (.agg #[v, .int .i64 0, .int .i64 T.length, .int .i64 0]) = (Hx.new, Hx.alloc (rdRow v 0 T.length 0)) := fun _ => rfl
 have hbr : abuild prog 63 [(0, v), (2, .int .i64 (T.length : Nat))] = some (.agg #[v, .int .i64 0, .int .i64 T.length, .int .i64 0]) := by
  rcases v2 with ⟨_, rfl⟩ | ⟨b, r, _, _, rfl⟩
  ·kernel_rfl
  ·kernel_rfl
 repeat apply Wq
 refine Wp.r (Aq @ls9 (Aq hbr hgr)) ?_
 dsimp only [after, leaving]
 generalize hdd : ({ target := Target.fn (Fn.func 22) #[Value.pointer (some { block := j2, off := 0 }), Value.pointer (some { block := j3, off := 0 })], args := #[] ++ #[] } : Deferred) = dd
 have hdt : dd.target = .fn (.func 22) #[.pointer (some ⟨j2, 0, none⟩), .pointer (some ⟨j3, 0, none⟩)] := by rw [← hdd]
 have hda : dd.args = #[] := by rw [← hdd]; rfl
 clear hdd hgr hbr
 have m1 := Heap.ma H2 (rdRow v 0 T.length 0)
 have gi : (H2.alloc (rdRow v 0 T.length 0)).get H2.next = some (rdRow v 0 T.length 0) := Heap.gn _ _
 have hvb : ∀ b l c, v = .slice (some ⟨b, 0, none⟩) l c → b < H2.next ∧ b ≠ j2 := by
  rintro b l c rfl
  rcases v2 with ⟨_, q⟩ | ⟨b', r', q1, q2, q⟩
  ·cases q
  ·cases q
   refine ⟨Heap.lg q1, ?_⟩
   rintro rfl
   rw [g2] at q1
   cases q1
   have hq := congrArg List.length q2
   rw [cells_len] at hq
   simp only [List.length_cons, List.length_nil] at hq
   omega
 have hj2n := Heap.lg g2
 have hj3n := Heap.lg g3
 have st : Bs h (H2.alloc (rdRow v 0 T.length 0)).next H2.next j2 j3 v o T.length (H2.alloc (rdRow v 0 T.length 0)) 0 0 [] (.slice none 0 0) := {
  rd := ⟨gi, v2.more m1, fun b l c hv => by have := (hvb b l c hv).1; omega⟩
  g2 := m1.get g2
  g3 := m1.get g3
  bm := ⟨[], rfl, OwnF.nil _ _ _, fun p hp => by cases hp⟩
  lh := Nat.le_refl _
  old := fun j hj => by rw [m1.2 j (by omega)]; exact old j hj
  vb := fun b l c hv => by have := (hvb b l c hv).1; simp; omega
  li := by simp
  l2 := by simp; omega
  l3 := by simp; omega
  k2 := by omega
  k3 := by omega
  ki := by omega
  n2 := by omega
  n3 := by omega
  n23 := by omega }
 have hvj : ∀ b l c, v = .slice (some ⟨b, 0, none⟩) l c → b ≠ j2 := fun b l c hv => (hvb b l c hv).2
 clear m1 gi hvb g2 g3 hn old v2 hj2n hj3n
 generalize (H2.alloc (rdRow v 0 T.length 0)).next = lo at st
 generalize H2.alloc (rdRow v 0 T.length 0) = H3 at st ⊢
 generalize H2.next = i at st ⊢
 clear H2
 repeat apply Wq
 refine Wp.block ?_
 refine Wp.loopI (X := Nat × Nat × Nat × List BlockT × Value × Heap) (fun y => [(2, .pointer (some ⟨j2, 0, none⟩)), (3, .pointer (some ⟨j3, 0, none⟩)), (4, v), (6, .pointer (some ⟨i, 0, none⟩))]) (fun y => y.2.2.2.2.2)
  (fun y => R = blocksL o T.length y.1 y.2.2.1 y.2.1 y.2.2.2.1 ∧ y.2.1 ≤ o.length ∧ y.2.2.1 ≤ 128 ∧ y.1 + y.2.2.2.1.length = 34 ∧ y.2.2.2.1.length ≤ 32 ∧ Bs h lo i j2 j3 v o T.length y.2.2.2.2.2 y.2.1 y.2.2.1 y.2.2.2.1 y.2.2.2.2.1) (fun y => y.1)
  (34, 0, 0, [], .slice none 0 0, H3) ⟨hS.symm, Nat.zero_le _, by simp only; omega, rfl, by simp, st⟩ ⟨rfl, rfl, rfl, rfl, trivial⟩ rfl ?_
 clear st H3 hS hL
 rintro ⟨f, a, r, bl, bv, H⟩ ⟨hR, ha, hr, hf, h32, st⟩
 simp only at hR ha hr hf h32 st
 obtain ⟨f, rfl⟩ : ∃ g, f = g + 1 := ⟨f - 1, by omega⟩
 rw [blocksL] at hR
 have la := Heap.lf st.rd.g (k := 1) rfl
 have lb := Heap.lf st.g2 (k := 0) rfl
 have hlv := st.rd.t.len
 obtain ⟨sb, hsb⟩ := st.bm.form
 have hlb : alen prog H 22 bv = some (.int .i64 (bl.length : Nat)) := by rw [hsb]; exact alen_slice underlying22 _ _ _
 generalize hcc : decide (a < o.length ∨ bl = []) = cc
 repeat apply Wq
 refine Wp.cut (fun fr u h' => u = none ∧ h' = H ∧ ∃ sl, fr = ⟨75, sl, [dd]⟩ ∧ holds [(2, .pointer (some ⟨j2, 0, none⟩)), (3, .pointer (some ⟨j3, 0, none⟩)), (4, v), (6, .pointer (some ⟨i, 0, none⟩)), (39, .bool cc)] sl) ?_ ?_
 rotate_left
 ·by_cases hao : a < o.length
  ·obtain rfl : cc = true := by rw [← hcc]; simp [hao]
   repeat apply Wq
   refine Wp.r (Aq @q1 (Aq @lc3 (Aq la (Aq hlv (decide_eq_true (show (a : Int) < (o.length : Int) by omega)))))) ?_
   dsimp only [after, leaving]
   exact ⟨rfl, rfl, _, rfl, rfl, rfl, rfl, rfl, rfl, trivial⟩
  ·have hb0 : (((bl.length : Nat) : Int) == 0) = cc := by
    rw [← hcc]
    cases bl with
    | nil => simp
    | cons x l => simp [hao]; omega
   repeat apply Wq
   refine Wp.r (Aq @q1 (Aq @lc3 (Aq la (Aq hlv (Aq (decide_eq_false (show ¬ (a : Int) < (o.length : Int) by omega)) (Aq @sc0 (Aq @lc22 (Aq lb (Aq hlb hb0))))))))) ?_
   dsimp only [after, leaving]
   exact ⟨rfl, rfl, _, rfl, rfl, rfl, rfl, rfl, rfl, trivial⟩
 rintro fr u h9 ⟨rfl, rfl, sl, rfl, hs1⟩
 refine Wp.weaken (Frm.le_of hs1) ?_
 clear hs1 sl
 cases cc with
 | false =>
  rw [if_neg (of_decide_eq_false hcc)] at hR
  repeat apply Wq
  refine Wp.cF ?_
  repeat apply Wq
  refine Wp.exit ?_
  simp only [bx, Nat.reduceEqDiff]
  have hone : one bv = true := by rw [hsb]; rfl
  have g2' : (h9.set j2 (scriptRow bv)).get j3 = some (spotRow 0 0) := by rw [Heap.gs st.n23]; exact st.g3
  repeat apply Wq
  refine Wp.r (Aq (script_load st.g2) (Aq @build31y (Aq (script_put st.g2 hone) (spot_store' g2')))) ?_
  repeat apply Wq
  refine Wp.ret ?_
  dsimp only [after, leaving]
  have hsame : (h9.set j2 (scriptRow bv)).set j3 (spotRow 0 0) = h9 := by rw [Heap.set_same st.g2, Heap.set_same st.g3]
  rw [hsame]
  refine ⟨rfl, _, rfl, ?_⟩
  refine Leaves.cons (by simp) hdt c22 ?_
  rw [hda]
  obtain ⟨e9, u9, h10, b9, rfl, rfl, k1, k2⟩ := progNo_spec (E := GoodE prog (baseM G)) G h9 (.pointer (some ⟨j2, 0, none⟩)) (.pointer (some ⟨j3, 0, none⟩))
  have hbase := st.base
  refine ⟨_, _, h10, b9, _, rfl, Leaves.ret (ares13' rfl rfl (by rw [k2 j2 (by have := st.l2; have := st.lh; omega)]; exact st.g2) (by rw [k2 j3 (by have := st.l3; have := st.lh; omega)]; exact st.g3)) ?_⟩
  rw [hR]
  refine ⟨bv, rfl, ?_, by omega, fun j hj => by rw [k2 j (by omega)]; exact st.old j hj⟩
  exact (st.bm.mono (by have := st.k2; have := st.l2; omega)).keep fun j p hq _ => by rw [k2 j (Heap.lg hq)]; exact hq
 | true =>
 rw [if_pos (of_decide_eq_true hcc)] at hR
 repeat apply Wq
 refine Wp.cT ?_
 repeat apply Wq
 refine Wp.skip ?_
 repeat apply Wq
 refine Wp.block ?_
 clear la lb hlv hlb hcc
 repeat apply Wq
 refine Wp.regionAs (is := List.range' 0 1 ++ (1 :: (List.range' 2 2 ++ []))) rfl ?_
 refine WpO.rS 1 ?_
 refine WpO.cR (next_does G (baseM G) h9 i v o a T.length r st.rd.g st.rd.t) c23 ?_
 rintro _ h9 ⟨rfl, hh9⟩
 obtain rfl := hh9.symm
 clear hh9
 refine pu ?_
 refine WpO.r 2 (Aq @alloc31 @tok_put) ?_
 refine WpO.nil ?_
 dsimp only [after, leaving]
 have g7 : (h9.alloc (nextS o T.length a).row).get h9.next = some (nextS o T.length a).row := Heap.gn _ _
 have hj7 : lo ≤ h9.next := st.lh
 replace st := st.more (Heap.ma h9 (nextS o T.length a).row)
 generalize h9.alloc (nextS o T.length a).row = H at g7 st ⊢
 generalize h9.next = j7 at g7 hj7 ⊢
 clear h9
 repeat apply Wq
 refine Wp.regionAs (is := List.range' 0 1 ++ (1 :: (List.range' 2 3 ++ []))) rfl ?_
 refine WpO.rS 1 ?_
 refine WpO.cS c24 ((name_does' G H i v o a T.length r 2 st.rd (by omega) hl).mono ?_)
 intro x1 h2 hr2
 cases hn : nameRS o T.length 2 a with
 | error z =>
  obtain ⟨c, p⟩ := z
  rw [hn] at hr2 hR
  obtain ⟨rfl, hb⟩ := hr2
  rw [hR]
  exact ⟨rfl, _, rfl, prog_bad G st H.next st.lh hb.1 (fun j hj q1 _ => hb.2 j hj q1) rfl rfl hdt hda c p⟩
 | ok na =>
 obtain ⟨m, a1⟩ := na
 rw [hn] at hr2 hR
 obtain ⟨rfl, rfl⟩ := hr2
 dsimp only at hR
 obtain ⟨rfl, hal⟩ := nameRS_le hn (by decide)
 refine pt ?_
 have g7' : (rdAt H i v T.length r (a + 1)).get j7 = some (nextS o T.length a).row := by unfold rdAt; rw [Heap.gs (by have := st.li; omega)]; exact g7
 replace st := st.at (a + 1)
 generalize rdAt H i v T.length r (a + 1) = H1 at st g7' ⊢
 clear g7 H
 unfold strV
 refine WpO.r 3 (Aq @build42 (Aq @alloc42 @block_new)) ?_
 refine WpO.nil ?_
 dsimp only [after, leaving]
 have m1 := Heap.ma H1 (blockRow m (.slice none 0 0))
 have g8 : (H1.alloc (blockRow m (.slice none 0 0))).get H1.next = some (blockRow m (.slice none 0 0)) := Heap.gn _ _
 have hj8 : lo ≤ H1.next := st.lh
 replace g7' := m1.get g7'
 replace st := st.more m1
 clear m1
 generalize H1.alloc (blockRow m (.slice none 0 0)) = H2 at st g7' g8 ⊢
 generalize H1.next = j8 at g8 hj8 ⊢
 clear H1
 have lb := Heap.lf st.g2 (k := 0) rfl
 have hlb : alen prog H2 22 bv = some (.int .i64 (bl.length : Nat)) := by rw [hsb]; exact alen_slice underlying22 _ _ _
 by_cases hb32 : bl.length = 32
 ·have he : (((bl.length : Nat) : Int) == 32) = true := by rw [hb32]; rfl
  rw [if_pos hb32] at hR
  repeat apply Wq
  refine Wp.r (Aq @sc0 (Aq @lc22 (Aq lb (Aq hlb he)))) ?_
  repeat apply Wq
  refine Wp.cT ?_
  repeat apply Wq
  refine Wp.regionAs (is := List.range' 0 2 ++ (2 :: [])) rfl ?_
  refine WpO.r 2 (Aq @t3 (Aq @lc3 (Heap.lf g7' (k := 3) rfl))) ?_
  refine WpO.cS c25 ((fail_spec G H2 8 (nextS o T.length a).at').mono ?_)
  intro x1 h2 hr
  obtain ⟨rfl, rfl⟩ := hr
  rw [hR]
  exact ⟨rfl, _, rfl, prog_bad G st h2.next st.lh (Nat.le_refl _) (fun _ _ _ _ => rfl) rfl rfl hdt hda 8 _⟩
 have he : (((bl.length : Nat) : Int) == 32) = false := by rw [beq_eq_false_iff_ne]; omega
 rw [if_neg hb32] at hR
 repeat apply Wq
 refine Wp.r (Aq @sc0 (Aq @lc22 (Aq lb (Aq hlb he)))) ?_
 repeat apply Wq
 refine Wp.cF ?_
 repeat apply Wq
 refine Wp.skip ?_
 dsimp only [after, leaving]
 clear he lb hlb g7'
 repeat apply Wq
 refine Wp.regionAs (is := List.range' 0 1 ++ (1 :: [])) rfl ?_
 refine WpO.rS 1 ?_
 refine WpO.cS c26 ((take_does G (baseM G) H2 i v o (a + 1) T.length r 6 st.rd.g st.rd.t (by omega)).mono ?_)
 intro x1 h2 hr2
 cases hn2 : takeS o T.length 6 (a + 1) with
 | error z =>
  obtain ⟨c, p⟩ := z
  rw [hn2] at hr2 hR
  obtain ⟨rfl, hb⟩ := hr2
  rw [hR]
  exact ⟨rfl, _, rfl, prog_bad G st H2.next st.lh hb.1 (fun j hj q1 _ => hb.2 j hj q1) rfl rfl hdt hda c p⟩
 | ok na =>
 obtain ⟨t6, a2⟩ := na
 rw [hn2] at hr2 hR
 obtain ⟨rfl, rfl⟩ := hr2
 dsimp only at hR
 obtain ⟨rfl, hal2⟩ := takeS_le hn2 (by decide)
 refine pt ?_
 refine WpO.nil ?_
 dsimp only [after, leaving]
 have g8' : (rdAt H2 i v T.length r (a + 1 + 1)).get j8 = some (blockRow m (.slice none 0 0)) := by unfold rdAt; rw [Heap.gs (by have := st.li; omega)]; exact g8
 replace st := st.at (a + 1 + 1)
 generalize rdAt H2 i v T.length r (a + 1 + 1) = H5 at st g8' ⊢
 clear g8 H2
 repeat apply Wq
 refine Wp.rS ?_
 dsimp only [after, leaving]
 have hj8n := Heap.lg g8'
 have ins : Ins H5 i j8 v o T.length m H5 (a + 1 + 1) r [] (.slice none 0 0) := ⟨st.rd, g8', ⟨[], rfl, OwnF.nil _ _ _, fun p hp => by cases hp⟩, Nat.le_refl _, fun _ _ _ _ => rfl, fun b l c hv => ⟨by have := st.vb b l c hv; have := st.lh; omega, by have := st.vb b l c hv; omega⟩, by have := st.li; have := st.lh; omega, hj8n, by have := st.li; omega⟩
 have hp8 : ∀ p, H5.get j8 = some p → p.plain = true := fun p hp => by rw [g8'] at hp; cases hp; rfl
 clear g8'
 generalize hK : linesL o T.length 130 r (a + 1 + 1) [] = K at hR
 repeat apply Wq
 refine Wp.cut (fun fr u h' => u = none ∧ ∃ l r' a' lv, K = .ok (l, r', a') ∧ r' ≤ 128 ∧ a' ≤ o.length ∧ Ins H5 i j8 v o T.length m h' a' r' l lv ∧ ∃ sl, fr = ⟨75, sl, [dd]⟩ ∧ holds [(2, .pointer (some ⟨j2, 0, none⟩)), (3, .pointer (some ⟨j3, 0, none⟩)), (4, v), (6, .pointer (some ⟨i, 0, none⟩)), (8, .pointer (some ⟨j8, 0, none⟩))] sl) ?_ ?_
 rotate_left
 ·repeat apply Wq
  refine Wp.block ?_
  refine Wp.loopI (X := Nat × Nat × Nat × List LineT × Value × Bool × Heap) (fun y => [(2, .pointer (some ⟨j2, 0, none⟩)), (3, .pointer (some ⟨j3, 0, none⟩)), (4, v), (6, .pointer (some ⟨i, 0, none⟩)), (8, .pointer (some ⟨j8, 0, none⟩)), (9, .bool y.2.2.2.2.2.1)]) (fun y => y.2.2.2.2.2.2)
   (fun y => (if y.2.2.2.2.2.1 = true then K = .ok (y.2.2.2.1, y.2.2.1, y.2.1) else K = linesL o T.length y.1 y.2.2.1 y.2.1 y.2.2.2.1 ∧ 130 ≤ y.1 + y.2.2.1) ∧ y.2.1 ≤ o.length ∧ y.2.2.1 ≤ 128 ∧ y.2.2.2.1.length ≤ y.2.2.1 ∧ Ins H5 i j8 v o T.length m y.2.2.2.2.2.2 y.2.1 y.2.2.1 y.2.2.2.1 y.2.2.2.2.1) (fun y => 200 - y.2.2.1)
   (130, a + 1 + 1, r, [], .slice none 0 0, false, H5) ⟨by simp only [Bool.false_eq_true, if_false]; exact ⟨hK.symm, by omega⟩, by simp only; omega, hr, Nat.zero_le _, ins⟩ ⟨rfl, rfl, rfl, rfl, rfl, rfl, trivial⟩ rfl ?_
  clear ins hK hr ha hal hal2 hn hn2
  rintro ⟨f2, a2, r2, l, lv, fin, H⟩ ⟨hK, ha, hr, hll, ins⟩
  simp only at hK ha hr hll ins
  cases fin with
  | true =>
   rw [if_pos rfl] at hK
   repeat apply Wq
   refine Wp.runS (by simp only [bsg, reduceLT, reduceEqDiff, reduceCtorEq, Bool.not_true] <;> exact rfl) ?_
   repeat apply Wq
   refine Wp.cF ?_
   repeat apply Wq
   refine Wp.exit ?_
   simp only [bx, Nat.reduceEqDiff]
   exact ⟨trivial, l, r2, a2, lv, hK, hr, ha, ins, _, rfl, rfl, rfl, rfl, rfl, rfl, trivial⟩
  | false =>
  rw [if_neg (by decide)] at hK
  obtain ⟨hK, h130⟩ := hK
  obtain ⟨f2, rfl⟩ : ∃ g, f2 = g + 1 := ⟨f2 - 1, by omega⟩
  rw [linesL] at hK
  repeat apply Wq
  refine Wp.runS (by simp only [bsg, reduceLT, reduceEqDiff, reduceCtorEq, Bool.not_false] <;> exact rfl) ?_
  repeat apply Wq
  refine Wp.cT ?_
  repeat apply Wq
  refine Wp.skip ?_
  repeat apply Wq
  refine Wp.block ?_
  repeat apply Wq
  refine Wp.r @alloc49 ?_
  dsimp only [after, leaving]
  have m1 := Heap.ma H (lineRow (line0 0) (.slice none 0 0))
  have g10 : (H.alloc (lineRow (line0 0) (.slice none 0 0))).get H.next = some (lineRow (line0 0) (.slice none 0 0)) := Heap.gn _ _
  have hj10 : H5.next ≤ H.next := ins.lo
  replace ins := ins.step' m1.1 (fun j hj _ => m1.2 j hj) ⟨m1.get ins.rd.g, ins.rd.t.more m1, ins.rd.ne⟩
  clear m1
  generalize H.alloc (lineRow (line0 0) (.slice none 0 0)) = H6 at ins g10 ⊢
  generalize H.next = j10 at g10 hj10 ⊢
  clear H
  repeat apply Wq
  refine Wp.regionAs (is := List.range' 0 1 ++ (1 :: (List.range' 2 5 ++ []))) rfl ?_
  refine WpO.rS 1 ?_
  refine WpO.cS c27 ((line_does G H6 i v o a2 T.length r2 ins.rd (by omega) (by omega) hl).mono ?_)
  intro x1 h2 hr2
  cases hn3 : lineS o T.length r2 a2 with
  | error z =>
   obtain ⟨c, p⟩ := z
   rw [hn3] at hr2 hK
   obtain ⟨rfl, q1, q2⟩ := hr2
   subst hK
   rw [hR]
   exact ⟨rfl, _, rfl, prog_bad G st j8 hj8 (by have := ins.lo; omega) (fun j hj k1 k2 => by rw [q2 j (by have := ins.lo; omega) k1]; exact ins.old j hj k1 k2) rfl rfl hdt hda c p⟩
  | ok na =>
  obtain ⟨x, a3⟩ := na
  rw [hn3] at hr2 hK
  obtain ⟨av, rfl, rd2, how, hle, hold⟩ := hr2
  dsimp only at hK
  obtain ⟨hr1, ha3⟩ := lineS_ok hn3
  have hij : i < H5.next := ins.li
  have g10' : h2.get j10 = some (lineRow (line0 0) (.slice none 0 0)) := by rw [hold j10 (Heap.lg g10) (by omega)]; exact g10
  have hav : one av = true := by obtain ⟨q, hq⟩ := OwnF.form how; rw [hq]; rfl
  refine pt ?_
  refine WpO.runS 5 (by simp only [bsd, bsg, reduceLT, reduceEqDiff, reduceCtorEq, List.getElem?_toArray, line_put g10' x hav] <;> exact rfl) (by decide) ?_
  refine WpO.nil ?_
  dsimp only [after, leaving]
  have rd7 : Rd (h2.set j10 (lineRow x av)) i v o a3 T.length (r2 + 1) := by
   refine ⟨by rw [Heap.gs (by omega)]; exact rd2.g, ?_, rd2.ne⟩
   rcases rd2.t with q | ⟨b, r9, k1, k2, k3⟩
   ·exact .inl q
   ·exact .inr ⟨b, r9, by rw [Heap.gs (by have := (ins.vb b _ _ k3).1; omega)]; exact k1, k2, k3⟩
  have ins7 := ins.step (H2 := h2.set j10 (lineRow x av)) j10 hj10 (fun p hp => by rw [g10] at hp; cases hp; rfl) (by rw [Heap.ns]; exact hle) (fun j hj k1 k2 => by rw [Heap.gs k2]; exact hold j hj k1) rd7
  have g10'' : (h2.set j10 (lineRow x av)).get j10 = some (lineRow x av) := Heap.gf g10'
  have hA : armsM H5.next (h2.set j10 (lineRow x av)) (x, av) := by
   refine OwnF.keep (OwnF.mono how ins.lo) fun j p hq hp => ?_
   rw [Heap.gs (by rintro rfl; rw [g10'] at hq; cases hq; cases hp)]; exact hq
  clear ins rd2 rd7 how hold g10 g10' hle
  generalize h2.set j10 (lineRow x av) = H7 at ins7 g10'' hA ⊢
  clear h2 H6
  obtain ⟨b1, v', H8, b2, b3, b4, b5⟩ := ins7.lm.push ins7.lo (by omega) x av hA
  have ln8 : H7.ld j8 (0 + 1) = some lv := Heap.lf ins7.g8 rfl
  have g8' : H8.get j8 = some (blockRow m lv) := by rw [b5 j8 ins7.l8]; exact ins7.g8
  have hv' : one v' = true := by obtain ⟨q, hq⟩ := b3.form; rw [hq]; rfl
  repeat apply Wq
  refine Wp.r (Aq @bk1 (Aq @lc40 (Aq ln8 (Aq (line_load g10'') (Aq b1 (Aq b2 (block_lines g8' v' hv'))))))) ?_
  dsimp only [after, leaving]
  have ins8 := ins7.push b4 b5 b3
  refine ⟨(f2, a3, r2 + 1, l ++ [x], v', decide (5 ≤ x.op), H8.set j8 (blockRow m v')), _, ⟨?_, ha3, hr1, by simp only [List.length_append, List.length_singleton]; omega, ins8⟩, by simp only; omega, rfl, ⟨rfl, rfl, rfl, rfl, rfl, rfl, trivial⟩, rfl, rfl⟩
  simp only
  by_cases h5 : 5 ≤ x.op
  ·rw [if_pos (decide_eq_true h5)]
   rw [if_pos h5] at hK
   exact hK
  ·rw [if_neg (by rw [decide_eq_false h5]; decide)]
   rw [if_neg h5] at hK
   exact ⟨hK, by omega⟩
 clear ins
 rintro fr u H ⟨rfl, l, r', a', lv, hK2, hr', ha', ins, sl, rfl, hs1⟩
 refine Wp.weaken (Frm.le_of hs1) ?_
 clear hs1 sl hK
 rw [hK2] at hR
 dsimp only at hR
 have st7 := st.step j8 hj8 hp8 ins.lo ins.old ins.rd
 have lb7 : H.ld j2 0 = some bv := Heap.lf st7.g2 rfl
 obtain ⟨b1, v', H8, b2, b3, b4, b5, b6⟩ := st7.bm.push st7.lh (by omega) ⟨m, l⟩ lv (ins.lm.mono st.lh)
 dsimp only at b1 b2
 have g2' : H8.get j2 = some (scriptRow bv) := by rw [b5 j2 st7.l2]; exact st7.g2
 have hv' : one v' = true := by obtain ⟨q, hq⟩ := b3.form; rw [hq]; rfl
 repeat apply Wq
 refine Wp.r (Aq @sc0 (Aq @lc22 (Aq lb7 (Aq (block_load ins.g8) (Aq b1 (Aq b2 (script_blocks g2' v' hv'))))))) ?_
 dsimp only [after, leaving]
 have st8 := st7.push hvj b4 b5 b3
 exact ⟨(f, a', r', bl ++ [⟨m, l⟩], v', H8.set j2 (scriptRow v')), _, ⟨hR, ha', hr', by simp only [List.length_append, List.length_singleton]; omega, by simp only [List.length_append, List.length_singleton]; omega, st8⟩, by simp only; omega, rfl, ⟨rfl, rfl, rfl, rfl, trivial⟩, rfl, rfl⟩
end
end Go.Mini
