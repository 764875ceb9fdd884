import Derived.Test.YtjgmccbjffncaaaDoorPLexZc
import Derived.Test.YtjgmccbjffncaaaDoorMiniYOtoYS
import Derived.Test.YtjgmccbjffncaaaDoorPaJ
import Derived.Test.YtjgmccbjffncaaaDoorPLexJtoPLexN
set_option maxHeartbeats 8000000
set_option maxRecDepth 100000
set_option linter.unusedSimpArgs false
namespace Go.Mini
section
open Nat (reduceLT reduceEqDiff)
open Go.Proofs Tryd
theorem own_pushK {P : Program} {h : Heap} {st e : TypeId} {sz by' n lo : Nat} {v w : Value} {cs : List Value} (hst : P.underlying st = some (.slice e)) (he : elemOk P e sz by' = true)
  (hs2 : sz ≤ 16777216) (hv : OwnF lo h v e n cs) (hlo : lo ≤ h.next) (hc : cs.length = n * sz) (hw : w.cells.size = sz) (hone : w.cells.toList.all one = true)
  (hb : (n + 1) * by' ≤ 140737488355328) (hb2 : n + 1 ≤ 140737488355328) :
  abuildSlice P h st 1 [(0, w)] = some (.slice (some ⟨h.next, 0, none⟩) 1 1, h.alloc (.row { vs := w.cells.toList, elem := e })) ∧
  ∃ v' h', aappend P (h.alloc (.row { vs := w.cells.toList, elem := e })) st st v (.slice (some ⟨h.next, 0, none⟩) 1 1) = some (v', h') ∧ OwnF lo h' v' e (n + 1) (cs ++ w.cells.toList) ∧ KeepsE e h h' ∧ ∀ j, j < lo → h'.get j = h.get j := by
 obtain ⟨a1, v', h', a2, a3, a4, a5, a6, a7⟩ := own_push hst he hs2 hv.own hc hw hone hb hb2
 refine ⟨a1, v', h', a2, ?_, a4, fun j hj => a7 j (by omega) ?_⟩
 ·rcases a3 with ⟨_, h1, _⟩ | ⟨b, h1, h2⟩
  ·omega
  ·rw [a6] at h1
   simp only [Value.slice.injEq, Option.some.injEq, Addr.mk.injEq] at h1
   exact .inr ⟨b, by omega, by omega, by rw [a6, ← h1.1.1], h2⟩
 ·rintro b l c hvb rfl
  rcases hv with ⟨h1, _⟩ | ⟨b', hb', _, h1, _⟩
  ·rw [h1] at hvb; cases hvb
  ·rw [h1] at hvb; cases hvb; omega
def scriptRow (bv : Value) : AObj := .row { vs := [bv], elem := 24 }
def wrongRow (k p : Int) : AObj := .row { vs := [.int .i64 k, .int .i64 p], elem := 59 }
theorem szS : (prog.info? 24).map (·.size) = some 1 := by kernel_rfl
theorem aggS : Program.agg prog 24 = some true := by kernel_rfl
theorem sz59 : (prog.info? 59).map (·.size) = some 2 := by kernel_rfl
theorem agg59 : Program.agg prog 59 = some true := by kernel_rfl
theorem build24 : abuild prog 24 [] = some (.agg #[.slice none 0 0]) := by kernel_rfl
theorem alloc24 (h : Heap) : aalloc prog h 24 = some (h.new, h.alloc (scriptRow (.slice none 0 0))) := aalloc_eq (z := .agg #[.slice none 0 0]) (by kernel_rfl) rfl
theorem alloc59 (h : Heap) : aalloc prog h 59 = some (h.new, h.alloc (wrongRow 0 0)) := aalloc_eq (z := .agg #[.int .i64 0, .int .i64 0]) (by kernel_rfl) rfl
theorem script_put {H : Heap} {j : Nat} {bv0 : Value} (g : H.get j = some (scriptRow bv0)) {bv : Value} (hb : one bv = true) : astore prog H 24 (.pointer (some ⟨j, 0, none⟩)) (.agg #[bv]) = some (H.set j (scriptRow bv)) := by
 have := astore_agg (P := prog) (h := H) (i := j) (k := 0) (cs := [bv]) szS rfl (by simp [hb])
 rw [this, Heap.sts_of g (by simp) rfl rfl]; rfl
theorem script_load {H : Heap} {j : Nat} {bv : Value} (g : H.get j = some (scriptRow bv)) : aload prog H 24 (.pointer (some ⟨j, 0, none⟩)) = some (.agg #[bv]) := by
 rw [aload_agg aggS szS, Heap.lds_of g (by simp)]; rfl
theorem wrong_new (H : Heap) (k p : Int) : astore prog (H.alloc (wrongRow 0 0)) 59 (.pointer (some ⟨H.next, 0, none⟩)) (.agg #[.int .i64 k, .int .i64 p]) = some (H.alloc (wrongRow k p)) := by
 have := astore_agg (P := prog) (h := H.alloc (wrongRow 0 0)) (i := H.next) (k := 0) (cs := [.int .i64 k, .int .i64 p]) sz59 rfl rfl
 rw [this, Heap.sts_of (Heap.gn H (wrongRow 0 0)) (by simp) rfl rfl]
 show some ((H.alloc (wrongRow 0 0)).set H.next (wrongRow k p)) = _
 rw [Heap.set_alloc]
theorem wrong_load {H : Heap} {j : Nat} {k p : Int} (g : H.get j = some (wrongRow k p)) : aload prog H 59 (.pointer (some ⟨j, 0, none⟩)) = some (.agg #[.int .i64 k, .int .i64 p]) := by
 rw [aload_agg agg59 sz59, Heap.lds_of g (by simp)]; rfl
theorem progCatch_spec {E : EXT} (G : Nat) (h : Heap) (a c : Nat) (bv : Value) (e0 p0 : Int) (hac : c ≠ a) (ga : h.get a = some (scriptRow bv)) (gc : h.get c = some (spotRow e0 p0)) (k p : Nat) :
  DoesD prog G E 22 [.pointer (some ⟨a, 0, none⟩), .pointer (some ⟨c, 0, none⟩)] (.panicking (wrongQ k p)) h (fun r u h' => r = .returned (.tuple #[]) ∧ u = .panicking [{ v := .iface 59 (.agg #[.int .i64 (k : Nat), .int .i64 (p : Nat)]), recovered := true }] ∧
   h'.get a = some (scriptRow (.slice none 0 0)) ∧ h'.get c = some (spotRow k p) ∧ h.next ≤ h'.next ∧ ∀ j, j < h.next → j ≠ a → j ≠ c → h'.get j = h.get j) := by
 refine DoesD.body func22 rfl ?_
 have hn : enterF Tryd.f22 [.pointer (some ⟨a, 0, none⟩), .pointer (some ⟨c, 0, none⟩)] = ⟨12, [(0, .pointer (some ⟨a, 0, none⟩)), (1, .pointer (some ⟨c, 0, none⟩))], []⟩ := rfl
 rw [hn]; clear hn
 repeat apply Wq
 refine Wp.regionAs (is := 0 :: (List.range' 1 7 ++ [])) rfl ?_
 refine WpO.recoverS (by simp only [bsg, reduceLT, reduceEqDiff, reduceCtorEq] <;> exact rfl) rfl (by simp only [bsg, reduceLT, reduceEqDiff, reduceCtorEq]) (by simp only [bsg, reduceLT, reduceEqDiff, reduceCtorEq] <;> exact rfl) ?_
 refine WpO.runS 7 (by simp only [bsd, bsg, reduceLT, reduceEqDiff, reduceCtorEq, aassert, underlying59, List.getElem?_toArray, alloc59, wrong_new] <;> exact rfl) (by decide) ?_
 refine WpO.nil ?_
 repeat apply Wq
 refine Wp.rS ?_
 repeat apply Wq
 refine Wp.cT ?_
 have ga1 : (h.alloc (wrongRow k p)).get a = some (scriptRow bv) := by rw [Heap.go _ _ (Heap.lg ga)]; exact ga
 have gc1 : (h.alloc (wrongRow k p)).get c = some (spotRow e0 p0) := by rw [Heap.go _ _ (Heap.lg gc)]; exact gc
 have gw : (h.alloc (wrongRow k p)).get h.next = some (wrongRow k p) := Heap.gn _ _
 have han := Heap.lg ga
 have hcn := Heap.lg gc
 have hold : ∀ j, j < h.next → (h.alloc (wrongRow k p)).get j = h.get j := fun j hj => Heap.go _ _ hj
 have hnn : h.next ≤ (h.alloc (wrongRow k p)).next := by simp
 generalize h.alloc (wrongRow k p) = H at ga1 gc1 gw hold hnn ⊢
 have gw2 : (H.set a (scriptRow (.slice none 0 0))).get h.next = some (wrongRow k p) := by rw [Heap.gs (by omega)]; exact gw
 have gc2 : (H.set a (scriptRow (.slice none 0 0))).get c = some (spotRow e0 p0) := by rw [Heap.gs hac]; exact gc1
 repeat apply Wq
 refine Wp.drawAs [11] [] 1 (fun H => H.get h.next = some (wrongRow k p)) mixed (by kernel_rfl) gw ?_
 refine DrT.run 1 (by simp only [bsd, bss, bsg, reduceLT, reduceEqDiff, reduceCtorEq, build24] <;> exact rfl) rfl ?_
 try simp only [List.drop_succ_cons, List.drop_zero]
 refine DrT.read rfl rfl (by simp only [bsg, reduceLT, reduceEqDiff, reduceCtorEq]) (by simp only [bsg, reduceLT, reduceEqDiff, reduceCtorEq, wrong_load gw] <;> exact rfl) (fun H hK2 => by simp only [bsg, reduceLT, reduceEqDiff, reduceCtorEq, wrong_load hK2] <;> exact rfl) (by simp only [bsg, reduceLT, reduceEqDiff, reduceCtorEq] <;> exact rfl) ?_
 refine DrT.skip (by simp only [bsg, reduceLT, reduceEqDiff, reduceCtorEq, script_put ga1 (bv := .slice none 0 0) rfl] <;> exact rfl) rfl rfl (by simp only [bsg, reduceLT, reduceEqDiff, reduceCtorEq]) (by simp only [bsg, reduceLT, reduceEqDiff, reduceCtorEq] <;> exact rfl) (fun _ => gw2) ?_
 refine DrT.skip (by simp only [bsg, reduceLT, reduceEqDiff, reduceCtorEq, spot_store' gc2] <;> exact rfl) rfl rfl (by simp only [bsg, reduceLT, reduceEqDiff, reduceCtorEq]) (by simp only [bsg, reduceLT, reduceEqDiff, reduceCtorEq] <;> exact rfl) (fun q => absurd q (by decide)) ?_
 refine DrT.nil ?_
 refine ⟨rfl, _, rfl, _, rfl, rfl, rfl, ?_, Heap.gf gc2, by simp [hnn], fun j hj h1 h2 => ?_⟩
 ·rw [Heap.gs (Ne.symm hac)]; exact Heap.gf ga1
 ·rw [Heap.gs h2, Heap.gs h1]; exact hold j hj
theorem progNo_spec {E : EXT} (G : Nat) (h : Heap) (a c : Value) :
  DoesD prog G E 22 [a, c] .returning h (fun r u h' => r = .returned (.tuple #[]) ∧ u = .returning ∧ h.next ≤ h'.next ∧ ∀ j, j < h.next → h'.get j = h.get j) := by
 have no52 : aassert prog .nilIface 59 true = some (.tuple #[.agg #[.int .i64 0, .int .i64 0], .bool false]) := by kernel_rfl
 refine DoesD.body func22 rfl ?_
 have hn : enterF Tryd.f22 [a, c] = ⟨12, [(0, a), (1, c)], []⟩ := rfl
 rw [hn]; clear hn
 repeat apply Wq
 refine Wp.regionAs (is := 0 :: (List.range' 1 7 ++ [])) rfl ?_
 refine WpO.recoverN (by simp only [bsg, reduceLT, reduceEqDiff, reduceCtorEq] <;> exact rfl) rfl (by simp only [bsg, reduceLT, reduceEqDiff, reduceCtorEq]) (by simp only [bsg, reduceLT, reduceEqDiff, reduceCtorEq] <;> exact rfl) ?_
 refine WpO.runS 7 (by simp only [bsd, bsg, reduceLT, reduceEqDiff, reduceCtorEq, no52, List.getElem?_toArray, alloc59, wrong_new] <;> exact rfl) (by decide) ?_
 refine WpO.nil ?_
 repeat apply Wq
 refine Wp.rS ?_
 repeat apply Wq
 refine Wp.cF ?_
 repeat apply Wq
 refine Wp.skip ?_
 exact ⟨rfl, _, rfl, _, rfl, rfl, rfl, by simp, fun j hj => Heap.go _ _ hj⟩
end
section
theorem runP_len (p : UInt8 → Bool) (n : Nat) (T : List UInt8) (a : Nat) : (runP p n T a).1.length ≤ n := by
 unfold runP
 split
 ·exact Nat.zero_le _
 ·simp only; omega
theorem scanF_len (most : Int) : ∀ (f : Nat) (s : List UInt8) (k : Nat) (o out : List UInt8) (k' : Nat), scanF most f s k o = .ok out k' → out.length ≤ o.length + f
 | 0, s, k, o, out, k', h => by simp only [scanF] at h; cases h
 | f + 1, s, k, o, out, k', h => by
  simp only [scanF] at h
  split at h
  ·cases h
  ·split at h
   ·cases h; omega
   ·split at h
    ·cases h
    ·have := scanF_len most f _ _ _ _ _ h
     simp only [List.length_append, List.length_singleton] at this
     omega
theorem scanQ_len (most : Int) (T out : List UInt8) (k' : Nat) (h : scanQ most T = .ok out k') : out.length ≤ T.length + 1 := by
 unfold scanQ at h
 split at h
 ·have := scanF_len most _ _ _ _ _ _ h
  simpa using this
 ·cases h
theorem tokBody_len {T : List UInt8} {a k n to : Nat} {s : List UInt8} (h : tokBody T a = .ok (k, s, n, to)) : s.length ≤ T.length + 16 := by
 unfold tokBody at h
 simp only at h
 split at h
 ·split at h
  ·have := runP_len smallB 16 T a
   split at h <;> (cases h; omega)
  ·cases h
 ·split at h
  ·cases h; simp
  ·split at h
   ·split at h
    ·cases h; simp
    ·cases h
   ·split at h
    ·split at h
     ·rename_i e
      have := scanQ_len _ _ _ _ e
      simp only [List.length_drop] at this
      cases h
      omega
     ·cases h
     ·cases h
    ·split at h
     ·cases h; simp
     ·cases h
theorem tokS_len {T : List UInt8} {a to : Nat} {t : Tok} (h : tokS T a = .ok (t, to)) : t.text.length ≤ T.length + 16 := by
 unfold tokS at h
 split at h
 ·cases h
 ·rename_i e
  split at h
  ·cases h; exact tokBody_len e
  ·cases h
def LexB (T : List UInt8) (n : Nat) : Except (Nat × Nat) (List Tok) → Prop
 | .ok o => o.length ≤ n ∧ ∀ t ∈ o, t.text.length ≤ T.length + 16
 | .error (e, _) => e ≠ 0
theorem lexF_bound (T : List UInt8) : ∀ (f a : Nat) (sm : Bool) (o : List Tok), a ≤ T.length → T.length - a < f → (∀ t ∈ o, t.text.length ≤ T.length + 16) → LexB T (o.length + f) (lexF T f a sm o)
 | 0, _, _, _, _, h, _ => by omega
 | f + 1, a, sm, o, ha, h1, ho => by
  have lt10 : peekB T a ≠ 10 → a < T.length := peek_lt
  have weak : ∀ n m R, n ≤ m → LexB T n R → LexB T m R := by
   intro n m R hnm
   cases R with
   | ok o => rintro ⟨q1, q2⟩; exact ⟨by omega, q2⟩
   | error e => exact id
  rw [lexF]
  simp only []
  split
  ·rename_i hb
   have := lt10 (by rcases hb with q | q <;> rw [q] <;> decide)
   exact weak _ _ _ (by omega) (lexF_bound T f _ _ _ (by omega) (by omega) ho)
  ·split
   ·rename_i _ hb
    have := lt10 (by rw [hb]; decide)
    obtain ⟨q1, q2⟩ := skipR_gt hb
    exact weak _ _ _ (by omega) (lexF_bound T f _ _ _ q2 (by omega) ho)
   ·have ho' : ∀ t ∈ (if sm = true then o ++ [⟨6, [], 0, a⟩] else o), t.text.length ≤ T.length + 16 := by
     intro t ht
     split at ht
     ·rcases List.mem_append.1 ht with q | q
      ·exact ho t q
      ·simp only [List.mem_singleton] at q; subst q; exact Nat.zero_le _
     ·exact ho t ht
    have hl' : (if sm = true then o ++ [⟨6, [], 0, a⟩] else o).length ≤ o.length + 1 := by
     split
     ·simp
     ·omega
    split
    ·rename_i _ _ hb
     split
     ·exact ⟨by omega, ho'⟩
     ·exact weak _ _ _ (by omega) (lexF_bound T f _ _ _ (by omega) (by omega) ho')
    ·rename_i _ _ hb
     have := lt10 hb
     cases ht : tokS T a with
     | error e =>
      obtain ⟨e, p⟩ := e
      show e ≠ 0
      rcases tokS_err ht with q | q
      ·have q' : e = 3 := q
       omega
      ·have q' : e = 6 := q
       omega
     | ok tt =>
      obtain ⟨t, to⟩ := tt
      have := tokS_gt ht
      have := tokS_le ht
      refine weak _ _ _ ?_ (lexF_bound T f _ _ _ this (by omega) ?_)
      ·simp only [List.length_append, List.length_singleton]; omega
      ·intro u hu
       rcases List.mem_append.1 hu with q | q
       ·exact ho u q
       ·simp only [List.mem_singleton] at q; subst q; exact tokS_len ht
theorem lexS_bound (T : List UInt8) : LexB T 2049 (lexS T) ∧ ∀ o, lexS T = .ok o → T.length ≤ 2048 := by
 unfold lexS
 split
 ·exact ⟨(by decide : (3 : Nat) ≠ 0), fun o h => by cases h⟩
 ·rename_i hT
  refine ⟨?_, fun _ _ => by omega⟩
  have := lexF_bound T (T.length + 1) 0 false [] (Nat.zero_le _) (by omega) (fun t ht => by cases ht)
  revert this
  generalize lexF T (T.length + 1) 0 false [] = R
  cases R with
  | ok o => rintro ⟨q1, q2⟩; exact ⟨by simp only [List.length_nil] at q1; omega, q2⟩
  | error e => exact id
theorem lineS_ok {o : List Tok} {e r a a' : Nat} {x : LineT} (h : lineS o e r a = .ok (x, a')) : r + 1 ≤ 128 ∧ a' ≤ o.length := by
 unfold lineS at h
 split at h
 ·cases h
 ·split at h
  ·cases h
  ·rename_i hr
   split at h
   ·cases h
   ·split at h
    ·cases h
    ·rename_i e3
     cases h
     have := takeS_le e3 (by decide)
     omega
end
section
open Go.Proofs Tryd
def armsM (lo : Nat) (h : Heap) (p : LineT × Value) : Prop := OwnF lo h p.2 54 p.1.arms.length (p.1.arms.flatMap ArmT.cells)
def linesC (m : List (LineT × Value)) : List Value := m.flatMap fun p => lineCells p.1 p.2
def LinesM (lo : Nat) (h : Heap) (l : List LineT) (lv : Value) : Prop := ∃ m : List (LineT × Value), m.map (·.1) = l ∧ OwnF lo h lv 49 m.length (linesC m) ∧ ∀ p ∈ m, armsM lo h p
def blocksC (m : List (BlockT × Value)) : List Value := m.flatMap fun p => [.string (bs p.1.name), p.2]
def BlocksM (lo : Nat) (h : Heap) (bl : List BlockT) (bv : Value) : Prop := ∃ m : List (BlockT × Value), m.map (·.1) = bl ∧ OwnF lo h bv 42 m.length (blocksC m) ∧ ∀ p ∈ m, LinesM lo h p.1.lines p.2
section
variable {lo : Nat} {h h' : Heap}
theorem LinesM.keep {l : List LineT} {lv : Value} (o : LinesM lo h l lv) (k : ∀ j p, h.get j = some p → p.plain = false → h'.get j = some p) : LinesM lo h' l lv := by
 obtain ⟨m, h1, h2, h3⟩ := o
 exact ⟨m, h1, h2.keep k, fun p hp => OwnF.keep (h3 p hp) k⟩
theorem BlocksM.keep {l : List BlockT} {lv : Value} (o : BlocksM lo h l lv) (k : ∀ j p, h.get j = some p → p.plain = false → h'.get j = some p) : BlocksM lo h' l lv := by
 obtain ⟨m, h1, h2, h3⟩ := o
 exact ⟨m, h1, h2.keep k, fun p hp => (h3 p hp).keep k⟩
theorem LinesM.mono {lo' : Nat} {l : List LineT} {lv : Value} (o : LinesM lo h l lv) (hl : lo' ≤ lo) : LinesM lo' h l lv := by
 obtain ⟨m, h1, h2, h3⟩ := o
 exact ⟨m, h1, h2.mono hl, fun p hp => OwnF.mono (h3 p hp) hl⟩
theorem OwnF.keepE {v : Value} {e e' n : Nat} {cs : List Value} (o : OwnF lo h v e n cs) (k : KeepsE e' h h') (hne : e ≠ e') : OwnF lo h' v e n cs := by
 rcases o with o | ⟨b, hb, hn, o, hg⟩
 ·exact .inl o
 ·exact .inr ⟨b, hb, hn, o, k.2 _ _ hg (by simp [AObj.notE, grownRow, hne])⟩
theorem LinesM.keepE {l : List LineT} {lv : Value} (o : LinesM lo h l lv) (k : KeepsE 42 h h') : LinesM lo h' l lv := by
 obtain ⟨m, h1, h2, h3⟩ := o
 exact ⟨m, h1, h2.keepE k (by decide), fun p hp => OwnF.keepE (h3 p hp) k (by decide)⟩
end
theorem elem49 : elemOk prog 49 8 112 = true := by kernel_rfl
theorem elem42 : elemOk prog 42 2 40 = true := by kernel_rfl
theorem linesC_len (m : List (LineT × Value)) : (linesC m).length = m.length * 8 := by
 induction m with
 | nil => rfl
 | cons x l ih => unfold linesC at ih ⊢; rw [List.flatMap_cons, List.length_append, ih, List.length_cons]; simp only [lineCells, List.length_cons, List.length_nil]; omega
theorem blocksC_len (m : List (BlockT × Value)) : (blocksC m).length = m.length * 2 := by
 induction m with
 | nil => rfl
 | cons x l ih => unfold blocksC at ih ⊢; rw [List.flatMap_cons, List.length_append, ih, List.length_cons]; simp only [List.length_cons, List.length_nil]; omega
theorem LinesM.push {lo : Nat} {H : Heap} {l : List LineT} {lv : Value} (o : LinesM lo H l lv) (hlo : lo ≤ H.next) (hn : l.length ≤ 1000) (x : LineT) (av : Value) (ha : armsM lo H (x, av)) :
  abuildSlice prog H 40 1 [(0, lineVal x av)] = some (.slice (some ⟨H.next, 0, none⟩) 1 1, H.alloc (.row { vs := lineCells x av, elem := 49 })) ∧
  ∃ v' H', aappend prog (H.alloc (.row { vs := lineCells x av, elem := 49 })) 40 40 lv (.slice (some ⟨H.next, 0, none⟩) 1 1) = some (v', H') ∧ LinesM lo H' (l ++ [x]) v' ∧ H.next ≤ H'.next ∧ ∀ j, j < lo → H'.get j = H.get j := by
 obtain ⟨m, rfl, h2, h3⟩ := o
 rw [List.length_map] at hn
 have hav : one av = true := by obtain ⟨q, hq⟩ := OwnF.form ha; simp only at hq; rw [hq]; rfl
 have hone : (lineVal x av).cells.toList.all one = true := line_all hav
 obtain ⟨q1, v', H', q2, q3, q4, q5⟩ := own_pushK (w := lineVal x av) underlying40 elem49 (by omega) h2 hlo (linesC_len m) rfl hone (by omega) (by omega)
 refine ⟨q1, v', H', q2, ⟨m ++ [(x, av)], by simp, ?_, ?_⟩, q4.1, q5⟩
 ·have hc : linesC (m ++ [(x, av)]) = linesC m ++ (lineVal x av).cells.toList := by unfold linesC; rw [List.flatMap_append]; rfl
  rw [hc, List.length_append]; exact q3
 ·intro p hp
  rcases List.mem_append.1 hp with q | q
  ·exact OwnF.keepE (h3 p q) q4 (by decide)
  ·simp only [List.mem_singleton] at q; subst q; exact OwnF.keepE ha q4 (by decide)
theorem BlocksM.push {lo : Nat} {H : Heap} {l : List BlockT} {bv : Value} (o : BlocksM lo H l bv) (hlo : lo ≤ H.next) (hn : l.length ≤ 1000) (x : BlockT) (lv : Value) (ha : LinesM lo H x.lines lv) :
  abuildSlice prog H 22 1 [(0, .agg #[.string (bs x.name), lv])] = some (.slice (some ⟨H.next, 0, none⟩) 1 1, H.alloc (.row { vs := [.string (bs x.name), lv], elem := 42 })) ∧
  ∃ v' H', aappend prog (H.alloc (.row { vs := [.string (bs x.name), lv], elem := 42 })) 22 22 bv (.slice (some ⟨H.next, 0, none⟩) 1 1) = some (v', H') ∧ BlocksM lo H' (l ++ [x]) v' ∧ H.next ≤ H'.next ∧ (∀ j, j < lo → H'.get j = H.get j) ∧ KeepsE 42 H H' := by
 obtain ⟨m, rfl, h2, h3⟩ := o
 rw [List.length_map] at hn
 have hav : one lv = true := by obtain ⟨_, _, q0, _⟩ := ha; obtain ⟨q, rfl⟩ := q0.form; rfl
 have hone : (Value.agg #[.string (bs x.name), lv]).cells.toList.all one = true := by simp [Value.cells, hav]; rfl
 obtain ⟨q1, v', H', q2, q3, q4, q5⟩ := own_pushK (w := .agg #[.string (bs x.name), lv]) underlying22 elem42 (by omega) h2 hlo (blocksC_len m) rfl hone (by omega) (by omega)
 refine ⟨q1, v', H', q2, ⟨m ++ [(x, lv)], by simp, ?_, ?_⟩, q4.1, q5, q4⟩
 ·have hc : blocksC (m ++ [(x, lv)]) = blocksC m ++ (Value.agg #[.string (bs x.name), lv]).cells.toList := by unfold blocksC; rw [List.flatMap_append]; rfl
  rw [hc, List.length_append]; exact q3
 ·intro p hp
  rcases List.mem_append.1 hp with q | q
  ·exact (h3 p q).keepE q4
  ·simp only [List.mem_singleton] at q; subst q; exact ha.keepE q4
def ProgR (h : Heap) (R : Except (Nat × Nat) (List BlockT)) (x : Ending) (h' : Heap) : Prop := match R with
 | .ok bl => ∃ bv, x = .returned (.tuple #[.agg #[bv], .agg #[.int .i64 0, .int .i64 0]]) ∧ BlocksM h.next h' bl bv ∧ h.next ≤ h'.next ∧ ∀ j, j < h.next → h'.get j = h.get j
 | .error (c, p) => x = .returned (.tuple #[.agg #[.slice none 0 0], .agg #[.int .i64 c, .int .i64 p]]) ∧ h.next ≤ h'.next ∧ ∀ j, j < h.next → h'.get j = h.get j
def blockRow (name : List UInt8) (lv : Value) : AObj := .row { vs := [.string (bs name), lv], elem := 42 }
theorem sz42 : (prog.info? 42).map (·.size) = some 2 := by kernel_rfl
theorem agg42 : Program.agg prog 42 = some true := by kernel_rfl
theorem sz22 : (prog.info? 22).map (·.size) = some 1 := by kernel_rfl
theorem agg22 : Program.agg prog 22 = some false := by kernel_rfl
theorem sz40 : (prog.info? 40).map (·.size) = some 1 := by kernel_rfl
theorem agg40 : Program.agg prog 40 = some false := by kernel_rfl
theorem build42 (m : List UInt8) : abuild prog 42 [(0, .string (bs m))] = some (.agg #[.string (bs m), .slice none 0 0]) := by kernel_rfl
theorem alloc42 (h : Heap) : aalloc prog h 42 = some (h.new, h.alloc (blockRow [] (.slice none 0 0))) := aalloc_eq (z := .agg #[.string (bs []), .slice none 0 0]) (by kernel_rfl) rfl
theorem block_new (H : Heap) (m : List UInt8) : astore prog (H.alloc (blockRow [] (.slice none 0 0))) 42 (.pointer (some ⟨H.next, 0, none⟩)) (.agg #[.string (bs m), .slice none 0 0]) = some (H.alloc (blockRow m (.slice none 0 0))) := by
 have := astore_agg (P := prog) (h := H.alloc (blockRow [] (.slice none 0 0))) (i := H.next) (k := 0) (cs := [.string (bs m), .slice none 0 0]) sz42 rfl rfl
 rw [this, Heap.sts_of (Heap.gn H (blockRow [] (.slice none 0 0))) (by simp) rfl rfl]
 show some ((H.alloc (blockRow [] (.slice none 0 0))).set H.next (blockRow m (.slice none 0 0))) = _
 rw [Heap.set_alloc]
theorem block_load {H : Heap} {j : Nat} {m : List UInt8} {lv : Value} (g : H.get j = some (blockRow m lv)) : aload prog H 42 (.pointer (some ⟨j, 0, none⟩)) = some (.agg #[.string (bs m), lv]) := by
 rw [aload_agg agg42 sz42, Heap.lds_of g (by simp)]; rfl
theorem block_lines {H : Heap} {j : Nat} {m : List UInt8} {lv0 : Value} (g : H.get j = some (blockRow m lv0)) (lv : Value) (hv : one lv = true) : astore prog H 40 (.pointer (some ⟨j, 0 + 1, none⟩)) lv = some (H.set j (blockRow m lv)) := by
 rw [astore_cell sz40 hv, Heap.sts_of g (by simp) rfl rfl]; rfl
theorem script_blocks {H : Heap} {j : Nat} {bv0 : Value} (g : H.get j = some (scriptRow bv0)) (bv : Value) (hv : one bv = true) : astore prog H 22 (.pointer (some ⟨j, 0, none⟩)) bv = some (H.set j (scriptRow bv)) := by
 rw [astore_cell sz22 hv, Heap.sts_of g (by simp) rfl rfl]; rfl
theorem sc0 (i k : Nat) : afieldAddr prog 24 (.pointer (some ⟨i, k, none⟩)) 0 = some (.pointer (some ⟨i, k, none⟩)) := afieldAddr_eq (f := 0) (o := 0) underlying24 (by rfl) (s := 0) (by kernel_rfl) i k
theorem bk0 (i k : Nat) : afieldAddr prog 42 (.pointer (some ⟨i, k, none⟩)) 0 = some (.pointer (some ⟨i, k, none⟩)) := afieldAddr_eq (f := 0) (o := 0) underlying42 (by rfl) (s := 0) (by kernel_rfl) i k
theorem bk1 (i k : Nat) : afieldAddr prog 42 (.pointer (some ⟨i, k, none⟩)) 1 = some (.pointer (some ⟨i, k + 1, none⟩)) := afieldAddr_eq underlying42 (by rfl) (s := 0) (by kernel_rfl) i k
theorem ares13' {s : List (Nat × Value)} {d : List Deferred} {h : Heap} {a c : Nat} {bv : Value} {e p : Int} (s2 : look 2 s = some (.pointer (some ⟨a, 0, none⟩))) (s3 : look 3 s = some (.pointer (some ⟨c, 0, none⟩)))
  (ga : h.get a = some (scriptRow bv)) (gc : h.get c = some (spotRow e p)) : ares prog Tryd.f13 ⟨75, s, d⟩ h = some (.tuple #[.agg #[bv], .agg #[.int .i64 e, .int .i64 p]]) := by
 have hr : Tryd.f13.results.toList = [.cell 2 24, .cell 3 31] := rfl
 unfold ares
 rw [hr]
 simp only [aresults, aresult, s2, s3, Option.bind_some, script_load ga, aload_agg agg27 sz27, Heap.lds_of gc (k := 0) (n := 2) (by simp), Option.map_some]
 rfl
end
end Go.Mini
