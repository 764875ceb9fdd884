import Derived.Test.YtjgmccbjffncaaaDoorPLexZc
import Derived.Test.YtjgmccbjffncaaaDoorMiniYOtoYS
import Derived.Test.YtjgmccbjffncaaaDoorPuAtoPuB
import Derived.Test.YtjgmccbjffncaaaDoorPtItoPtH
import Derived.Test.YtjgmccbjffncaaaDoorPuE
set_option maxHeartbeats 16000000
set_option maxRecDepth 100000
set_option linter.unusedSimpArgs false
namespace Go.Mini
section
open Nat (reduceLT reduceEqDiff)
open Go.Proofs Tryd
def cellsB (p : BlockT × Value) : List Value := [.string (bs p.1.name), p.2]
theorem set_map {α β : Type} (f : α → β) (l : List α) (k : Nat) (y : α) : (l.set k y).map f = (l.map f).set k (f y) := List.map_set
section
variable {lo : Nat} {h : Heap}
theorem BlocksN.at {m : List (BlockT × Value)} {bv : Value} (o : BlocksN lo h m bv) {k : Nat} {t : BlockT} {lv : Value} (hk : m[k]? = some (t, lv)) :
  ∃ jb, lo ≤ jb ∧ bv = .slice (some ⟨jb, 0, none⟩) m.length m.length ∧ h.get jb = some (grownRow 42 (blocksC m)) ∧ aindexAddr prog 22 bv (.int .i64 (k : Nat)) = some (.pointer (some ⟨jb, k * 2, none⟩)) ∧
   aload prog h 40 (.pointer (some ⟨jb, k * 2 + 1, none⟩)) = some lv := by
 have hlt := (List.getElem?_eq_some_iff.1 hk).1
 rcases o.1 with ⟨_, q, _⟩ | ⟨b, hb, _, hv, hg⟩
 ·omega
 ·refine ⟨b, hb, hv, hg, ?_, ?_⟩
  ·rw [hv, aindexAddr_slice underlying22 sz42 (by omega) (by omega)]
   simp
  ·rw [lc40]
   refine Heap.lf hg ?_
   show (blocksC m)[k * 2 + 1]? = _
   exact chunk_get (f := cellsB) (n := 2) (fun _ => rfl) m k 1 _ hk (by omega)
theorem blocks_lines {m : List (BlockT × Value)} {jb k : Nat} {t : BlockT} {lv : Value} (g : h.get jb = some (grownRow 42 (blocksC m))) (hk : m[k]? = some (t, lv)) (lv' : Value) (h1 : one lv' = true) (ls : List LineT) :
  astore prog h 40 (.pointer (some ⟨jb, k * 2 + 1, none⟩)) lv' = some (h.set jb (grownRow 42 (blocksC (m.set k ({ t with lines := ls }, lv'))))) := by
 have hlt := (List.getElem?_eq_some_iff.1 hk).1
 rw [astore_cell sz40 h1, Heap.sts_of g (by simp only [blocksC_len, List.length_cons, List.length_nil]; omega) rfl rfl]
 exact congrArg (fun cs => some (h.set jb (grownRow 42 cs))) (chunk_set (f := cellsB) (n := 2) (k := k) (j := 1) (fun _ => rfl) hk (by omega) rfl)
end
theorem tmod_in (a : Int) (n : Nat) (hn : 0 < n) : -(n : Int) < a.tmod n ∧ a.tmod n < n := by
 refine ⟨?_, Int.tmod_lt_of_pos a (by omega)⟩
 have := Int.tmod_lt_of_pos (-a) (b := (n : Int)) (by omega)
 rw [Int.neg_tmod] at this
 omega
theorem may_fewC {bl : List BlockT} (h : mayS bl = true) : fewC bl ∧ roomy bl ∧ bl ≠ [] := by
 obtain ⟨h1, _⟩ := may_ok h
 have f := progS_few h1
 refine ⟨⟨by have := f.1; omega, fun b hb => ⟨?_, fun x hx => by have := ((f.2.2 b hb).1 x hx).1; omega⟩⟩, roomy_read h1, progS_ne h1⟩
 have := (f.few.2 b hb).1
 have h2 : b.lines.length ≤ linesOf bl := mem_sum (fun b : BlockT => b.lines.length) hb
 have := f.2.1
 omega
theorem fewC.few {bl : List BlockT} (h : fewC bl) : fewB bl := ⟨by have := h.1; unfold maxLen; omega, fun b hb => ⟨by have := (h.2 b hb).1; unfold maxLen; omega, fun x hx => by have := (h.2 b hb).2 x hx; unfold LineT.few maxLen; omega⟩⟩
end
section
theorem shaped_row : ∀ (r : List Tok) (sm : Bool) (L : List Tok), (∀ t ∈ r, t.kind ≠ 6) → (shaped sm (r ++ tkE :: L) ↔ (sm = true ∨ r ≠ []) ∧ (∀ t ∈ r, okTok t.kind t.text t.n) ∧ shaped false L)
 | [], sm, L, _ => by
  rw [List.nil_append, shaped, if_pos (show tkE.kind = 6 from rfl)]
  simp [tkE]
 | t :: r, sm, L, h => by
  rw [List.cons_append, shaped, if_neg (h t (List.mem_cons_self ..)), shaped_row r true L fun u hu => h u (List.mem_cons_of_mem _ hu)]
  simp [and_assoc]
theorem shaped_rows : ∀ rs : List (List Tok), (∀ r ∈ rs, ∀ t ∈ r, t.kind ≠ 6) → (shaped false (ended rs) ↔ ∀ r ∈ rs, r ≠ [] ∧ ∀ t ∈ r, okTok t.kind t.text t.n)
 | [], _ => by simp [ended, shaped]
 | r :: rs, h => by
  have e : ended (r :: rs) = r ++ tkE :: ended rs := by simp [ended]
  rw [e, shaped_row r false _ (h r (List.mem_cons_self ..)), shaped_rows rs fun q hq => h q (List.mem_cons_of_mem _ hq)]
  simp [and_assoc]
theorem shaped_same : ∀ {l m : List Tok} {sm : Bool}, sameT l m → shaped sm l → shaped sm m
 | [], [], _, _, h => h
 | [], _ :: _, _, h, _ => by simp [sameT] at h
 | _ :: _, [], _, h, _ => by simp [sameT] at h
 | t :: l, u :: m, sm, h, k => by
  obtain ⟨h1, h2⟩ := sameT_cons.1 h
  unfold Tok.core at h1
  simp only [Prod.mk.injEq] at h1
  obtain ⟨e1, e2, e3⟩ := h1
  unfold shaped at k ⊢
  rw [e1, e2, e3] at k
  split
  ·rename_i q; rw [if_pos q] at k; exact ⟨k.1, k.2.1, k.2.2.1, shaped_same h2 k.2.2.2⟩
  ·rename_i q; rw [if_neg q] at k; exact ⟨k.1, shaped_same h2 k.2⟩
def blen (b : BlockT) : Nat := ((rowsB b).map fun ws => (Lib.join ws [32]).length + 1).sum
theorem flat_len : ∀ ws : List (List (List UInt8)), ((ws.map (Lib.join · [32])).flatMap (fun w => 10 :: w)).length = (ws.map fun ws => (Lib.join ws [32]).length + 1).sum
 | [] => rfl
 | w :: ws => by
  rw [List.map_cons, List.flatMap_cons, List.length_append, flat_len ws, List.map_cons, List.sum_cons]
  rfl
theorem flat_sum (l : List BlockT) : ((l.flatMap rowsB).map fun ws => (Lib.join ws [32]).length + 1).sum = (l.map blen).sum := by
 induction l with
 | nil => rfl
 | cons b l ih => rw [List.flatMap_cons, List.map_append, List.sum_append, ih, List.map_cons, List.sum_cons]; rfl
theorem text_len {t : List BlockT} (hne : t ≠ []) : (textS t).length + 1 = (t.map blen).sum := by
 cases t with
 | nil => exact absurd rfl hne
 | cons b t =>
  have e2 : (b :: t).flatMap rowsB = [b.name ++ [58]] :: (b.lines.flatMap rowsL ++ t.flatMap rowsB) := by rw [List.flatMap_cons, rowsB]; rfl
  have e3 : rowS [] [b.name ++ [58]] = Lib.join [b.name ++ [58]] [32] := by unfold rowS; simp
  rw [← flat_sum, e2]
  unfold textS
  rw [e2, show wr [] ([b.name ++ [58]] :: (b.lines.flatMap rowsL ++ t.flatMap rowsB)) = wr (rowS [] [b.name ++ [58]]) (b.lines.flatMap rowsL ++ t.flatMap rowsB) from rfl, e3]
  rw [wr_flat _ _ (by rw [Lib.join_one]; simp), List.length_append, flat_len, List.map_cons, List.sum_cons]
  omega
def pick : List BlockT → List Bool → List BlockT
 | b :: l, c :: r => if c then b :: pick l r else pick l r
 | _, _ => []
theorem pick_sub : ∀ (l : List BlockT) (r : List Bool), (pick l r).Sublist l
 | [], _ => by unfold pick; exact List.Sublist.slnil
 | b :: l, [] => by unfold pick; exact List.nil_sublist _
 | b :: l, c :: r => by
  unfold pick
  split
  ·exact (pick_sub l r).cons_cons b
  ·exact (pick_sub l r).cons b
theorem pick_none : ∀ (l : List BlockT) (n : Nat), pick l (List.replicate n false) = []
 | [], _ => by unfold pick; rfl
 | b :: l, 0 => rfl
 | b :: l, n + 1 => by rw [List.replicate_succ, pick, pick_none l n]; rfl
theorem pick_set : ∀ (l : List BlockT) (r : List Bool) (k : Nat) (b : BlockT), l[k]? = some b → r[k]? = some false → (pick l (r.set k true)).Perm (b :: pick l r)
 | [], _, _, _, h, _ => by cases h
 | _ :: _, [], _, _, _, h => by cases h
 | x :: l, c :: r, 0, b, h, k => by
  cases h; cases k
  exact List.Perm.refl _
 | x :: l, c :: r, n + 1, b, h, k => by
  have ih := pick_set l r n b (by simpa using h) (by simpa using k)
  rw [List.set_cons_succ, pick, pick]
  split
  ·exact (ih.cons x).trans (List.Perm.swap b x _)
  ·exact ih
theorem sub_sum (f : BlockT → Nat) {l m : List BlockT} (h : l.Sublist m) : (l.map f).sum ≤ (m.map f).sum := by
 induction h with
 | slnil => exact Nat.le_refl _
 | cons a _ ih => rw [List.map_cons, List.sum_cons]; omega
 | cons_cons a _ ih => rw [List.map_cons, List.sum_cons, List.map_cons, List.sum_cons]; omega
theorem may_part {bl part : List BlockT} {had : List Bool} (h : mayS bl = true) (hp : part.Perm (pick bl had)) (hne : part ≠ []) : mayS part = true := by
 obtain ⟨h1, _⟩ := may_ok h
 have hbne := progS_ne h1
 have hf := progS_few h1
 obtain ⟨o, q1, _, q3, g⟩ := progS_toks h1
 have hl := prog_len h1
 have hs := pick_sub bl had
 have mem : ∀ b ∈ part, b ∈ bl := fun b hb => hs.subset (hp.subset hb)
 have sum : ∀ f : BlockT → Nat, (part.map f).sum ≤ (bl.map f).sum := fun f => by rw [(hp.map f).sum_nat]; exact sub_sum f hs
 have hn : part.length ≤ 32 := by rw [hp.length_eq]; exact Nat.le_trans hs.length_le hf.1
 have hlo : linesOf part ≤ 128 := Nat.le_trans (sum fun b => b.lines.length) hf.2.1
 have gp : ∀ b ∈ part, b.good := fun b hb => g b (mem b hb)
 have hsh : shaped false (ended (part.flatMap rowsTB)) := by
  rw [shaped_rows _ kinds_blocks]
  have hb := (shaped_rows _ (kinds_blocks (bl := bl))).1 (shaped_same q3 (lx_shaped (lexS_lx q1).2))
  intro r hr
  obtain ⟨b, hb1, hb2⟩ := List.mem_flatMap.1 hr
  exact hb r (List.mem_flatMap.2 ⟨b, mem b hb1, hb2⟩)
 obtain ⟨m', x1, x2⟩ := lx_back _ false (textS part) 0 (Nat.zero_le _) hsh (by rw [List.drop_zero, text_writ hne gp])
 have ht : (textS part).length ≤ 2048 := by
  have e1 := text_len hne
  have e2 := text_len hbne
  have := sum blen
  omega
 have hp2 : progS (textS part) = .ok part := by
  unfold progS
  rw [lx_lexS ht x1]
  have := f_blocks (o := m') (e := (textS part).length) part 34 0 0 [] (fun b hb => ⟨gp b hb, (hf.2.2 b (mem b hb)).2⟩) (by simp; omega) (by omega) (by omega) (fun _ => hne) (by unfold At; rw [List.drop_zero]; exact x2)
  simpa using this
 unfold mayS
 rw [few_read hp2, hp2]
 simp
theorem may_none : mayS [] = false := by
 unfold mayS
 have : textS [] = [] := rfl
 rw [this, prog_nil, Bool.and_false]
theorem may_short {bl : List BlockT} {k : Nat} {b : BlockT} (h : mayS bl = true) (hb : bl[k]? = some b) : mayS (bl.set k { b with lines := b.lines.take (b.lines.length - 1) }) = false := by
 cases hm : mayS (bl.set k { b with lines := b.lines.take (b.lines.length - 1) }) with
 | false => rfl
 | true =>
  exfalso
  obtain ⟨h1, _⟩ := may_ok h
  obtain ⟨k1, _⟩ := may_ok hm
  obtain ⟨b1, x1, e1, e2, e3⟩ := ((progS_few h1).2.2 b (List.mem_of_getElem? hb)).2
  have hlt := (List.getElem?_eq_some_iff.1 hb).1
  obtain ⟨b2, x2, f1, f2, _⟩ := ((progS_few k1).2.2 _ (List.mem_of_getElem? (List.getElem?_set_self hlt))).2
  simp only at f1
  rw [e1] at f1
  simp only [List.length_append, List.length_singleton, Nat.add_sub_cancel, List.take_left] at f1
  have := e3 x2 (by rw [f1]; simp)
  omega
end
section
open Nat (reduceLT reduceEqDiff)
open Go.Proofs Tryd
theorem scell0 (H : Heap) {bv : Value} (hb : one bv = true) : astore prog (H.alloc (scriptRow (.slice none 0 0))) 24 (.pointer (some ⟨H.next, 0, none⟩)) (.agg #[bv]) = some (H.alloc (scriptRow bv)) := by
 rw [script_put (Heap.gn H (scriptRow (.slice none 0 0))) hb, Heap.set_alloc]
theorem plain_ne {h : Heap} {i j : Nat} {o : AObj} {e : TypeId} {cs : List Value} (g : h.get i = some o) (hp : o.plain = true) (g2 : h.get j = some (grownRow e cs)) : i ≠ j := by
 rintro rfl
 rw [g] at g2
 cases Option.some.inj g2
 cases hp
theorem printS_bad {bl : List BlockT} (h : mayS bl = false) : printS bl = [] := by unfold printS; rw [h]; rfl
end
end Go.Mini
