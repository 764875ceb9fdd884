import Derived.Test.YtjgmccbjffncaaaDoorMiniStoYN
namespace Go.Mini
open Go.ChangeShapes Go.WideShapes Go.RowKit
section
variable {P : Program} {S : Start} {m : Ren} {h : Heap} {w : World}
theorem addr_add_add (a : Addr) (p q : Nat) : (a.add p).add q = a.add (p + q) := by
 unfold Addr.add
 by_cases hp : p = 0 <;> by_cases hq : q = 0 <;> simp [hp, hq]; omega
theorem cell_spot0 {a : Addr} {i : Nat} {v : Value} (h : w.cell? (a.add i) = some v) : a.spot = none ∨ 0 < i := by
 by_cases hi : i = 0
 ·subst hi
  left
  unfold Addr.add at h
  rw [if_pos rfl] at h
  unfold World.cell? at h
  split at h
  ·split at h
   ·cases h
   ·rename_i q; simpa using q
  ·cases h
 ·right; omega
theorem HRel.outerRow' (hr : HRel P S m h w) (hS : S.base = w.heap.size) (a : Addr) (vs : List Value) (hf : ∀ v ∈ vs, sc h.next v) (hne : vs ≠ []) (hc : ∀ i v, vs[i]? = some v → w.cell? (a.add i) = some (ren m v)) :
  a.spot = none ∧ ∃ e, HRel P S (m.put h.next a.block a.off 0) (h.alloc (.row { vs := vs, elem := e, outer := true })) w := by
 cases vs with
 | nil => exact absurd rfl hne
 | cons v0 vs =>
  have h0 := hc 0 v0 rfl
  have hsp : a.spot = none := (cell_spot0 h0).resolve_right (by omega)
  refine ⟨hsp, ?_⟩
  simp only [Addr.add, if_true] at h0
  unfold World.cell? at h0
  cases hb : w.heap[a.block]? with
  | none => rw [hb] at h0; cases h0
  | some O =>
   rw [hb] at h0
   cases O with
   | cells c e fz =>
    simp only [] at h0
    split at h0
    ·cases h0
    have hlt := lt_of_some hb
    have hcell : ∀ k v, (v0 :: vs)[k]? = some v → c[a.off + k]? = some (ren m v) := by
     intro k v hk
     have := hc k v hk
     unfold Addr.add at this
     by_cases hk0 : k = 0
     ·subst hk0
      cases hk
      simpa using h0
     ·rw [if_neg hk0] at this
      unfold World.cell? at this
      rw [hb] at this
      simpa using this
    have hag := Ren.agree_put m h.next a.block a.off 0 h.next (Nat.le_refl _)
    refine ⟨e, hr.outer rfl ⟨fun v hv => sc_mono (Nat.le_succ _) v (hf v hv), c, fz, ?_, ?_, ?_, ?_, ?_, ?_, ?_, ?_⟩⟩
    ·rw [Ren.put_blk]; exact hb
    ·simp only [Ren.put_sh, Ren.put_ext, Nat.zero_mul, Nat.add_zero]
     have hk := hcell vs.length ((v0 :: vs)[vs.length]) (List.getElem?_eq_getElem (by simp))
     have := lt_of_some hk
     simp only [List.length_cons]; omega
    ·intro k v hk
     rw [Ren.put_sh, ← ren_congr hag v (hf v (List.mem_of_getElem? hk))]
     exact hcell k v hk
    ·intro q; cases q
    ·intro _; rw [Ren.put_blk, hS]; exact hlt
    ·intro q; cases q
    ·intro q; cases q
    ·intro _; exact Ren.put_ext _ _ _ _ _
   | _ => cases h0
end
def Grows {α : Type} (R : Heap → α → List Value → Prop) : Prop := ∀ h h' x cs, h.more h' → R h x cs → R h' x cs
def Opens {α : Type} (P : Program) (W : World) (G : Nat) (R : Heap → α → List Value → Prop) (cs : List Value) : Prop :=
 ∀ m h, HRel P ⟨G, W.heap.size, W⟩ m h W → ∃ m' h' x cs', HRel P ⟨G, W.heap.size, W⟩ m' h' W ∧ m.agree h.next m' ∧ h.more h' ∧ cs'.map (ren m') = cs ∧ (∀ v ∈ cs', sc h'.next v) ∧ R h' x cs'
section
variable {α β : Type} {P : Program} {W : World} {G : Nat} {R : Heap → α → List Value → Prop} {Q : Heap → β → List Value → Prop}
theorem Opens.flat {cs : List Value} (x : α) (hf : ∀ v ∈ cs, flat v = true) (hR : ∀ h, R h x cs) : Opens P W G R cs := fun m h hr =>
 ⟨m, h, x, cs, hr, Ren.agree_refl _ _, Heap.mr _, flat_map_ren hf m, fun v hv => sc_flat _ v (hf v hv), hR h⟩
theorem Opens.mono {cs : List Value} (o : Opens P W G R cs) (f : α → β) (hq : ∀ h x cs, R h x cs → Q h (f x) cs) : Opens P W G Q cs := fun m h hr => by
 obtain ⟨m', h', x, cs', a, b, c, d, e, g⟩ := o m h hr
 exact ⟨m', h', f x, cs', a, b, c, d, e, hq _ _ _ g⟩
theorem Opens.each (gr : Grows R) : ∀ css : List (List Value), (∀ cs ∈ css, Opens P W G R cs) →
  Opens P W G (fun h (l : List (α × List Value)) cs => cs = l.flatMap (·.2) ∧ l.length = css.length ∧ ∀ p ∈ l, R h p.1 p.2) css.flatten
 | [], _ => fun m h hr => ⟨m, h, [], [], hr, Ren.agree_refl _ _, Heap.mr _, rfl, by simp, rfl, rfl, by simp⟩
 | c :: css, ho => by
  have o1 := ho c (List.mem_cons_self ..)
  have o2 := Opens.each gr css fun cs hcs => ho cs (List.mem_cons_of_mem _ hcs)
  rw [List.flatten_cons]
  intro m h hr
  obtain ⟨m1, h1, x1, d1, a1, b1, e1, f1, g1, r1⟩ := o1 m h hr
  obtain ⟨m2, h2, l2, d2, a2, b2, e2, f2, g2, r2, r3, r4⟩ := o2 m1 h1 a1
  refine ⟨m2, h2, (x1, d1) :: l2, d1 ++ d2, a2, b1.trans (b2.mono e1.1), e1.trans e2, ?_, ?_, by rw [r2]; rfl, by simp [r3], ?_⟩
  ·rw [List.map_append, f2, ← f1]
   congr 1
   exact List.map_congr_left fun v hv => (ren_congr b2 v (g1 v hv)).symm
  ·intro v hv
   rcases List.mem_append.1 hv with q | q
   ·exact sc_mono e2.1 v (g1 v q)
   ·exact g2 v q
  ·intro p hp
   rcases List.mem_cons.1 hp with rfl | hp
   ·exact gr _ _ _ _ e2 r1
   ·exact r4 p hp
end
def SliceR {α : Type} (n : Nat) (R : Heap → α → List Value → Prop) (h : Heap) (xs : List α) (v : Value) : Prop :=
 ∃ l : List (α × List Value), l.map (·.1) = xs ∧ (∀ p ∈ l, p.2.length = n ∧ R h p.1 p.2) ∧ l.length ≤ maxLen ∧
  ((l = [] ∧ ((∃ a c, v = .slice a 0 c ∧ ∀ b k sp, a = some ⟨b, k, sp⟩ → h.lds b k 0 = some []) ∨ ∃ r, v = .chan (some r))) ∨ ∃ b k sp c, l ≠ [] ∧ v = .slice (some ⟨b, k, sp⟩) l.length c ∧ h.lds b k (l.length * n) = some (l.flatMap (·.2)))
theorem Heap.more.lds {h h' : Heap} (hm : h.more h') {i k n : Nat} {vs : List Value} (e : h.lds i k n = some vs) : h'.lds i k n = some vs := by
 unfold Heap.lds at e ⊢
 obtain ⟨r, hr, e⟩ := ob e
 rw [Heap.row_of (hm.get (Heap.row_some.1 hr))]
 exact e
theorem SliceR.more {α : Type} {n : Nat} {R : Heap → α → List Value → Prop} (gr : Grows R) {h h' : Heap} {xs : List α} {v : Value} (s : SliceR n R h xs v) (hm : h.more h') : SliceR n R h' xs v := by
 obtain ⟨l, h1, h2, h0, h3⟩ := s
 refine ⟨l, h1, fun p hp => ⟨(h2 p hp).1, gr _ _ _ _ hm (h2 p hp).2⟩, h0, ?_⟩
 rcases h3 with ⟨q, ⟨a, c, rfl, q3⟩ | q2⟩ | ⟨b, k, sp, c, q1, q2, q3⟩
 ·exact .inl ⟨q, .inl ⟨a, c, rfl, fun b k sp e => hm.lds (q3 b k sp e)⟩⟩
 ·exact .inl ⟨q, .inr q2⟩
 ·exact .inr ⟨b, k, sp, c, q1, q2, hm.lds q3⟩
section
variable {α : Type} {P : Program} {W : World} {G : Nat} {R : Heap → α → List Value → Prop}
theorem rows_flat {W : World} {a : Addr} {n : Nat} : ∀ (css : List (List Value)) (o : Nat), (∀ i cs, css[i]? = some cs → cs.length = n ∧ ∀ j v, cs[j]? = some v → W.cell? (a.add (o + i * n + j)) = some v) →
  ∀ q v, css.flatten[q]? = some v → W.cell? (a.add (o + q)) = some v
 | [], _, _, q, v, hq => by simp at hq
 | c :: css, o, hh, q, v, hq => by
  obtain ⟨h1, h2⟩ := hh 0 c rfl
  rw [List.flatten_cons, List.getElem?_append] at hq
  split at hq
  ·have := h2 q v hq
   rw [Nat.zero_mul, Nat.add_zero] at this
   exact this
  ·rename_i hge
   have := rows_flat css (o + n) (fun i cs hi => by
    obtain ⟨k1, k2⟩ := hh (i + 1) cs hi
    refine ⟨k1, fun j v hj => ?_⟩
    have := k2 j v hj
    rw [show o + n + i * n + j = o + (i + 1) * n + j by rw [Nat.succ_mul]; omega]
    exact this) (q - c.length) v hq
   rw [show o + q = o + n + (q - c.length) by omega]
   exact this
theorem elems_len {n : Nat} : ∀ l : List (α × List Value), (∀ p ∈ l, p.2.length = n) → (l.flatMap (·.2)).length = l.length * n
 | [], _ => by simp
 | p :: l, hp => by
  rw [List.flatMap_cons, List.length_append, hp p (List.mem_cons_self ..), elems_len l fun q hq => hp q (List.mem_cons_of_mem _ hq), List.length_cons, Nat.succ_mul, Nat.add_comm]
theorem weightsAll_mem {H : Type} {e : TypeId} {n : Nat} : ∀ {l : List (DataW H)} {d : DataW H}, d ∈ l → n ∈ DataW.weights P e d → n ∈ DataW.weightsAll P e l
 | [], _, h, _ => by cases h
 | x :: l, d, h, hn => by
  rw [DataW.weightsAll, List.mem_append]
  rcases List.mem_cons.1 h with rfl | q
  ·exact .inl hn
  ·exact .inr (weightsAll_mem q hn)
theorem Opens.within {pre c post : List Value} (o : Opens P W G R c) (h1 : ∀ v ∈ pre, Mini.flat v = true) (h2 : ∀ v ∈ post, Mini.flat v = true) : Opens P W G (fun h x cs => ∃ c', cs = pre ++ c' ++ post ∧ R h x c') (pre ++ c ++ post) := fun m h hr => by
 obtain ⟨m', h', x, cs', a, b, d, e, f, g⟩ := o m h hr
 refine ⟨m', h', x, pre ++ cs' ++ post, a, b, d, ?_, ?_, cs', rfl, g⟩
 ·rw [List.map_append, List.map_append, e, flat_map_ren h1, flat_map_ren h2]
 ·intro v hv
  rcases List.mem_append.1 hv with q | q
  ·rcases List.mem_append.1 q with q | q
   ·exact sc_flat _ v (h1 v q)
   ·exact f v q
  ·exact sc_flat _ v (h2 v q)
theorem Opens.slice {H : Type} {enc : TypeId × Value → H} {t e : TypeId} {n fuel : Nat} {cs0 : List Value} {x : DataW H × List MemPlace} (gr : Grows R) (ht : P.underlying t = some (.slice e)) (hn : P.cellsOf e = n) (hn0 : 0 < n)
  (hR : ∀ h x cs, R h x cs → cs.length = n)
  (ho : ∀ (fuel : Nat) (cs : List Value) (y : DataW H × List MemPlace), cs.length = n → DataW.trod enc P W 0 (fun _ => true) true fuel e cs = some y → (∀ w ∈ DataW.weights P e y.1, w ≤ reachBytes) → Opens P W G R cs)
  (hwt : ∀ w ∈ DataW.weights P t x.1, w ≤ reachBytes) (hx : DataW.trod enc P W 0 (fun _ => true) true fuel t cs0 = some x) : Opens P W G (fun h (xs : List α) cs => ∃ v, cs = [v] ∧ SliceR n R h xs v) cs0 := by
 rcases DataW.trod_slice ht hx with ⟨rfl, _⟩ | ⟨a, len, cap, elems, rest, f, _, rfl, hxe, _, hl, hm, hlen, hel, _, _⟩
 ·exact Opens.flat [] (by intro v hv; simp only [List.mem_singleton] at hv; subst hv; rfl) fun h => ⟨_, rfl, [], rfl, by simp, Nat.zero_le _, .inl ⟨rfl, .inl ⟨none, 0, rfl, fun b k sp e => by cases e⟩⟩⟩
 ·rw [hn] at hel
  have each : ∀ i, i < len → ∃ cs y, cs.length = n ∧ (∀ w ∈ DataW.weights P e y.1, w ≤ reachBytes) ∧ DataW.trod enc P W 0 (fun _ => true) true f e cs = some y ∧ ∀ j v, cs[j]? = some v → W.cell? (a.add (0 + i * n + j)) = some v := by
   intro i hi
   have h1 := hel i hi
   obtain ⟨y, hy⟩ : ∃ y, elems[i]? = some y := ⟨_, List.getElem?_eq_getElem (by omega)⟩
   rw [hy] at h1
   obtain ⟨cs, h2, h3⟩ := ob h1
   unfold World.cells? at h2
   rw [if_pos (Nat.zero_le _)] at h2
   refine ⟨cs, y, by simpa using mapM_some_length h2, fun w hw => ?_, h3, fun j v hj => ?_⟩
   ·refine hwt w ?_
    rw [hxe]
    simp only [DataW.weights, ht]
    refine List.mem_cons_of_mem _ (List.mem_append_left _ (weightsAll_mem (d := y.1) ?_ hw))
    exact List.mem_map_of_mem (List.mem_of_getElem? hy)
   have hjn : j < n := by
    have := mapM_some_length h2
    have := (List.getElem?_eq_some_iff.1 hj).1
    simp_all
   have := mapM_some_get h2 j j (by simp [hjn])
   rw [hj, addr_add_add] at this
   rw [Nat.zero_add]
   exact this
  have key : ∀ k, k ≤ len → ∃ css : List (List Value), css.length = k ∧ (∀ i cs, css[i]? = some cs → cs.length = n ∧ ∀ j v, cs[j]? = some v → W.cell? (a.add (0 + i * n + j)) = some v) ∧ ∀ cs ∈ css, Opens P W G R cs := by
   intro k
   induction k with
   | zero => intro _; exact ⟨[], rfl, fun i cs hi => by simp at hi, by simp⟩
   | succ k ih =>
    intro hk
    obtain ⟨css, h1, h2, h3⟩ := ih (by omega)
    obtain ⟨cs, y, q1, q0, q2, q3⟩ := each k (by omega)
    refine ⟨css ++ [cs], by simp [h1], fun i c hi => ?_, fun c hc => ?_⟩
    ·rw [List.getElem?_append] at hi
     split at hi
     ·exact h2 i c hi
     ·rename_i hge
      have : i = k := by
       have := (List.getElem?_eq_some_iff.1 hi).1
       simp at this; omega
      subst this
      simp [h1] at hi
      subst hi
      exact ⟨q1, q3⟩
    ·rcases List.mem_append.1 hc with hc | hc
     ·exact h3 c hc
     ·simp only [List.mem_singleton] at hc
      subst hc
      exact ho f _ y q1 q2 q0
  obtain ⟨css, h1, h2, h3⟩ := key len (Nat.le_refl _)
  have hcell := rows_flat css 0 h2
  intro m h hr
  obtain ⟨m1, h1', l, d1, a1, b1, e1, f1, g1, r1, r2, r3⟩ := Opens.each gr css h3 m h hr
  have hll : l.length = len := by rw [r2, h1]
  have hp2 : ∀ p ∈ l, p.2.length = n := fun p hp => hR _ _ _ (r3 p hp)
  have hdl : d1.length = l.length * n := by rw [r1]; exact elems_len l hp2
  cases hlz : l with
  | nil =>
   have hz : len = 0 := by rw [← hll, hlz]; rfl
   subst hz
   obtain ⟨r, hr1, hr2⟩ := far_all (some a) cap
   refine ⟨m1, h1', [], [.chan (some r)], a1, b1, e1, by simp [ren, hr1, hr2], by simp [sc], _, rfl, [], rfl, by simp, Nat.zero_le _, .inl ⟨rfl, .inr ⟨r, rfl⟩⟩⟩
  | cons p0 l0 =>
   have hlz' : 0 < l.length := by rw [hlz]; simp
   have hne : d1 ≠ [] := by
    intro q
    rw [q] at hdl
    have : 0 < l.length * n := Nat.mul_pos hlz' hn0
    simp at hdl
    omega
   obtain ⟨hsp, el, hr2⟩ := a1.outerRow' rfl a d1 g1 hne (by
    intro i v hi
    have := hcell i (ren m1 v) (by rw [← f1, List.getElem?_map, hi]; rfl)
    rwa [Nat.zero_add] at this)
   have hmo := Heap.ma h1' (.row { vs := d1, elem := el, outer := true })
   refine ⟨_, _, l.map (·.1), [.slice (some ⟨h1'.next, 0, none⟩) len cap], hr2, b1.trans ((Ren.agree_put m1 _ _ _ _ _ (Nat.le_refl _)).mono e1.1), e1.trans hmo, ?_, ?_, _, rfl, l, rfl, fun p hp => ⟨hp2 p hp, gr _ _ _ _ hmo (r3 p hp)⟩, by omega, .inr ⟨h1'.next, 0, none, cap, ?_, ?_, ?_⟩⟩
   ·obtain ⟨b, o2, sp⟩ := a
    simp only at hsp
    subst hsp
    simp only [List.map_cons, List.map_nil, ren, Ren.put_blk, Ren.put_sh, Ren.put_ext, Nat.zero_add, Nat.add_zero, Option.isSome_none, Bool.false_eq_true, if_false]
   ·intro v hv
    simp only [List.mem_singleton] at hv
    subst hv
    simp [sc]
   ·intro q; rw [q] at hlz'; simp at hlz'
   ·rw [hll]
   ·rw [Heap.lds_of (Heap.gn h1' _) (by simp only; omega)]
    simp only [List.drop_zero]
    rw [← hdl, List.take_length, r1]
end
theorem elems_at {α : Type} {n : Nat} : ∀ (l : List (α × List Value)) (j : Nat) (p : α × List Value), (∀ p ∈ l, p.2.length = n) → l[j]? = some p → ((l.flatMap (·.2)).drop (j * n)).take n = p.2
 | [], j, p, _, h => by simp at h
 | q :: l, 0, p, hl, h => by
  simp at h
  subst h
  have := hl q (List.mem_cons_self ..)
  rw [Nat.zero_mul, List.drop_zero, List.flatMap_cons, ← this]
  exact List.take_left' rfl
 | q :: l, j + 1, p, hl, h => by
  have hq := hl q (List.mem_cons_self ..)
  have e1 : (q.2 ++ l.flatMap (·.2)).drop n = l.flatMap (·.2) := by rw [← hq]; exact List.drop_left' rfl
  rw [List.flatMap_cons, Nat.succ_mul, Nat.add_comm, ← List.drop_drop, e1]
  exact elems_at l j p (fun p hp => hl p (List.mem_cons_of_mem _ hp)) (by simpa using h)
section
variable {α : Type} {P : Program} {n : Nat} {R : Heap → α → List Value → Prop} {h : Heap} {xs : List α} {v : Value}
theorem SliceR.imp {β : Type} {R' : Heap → β → List Value → Prop} (f : α → β) (s : SliceR n R h xs v) (hi : ∀ x cs, R h x cs → R' h (f x) cs) : SliceR n R' h (xs.map f) v := by
 obtain ⟨l, rfl, h2, h0, h3⟩ := s
 have e : (l.map fun p => (f p.1, p.2)).flatMap (·.2) = l.flatMap (·.2) := by rw [List.flatMap_map]
 refine ⟨l.map fun p => (f p.1, p.2), by simp, fun p hp => ?_, by simpa using h0, ?_⟩
 ·obtain ⟨q, hq, rfl⟩ := List.mem_map.1 hp
  exact ⟨(h2 q hq).1, hi _ _ (h2 q hq).2⟩
 ·rcases h3 with ⟨rfl, q⟩ | ⟨b, k, sp, c, q1, q2, q3⟩
  ·exact .inl ⟨rfl, q⟩
  ·exact .inr ⟨b, k, sp, c, by simpa using q1, by simpa using q2, by rw [List.length_map, e]; exact q3⟩
theorem SliceR.all (s : SliceR n R h xs v) : ∀ x ∈ xs, ∃ cs, R h x cs := by
 obtain ⟨l, rfl, h2, _, _⟩ := s
 intro x hx
 obtain ⟨p, hp, rfl⟩ := List.mem_map.1 hx
 exact ⟨p.2, (h2 p hp).2⟩
theorem SliceR.le (s : SliceR n R h xs v) : xs.length ≤ maxLen := by
 obtain ⟨l, rfl, _, h0, _⟩ := s
 rw [List.length_map]; exact h0
theorem SliceR.len (s : SliceR n R h xs v) {t e : TypeId} (hu : P.underlying t = some (.slice e)) (H : Heap) : alen P H t v = some (.int .i64 (xs.length : Nat)) := by
 obtain ⟨l, rfl, _, _, h3⟩ := s
 rw [List.length_map]
 unfold alen
 rcases h3 with ⟨rfl, ⟨a, c, rfl, _⟩ | ⟨r, rfl⟩⟩ | ⟨b, k, sp, c, _, rfl, _⟩ <;> simp [hu]
theorem SliceR.idx (s : SliceR n R h xs v) {j : Nat} {x : α} (hj : xs[j]? = some x) {t e : TypeId} (hu : P.underlying t = some (.slice e)) (hs : (P.info? e).map (·.size) = some n) :
  ∃ b k cs, aindexAddr P t v (.int .i64 (j : Nat)) = some (.pointer (some ⟨b, k, none⟩)) ∧ b < h.next ∧ h.lds b k n = some cs ∧ cs.length = n ∧ R h x cs := by
 obtain ⟨l, rfl, h2, h0, h3⟩ := s
 rw [List.getElem?_map] at hj
 obtain ⟨p, hp, rfl⟩ := om hj
 have hlt := (List.getElem?_eq_some_iff.1 hp).1
 rcases h3 with ⟨rfl, _⟩ | ⟨b, k, sp, c, _, rfl, h4⟩
 ·simp at hlt
 ·obtain ⟨q1, q2⟩ := h2 p (List.mem_of_getElem? hp)
  obtain ⟨i, hi, rfl⟩ := om hs
  obtain ⟨r, hr, h5⟩ := ob h4
  refine ⟨b, k + j * i.size, p.2, ?_, Heap.lg (Heap.row_some.1 hr), ?_, q1, q2⟩
  ·unfold aindexAddr
   simp only [hu, hi, Option.bind_some]
   rw [if_pos ⟨by omega, by omega⟩]
   rfl
  ·split at h5
   case isFalse => cases h5
   rename_i hle
   have h6 := Option.some.inj h5
   have hm : (j + 1) * i.size ≤ l.length * i.size := Nat.mul_le_mul_right _ (by omega)
   rw [Nat.succ_mul] at hm
   rw [Heap.lds_of (Heap.row_some.1 hr) (by omega)]
   congr 1
   rw [← elems_at l j p (fun p hp => (h2 p hp).1) hp, ← h6, List.drop_take, List.drop_drop, List.take_take, Nat.min_eq_left (by omega)]
end
end Go.Mini
