import Derived.Test.YtjgmccbjffncaaaDoorPtF
set_option maxHeartbeats 4000000
set_option linter.unusedSimpArgs false
namespace Go.Mini
def At (o : List Tok) (c : Nat) (L : List Tok) : Prop := sameT (o.drop c) L
section
variable {o : List Tok} {e c : Nat} {L : List Tok}
theorem At.head {t : Tok} (h : At o c (t :: L)) (e : Nat) : c < o.length ∧ (nextS o e c).kind = t.kind ∧ (nextS o e c).text = t.text ∧ (nextS o e c).n = t.n ∧ At o (c + 1) L := by
 have hl : c < o.length := by
  rcases Nat.lt_or_ge c o.length with q | q
  ·exact q
  ·exfalso
   unfold At at h
   rw [List.drop_eq_nil_of_le q] at h
   simp [sameT] at h
 unfold At at h
 rw [List.drop_eq_getElem_cons hl, sameT_cons] at h
 obtain ⟨h1, h2⟩ := h
 have hn : nextS o e c = o[c] := by unfold nextS; rw [List.getElem?_eq_getElem hl]; rfl
 rw [hn]
 simp only [Tok.core, Prod.mk.injEq] at h1
 exact ⟨hl, h1.1, h1.2.1, h1.2.2, h2⟩
theorem f_take {k : Nat} {t : Tok} (h : At o c (t :: L)) (hk : t.kind = k) : takeS o e k c = .ok (nextS o e c, c + 1) := by
 obtain ⟨_, q, _⟩ := h.head e
 unfold takeS
 rw [if_pos (q.trans hk)]
theorem f_is {k : Nat} {w : List UInt8} {t : Tok} (h : At o c (t :: L)) : isS o e k w c = (decide (t.kind = k) && decide (t.text = w)) := by
 obtain ⟨_, q1, q2, _⟩ := h.head e
 unfold isS
 rw [q1, q2]
theorem f_must {k : Nat} {w : List UInt8} (h : At o c (⟨k, w, 0, 0⟩ :: L)) : mustS o e k w c = .ok ((), c + 1) := by
 unfold mustS
 rw [f_is h, if_pos (by simp)]
theorem f_name {k : Nat} {s : List UInt8} (h : At o c (⟨k, s, 0, 0⟩ :: L)) (hs : nameS s = true) : nameRS o e k c = .ok (s, c + 1) := by
 obtain ⟨_, _, q2, _⟩ := h.head e
 unfold nameRS
 rw [f_take h rfl]
 simp only []
 rw [q2, if_pos hs]
theorem f_number {n lo hi : Nat} (h : At o c (tkN n :: L)) (h1 : lo ≤ n) (h2 : n ≤ hi) : numberS o e lo hi c = .ok (n, c + 1) := by
 obtain ⟨_, _, _, q3, _⟩ := h.head e
 unfold numberS
 rw [f_take (k := 3) h rfl]
 simp only []
 rw [q3, if_pos ⟨h1, h2⟩]
 rfl
theorem f_leads {s : List UInt8} (h : At o c (tkW gotoB :: tkW s :: L)) (hs : nameS s = true) : leadsS o e c = .ok (s, c + 2) ∧ At o (c + 2) L := by
 obtain ⟨_, _, _, _, h1⟩ := h.head e
 obtain ⟨_, _, _, _, h2⟩ := h1.head e
 unfold leadsS
 rw [f_must h]
 exact ⟨f_name h1 hs, h2⟩
theorem f_pattern {k : Int} {T : List UInt8} (h : At o c (toksPat k T ++ L)) (ht : (treeS k T).1 = 0) : ∃ k' c' : Nat, (k' : Int) = k ∧ patternS o e c = .ok ((k', T), c') ∧ At o c' L := by
 obtain ⟨hk, _⟩ := treeS_ok ht
 unfold patternS patKind
 rcases hk with rfl | rfl | rfl
 ·have h0 : At o c (tkT T :: L) := h
  obtain ⟨_, _, q2, _, h1⟩ := h0.head e
  refine ⟨1, c + 1, rfl, ?_, h1⟩
  rw [f_is h0, f_is h0, if_neg (by simp [tkT]), if_neg (by simp [tkT])]
  simp only []
  rw [f_take (k := 4) h0 rfl]
  simp only []
  rw [q2, if_pos (show (treeS ((1 : Nat) : Int) (tkT T).text).1 = 0 from ht)]
  rfl
 ·have h0 : At o c (tkW globB :: tkT T :: L) := h
  obtain ⟨_, _, _, _, h1⟩ := h0.head e
  obtain ⟨_, _, q2, _, h2⟩ := h1.head e
  refine ⟨2, c + 2, rfl, ?_, h2⟩
  rw [f_is h0, if_pos (by simp [tkW])]
  simp only []
  rw [f_take (k := 4) h1 rfl]
  simp only []
  rw [q2, if_pos (show (treeS ((2 : Nat) : Int) (tkT T).text).1 = 0 from ht)]
  rfl
 ·have h0 : At o c (tkW reB :: tkT T :: L) := h
  obtain ⟨_, _, _, _, h1⟩ := h0.head e
  obtain ⟨_, _, q2, _, h2⟩ := h1.head e
  refine ⟨3, c + 2, rfl, ?_, h2⟩
  rw [f_is h0, f_is h0, if_neg (by simp [tkW, globB, reB]), if_pos (by simp [tkW])]
  simp only []
  rw [f_take (k := 4) h1 rfl]
  simp only []
  rw [q2, if_pos (show (treeS ((3 : Nat) : Int) (tkT T).text).1 = 0 from ht)]
  rfl
def lateT (wt : Int) (lt : List UInt8) : List (List Tok) := if lt = [] then [] else [[tkW timeoutB, tkN wt.toNat, tkW gotoB, tkW lt]]
theorem pat_first {a : ArmT} (h : a.good) : ∃ t r, toksArm a = t :: r ∧ begins t = true ∧ (t.kind = 1 → t.text ≠ timeoutB) ∧ t.kind ≠ 5 := by
 obtain ⟨hk, _⟩ := treeS_ok h.1
 unfold toksArm toksPat
 rcases hk with hk | hk | hk <;> rw [hk]
 ·exact ⟨_, _, rfl, rfl, by simp [tkT], by simp [tkT]⟩
 ·exact ⟨_, _, rfl, rfl, by simp [tkW, globB, timeoutB], by simp [tkW]⟩
 ·exact ⟨_, _, rfl, rfl, by simp [tkW, reB, timeoutB], by simp [tkW]⟩
theorem f_arms (wt : Int) (lt : List UInt8) (hlt : lt ≠ [] → nameS lt = true ∧ 1 ≤ wt ∧ wt ≤ 1000) : ∀ (l : List ArmT) (f : Nat) (x : LineT) (c : Nat), x.late = [] → (lt = [] → wt = x.wait) → (∀ a ∈ l, a.good) → x.arms.length + l.length ≤ 8 → (x.arms ≠ [] ∨ l ≠ [] ∨ lt ≠ []) → l.length + 2 ≤ f →
  At o c (ended (l.map toksArm ++ lateT wt lt) ++ tkS shutW :: L) → ∃ c', armsL o e f x c = .ok ({ x with arms := x.arms ++ l, wait := wt, late := lt }, c') ∧ At o c' L
 | [], f, x, c, hx, hw, _, _, hne, hf, h => by
  obtain ⟨f, rfl⟩ : ∃ g, f = g + 2 := ⟨f - 2, by simp at hf; omega⟩
  by_cases hz : lt = []
  ·have h0 : At o c (tkS shutW :: L) := by simpa [lateT, hz, ended] using h
   obtain ⟨_, _, _, _, h1⟩ := h0.head e
   refine ⟨c + 1, ?_, h1⟩
   rw [armsL, if_neg (by rw [f_is h0]; simp [tkS]), if_pos ⟨hne.elim .inl fun q => q.elim (absurd rfl) fun q => absurd hz q, by rw [f_is h0]; simp [tkS, shutW]⟩]
   rw [List.append_nil, hw hz, hz, ← hx]
  ·obtain ⟨n1, n2, n3⟩ := hlt hz
   have h0 : At o c (tkW timeoutB :: tkN wt.toNat :: tkW gotoB :: tkW lt :: tkE :: tkS shutW :: L) := by simpa [lateT, hz, ended] using h
   obtain ⟨_, _, _, _, h1⟩ := h0.head e
   obtain ⟨_, _, _, _, h2⟩ := h1.head e
   obtain ⟨q3, h3⟩ := f_leads (e := e) h2 n1
   obtain ⟨_, _, _, _, h4⟩ := h3.head e
   obtain ⟨_, _, _, _, h5⟩ := h4.head e
   refine ⟨c + 1 + 1 + 2 + 1 + 1, ?_, h5⟩
   rw [armsL, if_pos ⟨hx, by rw [f_is h0]; simp [tkW]⟩, f_number h1 (by omega) (by omega)]
   simp only []
   rw [q3]
   simp only []
   rw [f_take (k := 6) h3 rfl]
   simp only []
   rw [armsL, if_neg (fun q => hz q.1), if_pos ⟨.inr hz, by rw [f_is h4]; simp [tkS, shutW]⟩, List.append_nil, show ((wt.toNat : Nat) : Int) = wt by omega]
 | a :: l, f, x, c, hx, hw, hg, h8, _, hf, h => by
  obtain ⟨f, rfl⟩ : ∃ g, f = g + 1 := ⟨f - 1, by omega⟩
  simp only [List.length_cons] at h8 hf
  have ga := hg a (List.mem_cons_self ..)
  have h0 : At o c (toksPat a.kind a.text ++ (tkW gotoB :: tkW a.to :: tkE :: (ended (l.map toksArm ++ lateT wt lt) ++ tkS shutW :: L))) := by
   simpa [ended, toksArm, List.append_assoc] using h
  obtain ⟨t, r, e1, b1, b2, b3⟩ := pat_first ga
  have ht : At o c (t :: (r ++ tkE :: (ended (l.map toksArm ++ lateT wt lt) ++ tkS shutW :: L))) := by
   have : toksPat a.kind a.text ++ (tkW gotoB :: tkW a.to :: tkE :: (ended (l.map toksArm ++ lateT wt lt) ++ tkS shutW :: L)) = toksArm a ++ tkE :: (ended (l.map toksArm ++ lateT wt lt) ++ tkS shutW :: L) := by simp [toksArm, List.append_assoc]
   rw [this, e1] at h0
   exact h0
  obtain ⟨_, k1, k2, _⟩ := ht.head e
  have hb : begins (nextS o e c) = true := by unfold begins at b1 ⊢; rw [k1, k2]; exact b1
  obtain ⟨k', c1, hk, q1, h1⟩ := f_pattern (e := e) h0 ga.1
  obtain ⟨q2, h2⟩ := f_leads (e := e) h1 ga.2
  obtain ⟨_, _, _, _, h3⟩ := h2.head e
  obtain ⟨c', q3, h4⟩ := f_arms wt lt hlt l f { x with arms := x.arms ++ [⟨(k' : Int), a.text, a.to⟩] } (c1 + 2 + 1) hx hw (fun z hz => hg z (List.mem_cons_of_mem _ hz)) (by simp only [List.length_append, List.length_singleton]; omega) (.inl (by simp)) (by omega) h3
  refine ⟨c', ?_, h4⟩
  rw [armsL, if_neg (by rw [f_is ht]; simp only [Bool.and_eq_true, decide_eq_true_eq]; exact fun q => b2 q.2.1 q.2.2), if_neg (by rw [f_is ht]; simp only [Bool.and_eq_true, decide_eq_true_eq]; exact fun q => b3 q.2.1), if_neg (by rw [hb]; simp [hx]), if_neg (by omega), q1]
  simp only []
  rw [q2]
  simp only []
  rw [f_take (k := 6) h2 rfl]
  simp only []
  rw [q3, hk]
  simp
theorem opOf_W (k : Nat) (h1 : 1 ≤ k) (h7 : k ≤ 7) {t : Tok} (h : At o c (t :: L)) (ht : t.kind = 1 ∧ t.text = opsL.getD (k - 1) []) : opOf (nextS o e c) = k := by
 obtain ⟨_, q1, q2, _⟩ := h.head e
 unfold opOf
 rw [q1, q2, ht.1, ht.2]
 have hc : k = 1 ∨ k = 2 ∨ k = 3 ∨ k = 4 ∨ k = 5 ∨ k = 6 ∨ k = 7 := by omega
 rcases hc with rfl | rfl | rfl | rfl | rfl | rfl | rfl <;> decide
theorem lineS_of {k r c1 : Nat} {x : LineT} (hop : opOf (nextS o e c) = k) (hk : k ≠ 0) (hr : r + 1 ≤ 128) (hb : bodyS o e k (c + 1) = .ok (x, c1)) (h : At o c1 (tkE :: L)) : lineS o e r c = .ok (x, c1 + 1) ∧ At o (c1 + 1) L := by
 obtain ⟨_, _, _, _, h1⟩ := h.head e
 unfold lineS
 rw [hop, if_neg hk, if_neg (by omega), hb]
 simp only []
 rw [f_take (k := 6) h rfl]
 exact ⟨rfl, h1⟩
theorem f_line {x : LineT} (g : Fx x) {r : Nat} (hr : r + 1 ≤ 128) (h : At o c (ended (rowsTL x) ++ L)) : ∃ c', lineS o e r c = .ok (x, c') ∧ At o c' L := by
 cases g with
 | send t _ =>
  have h0 : At o c (tkW sendW :: tkT t :: tkE :: L) := h
  obtain ⟨_, _, _, _, h1⟩ := h0.head e
  obtain ⟨_, _, q, _, h2⟩ := h1.head e
  refine ⟨_, lineS_of (opOf_W 1 (by omega) (by omega) h0 ⟨rfl, rfl⟩) (by omega) hr ?_ h2⟩
  simp only [bodyS]
  rw [f_take (k := 4) h1 rfl]
  simp only []
  rw [q]
  rfl
 | set m n h1 h2 =>
  have h0 : At o c (tkW setW :: tkW m :: tkN n :: tkE :: L) := h
  obtain ⟨_, _, _, _, k1⟩ := h0.head e
  obtain ⟨_, _, _, _, k2⟩ := k1.head e
  obtain ⟨_, _, _, _, k3⟩ := k2.head e
  refine ⟨_, lineS_of (opOf_W 2 (by omega) (by omega) h0 ⟨rfl, rfl⟩) (by omega) hr ?_ k3⟩
  simp only [bodyS]
  rw [f_name k1 h1]
  simp only []
  rw [f_number k2 (by omega) h2]
 | inc m h1 =>
  have h0 : At o c (tkW incW :: tkW m :: tkE :: L) := h
  obtain ⟨_, _, _, _, k1⟩ := h0.head e
  obtain ⟨_, _, _, _, k2⟩ := k1.head e
  refine ⟨_, lineS_of (opOf_W 3 (by omega) (by omega) h0 ⟨rfl, rfl⟩) (by omega) hr ?_ k2⟩
  simp only [bodyS]
  rw [f_name k1 h1]
 | cond m n l h1 h2 h3 =>
  have h0 : At o c (tkW ifW :: tkW m :: tkS lessW :: tkN n :: tkW gotoB :: tkW l :: tkE :: L) := h
  obtain ⟨_, _, _, _, k1⟩ := h0.head e
  obtain ⟨_, _, _, _, k2⟩ := k1.head e
  obtain ⟨_, _, _, _, k3⟩ := k2.head e
  obtain ⟨_, _, _, _, k4⟩ := k3.head e
  obtain ⟨q5, k5⟩ := f_leads (e := e) k4 h3
  refine ⟨_, lineS_of (opOf_W 4 (by omega) (by omega) h0 ⟨rfl, rfl⟩) (by omega) hr ?_ k5⟩
  simp only [bodyS]
  rw [f_name k1 h1]
  simp only []
  rw [f_must (w := [60]) k2]
  simp only []
  rw [f_number k3 (by omega) h2]
  simp only []
  rw [q5]
 | goto l h1 =>
  have h0 : At o c (tkW gotoB :: tkW l :: tkE :: L) := h
  obtain ⟨_, _, _, _, k1⟩ := h0.head e
  obtain ⟨_, _, _, _, k2⟩ := k1.head e
  refine ⟨_, lineS_of (opOf_W 5 (by omega) (by omega) h0 ⟨rfl, rfl⟩) (by omega) hr ?_ k2⟩
  simp only [bodyS]
  rw [f_name k1 h1]
 | exit n h1 =>
  have h0 : At o c (tkW exitW :: tkN n :: tkE :: L) := h
  obtain ⟨_, _, _, _, k1⟩ := h0.head e
  obtain ⟨_, _, _, _, k2⟩ := k1.head e
  refine ⟨_, lineS_of (opOf_W 6 (by omega) (by omega) h0 ⟨rfl, rfl⟩) (by omega) hr ?_ k2⟩
  simp only [bodyS]
  rw [f_number k1 (by omega) h1]
 | expect A wt lt g1 g2 g3 g4 g5 =>
  have h0 : At o c (tkW expectW :: tkS openW :: tkE :: (ended (A.map toksArm ++ lateT wt lt) ++ tkS shutW :: tkE :: L)) := by
   have e1 : rowsTL { line0 7 with arms := A, wait := wt, late := lt } = [[tkW expectW, tkS openW]] ++ A.map toksArm ++ lateT wt lt ++ [[tkS shutW]] := by
    unfold rowsTL
    simp [line0]
    rfl
   rw [e1] at h
   simpa [ended, List.append_assoc] using h
  obtain ⟨_, _, _, _, k1⟩ := h0.head e
  obtain ⟨_, _, _, _, k2⟩ := k1.head e
  obtain ⟨_, _, _, _, k3⟩ := k2.head e
  obtain ⟨c', q, k4⟩ := f_arms (e := e) wt lt g4 A 11 (line0 7) (c + 1 + 1 + 1) rfl g3 g1 (by show 0 + A.length ≤ 8; omega) (.inr g5) (by omega) k3
  refine ⟨_, lineS_of (opOf_W 7 (by omega) (by omega) h0 ⟨rfl, rfl⟩) (by omega) hr ?_ k4⟩
  simp only [bodyS, armsS]
  rw [f_must (w := [123]) k1]
  simp only []
  rw [f_take (k := 6) k2 rfl]
  simp only []
  rw [q]
  rfl
theorem f_lines (z : LineT) (hz : Fx z) (h5 : 5 ≤ z.op) : ∀ (b : List LineT) (f r c : Nat) (l : List LineT), (∀ y ∈ b, Fx y ∧ y.op < 5) → b.length + 1 ≤ f → r + b.length + 1 ≤ 128 → At o c (ended ((b ++ [z]).flatMap rowsTL) ++ L) →
  ∃ c', linesL o e f r c l = .ok (l ++ (b ++ [z]), r + (b.length + 1), c') ∧ At o c' L
 | [], f, r, c, l, _, hf, hr, h => by
  obtain ⟨f, rfl⟩ : ∃ g, f = g + 1 := ⟨f - 1, by omega⟩
  have h0 : At o c (ended (rowsTL z) ++ L) := by simpa using h
  obtain ⟨c', q, h1⟩ := f_line (e := e) hz (r := r) (by simp at hr; omega) h0
  refine ⟨c', ?_, h1⟩
  rw [linesL, q]
  simp only []
  rw [if_pos h5]
  simp
 | x :: b, f, r, c, l, hb, hf, hr, h => by
  obtain ⟨f, rfl⟩ : ∃ g, f = g + 1 := ⟨f - 1, by omega⟩
  simp only [List.length_cons] at hf hr
  have h0 : At o c (ended (rowsTL x) ++ (ended ((b ++ [z]).flatMap rowsTL) ++ L)) := by
   rw [List.cons_append, List.flatMap_cons, ended_append, List.append_assoc] at h
   exact h
  obtain ⟨gx, hx⟩ := hb x (List.mem_cons_self ..)
  obtain ⟨c1, q, h1⟩ := f_line (e := e) gx (r := r) (by omega) h0
  obtain ⟨c', q2, h2⟩ := f_lines z hz h5 b f (r + 1) c1 (l ++ [x]) (fun y hy => hb y (List.mem_cons_of_mem _ hy)) (by omega) (by omega) h1
  refine ⟨c', ?_, h2⟩
  rw [linesL, q]
  simp only []
  rw [if_neg (by omega), q2]
  simp only [List.append_assoc, List.singleton_append, List.cons_append, List.length_cons]
  congr 3
  omega
def BlockT.whole (b : BlockT) : Prop := b.good ∧ ends b.lines
theorem f_block {b : BlockT} (g : b.whole) {r : Nat} (hr : r + b.lines.length ≤ 128) (h : At o c (ended (rowsTB b) ++ L)) : ∃ c', blockS o e r c = .ok (b, r + b.lines.length, c') ∧ At o c' L := by
 obtain ⟨⟨g1, g2⟩, b', z, e1, e2, e3⟩ := g
 have h0 : At o c (tkH b.name :: tkE :: (ended (b.lines.flatMap rowsTL) ++ L)) := by
  unfold rowsTB at h
  rw [ended, List.flatMap_cons] at h
  simpa [ended] using h
 obtain ⟨_, _, _, _, h1⟩ := h0.head e
 obtain ⟨_, _, _, _, h2⟩ := h1.head e
 rw [e1] at h2
 have hl : b.lines.length = b'.length + 1 := by rw [e1]; simp
 obtain ⟨c', q, h3⟩ := f_lines (e := e) z (g2 z (by rw [e1]; simp)).form e2 b' 130 r (c + 1 + 1) [] (fun y hy => ⟨(g2 y (by rw [e1]; simp [hy])).form, e3 y hy⟩) (by omega) (by omega) h2
 refine ⟨c', ?_, h3⟩
 unfold blockS
 rw [f_name h0 g1]
 simp only []
 rw [f_take (k := 6) h1 rfl]
 simp only []
 rw [q]
 simp only [List.nil_append]
 rw [← e1, hl]
theorem f_blocks : ∀ (m : List BlockT) (f r c : Nat) (bl : List BlockT), (∀ b ∈ m, b.whole) → bl.length + m.length ≤ 32 → m.length + 1 ≤ f → r + linesOf m ≤ 128 → (bl = [] → m ≠ []) → At o c (ended (m.flatMap rowsTB)) → blocksL o e f r c bl = .ok (bl ++ m)
 | [], f, r, c, bl, _, _, hf, _, hne, h => by
  obtain ⟨f, rfl⟩ : ∃ g, f = g + 1 := ⟨f - 1, by omega⟩
  have hl : o.length ≤ c := by
   have h' : sameT (o.drop c) [] := h
   have := congrArg List.length h'
   simp at this
   omega
  rw [blocksL, if_neg (by rintro (q | q); omega; exact hne q rfl), List.append_nil]
 | b :: m, f, r, c, bl, hw, h32, hf, hr, hne, h => by
  obtain ⟨f, rfl⟩ : ∃ g, f = g + 1 := ⟨f - 1, by omega⟩
  simp only [List.length_cons] at h32 hf
  have hlo : linesOf (b :: m) = b.lines.length + linesOf m := by simp [linesOf]
  have h0 : At o c (ended (rowsTB b) ++ ended (m.flatMap rowsTB)) := by rw [← ended_append]; simpa using h
  obtain ⟨c', q, h1⟩ := f_block (e := e) (hw b (List.mem_cons_self ..)) (r := r) (by omega) h0
  have hc : c < o.length := by
   have h2 : At o c (tkH b.name :: (tkE :: ended (b.lines.flatMap rowsTL) ++ ended (m.flatMap rowsTB))) := by
    have h2 : At o c (ended ([tkH b.name] :: b.lines.flatMap rowsTL) ++ ended (m.flatMap rowsTB)) := h0
    rw [ended, List.flatMap_cons] at h2
    simpa only [ended, List.cons_append, List.nil_append, List.append_assoc] using h2
   exact (h2.head e).1
  rw [blocksL_step q (by omega) (.inl hc)]
  rw [f_blocks m f (r + b.lines.length) c' (bl ++ [b]) (fun y hy => hw y (List.mem_cons_of_mem _ hy)) (by simp; omega) (by omega) (by omega) (by simp) h1]
  simp
end
end Go.Mini
