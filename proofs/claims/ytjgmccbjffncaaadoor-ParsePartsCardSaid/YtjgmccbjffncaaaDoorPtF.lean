import Derived.Test.YtjgmccbjffncaaaDoorPtB
import Derived.Test.YtjgmccbjffncaaaDoorPBackB
import Derived.Test.YtjgmccbjffncaaaDoorPjBtoPjC
set_option maxHeartbeats 4000000
set_option linter.unusedSimpArgs false
namespace Go.Mini
def tkW (s : List UInt8) : Tok := ⟨1, s, 0, 0⟩
def tkH (s : List UInt8) : Tok := ⟨2, s, 0, 0⟩
def tkN (n : Nat) : Tok := ⟨3, [], n, 0⟩
def tkT (s : List UInt8) : Tok := ⟨4, s, 0, 0⟩
def tkS (s : List UInt8) : Tok := ⟨5, s, 0, 0⟩
def tkE : Tok := ⟨6, [], 0, 0⟩
def toksPat (k : Int) (T : List UInt8) : List Tok := (if k = 2 then [tkW globB] else if k = 3 then [tkW reB] else []) ++ [tkT T]
def toksArm (a : ArmT) : List Tok := toksPat a.kind a.text ++ [tkW gotoB, tkW a.to]
def lateTL (x : LineT) : List (List Tok) := if x.late = [] then [] else [[tkW timeoutB, tkN x.wait.toNat, tkW gotoB, tkW x.late]]
def rowsTL (x : LineT) : List (List Tok) :=
 if x.op = 1 then [[tkW sendW, tkT x.text]]
 else if x.op = 2 then [[tkW setW, tkW x.name, tkN x.n.toNat]]
 else if x.op = 3 then [[tkW incW, tkW x.name]]
 else if x.op = 4 then [[tkW ifW, tkW x.name, tkS lessW, tkN x.n.toNat, tkW gotoB, tkW x.to]]
 else if x.op = 5 then [[tkW gotoB, tkW x.to]]
 else if x.op = 6 then [[tkW exitW, tkN x.n.toNat]]
 else if x.op = 7 then [[tkW expectW, tkS openW]] ++ x.arms.map toksArm ++ lateTL x ++ [[tkS shutW]]
 else []
def ended (rs : List (List Tok)) : List Tok := rs.flatMap (· ++ [tkE])
theorem ended_append (a b : List (List Tok)) : ended (a ++ b) = ended a ++ ended b := List.flatMap_append
def rowsTB (b : BlockT) : List (List Tok) := [tkH b.name] :: b.lines.flatMap rowsTL
def Seg (o : List Tok) (a a' : Nat) (L : List Tok) : Prop := ∃ m, o.drop a = m ++ o.drop a' ∧ sameT m L
theorem Seg.trans {o : List Tok} {a b c : Nat} {L M : List Tok} (h : Seg o a b L) (k : Seg o b c M) : Seg o a c (L ++ M) := by
 obtain ⟨m, h1, h2⟩ := h
 obtain ⟨n, k1, k2⟩ := k
 refine ⟨m ++ n, by rw [h1, k1, List.append_assoc], ?_⟩
 unfold sameT at *
 rw [List.map_append, List.map_append, h2, k2]
def tokOk (t : Tok) : Prop := (t.kind = 6 ∧ t.text = [] ∧ t.n = 0) ∨ okTok t.kind t.text t.n
theorem shaped_all : ∀ {l : List Tok} {sm : Bool}, shaped sm l → ∀ t ∈ l, tokOk t
 | [], _, _, t, h => by cases h
 | u :: l, sm, h, t, ht => by
  unfold shaped at h
  split at h
  ·rename_i hk
   rcases List.mem_cons.1 ht with rfl | q
   ·exact .inl ⟨hk, h.2.1, h.2.2.1⟩
   ·exact shaped_all h.2.2.2 t q
  ·rcases List.mem_cons.1 ht with rfl | q
   ·exact .inr h.1
   ·exact shaped_all h.2 t q
theorem tokOk.core {t : Tok} (h : tokOk t) : (t.kind = 1 ∨ t.kind = 2 ∨ t.kind = 4 ∨ t.kind = 5 ∨ t.kind = 6 → t.n = 0) ∧ (t.kind = 3 ∨ t.kind = 6 → t.text = []) ∧ (t.kind = 4 → t.text.length ≤ 64) := by
 rcases h with ⟨h1, h2, h3⟩ | ⟨h1, h2, _⟩ | ⟨h1, h2, h3⟩ | ⟨h1, h2, h3⟩ | ⟨h1, h2, h3⟩
 ·exact ⟨fun _ => h3, fun _ => h2, fun q => by omega⟩
 ·exact ⟨fun _ => h2, fun q => by omega, fun q => by omega⟩
 ·exact ⟨fun q => by omega, fun _ => h2, fun q => by omega⟩
 ·exact ⟨fun _ => h2, fun q => by omega, fun _ => h3⟩
 ·exact ⟨fun _ => h2, fun q => by omega, fun q => by omega⟩
theorem opW {k : Nat} (h1 : 1 ≤ k) (h7 : k ≤ 7) {t : Tok} (h : opOf t = k) : t.kind = 1 ∧ t.text = opsL.getD (k - 1) [] := by
 unfold opOf at h
 split at h
 ·rename_i hq
  refine ⟨hq.1, ?_⟩
  have hi : opsL.idxOf t.text = k - 1 := by omega
  have hm := hq.2
  rw [← hi]
  have hlt := List.idxOf_lt_length_iff.2 hm
  rw [List.getD_eq_getElem?_getD, List.getElem?_eq_getElem hlt, List.getElem_idxOf hlt]
  rfl
 ·omega
section
variable {o : List Tok} {e : Nat} (ok : ∀ t ∈ o, tokOk t)
theorem drop_cons' {α : Type} {l : List α} {i : Nat} {t : α} (ht : l[i]? = some t) : l.drop i = t :: l.drop (i + 1) := by
 have hi := (List.getElem?_eq_some_iff.1 ht).1
 rw [List.drop_eq_getElem_cons hi]
 congr 1
 rw [List.getElem?_eq_getElem hi] at ht
 exact Option.some.inj ht
theorem seg_one {a : Nat} {t u : Tok} (h : o[a]? = some t) (hc : t.core = u.core) : Seg o a (a + 1) [u] := by
 refine ⟨[t], ?_, by simp [sameT, hc]⟩
 exact drop_cons' h
theorem take_at {k a a' : Nat} {t : Tok} (hk : k ≠ 0) (h : takeS o e k a = .ok (t, a')) : o[a]? = some t ∧ t.kind = k ∧ a' = a + 1 := by
 obtain ⟨h1, h2⟩ := takeS_le h hk
 unfold takeS at h
 split at h
 ·rename_i hq
  cases h
  refine ⟨?_, hq, rfl⟩
  unfold nextS
  rw [List.getElem?_eq_getElem h2]
  rfl
 ·cases h
include ok
theorem seg_text {a a' : Nat} {t : Tok} (h : takeS o e 4 a = .ok (t, a')) : Seg o a a' [tkT t.text] ∧ t.text.length ≤ 64 := by
 obtain ⟨h1, h2, rfl⟩ := take_at (by decide) h
 have hc := (ok t (List.mem_of_getElem? h1)).core
 exact ⟨seg_one h1 (by simp [Tok.core, tkT, h2, hc.1 (by omega)]), hc.2.2 h2⟩
theorem seg_end {a a' : Nat} {t : Tok} (h : takeS o e 6 a = .ok (t, a')) : Seg o a a' [tkE] := by
 obtain ⟨h1, h2, rfl⟩ := take_at (by decide) h
 have hc := (ok t (List.mem_of_getElem? h1)).core
 exact seg_one h1 (by simp [Tok.core, tkE, h2, hc.1 (by omega), hc.2.1 (by omega)])
theorem seg_number {lo hi a a' n : Nat} (h : numberS o e lo hi a = .ok (n, a')) : Seg o a a' [tkN n] ∧ lo ≤ n ∧ n ≤ hi := by
 unfold numberS at h
 cases ht : takeS o e 3 a with
 | error x => rw [ht] at h; cases h
 | ok ta =>
  obtain ⟨t, b⟩ := ta
  rw [ht] at h
  simp only [] at h
  split at h
  ·rename_i hq
   cases h
   obtain ⟨h1, h2, rfl⟩ := take_at (by decide) ht
   have hc := (ok t (List.mem_of_getElem? h1)).core
   exact ⟨seg_one h1 (by simp [Tok.core, tkN, h2, hc.2.1 (by omega)]), hq⟩
  ·cases h
theorem seg_name {a a' : Nat} {s : List UInt8} (h : nameRS o e 1 a = .ok (s, a')) : Seg o a a' [tkW s] ∧ nameS s = true := by
 unfold nameRS at h
 cases ht : takeS o e 1 a with
 | error x => rw [ht] at h; cases h
 | ok ta =>
  obtain ⟨t, b⟩ := ta
  rw [ht] at h
  simp only [] at h
  split at h
  ·rename_i hq
   cases h
   obtain ⟨h1, h2, rfl⟩ := take_at (by decide) ht
   have hc := (ok t (List.mem_of_getElem? h1)).core
   exact ⟨seg_one h1 (by simp [Tok.core, tkW, h2, hc.1 (by omega)]), hq⟩
  ·cases h
theorem seg_head {a a' : Nat} {s : List UInt8} (h : nameRS o e 2 a = .ok (s, a')) : Seg o a a' [tkH s] ∧ nameS s = true := by
 unfold nameRS at h
 cases ht : takeS o e 2 a with
 | error x => rw [ht] at h; cases h
 | ok ta =>
  obtain ⟨t, b⟩ := ta
  rw [ht] at h
  simp only [] at h
  split at h
  ·rename_i hq
   cases h
   obtain ⟨h1, h2, rfl⟩ := take_at (by decide) ht
   have hc := (ok t (List.mem_of_getElem? h1)).core
   exact ⟨seg_one h1 (by simp [Tok.core, tkH, h2, hc.1 (by omega)]), hq⟩
  ·cases h
theorem seg_is {k a : Nat} {w : List UInt8} (hk : k = 1 ∨ k = 5) (h : isS o e k w a = true) : Seg o a (a + 1) [⟨k, w, 0, 0⟩] := by
 have hl := isS_le h (by omega)
 unfold isS at h
 simp only [Bool.and_eq_true, decide_eq_true_eq] at h
 have hn : nextS o e a = o[a] := by unfold nextS; rw [List.getElem?_eq_getElem hl]; rfl
 rw [hn] at h
 have hc := (ok o[a] (List.getElem_mem hl)).core
 exact seg_one (List.getElem?_eq_getElem hl) (by simp [Tok.core, h.1, h.2, hc.1 (by omega)])
theorem seg_must {k a a' : Nat} {w : List UInt8} {u : Unit} (hk : k = 1 ∨ k = 5) (h : mustS o e k w a = .ok (u, a')) : Seg o a a' [⟨k, w, 0, 0⟩] := by
 obtain ⟨rfl, h2⟩ := mustS_ok h
 exact seg_is ok hk h2
theorem seg_leads {a a' : Nat} {s : List UInt8} (h : leadsS o e a = .ok (s, a')) : Seg o a a' [tkW gotoB, tkW s] ∧ nameS s = true := by
 unfold leadsS at h
 cases ht : mustS o e 1 gotoB a with
 | error x => rw [ht] at h; cases h
 | ok ta =>
  obtain ⟨u, b⟩ := ta
  rw [ht] at h
  obtain ⟨h1, h2⟩ := seg_name ok h
  exact ⟨(seg_must ok (.inl rfl) ht).trans h1, h2⟩
theorem seg_pattern {a a' k : Nat} {s : List UInt8} (h : patternS o e a = .ok ((k, s), a')) : Seg o a a' (toksPat k s) ∧ (treeS k s).1 = 0 ∧ (k = 1 ∨ k = 2 ∨ k = 3) := by
 unfold patternS at h
 cases ht : takeS o e 4 (patKind o e a).2 with
 | error x => rw [ht] at h; cases h
 | ok ta =>
  obtain ⟨t, b⟩ := ta
  rw [ht] at h
  simp only [] at h
  split at h
  ·rename_i hq
   cases h
   have hs := (seg_text ok ht).1
   have hpk : ((patKind o e a).1 = 2 ∧ Seg o a (patKind o e a).2 [tkW globB]) ∨ ((patKind o e a).1 = 3 ∧ Seg o a (patKind o e a).2 [tkW reB]) ∨ ((patKind o e a).1 = 1 ∧ (patKind o e a).2 = a) := by
    unfold patKind
    split
    ·rename_i hg; exact .inl ⟨rfl, seg_is ok (.inl rfl) hg⟩
    ·split
     ·rename_i hg; exact .inr (.inl ⟨rfl, seg_is ok (.inl rfl) hg⟩)
     ·exact .inr (.inr ⟨rfl, rfl⟩)
   refine ⟨?_, hq, by omega⟩
   unfold toksPat
   rcases hpk with ⟨q1, q2⟩ | ⟨q1, q2⟩ | ⟨q1, q2⟩
   ·rw [q1]; exact q2.trans hs
   ·rw [q1]; exact q2.trans hs
   ·rw [q1]; rw [q2] at hs; exact hs
  ·cases h
def ArmT.good (a : ArmT) : Prop := (treeS a.kind a.text).1 = 0 ∧ nameS a.to = true
theorem seg_late : ∀ (f : Nat) (x : LineT) (a : Nat) (y : LineT) (a' : Nat), x.late ≠ [] → armsL o e f x a = .ok (y, a') → y = x ∧ Seg o a a' [tkS shutW]
 | 0, _, _, _, _, _, h => by cases h
 | f + 1, x, a, y, a', hl, h => by
  rw [armsL, if_neg (fun q => hl q.1)] at h
  split at h
  ·rename_i hq
   cases h
   exact ⟨rfl, seg_is ok (.inr rfl) hq.2⟩
  ·rw [if_pos (.inl hl)] at h
   cases h
theorem seg_arms : ∀ (f : Nat) (x : LineT) (a : Nat) (y : LineT) (a' : Nat), x.late = [] → armsL o e f x a = .ok (y, a') →
  ∃ A wt lt, y = { x with arms := x.arms ++ A, wait := wt, late := lt } ∧ Seg o a a' (ended (A.map toksArm ++ lateTL y) ++ [tkS shutW]) ∧ (∀ z ∈ A, z.good) ∧ (lt = [] → wt = x.wait) ∧ (lt ≠ [] → nameS lt = true ∧ 1 ≤ wt ∧ wt ≤ 1000) ∧ (x.arms ≠ [] ∨ A ≠ [] ∨ lt ≠ [])
 | 0, _, _, _, _, _, h => by cases h
 | f + 1, x, a, y, a', hl, h => by
  rw [armsL] at h
  split at h
  ·rename_i hq
   cases h1 : numberS o e 1 1000 (a + 1) with
   | error z => rw [h1] at h; cases h
   | ok na =>
    obtain ⟨n, a1⟩ := na
    rw [h1] at h
    simp only [] at h
    cases h2 : leadsS o e a1 with
    | error z => rw [h2] at h; cases h
    | ok la =>
     obtain ⟨l, a2⟩ := la
     rw [h2] at h
     simp only [] at h
     cases h3 : takeS o e 6 a2 with
     | error z => rw [h3] at h; cases h
     | ok ta =>
      obtain ⟨t, a3⟩ := ta
      rw [h3] at h
      simp only [] at h
      obtain ⟨s1, n1, n2⟩ := seg_number ok h1
      obtain ⟨s2, hname⟩ := seg_leads ok h2
      have s3 := seg_end ok h3
      have hlne : l ≠ [] := by rintro rfl; rw [name_nil] at hname; cases hname
      obtain ⟨rfl, s4⟩ := seg_late ok f _ _ _ _ (by exact hlne) h
      refine ⟨[], n, l, by simp, ?_, by simp, fun q => absurd q hlne, fun _ => ⟨hname, by omega, by omega⟩, .inr (.inr hlne)⟩
      have e1 : lateTL { x with wait := (n : Int), late := l } = [[tkW timeoutB, tkN n, tkW gotoB, tkW l]] := by
       unfold lateTL
       rw [if_neg hlne]
       rfl
      rw [e1]
      have := ((((seg_is ok (.inl rfl) hq.2).trans s1).trans s2).trans s3).trans s4
      exact this
  ·split at h
   ·rename_i hq
    cases h
    refine ⟨[], x.wait, x.late, by simp, ?_, by simp, fun _ => rfl, fun q => absurd hl q, hq.1.elim .inl fun q => absurd hl q⟩
    have e1 : lateTL x = [] := by unfold lateTL; rw [if_pos hl]
    rw [e1]
    exact seg_is ok (.inr rfl) hq.2
   ·split at h
    ·cases h
    ·split at h
     ·cases h
     ·cases h1 : patternS o e a with
      | error z => rw [h1] at h; cases h
      | ok na =>
       obtain ⟨⟨k, s⟩, a1⟩ := na
       rw [h1] at h
       simp only [] at h
       cases h2 : leadsS o e a1 with
       | error z => rw [h2] at h; cases h
       | ok la =>
        obtain ⟨l, a2⟩ := la
        rw [h2] at h
        simp only [] at h
        cases h3 : takeS o e 6 a2 with
        | error z => rw [h3] at h; cases h
        | ok ta =>
         obtain ⟨t, a3⟩ := ta
         rw [h3] at h
         simp only [] at h
         obtain ⟨s1, ht0, hk⟩ := seg_pattern ok h1
         obtain ⟨s2, hname⟩ := seg_leads ok h2
         have s3 := seg_end ok h3
         obtain ⟨A, wt, lt, rfl, s4, q1, q2, q3, _⟩ := seg_arms f _ _ _ _ (by exact hl) h
         refine ⟨⟨k, s, l⟩ :: A, wt, lt, by simp, ?_, fun z hz => ?_, q2, q3, .inr (.inl (by simp))⟩
         ·have := ((s1.trans s2).trans s3).trans s4
          have e2 : ended ((⟨k, s, l⟩ :: A).map toksArm ++ lateTL { x with arms := (x.arms ++ [⟨k, s, l⟩]) ++ A, wait := wt, late := lt }) = (toksPat k s ++ [tkW gotoB, tkW l] ++ [tkE]) ++ ended (A.map toksArm ++ lateTL { x with arms := (x.arms ++ [⟨k, s, l⟩]) ++ A, wait := wt, late := lt }) := by
           rw [List.map_cons, List.cons_append, ended, List.flatMap_cons]; rfl
          rw [e2, List.append_assoc (toksPat k s ++ [tkW gotoB, tkW l] ++ [tkE])]
          exact this
         ·rcases List.mem_cons.1 hz with rfl | q
          ·exact ⟨ht0, hname⟩
          ·exact q1 z q
inductive Fx : LineT → Prop
 | send (t : List UInt8) : t.length ≤ 64 → Fx { line0 1 with text := t }
 | set (m : List UInt8) (n : Nat) : nameS m = true → n ≤ 255 → Fx { line0 2 with name := m, n := n }
 | inc (m : List UInt8) : nameS m = true → Fx { line0 3 with name := m }
 | cond (m : List UInt8) (n : Nat) (l : List UInt8) : nameS m = true → n ≤ 255 → nameS l = true → Fx { line0 4 with name := m, n := n, to := l }
 | goto (l : List UInt8) : nameS l = true → Fx { line0 5 with to := l }
 | exit (n : Nat) : n ≤ 255 → Fx { line0 6 with n := n }
 | expect (A : List ArmT) (wt : Int) (lt : List UInt8) : (∀ z ∈ A, z.good) → A.length ≤ 8 → (lt = [] → wt = 0) → (lt ≠ [] → nameS lt = true ∧ 1 ≤ wt ∧ wt ≤ 1000) → (A ≠ [] ∨ lt ≠ []) → Fx { line0 7 with arms := A, wait := wt, late := lt }
structure LineT.good (x : LineT) : Prop where
 op : 1 ≤ x.op ∧ x.op ≤ 7
 text : x.text.length ≤ 64
 n : 0 ≤ x.n ∧ x.n ≤ 255
 wait : 0 ≤ x.wait ∧ x.wait ≤ 1000
 name : x.name = [] ∨ nameS x.name = true
 to : x.to = [] ∨ nameS x.to = true
 late : x.late = [] ∨ nameS x.late = true
 arms : ∀ z ∈ x.arms, z.good
 few : x.arms.length ≤ 8
 form : Fx x
theorem seg_op {a k : Nat} (h1 : 1 ≤ k) (h7 : k ≤ 7) (h : opOf (nextS o e a) = k) : Seg o a (a + 1) [tkW (opsL.getD (k - 1) [])] := by
 obtain ⟨q1, q2⟩ := opW h1 h7 h
 have hl := opOf_lt (o := o) (e := e) (a := a) (by omega)
 have hn : nextS o e a = o[a] := by unfold nextS; rw [List.getElem?_eq_getElem hl]; rfl
 rw [hn] at q1 q2
 have hc := (ok o[a] (List.getElem_mem hl)).core
 exact seg_one (List.getElem?_eq_getElem hl) (by simp [Tok.core, tkW, q1, q2, hc.1 (by omega)])
theorem seg_line {r a a' : Nat} {x : LineT} (h : lineS o e r a = .ok (x, a')) : Seg o a a' (ended (rowsTL x)) ∧ x.good := by
 have hle := line_err (o := o) (e := e) r a
 rw [h] at hle
 have hfew : x.arms.length ≤ 8 := hle.1
 unfold lineS at h
 split at h
 ·cases h
 rename_i h0
 split at h
 ·cases h
 have h7 := opOf_le (nextS o e a)
 cases h1 : bodyS o e (opOf (nextS o e a)) (a + 1) with
 | error z => rw [h1] at h; cases h
 | ok ya =>
  obtain ⟨y, a1⟩ := ya
  rw [h1] at h
  simp only [] at h
  cases h2 : takeS o e 6 a1 with
  | error z => rw [h2] at h; cases h
  | ok ta =>
   obtain ⟨t, a2⟩ := ta
   rw [h2] at h
   cases h
   have sE := seg_end ok h2
   obtain ⟨k, hk⟩ : ∃ k, opOf (nextS o e a) = k := ⟨_, rfl⟩
   have sW := seg_op ok (by omega) (by omega) hk
   rw [hk] at h1 h0 h7
   have hc : k = 1 ∨ k = 2 ∨ k = 3 ∨ k = 4 ∨ k = 5 ∨ k = 6 ∨ k = 7 := by omega
   rcases hc with rfl | rfl | rfl | rfl | rfl | rfl | rfl
   ·simp only [bodyS] at h1
    cases q1 : takeS o e 4 (a + 1) with
    | error z => rw [q1] at h1; cases h1
    | ok ta =>
     obtain ⟨u, b⟩ := ta
     rw [q1] at h1
     cases h1
     obtain ⟨s1, l1⟩ := seg_text ok q1
     exact ⟨(sW.trans s1).trans sE, ⟨⟨by simp [line0], by simp [line0]⟩, l1, ⟨by simp [line0], by simp [line0]⟩, ⟨by simp [line0], by simp [line0]⟩, .inl rfl, .inl rfl, .inl rfl, by simp [line0], by simp [line0], Fx.send _ l1⟩⟩
   ·simp only [bodyS] at h1
    cases q1 : nameRS o e 1 (a + 1) with
    | error z => rw [q1] at h1; cases h1
    | ok na =>
     obtain ⟨m, b⟩ := na
     rw [q1] at h1
     simp only [] at h1
     cases q2 : numberS o e 0 255 b with
     | error z => rw [q2] at h1; cases h1
     | ok nb =>
      obtain ⟨n, b2⟩ := nb
      rw [q2] at h1
      cases h1
      obtain ⟨s1, l1⟩ := seg_name ok q1
      obtain ⟨s2, l2, l3⟩ := seg_number ok q2
      exact ⟨((sW.trans s1).trans s2).trans sE, ⟨⟨by simp [line0], by simp [line0]⟩, by simp [line0], ⟨by simp only [line0]; omega, by simp only [line0]; omega⟩, ⟨by simp [line0], by simp [line0]⟩, .inr l1, .inl rfl, .inl rfl, by simp [line0], by simp [line0], Fx.set _ _ l1 l3⟩⟩
   ·simp only [bodyS] at h1
    cases q1 : nameRS o e 1 (a + 1) with
    | error z => rw [q1] at h1; cases h1
    | ok na =>
     obtain ⟨m, b⟩ := na
     rw [q1] at h1
     cases h1
     obtain ⟨s1, l1⟩ := seg_name ok q1
     exact ⟨(sW.trans s1).trans sE, ⟨⟨by simp [line0], by simp [line0]⟩, by simp [line0], ⟨by simp [line0], by simp [line0]⟩, ⟨by simp [line0], by simp [line0]⟩, .inr l1, .inl rfl, .inl rfl, by simp [line0], by simp [line0], Fx.inc _ l1⟩⟩
   ·simp only [bodyS] at h1
    cases q1 : nameRS o e 1 (a + 1) with
    | error z => rw [q1] at h1; cases h1
    | ok na =>
     obtain ⟨m, b⟩ := na
     rw [q1] at h1
     simp only [] at h1
     cases q2 : mustS o e 5 [60] b with
     | error z => rw [q2] at h1; cases h1
     | ok ub =>
      obtain ⟨u, b2⟩ := ub
      rw [q2] at h1
      simp only [] at h1
      cases q3 : numberS o e 0 255 b2 with
      | error z => rw [q3] at h1; cases h1
      | ok nb =>
       obtain ⟨n, b3⟩ := nb
       rw [q3] at h1
       simp only [] at h1
       cases q4 : leadsS o e b3 with
       | error z => rw [q4] at h1; cases h1
       | ok lb =>
        obtain ⟨l, b4⟩ := lb
        rw [q4] at h1
        cases h1
        obtain ⟨s1, l1⟩ := seg_name ok q1
        obtain ⟨s3, l2, l3⟩ := seg_number ok q3
        obtain ⟨s4, l4⟩ := seg_leads ok q4
        exact ⟨((((sW.trans s1).trans (seg_must ok (.inr rfl) q2)).trans s3).trans s4).trans sE, ⟨⟨by simp [line0], by simp [line0]⟩, by simp [line0], ⟨by simp only [line0]; omega, by simp only [line0]; omega⟩, ⟨by simp [line0], by simp [line0]⟩, .inr l1, .inr l4, .inl rfl, by simp [line0], by simp [line0], Fx.cond _ _ _ l1 l3 l4⟩⟩
   ·simp only [bodyS] at h1
    cases q1 : nameRS o e 1 (a + 1) with
    | error z => rw [q1] at h1; cases h1
    | ok na =>
     obtain ⟨m, b⟩ := na
     rw [q1] at h1
     cases h1
     obtain ⟨s1, l1⟩ := seg_name ok q1
     exact ⟨(sW.trans s1).trans sE, ⟨⟨by simp [line0], by simp [line0]⟩, by simp [line0], ⟨by simp [line0], by simp [line0]⟩, ⟨by simp [line0], by simp [line0]⟩, .inl rfl, .inr l1, .inl rfl, by simp [line0], by simp [line0], Fx.goto _ l1⟩⟩
   ·simp only [bodyS] at h1
    cases q1 : numberS o e 0 255 (a + 1) with
    | error z => rw [q1] at h1; cases h1
    | ok na =>
     obtain ⟨n, b⟩ := na
     rw [q1] at h1
     cases h1
     obtain ⟨s1, l2, l3⟩ := seg_number ok q1
     exact ⟨(sW.trans s1).trans sE, ⟨⟨by simp [line0], by simp [line0]⟩, by simp [line0], ⟨by simp only [line0]; omega, by simp only [line0]; omega⟩, ⟨by simp [line0], by simp [line0]⟩, .inl rfl, .inl rfl, .inl rfl, by simp [line0], by simp [line0], Fx.exit _ l3⟩⟩
   ·simp only [bodyS, armsS] at h1
    cases q1 : mustS o e 5 [123] (a + 1) with
    | error z => rw [q1] at h1; cases h1
    | ok ub =>
     obtain ⟨u, b⟩ := ub
     rw [q1] at h1
     simp only [] at h1
     cases q2 : takeS o e 6 b with
     | error z => rw [q2] at h1; cases h1
     | ok ta =>
      obtain ⟨u2, b2⟩ := ta
      rw [q2] at h1
      simp only [] at h1
      obtain ⟨A, wt, lt, rfl, s3, l1, l2, l3, l5⟩ := seg_arms ok 11 (line0 7) b2 _ _ rfl h1
      have hw : 0 ≤ wt ∧ wt ≤ 1000 := by
       by_cases hz : lt = []
       ·rw [l2 hz]; exact ⟨by simp [line0], by simp [line0]⟩
       ·have := l3 hz; omega
      refine ⟨?_, ⟨⟨by simp [line0], by simp [line0]⟩, by simp [line0], ⟨by simp [line0], by simp [line0]⟩, hw, .inl rfl, .inl rfl, ?_, by simpa [line0] using l1, hfew, Fx.expect A wt lt l1 (by simpa [line0] using hfew) (fun q => (l2 q).trans rfl) l3 (l5.elim (fun q => absurd rfl q) id)⟩⟩
      ·have e1 : rowsTL { line0 7 with arms := (line0 7).arms ++ A, wait := wt, late := lt } = [[tkW expectW, tkS openW]] ++ A.map toksArm ++ lateTL { line0 7 with arms := (line0 7).arms ++ A, wait := wt, late := lt } ++ [[tkS shutW]] := by
        unfold rowsTL
        simp [line0]
       rw [e1]
       have := (((sW.trans (seg_must ok (.inr rfl) q1)).trans (seg_end ok q2)).trans s3).trans sE
       have e2 : ended ([[tkW expectW, tkS openW]] ++ A.map toksArm ++ lateTL { line0 7 with arms := (line0 7).arms ++ A, wait := wt, late := lt } ++ [[tkS shutW]]) = [tkW expectW] ++ [tkS openW] ++ [tkE] ++ (ended (A.map toksArm ++ lateTL { line0 7 with arms := (line0 7).arms ++ A, wait := wt, late := lt }) ++ [tkS shutW]) ++ [tkE] := by
        simp [ended, List.append_assoc]
       rw [e2]
       exact this
      ·by_cases hz : lt = []
       ·exact .inl hz
       ·exact .inr (l3 hz).1
theorem seg_lines : ∀ (f r a : Nat) (l l2 : List LineT) (r2 a2 : Nat), linesL o e f r a l = .ok (l2, r2, a2) → ∃ m, l2 = l ++ m ∧ Seg o a a2 (ended (m.flatMap rowsTL)) ∧ ∀ x ∈ m, x.good
 | 0, _, _, _, _, _, _, h => by cases h
 | f + 1, r, a, l, l2, r2, a2, h => by
  rw [linesL] at h
  cases h1 : lineS o e r a with
  | error z => rw [h1] at h; cases h
  | ok ya =>
   obtain ⟨x, a1⟩ := ya
   rw [h1] at h
   simp only [] at h
   obtain ⟨s1, g1⟩ := seg_line ok h1
   split at h
   ·cases h
    exact ⟨[x], rfl, by rw [List.flatMap_cons, List.flatMap_nil, List.append_nil]; exact s1, by simpa using g1⟩
   ·obtain ⟨m, rfl, s2, g2⟩ := seg_lines f _ _ _ _ _ _ h
    refine ⟨x :: m, by simp, ?_, fun y hy => ?_⟩
    ·rw [List.flatMap_cons, ended_append]; exact s1.trans s2
    ·rcases List.mem_cons.1 hy with rfl | q
     ·exact g1
     ·exact g2 y q
def BlockT.good (b : BlockT) : Prop := nameS b.name = true ∧ ∀ x ∈ b.lines, x.good
theorem seg_block {r a r' a' : Nat} {b : BlockT} (h : blockS o e r a = .ok (b, r', a')) : Seg o a a' (ended (rowsTB b)) ∧ b.good := by
 unfold blockS at h
 cases h1 : nameRS o e 2 a with
 | error z => rw [h1] at h; cases h
 | ok ma =>
  obtain ⟨m, a1⟩ := ma
  rw [h1] at h
  simp only [] at h
  cases h2 : takeS o e 6 a1 with
  | error z => rw [h2] at h; cases h
  | ok ta =>
   obtain ⟨t, a2⟩ := ta
   rw [h2] at h
   simp only [] at h
   cases h3 : linesL o e 130 r a2 [] with
   | error z => rw [h3] at h; cases h
   | ok la =>
    obtain ⟨l, r3, a3⟩ := la
    rw [h3] at h
    cases h
    obtain ⟨s1, g1⟩ := seg_head ok h1
    obtain ⟨q, rfl, s3, g3⟩ := seg_lines ok _ _ _ _ _ _ _ h3
    exact ⟨(s1.trans (seg_end ok h2)).trans s3, g1, g3⟩
theorem seg_blocks : ∀ (f r a : Nat) (bl res : List BlockT), a ≤ o.length → blocksL o e f r a bl = .ok res → ∃ m, res = bl ++ m ∧ Seg o a o.length (ended (m.flatMap rowsTB)) ∧ ∀ b ∈ m, b.good
 | 0, _, _, _, _, _, h => by cases h
 | f + 1, r, a, bl, res, ha, h => by
  rcases blocksL_inv h with ⟨h1, h2, rfl⟩ | ⟨b, r', a', f', hf, h1, h2, h3, h4⟩
  ·obtain rfl : a = o.length := by omega
   exact ⟨[], by simp, ⟨[], by simp, rfl⟩, by simp⟩
  ·obtain rfl : f = f' := by omega
   obtain ⟨s1, g1⟩ := seg_block ok h3
   obtain ⟨m, rfl, s2, g2⟩ := seg_blocks f _ _ _ _ (blockS_ok h3).1 h4
   refine ⟨b :: m, by simp, ?_, fun y hy => ?_⟩
   ·rw [List.flatMap_cons, ended_append]; exact s1.trans s2
   ·rcases List.mem_cons.1 hy with rfl | q
    ·exact g1
    ·exact g2 y q
end
theorem progS_toks {T : List UInt8} {t : List BlockT} (h : progS T = .ok t) : ∃ o, lexS T = .ok o ∧ blocksL o T.length 34 0 0 [] = .ok t ∧ sameT o (ended (t.flatMap rowsTB)) ∧ ∀ b ∈ t, b.good := by
 unfold progS at h
 cases e1 : lexS T with
 | error z => rw [e1] at h; cases h
 | ok o =>
  rw [e1] at h
  obtain ⟨_, hlx⟩ := lexS_lx e1
  have ok := shaped_all (lx_shaped hlx)
  obtain ⟨m, rfl, ⟨m2, h1, h2⟩, g⟩ := seg_blocks ok 34 0 0 [] t (Nat.zero_le _) h
  rw [List.drop_zero, List.drop_length, List.append_nil] at h1
  rw [← h1] at h2
  exact ⟨o, rfl, h, by simpa using h2, by simpa using g⟩
def jw : Bool → List Tok → List UInt8
 | _, [] => []
 | pv, t :: r => (if pv then [32] else []) ++ (t.word ++ jw true r)
theorem jw_true : ∀ r : List Tok, jw true r = (r.map Tok.word).flatMap (fun w => 32 :: w)
 | [] => rfl
 | t :: r => by rw [jw, jw_true r]; simp
theorem joinK_flat (w : List UInt8) : ∀ ws : List (List UInt8), joinK [32] (w :: ws) = w ++ ws.flatMap (fun w => 32 :: w)
 | [] => by simp [joinK]
 | y :: ws => by rw [joinK, joinK_flat y ws]; simp
theorem jw_join : ∀ r : List Tok, jw false r = Lib.join (r.map Tok.word) [32]
 | [] => rfl
 | t :: r => by rw [← joinK_eq, List.map_cons, joinK_flat, jw, jw_true]; simp
theorem writF_row : ∀ (r : List Tok) (pv : Bool) (rest : List Tok), (∀ t ∈ r, t.kind ≠ 6) → writF pv (r ++ tkE :: rest) = jw pv r ++ ((if rest.isEmpty then [] else [10]) ++ writF false rest)
 | [], pv, rest, _ => by rw [List.nil_append, writF, if_pos (show tkE.kind = 6 from rfl)]; rfl
 | t :: r, pv, rest, h => by
  rw [List.cons_append, writF, if_neg (h t (List.mem_cons_self ..)), writF_row r true rest fun u hu => h u (List.mem_cons_of_mem _ hu), jw]
  simp [List.append_assoc]
theorem writF_rows : ∀ (rs : List (List Tok)) (r : List Tok), (∀ q ∈ r :: rs, ∀ t ∈ q, t.kind ≠ 6) → writF false (ended (r :: rs)) = jw false r ++ (rs.map (jw false)).flatMap (fun w => 10 :: w)
 | [], r, h => by
  have := writF_row r false [] (h r (List.mem_cons_self ..))
  rw [ended, List.flatMap_cons, List.flatMap_nil, List.append_nil, this]
  simp [writF]
 | q :: rs, r, h => by
  have ih := writF_rows rs q fun z hz => h z (List.mem_cons_of_mem _ hz)
  have h1 := writF_row r false (ended (q :: rs)) (h r (List.mem_cons_self ..))
  have e1 : ended (r :: q :: rs) = r ++ tkE :: ended (q :: rs) := by rw [ended, List.flatMap_cons]; simp [ended]
  have e2 : (ended (q :: rs)).isEmpty = false := by rw [ended, List.flatMap_cons]; simp
  rw [e1, h1, ih, e2, List.map_cons, List.flatMap_cons]
  simp
theorem wr_flat : ∀ (ws : List (List (List UInt8))) (o : List UInt8), o ≠ [] → wr o ws = o ++ (ws.map (Lib.join · [32])).flatMap (fun w => 10 :: w)
 | [], o, _ => by simp [wr]
 | w :: ws, o, h => by
  have e1 : rowS o w = o ++ 10 :: Lib.join w [32] := by unfold rowS; rw [if_neg h]; simp
  have := wr_flat ws (rowS o w) (by rw [e1]; simp)
  rw [show wr o (w :: ws) = wr (rowS o w) ws from rfl, this, e1]
  simp
theorem word_W (s : List UInt8) : (tkW s).word = s := rfl
theorem word_T (s : List UInt8) : (tkT s).word = quoteS s := rfl
theorem word_S (s : List UInt8) : (tkS s).word = s := rfl
theorem word_N {n : Int} (h0 : 0 ≤ n) (h1 : n < 10000) : (tkN n.toNat).word = Lib.itoa n := by
 have e : (tkN n.toNat).word = dig4 n.toNat := rfl
 rw [e, ← dig4_eq (by omega)]
 unfold Lib.itoa
 rw [if_neg (by omega)]
theorem arm_join {a : ArmT} (h : a.good) : jw false (toksArm a) = Lib.join (armRowS a) [32] := by
 obtain ⟨h1, _⟩ := h
 obtain ⟨hk, _⟩ := treeS_ok h1
 have hp : patS a.kind a.text = patWord a.kind ++ quoteS a.text := by unfold patS; rw [if_pos h1]
 unfold toksArm armRowS toksPat
 rw [hp, ← joinK_eq]
 rcases hk with q | q | q <;> rw [q] <;> simp [jw, joinK, patWord, word_W, word_T, globB, reB]
theorem late_join {x : LineT} (h : x.good) : (lateTL x).map (jw false) = (lateRowS x).map (Lib.join · [32]) := by
 unfold lateTL lateRowS
 split
 ·rfl
 ·have := word_N h.wait.1 (by have := h.wait.2; omega)
  simp only [List.map_cons, List.map_nil, jw_join, word_W, this]
theorem line_join {x : LineT} (h : x.good) : (rowsTL x).map (jw false) = (rowsL x).map (Lib.join · [32]) := by
  have hn := word_N h.n.1 (by have := h.n.2; omega)
  have hop := h.op
  unfold rowsTL rowsL
  repeat' split
  all_goals first
    | rfl
    | (simp only [List.map_cons, List.map_nil, jw_join, word_W, word_T, word_S, hn]; done)
    | (simp only [List.map_append, late_join h, List.map_map]
       have e : x.arms.map ((jw false) ∘ toksArm) = x.arms.map ((fun w => Lib.join w [32]) ∘ armRowS) := List.map_congr_left fun a ha => arm_join (h.arms a ha)
       rw [e]
       simp only [List.map_cons, List.map_nil, jw_join, word_W, word_S])
theorem lines_join : ∀ {l : List LineT}, (∀ x ∈ l, x.good) → (l.flatMap rowsTL).map (jw false) = (l.flatMap rowsL).map (Lib.join · [32])
 | [], _ => rfl
 | x :: l, h => by
  rw [List.flatMap_cons, List.flatMap_cons, List.map_append, List.map_append, line_join (h x (List.mem_cons_self ..)), lines_join fun y hy => h y (List.mem_cons_of_mem _ hy)]
theorem block_join {b : BlockT} (h : b.good) : (rowsTB b).map (jw false) = (rowsB b).map (Lib.join · [32]) := by
 unfold rowsTB rowsB
 rw [List.map_cons, List.map_cons, lines_join h.2, jw_join]
 rfl
theorem blocks_join : ∀ {l : List BlockT}, (∀ b ∈ l, b.good) → (l.flatMap rowsTB).map (jw false) = (l.flatMap rowsB).map (Lib.join · [32])
 | [], _ => rfl
 | x :: l, h => by
  rw [List.flatMap_cons, List.flatMap_cons, List.map_append, List.map_append, block_join (h x (List.mem_cons_self ..)), blocks_join fun y hy => h y (List.mem_cons_of_mem _ hy)]
theorem kinds_line {x : LineT} : ∀ q ∈ rowsTL x, ∀ t ∈ q, t.kind ≠ 6 := by
  have harm : ∀ a : ArmT, ∀ t ∈ toksArm a, t.kind ≠ 6 := by
    intro a t ht
    unfold toksArm toksPat at ht
    simp only [List.mem_append, List.mem_cons, List.not_mem_nil, or_false] at ht
    rcases ht with (ht | rfl) | rfl | rfl
    · split at ht
      · simp only [List.mem_cons, List.not_mem_nil, or_false] at ht; subst ht; decide
      · split at ht
        · simp only [List.mem_cons, List.not_mem_nil, or_false] at ht; subst ht; decide
        · cases ht
    · exact (by decide : (4 : Nat) ≠ 6)
    · decide
    · exact (by decide : (1 : Nat) ≠ 6)
  have hlate : ∀ q ∈ lateTL x, ∀ t ∈ q, t.kind ≠ 6 := by
    intro q hq t ht
    unfold lateTL at hq
    split at hq
    · cases hq
    · simp only [List.mem_cons, List.not_mem_nil, or_false] at hq
      subst hq
      simp only [List.mem_cons, List.not_mem_nil, or_false] at ht
      rcases ht with rfl | rfl | rfl | rfl <;> simp [tkW, tkN]
  intro q hq t ht
  unfold rowsTL at hq
  repeat' split at hq
  all_goals first
    | (simp only [List.mem_cons, List.not_mem_nil, or_false] at hq
       subst hq
       simp only [List.mem_cons, List.not_mem_nil, or_false] at ht
       rcases ht with rfl | rfl | rfl | rfl | rfl | rfl <;> simp [tkW, tkN, tkT, tkS]; done)
    | (simp only [List.mem_cons, List.not_mem_nil, or_false] at hq
       subst hq
       simp only [List.mem_cons, List.not_mem_nil, or_false] at ht
       rcases ht with rfl | rfl | rfl <;> simp [tkW, tkN, tkT, tkS]; done)
    | (simp only [List.mem_cons, List.not_mem_nil, or_false] at hq
       subst hq
       simp only [List.mem_cons, List.not_mem_nil, or_false] at ht
       rcases ht with rfl | rfl <;> simp [tkW, tkN, tkT, tkS]; done)
    | (simp only [List.mem_append, List.mem_cons, List.not_mem_nil, or_false, List.mem_map] at hq
       rcases hq with ((rfl | ⟨a, _, rfl⟩) | hq) | rfl
       · simp only [List.mem_cons, List.not_mem_nil, or_false] at ht
         rcases ht with rfl | rfl <;> simp [tkW, tkS]
       · exact harm a t ht
       · exact hlate q hq t ht
       · simp only [List.mem_cons, List.not_mem_nil, or_false] at ht
         subst ht; simp [tkS])
    | (cases hq)
theorem kinds_blocks {bl : List BlockT} : ∀ q ∈ bl.flatMap rowsTB, ∀ t ∈ q, t.kind ≠ 6 := by
 intro q hq t ht
 obtain ⟨b, _, hb⟩ := List.mem_flatMap.1 hq
 unfold rowsTB at hb
 rcases List.mem_cons.1 hb with rfl | hb
 ·simp only [List.mem_cons, List.not_mem_nil, or_false] at ht; subst ht; simp [tkH]
 ·obtain ⟨x, _, hx⟩ := List.mem_flatMap.1 hb
  exact kinds_line q hx t ht
theorem text_writ {t : List BlockT} (hne : t ≠ []) (g : ∀ b ∈ t, b.good) : writF false (ended (t.flatMap rowsTB)) = textS t := by
 have hj := blocks_join g
 cases t with
 | nil => exact absurd rfl hne
 | cons b t =>
  have hk := kinds_blocks (bl := b :: t)
  have e1 : (b :: t).flatMap rowsTB = [tkH b.name] :: (b.lines.flatMap rowsTL ++ t.flatMap rowsTB) := by rw [List.flatMap_cons, rowsTB]; rfl
  have e2 : (b :: t).flatMap rowsB = [b.name ++ [58]] :: (b.lines.flatMap rowsL ++ t.flatMap rowsB) := by rw [List.flatMap_cons, rowsB]; rfl
  rw [e1] at hk ⊢
  rw [e1, e2, List.map_cons, List.map_cons] at hj
  injection hj with hj1 hj2
  rw [writF_rows _ _ hk, hj1, hj2]
  unfold textS
  rw [e2]
  have e3 : rowS [] [b.name ++ [58]] = Lib.join [b.name ++ [58]] [32] := by unfold rowS; simp
  rw [show wr [] ([b.name ++ [58]] :: (b.lines.flatMap rowsL ++ t.flatMap rowsB)) = wr (rowS [] [b.name ++ [58]]) (b.lines.flatMap rowsL ++ t.flatMap rowsB) from rfl, e3]
  rw [wr_flat _ _ (by rw [Lib.join_one]; simp)]
end Go.Mini
