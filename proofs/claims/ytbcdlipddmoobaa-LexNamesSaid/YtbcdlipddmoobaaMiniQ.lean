/-
  MINI, part Q: small laws for walks.
-/
import Derived.Test.YtbcdlipddmoobaaMiniO
import Derived.IntWalk
import Derived.KernelRfl
namespace Go.Mini
set_option linter.unusedSimpArgs false
open Go.Lib (strCells strCells_length strCells_oneCell)

def NoExt : FuncId → List Value → Heap → Value → Heap → Prop := fun _ _ _ _ _ => False
theorem noExt_ok (P : Program) (S : Start) : ExtOk P S NoExt := fun _ _ _ _ _ h => h.elim

/-- The heap has grown, and what there was is as it was. -/
def Heap.more (h h' : Heap) : Prop := h.next ≤ h'.next ∧ ∀ j, j < h.next → h'.get j = h.get j
theorem Heap.more_refl (h : Heap) : h.more h := ⟨Nat.le_refl _, fun _ _ => rfl⟩
theorem Heap.more_alloc (h : Heap) (o : AObj) : h.more (h.alloc o) := ⟨Nat.le_succ _, fun _ hj => Heap.get_alloc_old h o hj⟩
theorem Heap.more.trans {a b c : Heap} (h : a.more b) (k : b.more c) : a.more c := ⟨Nat.le_trans h.1 k.1, fun j hj => by rw [k.2 j (by have := h.1; omega), h.2 j hj]⟩
theorem Heap.more.get {a b : Heap} (h : a.more b) {i : Nat} {o : AObj} (e : a.get i = some o) : b.get i = some o := by rw [h.2 i (Heap.lt_of_get e), e]
theorem Heap.more_set_new {h h1 : Heap} (hm : h.more h1) {i : Nat} (hi : h.next ≤ i) (o : AObj) : h.more (h1.set i o) := by
  refine ⟨by simpa using hm.1, fun j hj => ?_⟩
  rw [← hm.2 j hj]
  unfold Heap.set Heap.get
  split
  · simp only
    split
    · rw [List.getElem?_set_ne (by omega)]
    · rfl
  · rfl
/-- The heap has grown; of what there was at most one object is another. -/
def Heap.but (h : Heap) (i : Nat) (h' : Heap) : Prop := h.next ≤ h'.next ∧ ∀ j, j < h.next → j ≠ i → h'.get j = h.get j
theorem Heap.more.but {a b : Heap} (h : a.more b) (i : Nat) : a.but i b := ⟨h.1, fun j hj _ => h.2 j hj⟩
theorem Heap.but_set (h : Heap) (i : Nat) (o : AObj) (hi : (h.get i).isSome) : h.but i (h.set i o) := ⟨by simp, fun j _ hne => by rw [Heap.get_set h i o j hi, if_neg hne]⟩
theorem Heap.but.trans {a b c : Heap} {i : Nat} (h : a.but i b) (k : b.but i c) : a.but i c := ⟨Nat.le_trans h.1 k.1, fun j hj hne => by rw [k.2 j (by have := h.1; omega) hne, h.2 j hj hne]⟩

theorem Heap.row_of {h : Heap} {i : Nat} {r : Row} (e : h.get i = some (.row r)) : h.row i = some r := Heap.row_some.2 e
theorem Heap.ld_of {h : Heap} {i k : Nat} {r : Row} {v : Value} (e : h.get i = some (.row r)) (hv : r.vs[k]? = some v) : h.ld i k = some v := by
  unfold Heap.ld; rw [Heap.row_of e]; simpa using hv
theorem Heap.lds_of {h : Heap} {i k n : Nat} {r : Row} (e : h.get i = some (.row r)) (hn : k + n ≤ r.vs.length) : h.lds i k n = some ((r.vs.drop k).take n) := by
  unfold Heap.lds; rw [Heap.row_of e]; simp [hn]
theorem Heap.sts_of {h : Heap} {i k : Nat} {r : Row} {vs : List Value} (e : h.get i = some (.row r)) (hn : k + vs.length ≤ r.vs.length) (ho : r.outer = false) (hr : r.ro = false) :
    h.sts i k vs = some (h.set i (.row { r with vs := splice r.vs k vs })) := by
  unfold Heap.sts; rw [Heap.row_of e]; simp [hn, ho, hr]
theorem Heap.get_set_self {h : Heap} {i : Nat} {o p : AObj} (e : h.get i = some p) : (h.set i o).get i = some o := by
  rw [Heap.get_set h i o i (by simp [e]), if_pos rfl]
theorem Heap.get_set_ne {h : Heap} {i j : Nat} {o : AObj} (hne : j ≠ i) : (h.set i o).get j = h.get j := by
  unfold Heap.set Heap.get
  split
  · simp only
    split
    · rw [List.getElem?_set_ne (by omega)]
    · rfl
  · rfl
theorem Heap.set_same {h : Heap} {i : Nat} {o : AObj} (e : h.get i = some o) : h.set i o = h := by
  obtain ⟨n, l⟩ := h
  unfold Heap.get at e
  unfold Heap.set
  split
  · simp only at e
    rename_i q
    rw [if_pos q] at e
    obtain ⟨q1, q2⟩ := List.getElem?_eq_some_iff.1 e
    simp only [Heap.mk.injEq, true_and]
    rw [← q2]; exact List.set_getElem_self q1
  · rfl
theorem Heap.set_alloc (h : Heap) (o p : AObj) : (h.alloc o).set h.next p = h.alloc p := by
  unfold Heap.set Heap.alloc
  simp
theorem Heap.set_set (h : Heap) (i : Nat) (o p : AObj) : (h.set i o).set i p = h.set i p := by
  unfold Heap.set
  by_cases q : i < h.next <;> simp [q]

theorem abin_ptr_nil {P : Program} {t e : TypeId} (hu : P.underlying t = some (.pointer e)) (a : Option Addr) : abin P .eql t (.pointer a) (.pointer none) = some (.bool a.isNone) := by
  cases a <;> simp [abin, plainEq, eqOp, aeq, hu, aeq0]
theorem abin_ptr_nil' {P : Program} {t e : TypeId} (hu : P.underlying t = some (.pointer e)) (a : Option Addr) : abin P .neq t (.pointer a) (.pointer none) = some (.bool a.isSome) := by
  cases a <;> simp [abin, plainEq, eqOp, aeq, hu, aeq0]
theorem abin_int {P : Program} (op : BinOp) (t : TypeId) (k k' : IntKind) (a b : Int) : abin P op t (.int k a) (.int k' b) = abinI op k a k' b := rfl
theorem abin_str {P : Program} (op : BinOp) (t : TypeId) (a b : ByteArray) : abin P op t (.string a) (.string b) = abinS op a b := rfl
theorem ai_add {k : IntKind} {a b : Int} : abinI .add k a k b = some (.int k (k.wrap (a + b))) := by simp [abinI]
theorem ai_sub {k : IntKind} {a b : Int} : abinI .sub k a k b = some (.int k (k.wrap (a - b))) := by simp [abinI]
theorem ai_rem {k : IntKind} {a b : Int} (hb : b ≠ 0) : abinI .rem k a k b = some (.int k (a.tmod b)) := by simp [abinI, hb]
theorem ai_eql {k : IntKind} {a b : Int} : abinI .eql k a k b = some (.bool (a == b)) := by simp [abinI]
theorem ai_neq {k : IntKind} {a b : Int} : abinI .neq k a k b = some (.bool (a != b)) := by simp [abinI]
theorem ai_lss {k : IntKind} {a b : Int} : abinI .lss k a k b = some (.bool (decide (a < b))) := by simp [abinI]
theorem ai_leq {k : IntKind} {a b : Int} : abinI .leq k a k b = some (.bool (decide (a ≤ b))) := by simp [abinI]
theorem ai_gtr {k : IntKind} {a b : Int} : abinI .gtr k a k b = some (.bool (decide (b < a))) := by simp [abinI]
theorem ai_geq {k : IntKind} {a b : Int} : abinI .geq k a k b = some (.bool (decide (b ≤ a))) := by simp [abinI]
theorem wrap_in {n : Int} (h : -9223372036854775808 ≤ n) (h' : n ≤ 9223372036854775807) : IntKind.i64.wrap n = n := by rw [IntKind.wrap_i64]; omega

theorem info_some {P : Program} {t s : Nat} (h : (P.info? t).map (·.size) = some s) : ∃ i, P.info? t = some i ∧ i.size = s := by
  cases e : P.info? t <;> simp [e] at h
  exact ⟨_, rfl, h⟩
theorem aload_cell {P : Program} {h : Heap} {t : TypeId} {i k : Nat} (ha : Program.agg P t = some false) : aload P h t (.pointer (some ⟨i, k, none⟩)) = h.ld i k := by
  unfold aload; simp [ha]
theorem aload_agg {P : Program} {h : Heap} {t : TypeId} {i k s : Nat} (ha : Program.agg P t = some true) (hs : (P.info? t).map (·.size) = some s) : aload P h t (.pointer (some ⟨i, k, none⟩)) = (h.lds i k s).map fun l => .agg l.toArray := by
  obtain ⟨x, h1, h2⟩ := info_some hs
  unfold aload; simp [ha, h1, h2]
theorem astore_cell {P : Program} {h : Heap} {t : TypeId} {i k : Nat} {v : Value} (hs : (P.info? t).map (·.size) = some 1) (hv : one v = true) : astore P h t (.pointer (some ⟨i, k, none⟩)) v = h.sts i k [v] := by
  obtain ⟨x, h1, h2⟩ := info_some hs
  have hc : v.cells = #[v] := by cases v <;> first | rfl | cases hv
  unfold astore; simp [h1, h2, hc, hv]
theorem astore_agg {P : Program} {h : Heap} {t : TypeId} {i k s : Nat} {cs : List Value} (hs : (P.info? t).map (·.size) = some s) (hl : cs.length = s) (hv : cs.all one = true) : astore P h t (.pointer (some ⟨i, k, none⟩)) (.agg cs.toArray) = h.sts i k cs := by
  obtain ⟨x, h1, h2⟩ := info_some hs
  have hv' : cs.toArray.all one = true := by simpa using hv
  have hc : (Value.agg cs.toArray).cells.size = x.size ∧ (Value.agg cs.toArray).cells.all one = true := ⟨by simp [Value.cells, hl, h2], hv'⟩
  unfold astore; simp only [h1]; rw [if_pos hc]; rfl
theorem afieldAddr_eq {P : Program} {t : TypeId} {f o s : Nat} {fs : Array Field} (hu : P.underlying t = some (.struct fs)) (hf : (fs[f]?).map (·.offset) = some o) (hs : ((fs[f]?).bind fun fd => (P.info? fd.type).map (·.size)) = some (s + 1)) (i k : Nat) :
    afieldAddr P t (.pointer (some ⟨i, k, none⟩)) f = some (.pointer (some ⟨i, k + o, none⟩)) := by
  cases e : fs[f]? with
  | none => simp [e] at hf
  | some fd =>
    simp only [e, Option.map_some, Option.some.injEq, Option.bind_some] at hf hs
    obtain ⟨ti, h1, h2⟩ := info_some hs
    unfold afieldAddr; simp [hu, e, h1, h2, hf]
theorem aindexAddr_slice {P : Program} {t e : TypeId} {s : Nat} (hu : P.underlying t = some (.slice e)) (hs : (P.info? e).map (·.size) = some s) {i k len cap : Nat} {sp : Option Nat} {kd : IntKind} {j : Int} (h0 : 0 ≤ j) (h1 : j < len) :
    aindexAddr P t (.slice (some ⟨i, k, sp⟩) len cap) (.int kd j) = some (.pointer (some ⟨i, k + j.toNat * s, none⟩)) := by
  obtain ⟨x, h2, h3⟩ := info_some hs
  unfold aindexAddr; simp [hu, h2, h3, h0, h1]
theorem aindexAddr_array {P : Program} {t e : TypeId} {s n : Nat} (hu : P.underlying t = some (.array n e)) (hs : (P.info? e).map (·.size) = some s) {i k : Nat} {kd : IntKind} {j : Int} (h0 : 0 ≤ j) (h1 : j < n) :
    aindexAddr P t (.pointer (some ⟨i, k, none⟩)) (.int kd j) = some (.pointer (some ⟨i, k + j.toNat * s, none⟩)) := by
  obtain ⟨x, h2, h3⟩ := info_some hs
  unfold aindexAddr; simp [hu, h2, h3, h0, h1]
theorem abound_int {kd : IntKind} {j : Int} {d y : Nat} (h0 : 0 ≤ j) (h1 : j ≤ y) : abound (some (.int kd j)) d y = some j.toNat := by unfold abound; simp [h0, h1]
theorem aslice_str {P : Program} {h : Heap} {t : TypeId} (hu : P.underlying t = some .string) {s : ByteArray} {kd : IntKind} {j : Int} (h0 : 0 ≤ j) (h1 : j ≤ s.size) :
    aslice P h t (.string s) (some (.int kd j)) none none = some (.string (s.extract j.toNat s.size), h) := by
  unfold aslice; simp only [hu]; simp [abound]; simp [h0, h1]
theorem aslice_strhi {P : Program} {h : Heap} {t : TypeId} (hu : P.underlying t = some .string) {s : ByteArray} {kd : IntKind} {j : Int} (h0 : 0 ≤ j) (h1 : j ≤ s.size) :
    aslice P h t (.string s) none (some (.int kd j)) none = some (.string (s.extract 0 j.toNat), h) := by
  unfold aslice; simp only [hu]; simp [abound]; simp [h0, h1]
theorem aslice_array {P : Program} {h : Heap} {t e : TypeId} {n : Nat} (hu : P.underlying t = some (.array n e)) (hs : (P.info? e).map (·.size) = some 1) {i k : Nat} {kd kd' : IntKind} {lo hi : Int} (h0 : 0 ≤ lo) (h1 : lo ≤ hi) (h2 : hi ≤ n) :
    aslice P h t (.pointer (some ⟨i, k, none⟩)) (some (.int kd lo)) (some (.int kd' hi)) none = some (.slice (some ⟨i, if n = lo.toNat then k else k + lo.toNat, some 0⟩) (hi.toNat - lo.toNat) (n - lo.toNat), h) := by
  obtain ⟨x, h3, h4⟩ := info_some hs
  unfold aslice; simp only [hu, h3]
  simp [abound_int (kd := kd') (d := n) (show (0:Int) ≤ hi by omega) h2, abound_int (kd := kd) (d := 0) (y := hi.toNat) h0 (by omega), h4]
theorem alen_str {P : Program} {h : Heap} {t : TypeId} (hu : P.underlying t = some .string) (s : ByteArray) : alen P h t (.string s) = some (.int .i64 (s.size : Nat)) := by unfold alen; simp [hu]
theorem alen_slice {P : Program} {h : Heap} {t e : TypeId} (hu : P.underlying t = some (.slice e)) (a : Option Addr) (l c : Nat) : alen P h t (.slice a l c) = some (.int .i64 (l : Nat)) := by unfold alen; simp [hu]
theorem amm_two {k k' : IntKind} (mx : Bool) (x y : Int) : amm mx [.int k x, .int k' y] = some (.int k (if mx then max x y else min x y)) := by
  cases mx
  · simp only [amm, ammOf, Bool.false_eq_true, if_false, Option.some.injEq, Value.int.injEq, true_and]; split <;> omega
  · simp only [amm, ammOf, if_true, Option.some.injEq, Value.int.injEq, true_and]; split <;> omega
end Go.Mini
