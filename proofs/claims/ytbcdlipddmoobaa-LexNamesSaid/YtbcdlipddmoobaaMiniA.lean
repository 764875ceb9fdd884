/-
  MINI, part A: abstract values, the abstract heap, and what it is for an abstract heap to tell of a world of the model.
-/
import Derived.WalkKit
import Derived.Recover
namespace Go.Mini

/-- Where an abstract block lies in the world: its block, the shift of its cells, how many elements more there is room for behind what is known. -/
structure Ren where
  blk : Nat → Nat
  sh : Nat → Nat
  ext : Nat → Nat

mutual
def ren (m : Ren) : Value → Value
  | .pointer (some a) => .pointer (some ⟨m.blk a.block, a.off + m.sh a.block, none⟩)
  | .slice (some a) l c => .slice (some ⟨m.blk a.block, a.off + m.sh a.block, none⟩) l (if a.spot.isSome then c else c + m.ext a.block)
  | .map (some r) => .map (some (m.blk r))
  | .func fn x y => .func fn (renA m x) (renA m y)
  | .iface t v => .iface t (ren m v)
  | .agg cs => .agg (renA m cs)
  | .tuple cs => .tuple (renA m cs)
  | .bool b => .bool b
  | .int k n => .int k n
  | .float k n => .float k n
  | .complex k a b => .complex k a b
  | .string s => .string s
  | .pointer none => .pointer none
  | .slice none l c => .slice none l c
  | .map none => .map none
  | .chan r => .chan r
  | .nilFunc => .nilFunc
  | .nilIface => .nilIface
def renA (m : Ren) : Array Value → Array Value
  | ⟨l⟩ => ⟨renL m l⟩
def renL (m : Ren) : List Value → List Value
  | [] => []
  | v :: l => ren m v :: renL m l
end

mutual
/-- All blocks that a value names are below n. -/
def sc (n : Nat) : Value → Prop
  | .pointer (some a) => a.block < n
  | .slice (some a) _ _ => a.block < n
  | .map (some r) => r < n
  | .func _ x y => scA n x ∧ scA n y
  | .iface _ v => sc n v
  | .agg cs => scA n cs
  | .tuple cs => scA n cs
  | _ => True
def scA (n : Nat) : Array Value → Prop
  | ⟨l⟩ => scL n l
def scL (n : Nat) : List Value → Prop
  | [] => True
  | v :: l => sc n v ∧ scL n l
end

mutual
/-- It names no block at all. -/
def flat : Value → Bool
  | .pointer (some _) | .slice (some _) _ _ | .map (some _) => false
  | .func _ x y => flatA x && flatA y
  | .iface _ v => flat v
  | .agg cs => flatA cs
  | .tuple cs => flatA cs
  | _ => true
def flatA : Array Value → Bool
  | ⟨l⟩ => flatL l
def flatL : List Value → Bool
  | [] => true
  | v :: l => flat v && flatL l
end

theorem renL_map (m : Ren) : ∀ l, renL m l = l.map (ren m)
  | [] => rfl
  | v :: l => by simp [renL, renL_map m l]
theorem renA_map (m : Ren) (a : Array Value) : renA m a = a.map (ren m) := by
  cases a with | mk l => simp [renA, renL_map]
theorem scL_all (n : Nat) : ∀ l, scL n l ↔ ∀ v ∈ l, sc n v
  | [] => by simp [scL]
  | v :: l => by simp [scL, scL_all n l]
theorem scA_all (n : Nat) (a : Array Value) : scA n a ↔ ∀ v ∈ a, sc n v := by
  cases a with | mk l => simp [scA, scL_all]
theorem flatL_all : ∀ l, flatL l = true ↔ ∀ v ∈ l, flat v = true
  | [] => by simp [flatL]
  | v :: l => by simp [flatL, flatL_all l]
theorem flatA_all (a : Array Value) : flatA a = true ↔ ∀ v ∈ a, flat v = true := by
  cases a with | mk l => simp [flatA, flatL_all]

def Ren.agree (n : Nat) (m m' : Ren) : Prop := ∀ i, i < n → m.blk i = m'.blk i ∧ m.sh i = m'.sh i ∧ m.ext i = m'.ext i
theorem Ren.agree_refl (n : Nat) (m : Ren) : m.agree n m := fun _ _ => ⟨rfl, rfl, rfl⟩
theorem Ren.agree.trans {n : Nat} {a b c : Ren} (h : a.agree n b) (h' : b.agree n c) : a.agree n c :=
  fun i hi => ⟨(h i hi).1.trans (h' i hi).1, (h i hi).2.1.trans (h' i hi).2.1, (h i hi).2.2.trans (h' i hi).2.2⟩
theorem Ren.agree.mono {n k : Nat} {a b : Ren} (h : a.agree n b) (hk : k ≤ n) : a.agree k b := fun i hi => h i (by omega)

mutual
theorem ren_congr {n : Nat} {m m' : Ren} (h : m.agree n m') : ∀ v, sc n v → ren m v = ren m' v
  | .pointer (some a), hs => by simp only [sc] at hs; simp [ren, (h _ hs).1, (h _ hs).2.1]
  | .slice (some a) _ _, hs => by simp only [sc] at hs; simp [ren, (h _ hs).1, (h _ hs).2.1, (h _ hs).2.2]
  | .map (some r), hs => by simp only [sc] at hs; simp [ren, (h _ hs).1]
  | .func fn x y, hs => by simp only [sc] at hs; simp [ren, renA_congr h x hs.1, renA_congr h y hs.2]
  | .iface t v, hs => by simp only [sc] at hs; simp [ren, ren_congr h v hs]
  | .agg cs, hs => by simp only [sc] at hs; simp [ren, renA_congr h cs hs]
  | .tuple cs, hs => by simp only [sc] at hs; simp [ren, renA_congr h cs hs]
  | .bool b, _ => by simp [ren]
  | .int k n, _ => by simp [ren]
  | .float k n, _ => by simp [ren]
  | .complex k a b, _ => by simp [ren]
  | .string s, _ => by simp [ren]
  | .pointer none, _ => by simp [ren]
  | .slice none l c, _ => by simp [ren]
  | .map none, _ => by simp [ren]
  | .chan r, _ => by simp [ren]
  | .nilFunc, _ => by simp [ren]
  | .nilIface, _ => by simp [ren]
theorem renA_congr {n : Nat} {m m' : Ren} (h : m.agree n m') : ∀ a, scA n a → renA m a = renA m' a
  | ⟨l⟩, hs => by simp only [scA] at hs; simp [renA, renL_congr h l hs]
theorem renL_congr {n : Nat} {m m' : Ren} (h : m.agree n m') : ∀ l, scL n l → renL m l = renL m' l
  | [], _ => rfl
  | v :: l, hs => by simp only [scL] at hs; simp [renL, ren_congr h v hs.1, renL_congr h l hs.2]
end

mutual
theorem sc_mono {n k : Nat} (h : n ≤ k) : ∀ v, sc n v → sc k v
  | .pointer (some a), hs => by simp only [sc] at *; omega
  | .slice (some a) _ _, hs => by simp only [sc] at *; omega
  | .map (some r), hs => by simp only [sc] at *; omega
  | .func fn x y, hs => by simp only [sc] at *; exact ⟨scA_mono h x hs.1, scA_mono h y hs.2⟩
  | .iface t v, hs => by simp only [sc] at *; exact sc_mono h v hs
  | .agg cs, hs => by simp only [sc] at *; exact scA_mono h cs hs
  | .tuple cs, hs => by simp only [sc] at *; exact scA_mono h cs hs
  | .bool b, _ | .int k n, _ | .float k n, _ | .complex k a b, _ | .string s, _ | .pointer none, _ | .slice none l c, _ | .map none, _ | .chan r, _ | .nilFunc, _ | .nilIface, _ => by simp [sc]
theorem scA_mono {n k : Nat} (h : n ≤ k) : ∀ a, scA n a → scA k a
  | ⟨l⟩, hs => by simp only [scA] at *; exact scL_mono h l hs
theorem scL_mono {n k : Nat} (h : n ≤ k) : ∀ l, scL n l → scL k l
  | [], _ => by simp [scL]
  | v :: l, hs => by simp only [scL] at *; exact ⟨sc_mono h v hs.1, scL_mono h l hs.2⟩
end

mutual
theorem sc_flat (n : Nat) : ∀ v, flat v = true → sc n v
  | .pointer (some a), hs => by simp [flat] at hs
  | .slice (some a) _ _, hs => by simp [flat] at hs
  | .map (some r), hs => by simp [flat] at hs
  | .func fn x y, hs => by simp only [flat, Bool.and_eq_true] at hs; simp only [sc]; exact ⟨scA_flat n x hs.1, scA_flat n y hs.2⟩
  | .iface t v, hs => by simp only [flat] at hs; simp only [sc]; exact sc_flat n v hs
  | .agg cs, hs => by simp only [flat] at hs; simp only [sc]; exact scA_flat n cs hs
  | .tuple cs, hs => by simp only [flat] at hs; simp only [sc]; exact scA_flat n cs hs
  | .bool b, _ | .int k n, _ | .float k n, _ | .complex k a b, _ | .string s, _ | .pointer none, _ | .slice none l c, _ | .map none, _ | .chan r, _ | .nilFunc, _ | .nilIface, _ => by simp [sc]
theorem scA_flat (n : Nat) : ∀ a, flatA a = true → scA n a
  | ⟨l⟩, hs => by simp only [flatA] at hs; simp only [scA]; exact scL_flat n l hs
theorem scL_flat (n : Nat) : ∀ l, flatL l = true → scL n l
  | [], _ => by simp [scL]
  | v :: l, hs => by simp only [flatL, Bool.and_eq_true] at hs; simp only [scL]; exact ⟨sc_flat n v hs.1, scL_flat n l hs.2⟩
end

mutual
theorem ren_flat (m : Ren) : ∀ v, flat v = true → ren m v = v
  | .pointer (some a), hs => by simp [flat] at hs
  | .slice (some a) _ _, hs => by simp [flat] at hs
  | .map (some r), hs => by simp [flat] at hs
  | .func fn x y, hs => by simp only [flat, Bool.and_eq_true] at hs; simp [ren, renA_flat m x hs.1, renA_flat m y hs.2]
  | .iface t v, hs => by simp only [flat] at hs; simp [ren, ren_flat m v hs]
  | .agg cs, hs => by simp only [flat] at hs; simp [ren, renA_flat m cs hs]
  | .tuple cs, hs => by simp only [flat] at hs; simp [ren, renA_flat m cs hs]
  | .bool b, _ | .int k n, _ | .float k n, _ | .complex k a b, _ | .string s, _ | .pointer none, _ | .slice none l c, _ | .map none, _ | .chan r, _ | .nilFunc, _ | .nilIface, _ => by simp [ren]
theorem renA_flat (m : Ren) : ∀ a, flatA a = true → renA m a = a
  | ⟨l⟩, hs => by simp only [flatA] at hs; simp [renA, renL_flat m l hs]
theorem renL_flat (m : Ren) : ∀ l, flatL l = true → renL m l = l
  | [], _ => rfl
  | v :: l, hs => by simp only [flatL, Bool.and_eq_true] at hs; simp [renL, ren_flat m v hs.1, renL_flat m l hs.2]
end

theorem ren_cells (m : Ren) (v : Value) : (ren m v).cells = v.cells.map (ren m) := by
  cases v with
  | pointer a => cases a <;> simp [ren, Value.cells]
  | slice a l c => cases a <;> simp [ren, Value.cells]
  | map r => cases r <;> simp [ren, Value.cells]
  | _ => simp [ren, Value.cells, renA_map]
theorem sc_cells {n : Nat} {v : Value} (h : sc n v) : ∀ c ∈ v.cells, sc n c := by
  cases v with
  | agg cs => simp only [sc, scA_all] at h; simpa [Value.cells] using h
  | _ => simp only [Value.cells, List.mem_toArray, List.mem_singleton, forall_eq]; exact h
/-- The value of one cell (neither a struct nor several). -/
def one : Value → Bool
  | .agg _ | .tuple _ => false
  | _ => true
theorem one_ren (m : Ren) (v : Value) : one (ren m v) = one v := by
  cases v with
  | pointer a => cases a <;> simp [ren, one]
  | slice a l c => cases a <;> simp [ren, one]
  | map r => cases r <;> simp [ren, one]
  | _ => simp [ren, one]

/-- A row of cells: 'outer': memory that was there ahead of the call (only read); 'ro': not to be written; 'grown': made by append or the like, so that there may be room behind it; 'str': made of a string. -/
structure Row where
  vs : List Value
  elem : TypeId
  grown : Bool := false
  outer : Bool := false
  ro : Bool := false
  str : Bool := false

inductive AObj where
  | dead
  | row (r : Row)
  | map (es : List MapEntry) (clock : Nat)
  | iter (s : ByteArray) (pos : Nat)
  deriving Inhabited

/-- The objects, the youngest first. -/
structure Heap where
  next : Nat
  objs : List AObj

def Heap.get (h : Heap) (i : Nat) : Option AObj := if i < h.next then h.objs[h.next - 1 - i]? else none
def Heap.alloc (h : Heap) (o : AObj) : Heap := ⟨h.next + 1, o :: h.objs⟩
def Heap.set (h : Heap) (i : Nat) (o : AObj) : Heap := if i < h.next then ⟨h.next, h.objs.set (h.next - 1 - i) o⟩ else h

@[simp] theorem Heap.next_alloc (h : Heap) (o : AObj) : (h.alloc o).next = h.next + 1 := rfl
@[simp] theorem Heap.next_set (h : Heap) (i : Nat) (o : AObj) : (h.set i o).next = h.next := by unfold Heap.set; split <;> rfl
theorem Heap.lt_of_get {h : Heap} {i : Nat} {o : AObj} (e : h.get i = some o) : i < h.next := by
  unfold Heap.get at e; split at e
  · assumption
  · cases e
@[simp] theorem Heap.get_alloc_new (h : Heap) (o : AObj) : (h.alloc o).get h.next = some o := by simp [Heap.get, Heap.alloc]
theorem Heap.get_alloc_old (h : Heap) (o : AObj) {i : Nat} (hi : i < h.next) : (h.alloc o).get i = h.get i := by
  have e : h.next + 1 - 1 - i = (h.next - 1 - i) + 1 := by omega
  simp only [Heap.get, Heap.alloc, hi, if_true, show i < h.next + 1 by omega, e, List.getElem?_cons_succ]
theorem Heap.get_alloc (h : Heap) (o : AObj) (i : Nat) : (h.alloc o).get i = if i = h.next then some o else h.get i := by
  by_cases hi : i < h.next
  · rw [Heap.get_alloc_old h o hi, if_neg (by omega)]
  · by_cases e : i = h.next
    · subst e; simp
    · rw [if_neg e]; simp [Heap.get, Heap.alloc, hi, show ¬ i < h.next + 1 by omega]
theorem Heap.get_set (h : Heap) (i : Nat) (o : AObj) (j : Nat) (hi : (h.get i).isSome) : (h.set i o).get j = if j = i then some o else h.get j := by
  obtain ⟨x, hx⟩ := Option.isSome_iff_exists.1 hi
  have hlt := Heap.lt_of_get hx
  simp only [Heap.get, hlt, if_true] at hx
  have hlen : h.next - 1 - i < h.objs.length := by
    rcases Nat.lt_or_ge (h.next - 1 - i) h.objs.length with q | q
    · exact q
    · rw [List.getElem?_eq_none q] at hx; cases hx
  unfold Heap.set
  simp only [hlt, if_true, Heap.get]
  by_cases hj : j < h.next
  · simp only [hj, if_true, List.getElem?_set]
    by_cases e : j = i
    · subst e; simp [hlen]
    · rw [if_neg e, if_neg (by omega)]
  · simp only [hj, if_false]
    rw [if_neg (by omega)]

def renE (m : Ren) (e : MapEntry) : MapEntry := { key := ren m e.key, val := ren m e.val, born := e.born }

/-- What an object tells of the world. -/
def ORel (P : Program) (base : Nat) (m : Ren) (n : Nat) (w : World) (i : Nat) : AObj → Prop
  | .dead => True
  | .row r => (∀ v ∈ r.vs, sc n v) ∧ ∃ c fz, w.heap[m.blk i]? = some (.cells c r.elem fz) ∧ m.sh i + r.vs.length + m.ext i * P.cellsOf r.elem ≤ c.size ∧
      (∀ k v, r.vs[k]? = some v → c[m.sh i + k]? = some (ren m v)) ∧ (r.outer = false → base ≤ m.blk i) ∧ (r.outer = true → m.blk i < base) ∧
      (r.outer = false → r.ro = false → ∀ k, k < c.size → ¬ (fz.1 ≤ k ∧ k < fz.2)) ∧ (r.outer = false → r.ro = false → r.str = false → fz = (0, 0)) ∧ (r.grown = false → m.ext i = 0)
  | .map es clock => (∀ e ∈ es, sc n e.key ∧ sc n e.val) ∧ w.heap[m.blk i]? = some (.map (es.map (renE m)).toArray clock) ∧ base ≤ m.blk i
  | .iter s pos => w.heap[m.blk i]? = some (.stringIter s pos) ∧ base ≤ m.blk i

def AObj.own : AObj → Bool
  | .dead => false
  | .row r => !r.outer
  | _ => true

/-- Where it began: G blocks are the program's variables; the blocks below 'base' were there, and stay as they were in w0. -/
structure Start where
  G : Nat
  base : Nat
  w0 : World

/-- What of a world is no memory, and stays as it is. -/
def io (w : World) : Os × (Nat → Question → Nat) × Array (Nat × ByteArray) := (w.os, w.tape, w.output)

structure HRel (P : Program) (S : Start) (m : Ren) (h : Heap) (w : World) : Prop where
  gle : S.G ≤ h.next
  glob : ∀ i, i < S.G → m.blk i = i ∧ m.sh i = 0 ∧ m.ext i = 0
  obj : ∀ i o, h.get i = some o → ORel P S.base m h.next w i o
  apart : ∀ i j o p, i ≠ j → h.get i = some o → h.get j = some p → o.own = true → p.own = true → m.blk i ≠ m.blk j
  frame : ∀ b, b < S.base → w.heap[b]? = S.w0.heap[b]?
  size : S.base ≤ w.heap.size
  io : Mini.io w = Mini.io S.w0

end Go.Mini
