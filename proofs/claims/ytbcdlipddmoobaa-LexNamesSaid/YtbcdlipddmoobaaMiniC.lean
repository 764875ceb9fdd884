/-
  MINI, part C: the operations that touch no memory.
-/
import Derived.Test.YtbcdlipddmoobaaMiniB
import Derived.Laws.StructEq
namespace Go.Mini

def strEq (a b : ByteArray) : Bool := a.toList == b.toList
theorem strEq_iff (a b : ByteArray) : strEq a b = true ↔ a = b := by
  unfold strEq
  rw [ByteArray.toList_eq, ByteArray.toList_eq]
  obtain ⟨⟨x⟩⟩ := a
  obtain ⟨⟨y⟩⟩ := b
  simp
theorem strEq_decide (a b : ByteArray) : strEq a b = decide (a = b) := by
  by_cases h : a = b
  · simp [h, (strEq_iff b b).2 rfl]
  · simp only [h, decide_false]
    cases e : strEq a b with
    | false => rfl
    | true => exact absurd ((strEq_iff a b).1 e) h

/-- Is it a struct's or an array's type? -/
def isAggD : TypeDesc → Bool
  | .struct _ | .array _ _ => true
  | _ => false
def Program.agg (P : Program) (t : TypeId) : Option Bool := (P.underlying t).map isAggD
theorem run_isAgg {P : Program} {t : TypeId} {b : Bool} (h : Program.agg P t = some b) (w : World) : (isAgg t).run P w = .ok b w := by
  unfold Program.agg at h
  obtain ⟨d, hd, rfl⟩ := Option.map_eq_some_iff.1 h
  simp only [isAgg, Sem.run_bind, run_underlying hd, Result.andThen]
  cases d <;> rfl
theorem run_sizeOf' {P : Program} {t : TypeId} {i : TypeInfo} (h : P.info? t = some i) (w : World) : (sizeOf t).run P w = .ok i.size w := by simp [sizeOf, typeInfo, h]

/-- A part of an aggregate. -/
def apart (P : Program) (t : TypeId) (cs : Array Value) (off : Nat) : Option Value :=
  match Program.agg P t, P.info? t with
  | some true, some i => some (.agg (cs.extract off (off + i.size)))
  | some false, some _ => cs[off]?
  | _, _ => none

/-- Are two values of a type that is no struct and no array one? Whatever the memory. -/
def aeq0 : TypeDesc → Value → Value → Option Bool
  | .bool, .bool a, .bool b => some (a == b)
  | .int _, .int k a, .int k' b => if k = k' then some (a == b) else none
  | .string, .string a, .string b => some (strEq a b)
  | .pointer _, .pointer none, .pointer b => some b.isNone
  | .pointer _, .pointer (some _), .pointer none => some false
  | .interface _, .nilIface, .nilIface => some true
  | .interface _, .nilIface, .iface _ _ => some false
  | .interface _, .iface _ _, .nilIface => some false
  | .slice _, .slice none _ _, .slice b _ _ => some b.isNone
  | .slice _, .slice (some _) _ _, .slice none _ _ => some false
  | .map _ _, .map none, .map b => some b.isNone
  | .map _ _, .map (some _), .map none => some false
  | .func _ _ _, .nilFunc, .nilFunc => some true
  | .func _ _ _, .nilFunc, .func _ _ _ => some false
  | .func _ _ _, .func _ _ _, .nilFunc => some false
  | _, _, _ => none

def aeqs (P : Program) (eq : TypeId → Value → Value → Option Bool) (xs ys : Array Value) : List Field → Option Bool
  | [] => some true
  | f :: fs =>
    if f.name ≠ "_" then
      match apart P f.type xs f.offset, apart P f.type ys f.offset with
      | some a, some b =>
        match eq f.type a b with
        | some true => aeqs P eq xs ys fs
        | some false => some false
        | none => none
      | _, _ => none
    else aeqs P eq xs ys fs
/-- Are two values one? Whatever the memory. -/
def aeq (P : Program) : Nat → TypeId → Value → Value → Option Bool
  | 0, _, _, _ => none
  | d + 1, t, x, y =>
    match P.underlying t with
    | none => none
    | some u =>
      match u with
      | .struct fs =>
        match x, y with
        | .agg xs, .agg ys => if P.stoodInHeld t then none else aeqs P (aeq P d) xs ys fs.toList
        | _, _ => none
      | u => aeq0 u x y

set_option maxHeartbeats 4000000 in
theorem aeq0_run {P : Program} (m : Ren) (w : World) (d : Nat) (t : TypeId) (u : TypeDesc) (x y : Value) (b : Bool) (hu : P.underlying t = some u) (h : aeq0 u x y = some b) :
    (Op.equalIn (d + 1) t (ren m x) (ren m y)).run P w = .ok b w := by
  unfold aeq0 at h
  split at h
  all_goals first
    | (cases h; done)
    | (split at h <;> first | (cases h; done) | (cases h; simp [ren, Op.equalIn, run_underlying hu, *]; done))
    | (cases h; simp [ren, Op.equalIn, run_underlying hu, beq_toListBytes, strEq]; done)
    | (rename_i bb; cases h; cases bb <;> simp [ren, Op.equalIn, run_underlying hu]; done)
    | (rename_i bb _ _; cases h; cases bb <;> simp [ren, Op.equalIn, run_underlying hu]; done)

theorem apart_run {P : Program} {t : TypeId} {cs : Array Value} {off : Nat} {v : Value} (m : Ren) (w : World) (h : apart P t cs off = some v) :
    (part t (cs.map (ren m)) off).run P w = .ok (ren m v) w := by
  unfold apart at h
  split at h
  · rename_i i ha hi
    simp only [Option.some.injEq] at h
    subst h
    simp only [part, Sem.run_bind, run_isAgg ha, Result.andThen, if_true, run_sizeOf' hi]
    simp [ren, renA_map, Array.map_extract]
  · rename_i i ha hi
    simp only [part, Sem.run_bind, run_isAgg ha, Result.andThen, Bool.false_eq_true, if_false]
    simp [h]
  · cases h

theorem apart_sc {P : Program} {t : TypeId} {cs : Array Value} {off n : Nat} {v : Value} (hs : ∀ c ∈ cs, sc n c) (h : apart P t cs off = some v) : sc n v := by
  unfold apart at h
  split at h
  · simp only [Option.some.injEq] at h; subst h
    simp only [sc, scA_all]
    intro c hc
    exact hs c (by
      rw [Array.mem_iff_getElem?] at hc ⊢
      obtain ⟨j, hj⟩ := hc
      rw [Array.getElem?_extract] at hj
      split at hj
      · exact ⟨_, hj⟩
      · cases hj)
  · exact hs v (Array.mem_of_getElem? h)
  · cases h

theorem aeqs_run {P : Program} (m : Ren) (w : World) (d : Nat) (eq : TypeId → Value → Value → Option Bool)
    (heq : ∀ t x y b, eq t x y = some b → (Op.equalIn d t (ren m x) (ren m y)).run P w = .ok b w) (xs ys : Array Value) : ∀ (fs : List Field) (b : Bool), aeqs P eq xs ys fs = some b →
    (Op.eqFields d (xs.map (ren m)) (ys.map (ren m)) fs).run P w = .ok b w
  | [], b, h => by simp only [aeqs] at h; cases h; simp [Op.eqFields]
  | f :: fs, b, h => by
    simp only [aeqs] at h
    simp only [Op.eqFields]
    split at h
    · rename_i hn
      split at h
      · rename_i a c ha hc
        rw [if_pos hn]
        simp only [Sem.run_bind, apart_run m w ha, apart_run m w hc, Result.andThen]
        split at h
        · rename_i he
          rw [heq f.type a c true he]
          simp only [Bool.not_true, Bool.false_eq_true, if_false]
          exact aeqs_run m w d eq heq xs ys fs b h
        · rename_i he
          cases h
          rw [heq f.type a c false he]
          simp
        · cases h
      · cases h
    · rename_i hn
      rw [if_neg hn]
      exact aeqs_run m w d eq heq xs ys fs b h
theorem aeq_run {P : Program} (m : Ren) (w : World) : ∀ (d : Nat) (t : TypeId) (x y : Value) (b : Bool), aeq P d t x y = some b → (Op.equalIn d t (ren m x) (ren m y)).run P w = .ok b w
  | 0, _, _, _, _, h => by simp [aeq] at h
  | d + 1, t, x, y, b, h => by
    rw [aeq] at h
    cases hu : P.underlying t with
    | none => rw [hu] at h; cases h
    | some u =>
      rw [hu] at h
      simp only [] at h
      split at h
      · rename_i fs
        split at h
        · rename_i xs ys
          split at h
          · cases h
          · rename_i hst
            have hf : P.fieldsOf t = fs := by simp [Program.fieldsOf, hu]
            simp only [ren, renA_map]
            rw [run_equalIn_struct w d t _ _ (by rw [hf]; exact hu) (by simpa using hst), hf]
            exact aeqs_run m w d (aeq P d) (fun t x y b => aeq_run m w d t x y b) xs ys fs.toList b h
        · cases h
      · exact aeq0_run m w d t _ x y b hu h

/-- Operators on whole numbers. -/
def abinI (op : BinOp) (k : IntKind) (a : Int) (k' : IntKind) (b : Int) : Option Value :=
  match op with
  | .shl => if 0 ≤ b then some (.int k (k.wrap (a * 2 ^ min b.toNat k.bits))) else none
  | .shr => if 0 ≤ b then some (.int k (a.fdiv (2 ^ min b.toNat k.bits))) else none
  | .add => if k = k' then some (.int k (k.wrap (a + b))) else none
  | .sub => if k = k' then some (.int k (k.wrap (a - b))) else none
  | .mul => if k = k' then some (.int k (k.wrap (a * b))) else none
  | .quo => if k = k' ∧ b ≠ 0 then some (.int k (k.wrap (a.tdiv b))) else none
  | .rem => if k = k' ∧ b ≠ 0 then some (.int k (a.tmod b)) else none
  | .and => if k = k' then some (.int k (k.wrap (BitVec.ofInt k.bits a &&& BitVec.ofInt k.bits b).toNat)) else none
  | .or => if k = k' then some (.int k (k.wrap (BitVec.ofInt k.bits a ||| BitVec.ofInt k.bits b).toNat)) else none
  | .xor => if k = k' then some (.int k (k.wrap (BitVec.ofInt k.bits a ^^^ BitVec.ofInt k.bits b).toNat)) else none
  | .andNot => if k = k' then some (.int k (k.wrap (BitVec.ofInt k.bits a &&& ~~~ BitVec.ofInt k.bits b).toNat)) else none
  | .eql => if k = k' then some (.bool (a == b)) else none
  | .neq => if k = k' then some (.bool (a != b)) else none
  | .lss => if k = k' then some (.bool (decide (a < b))) else none
  | .leq => if k = k' then some (.bool (decide (a ≤ b))) else none
  | .gtr => if k = k' then some (.bool (decide (a > b))) else none
  | .geq => if k = k' then some (.bool (decide (a ≥ b))) else none
/-- Operators on strings. -/
def abinS (op : BinOp) (a b : ByteArray) : Option Value :=
  match op with
  | .add => if a.size + b.size ≤ maxLen then some (.string (a ++ b)) else none
  | .eql => some (.bool (strEq a b))
  | .neq => some (.bool (!strEq a b))
  | .lss => some (.bool (Op.bytesLess a.toList b.toList))
  | .leq => some (.bool (Op.bytesLess a.toList b.toList || strEq a b))
  | .gtr => some (.bool (!(Op.bytesLess a.toList b.toList || strEq a b)))
  | .geq => some (.bool (!Op.bytesLess a.toList b.toList))
  | _ => none
def eqOp (op : BinOp) (r : Option Bool) : Option Value :=
  match op with
  | .eql => r.map .bool
  | .neq => r.map fun b => .bool (!b)
  | _ => none
/-- Neither a number nor a string, nor a struct. -/
def plainEq : Value → Bool
  | .bool _ | .pointer _ | .slice _ _ _ | .map _ | .func _ _ _ | .nilFunc | .nilIface | .iface _ _ => true
  | _ => false
/-- Operators. -/
def abin (P : Program) (op : BinOp) (t : TypeId) : Value → Value → Option Value
  | .int k a, .int k' b => abinI op k a k' b
  | .string a, .string b => abinS op a b
  | .agg xs, .agg ys => if P.eqGuardType P.depth t then none else eqOp op (aeq P 10000 t (.agg xs) (.agg ys))
  | .nilIface, .nilIface => none
  | .iface _ _, .iface _ _ => none
  | x, y => if plainEq x && plainEq y then eqOp op (aeq P 10000 t x y) else none

theorem abinI_run {P : Program} {op : BinOp} {t : TypeId} {k k' : IntKind} {a b : Int} {v : Value} (w : World) (xo yo : Operand) (h : abinI op k a k' b = some v) :
    (do eqGuard op t xo yo (.int k a) (.int k' b); binOp op t (.int k a) (.int k' b) : Sem Value).run P w = .ok v w ∧ flat v = true := by
  cases op <;> simp only [abinI] at h <;> split at h <;> first
    | (cases h; done)
    | (cases h; rename_i hc; (try (obtain ⟨hc, hb⟩ := hc)); (try subst hc); simp [eqGuard, binOp, Op.intArith, Op.intDiv, Op.intBits, Op.intCmp, Op.shift, flat, *]; (try omega); done)
    | (cases h; rename_i hc; simp [eqGuard, binOp, Op.shift, flat, show ¬ b < 0 by omega]; done)

theorem abinS_run {P : Program} {op : BinOp} {t : TypeId} {a b : ByteArray} {v : Value} (w : World) (xo yo : Operand) (h : abinS op a b = some v) :
    (do eqGuard op t xo yo (.string a) (.string b); binOp op t (.string a) (.string b) : Sem Value).run P w = .ok v w ∧ flat v = true := by
  have hmax : IntKind.i64.max = 9223372036854775807 := by decide
  cases op <;> simp only [abinS] at h <;> first
    | (cases h; done)
    | (split at h <;> first | (cases h; done) | (cases h; rename_i hc; unfold maxLen at hc; simp [eqGuard, binOp, Op.stringOp, hmax, flat]; omega))
    | (cases h; simp [eqGuard, binOp, Op.stringOp, strEq, flat]; done)

theorem plainEq_ren (m : Ren) (v : Value) : plainEq (ren m v) = plainEq v := by
  cases v with
  | pointer a => cases a <;> simp [ren, plainEq]
  | slice a l c => cases a <;> simp [ren, plainEq]
  | map r => cases r <;> simp [ren, plainEq]
  | _ => simp [ren, plainEq]
theorem binOp_eql_plain {t : TypeId} {x y : Value} (hx : plainEq x = true) (hy : plainEq y = true) :
    binOp .eql t x y = (do pure (.bool (← Op.equal t x y))) ∧ binOp .neq t x y = (do pure (.bool (!(← Op.equal t x y)))) := by
  cases x <;> simp [plainEq] at hx <;> cases y <;> simp [plainEq] at hy <;> exact ⟨rfl, rfl⟩
theorem eqGuard_plain {P : Program} {op : BinOp} {t : TypeId} {x y : Value} (w : World) (xo yo : Operand) (hx : ∀ cs, x ≠ .agg cs) (h : ¬ (x = .nilIface ∧ y = .nilIface)) :
    (eqGuard op t xo yo x y).run P w = .ok () w := by
  cases op <;> simp only [eqGuard] <;> (try (simp; done)) <;> (
    cases x <;> cases y <;> first | (simp; done) | (exact absurd ⟨rfl, rfl⟩ h) | (exact absurd rfl (hx _)))

theorem abin_run {P : Program} {op : BinOp} {t : TypeId} {x y v : Value} (m : Ren) (w : World) (xo yo : Operand) (h : abin P op t x y = some v) :
    (do eqGuard op t xo yo (ren m x) (ren m y); binOp op t (ren m x) (ren m y) : Sem Value).run P w = .ok v w ∧ flat v = true := by
  unfold abin at h
  split at h
  · simp only [ren]; exact abinI_run w xo yo h
  · simp only [ren]; exact abinS_run w xo yo h
  · rename_i xs ys
    split at h
    · cases h
    · rename_i hg
      have hg' : P.eqGuardType P.depth t = false := by simpa using hg
      have hq := run_eqGuard_agg (P := P) w op t xo yo (xs.map (ren m)) (ys.map (ren m)) hg'
      cases op <;> simp only [eqOp] at h <;> try (cases h; done)
      all_goals
        obtain ⟨b, hb, rfl⟩ := Option.map_eq_some_iff.1 h
        have := aeq_run m w _ _ _ _ _ hb
        simp only [ren, renA_map] at this ⊢
        simp only [Sem.run_bind, hq, Result.andThen]
        first
          | (rw [run_eql_struct]; simp [this, flat]; done)
          | (rw [run_neq_struct]; simp [this, flat]; done)
  · cases h
  · cases h
  · rename_i h1 h2 h3 h4 h5
    split at h
    · rename_i hp
      rw [Bool.and_eq_true] at hp
      obtain ⟨e1, e2⟩ := binOp_eql_plain (t := t) (x := ren m x) (y := ren m y) (by rw [plainEq_ren]; exact hp.1) (by rw [plainEq_ren]; exact hp.2)
      have hnn : ¬ (ren m x = .nilIface ∧ ren m y = .nilIface) := by
        rintro ⟨q1, q2⟩
        have f : ∀ z, ren m z = .nilIface → z = .nilIface := by
          intro z hz
          cases z with
          | pointer a => cases a <;> simp [ren] at hz
          | slice a l c => cases a <;> simp [ren] at hz
          | map r => cases r <;> simp [ren] at hz
          | nilIface => rfl
          | _ => simp [ren] at hz
        exact h4 (f x q1) (f y q2)
      have hq := eqGuard_plain (P := P) (op := op) (t := t) w xo yo (by intro cs e; have := plainEq_ren m x; rw [e, hp.1] at this; simp [plainEq] at this) hnn
      cases op <;> simp only [eqOp] at h <;> try (cases h; done)
      all_goals
        obtain ⟨b, hb, rfl⟩ := Option.map_eq_some_iff.1 h
        have := aeq_run m w _ _ _ _ _ hb
        simp only [Sem.run_bind, hq, Result.andThen]
        first
          | (rw [e1]; simp only [Sem.run_bind, Op.equal, Op.maxDepth, this, Result.andThen]; exact ⟨rfl, rfl⟩)
          | (rw [e2]; simp only [Sem.run_bind, Op.equal, Op.maxDepth, this, Result.andThen]; exact ⟨rfl, rfl⟩)
    · cases h

/-- Operators of one operand. -/
def aun (op : UnOp) (x : Value) : Option Value :=
  match op, x with
  | .neg, .int k n => some (.int k (k.wrap (0 - n)))
  | .not, .bool b => some (.bool (!b))
  | .xor, .int k n => some (.int k (k.wrap (BitVec.ofInt k.bits (if k.signed then -1 else k.max) ^^^ BitVec.ofInt k.bits n).toNat))
  | _, _ => none
theorem aun_run {P : Program} {op : UnOp} {x v : Value} (m : Ren) (w : World) (h : aun op x = some v) : (Op.unary op (ren m x)).run P w = .ok v w ∧ flat v = true := by
  unfold aun at h
  split at h <;> first
    | (cases h; done)
    | (cases h; simp [ren, Op.unary, Op.intArith, Op.intBits, flat]; done)

/-- Conversions that touch no memory. -/
def aconv (P : Program) (src dst : TypeId) (x : Value) : Option Value :=
  match P.underlying src, P.underlying dst, x with
  | some _, some (.int k), .int _ n => some (.int k (k.wrap n))
  | some _, some .string, .string s => some (.string s)
  | _, _, _ => none
theorem aconv_run {P : Program} {src dst : TypeId} {x v : Value} (m : Ren) (w : World) (h : aconv P src dst x = some v) : (convert src dst (ren m x)).run P w = .ok v w ∧ flat v = true := by
  unfold aconv at h
  split at h
  · rename_i u k _ n hs hd
    cases h
    simp [convert, run_underlying hs, run_underlying hd, ren, Conv.intToInt, flat]
  · rename_i u s hs hd
    cases h
    simp [convert, run_underlying hs, run_underlying hd, ren, flat]
  · cases h

/-- A string's byte. -/
def aindexS (s : ByteArray) (i : Int) : Option Value := if 0 ≤ i then (s[i.toNat]?).map fun b => .int .u8 b.toNat else none

theorem run_zeroValue' {P : Program} {t : TypeId} {i : TypeInfo} {z : Value} (hi : P.info? t = some i) (hz : i.zero = some z) (w : World) : (zeroValue t).run P w = .ok z w := by
  simp [zeroValue, typeInfo, hi, hz]
theorem ren_nilIface {m : Ren} {z : Value} (hz : ren m z = .nilIface) : z = .nilIface := by
  cases z with
  | pointer a => cases a <;> simp [ren] at hz
  | slice a l c => cases a <;> simp [ren] at hz
  | map r => cases r <;> simp [ren] at hz
  | nilIface => rfl
  | _ => simp [ren] at hz
/-- What a failed assertion with 'ok' hands back. -/
def aassertNo (P : Program) (asserted : TypeId) : Option Value := (P.info? asserted).bind fun i => i.zero.bind fun z => if flat z then some (.tuple #[z, .bool false]) else none
theorem aassertNo_run {P : Program} {asserted : TypeId} {v : Value} (n : Nat) (m : Ren) (w : World) (h : aassertNo P asserted = some v) :
    (zeroValue asserted).run P w = .ok (match v with | .tuple vs => vs.getD 0 undef | _ => undef) w ∧ ren m v = v ∧ sc n v ∧ ∃ z, v = .tuple #[z, .bool false] := by
  obtain ⟨i, hi, hh⟩ := Option.bind_eq_some_iff.1 h
  obtain ⟨z, hz, hh⟩ := Option.bind_eq_some_iff.1 hh
  split at hh
  · rename_i hf
    cases hh
    have hfl : flat (.tuple #[z, .bool false]) = true := by simp [flat, flatA, flatL, hf]
    exact ⟨run_zeroValue' hi hz w, ren_flat m _ hfl, sc_flat n _ hfl, z, rfl⟩
  · cases hh
/-- Does an interface value hold a value of a type that is no interface? -/
def aassert (P : Program) (x : Value) (asserted : TypeId) (ok : Bool) : Option Value :=
  match P.underlying asserted with
  | none => none
  | some d =>
    match d with
    | .interface _ => none
    | _ =>
      match x with
      | .iface t v => if t = asserted then some (if ok then .tuple #[v, .bool true] else v) else if ok then aassertNo P asserted else none
      | .nilIface => if ok then aassertNo P asserted else none
      | _ => none
theorem aassert_run {P : Program} {x v : Value} {xt asserted : TypeId} {ok : Bool} {n : Nat} (m : Ren) (w : World) (hs : sc n x) (h : aassert P x asserted ok = some v) :
    (Instr.typeAssert (ren m x) xt asserted ok).run P w = .ok (ren m v) w ∧ sc n v := by
  unfold aassert at h
  split at h
  · cases h
  · rename_i d hu
    split at h
    · cases h
    · rename_i hd
      split at h
      · rename_i t u
        simp only [sc] at hs
        split at h
        · rename_i e
          subst e
          cases h
          refine ⟨?_, by cases ok <;> simp [sc, scA, scL, hs]⟩
          simp only [Instr.typeAssert, Sem.run_bind, run_underlying hu, Result.andThen, ren]
          cases d <;> first | (exact absurd rfl (hd _)) | (cases ok <;> simp [ren, renA, renL])
        · rename_i e
          split at h
          · rename_i hok
            subst hok
            obtain ⟨h1, h2, h3, z, rfl⟩ := aassertNo_run n m w h
            refine ⟨?_, h3⟩
            rw [h2]
            simp only [Instr.typeAssert, Sem.run_bind, run_underlying hu, Result.andThen, ren]
            cases d <;> first | (exact absurd rfl (hd _)) | (simp [e, h1])
          · cases h
      · split at h
        · rename_i hok
          subst hok
          obtain ⟨h1, h2, h3, z, rfl⟩ := aassertNo_run n m w h
          refine ⟨?_, h3⟩
          rw [h2]
          simp only [Instr.typeAssert, Sem.run_bind, run_underlying hu, Result.andThen, ren]
          cases d <;> first | (exact absurd rfl (hd _)) | (simp [h1])
        · cases h
      · cases h
end Go.Mini
