import Derived.Test.YtjgmccbjffncaaaDoorMiniZE
import Derived.Lib.Join
import Derived.Lib.ItoaNum
import Derived.Handed
import Derived.HandedShaped
set_option linter.unusedSimpArgs false
section
namespace Go.Mini
mutual
def mv (f : Nat → Nat) : Value → Value
 | .pointer (some a) => .pointer (some ⟨f a.block, a.off, a.spot⟩)
 | .slice (some a) l c => .slice (some ⟨f a.block, a.off, a.spot⟩) l c
 | .map (some r) => .map (some (f r))
 | .func fn x y => .func fn (mvA f x) (mvA f y)
 | .iface t v => .iface t (mv f v)
 | .agg cs => .agg (mvA f cs)
 | .tuple cs => .tuple (mvA f cs)
 | .bool b => .bool b
 | .int k n => .int k n
 | .float k n => .float k n
 | .complex k a b => .complex k a b
 | .string s => .string s
 | .pointer none => .pointer none
 | .slice none l c => .slice none l c
 | .map none => .map none
 | .chan r => .chan r
 | .nilFunc => .nilFunc
 | .nilIface => .nilIface
def mvA (f : Nat → Nat) : Array Value → Array Value
 | ⟨l⟩ => ⟨mvL f l⟩
def mvL (f : Nat → Nat) : List Value → List Value
 | [] => []
 | v :: l => mv f v :: mvL f l
end
def scO (n : Nat) : AObj → Prop
 | .row r => scL n r.vs
 | .map es _ => ∀ e ∈ es, sc n e.key ∧ sc n e.val
 | _ => True
def sh (G d i : Nat) : Nat := if i < G then i else d + (i - G)
def back (G : Nat) (τ : List Nat) (i : Nat) : Nat := if i < G then i else (τ[i - G]?).getD 0
section
variable {P : Program} {S : Start} {m m' : Ren} {h h' : Heap} {w w' : World}
end
end Go.Mini
end
section
namespace Go.Mini
theorem GoodE.quiet {P : Program} {G : Nat} {B : Base P G} {f : FuncId} {args : List Value} {h : Heap} {v : Value} (hv : flat v = true)
  (hc : ∀ S m w, StartOk B S → HRel P S m h w → Calls P f (args.map (ren m)).toArray w fun e w' => e = .returned v ∧ Quiet w w') : GoodE P B f args h v h := by
 intro S hS m w hr _
 refine (hc S m w hS hr).mono ?_
 rintro e w' ⟨rfl, hq⟩
 exact ⟨m, Ren.agree_refl _ _, Nat.le_refl _, hr.later hq, by simp [renN, ren_flat _ v hv], sc_flat _ v hv⟩
theorem Quiet.of_below {w w' : World} (h : Go.RowKit.Below w.heap.size w w') : Quiet w w' := ⟨h.size, h.block, by unfold Mini.io; rw [h.os, h.tape, h.output]⟩
def strsOf : List Value → Option (List ByteArray)
 | [] => some []
 | .string s :: l => match strsOf l with | some r => some (s :: r) | none => none
 | _ => none
theorem strsOf_some : ∀ {l : List Value} {xs : List ByteArray}, strsOf l = some xs → l = xs.map .string
 | [], xs, e => by simp only [strsOf] at e; cases e; rfl
 | v :: l, xs, e => by
  unfold strsOf at e
  split at e
  ·rename_i h; cases h
  ·rename_i s l' h
   cases h
   split at e
   ·rename_i r hr
    cases e
    rw [List.map_cons, ← strsOf_some hr]
   ·cases e
  ·cases e
def joinK (sep : List UInt8) : List (List UInt8) → List UInt8
 | [] => []
 | [x] => x
 | x :: y :: l => x ++ (sep ++ joinK sep (y :: l))
theorem joinK_eq (sep : List UInt8) : ∀ l, joinK sep l = Lib.join l sep
 | [] => rfl
 | [x] => (Lib.join_one x sep).symm
 | x :: y :: l => by
  rw [joinK, joinK_eq sep (y :: l), Lib.join_cons, Lib.join_cons]
  simp [Lib.joinTail]
def joinX (args : List Value) (h : Heap) : Option (Value × Heap) :=
 match args with
 | [.slice (some ⟨i, k, none⟩) n c, .string sep] =>
  if n ≤ c ∧ n ≤ 1000 then
   match h.lds i k n with
   | some vs => match strsOf vs with
    | some xs => let r := joinK sep.data.toList (xs.map (·.data.toList)); if r.length ≤ 1000000000 then some (.string (bs r), h) else none
    | none => none
   | none => none
  else none
 | _ => none
def JoinSays (P : Program) (f : FuncId) : Prop := ∀ (bk o c : Nat) (xs : List ByteArray) (sep : ByteArray) (w : World), (∀ (j : Nat) x, xs[j]? = some x → w.cell? ⟨bk, o + j, none⟩ = some (.string x)) → bk < w.heap.size → xs.length ≤ 140737488355328 → xs.length ≤ c →
 (Lib.join (xs.map (·.data.toList)) sep.data.toList).length ≤ 140737488355328 →
 Calls P f #[.slice (some ⟨bk, o, none⟩) xs.length c, .string sep] w fun e w' => e = .returned (.string ⟨(Lib.join (xs.map (·.data.toList)) sep.data.toList).toArray⟩) ∧ Go.RowKit.Below w.heap.size w w'
theorem joinX_ok {P : Program} {G : Nat} {B : Base P G} {f : FuncId} (hj : JoinSays P f) {args : List Value} {h h' : Heap} {v : Value} (e : joinX args h = some (v, h')) : GoodE P B f args h v h' := by
 unfold joinX at e
 split at e
 ·rename_i i k n c sep
  split at e
  ·rename_i hc
   split at e
   ·rename_i vs hvs
    split at e
    ·rename_i xs hxs
     simp only [] at e
     split at e
     ·rename_i hl
      cases e
      have hvx := strsOf_some hxs
      subst hvx
      unfold Heap.lds at hvs
      obtain ⟨r, hrow, hvs⟩ := ob hvs
      split at hvs
      ·rename_i hle
       have hvs' := Option.some.inj hvs
       have hlen : xs.length = n := by
        have := congrArg List.length hvs'
        simp at this; omega
       refine GoodE.quiet rfl ?_
       intro S m w hS hr
       have hg := Heap.row_some.1 hrow
       obtain ⟨_, cc, fz, g1, _⟩ := hr.obj i _ hg
       have hcell : ∀ (j : Nat) x, xs[j]? = some x → w.cell? ⟨m.blk i, k + m.sh i + j, none⟩ = some (.string x) := by
        intro j x hx
        have hj : j < n := by have := (List.getElem?_eq_some_iff.1 hx).1; omega
        have h9 : r.vs[k + j]? = some (.string x) := by
         have : ((r.vs.drop k).take n)[j]? = some (.string x) := by rw [hvs', List.getElem?_map, hx]; rfl
         rwa [List.getElem?_take_of_lt hj, List.getElem?_drop] at this
        have := (hr.cell hg h9).1
        rw [show k + m.sh i + j = k + j + m.sh i by omega]
        exact this
       rw [joinK_eq] at hl
       have := hj (m.blk i) (k + m.sh i) (c + m.ext i) xs sep w hcell (lt_of_some g1) (by omega) (by omega) (by omega)
       simp only [List.map_cons, List.map_nil, ren, Option.isSome_none, Bool.false_eq_true, if_false]
       rw [hlen] at this
       refine this.mono ?_
       rintro e w' ⟨rfl, hb⟩
       exact ⟨by rw [joinK_eq]; rfl, Quiet.of_below hb⟩
      ·cases hvs
     ·cases e
    ·cases e
   ·cases e
  ·cases e
 ·cases e
def dig2 (n : Nat) : List UInt8 := if n < 10 then [UInt8.ofNat (48 + n)] else [UInt8.ofNat (48 + n / 10), UInt8.ofNat (48 + n % 10)]
theorem dig2_eq {n : Nat} (h : n < 100) : Lib.decDigits n = dig2 n := by
 unfold dig2
 by_cases h1 : n < 10
 ·rw [Lib.decDigits, dif_pos h1, if_pos h1]
 ·rw [Lib.decDigits, dif_neg h1, if_neg h1, Lib.decDigits, dif_pos (by omega)]
  rfl
def itoaX (args : List Value) (h : Heap) : Option (Value × Heap) :=
 match args with
 | [.int .i64 (.ofNat n)] => if n < 100 then some (.string (bs (dig2 n)), h) else none
 | _ => none
def ItoaSays (P : Program) (f : FuncId) : Prop := ∀ (i : Nat), i < 100 → ∀ w : World, Calls P f #[.int .i64 i] w fun e w' => e = .returned (.string ⟨(Lib.decDigits i).toArray⟩) ∧ w' = w
theorem itoaX_ok {P : Program} {G : Nat} {B : Base P G} {f : FuncId} (hj : ItoaSays P f) {args : List Value} {h h' : Heap} {v : Value} (e : itoaX args h = some (v, h')) : GoodE P B f args h v h' := by
 unfold itoaX at e
 split at e
 ·rename_i n
  split at e
  ·rename_i hn
   cases e
   refine GoodE.quiet rfl ?_
   intro S m w hS hr
   refine (hj n hn w).mono ?_
   rintro e w' ⟨rfl, rfl⟩
   exact ⟨by rw [dig2_eq hn]; rfl, Quiet.refl _⟩
  ·cases e
 ·cases e
end Go.Mini
namespace Go
variable {H : Type} {enc : TypeId × Value → H}
theorem returnsInHanded_of_change_both {a : Assume} {C : Checked} {os : Os} {f : FuncId} {fn : Func} {s : ChangeSpec} {conds : List PathCond} {apart fresh handsOn again : Bool} {X : World → Array Value → Prop}
  (hX : ∀ (w w' : World) (args : Array Value), w.heap = w'.heap → X w args → X w' args)
  (own : ownKnob C.prog.godebug = none) (started : os.Started) (noInit : C.prog.inits.idxOf? f = none) (hfn : C.prog.funcs[f]? = some fn)
  (witness : ∃ (w : World) (tape : Tape) (i : Input), w.os = os ∧ (w.forCall tape i).Shaped C.prog ∧ i.vars = [] ∧ Input.okWide C.prog (w.forCall tape i) .any w.heap.size f i ∧
   ((s.pre enc C.prog fn conds apart (w.forCall tape i).memory i.args ∧ X (w.forCall tape i).memory i.args) ∧ sizedMet enc C.prog fn (OpenSpec.ofChange s) apart (w.forCall tape i).memory i.args) ∧ a.holds C.prog (lone (Frame.enter C.prog f i.args .normal) [] (w.forCall tape i)))
  (contract : ∀ (W : World) (base : Nat) (args : Array Value) (ds gs : List (DataW H)) (before : List MemPlace),
   (∀ (j : Nat) t v, fn.params[j]? = some t → args[j]? = some v → Value.okWide C.prog W .any base t v) →
   DataW.Whole enc C.prog fn.params.toList s.vars apart W args.toList ds gs before →
   conds.all (PathCond.test C.prog ⟨fn.params.toList, ds, s.plain.varTypes C.prog, gs⟩) = true →
   (DataW.weightsEach C.prog (fn.params.toList ++ s.plain.varTypes C.prog) (ds ++ gs)).all (· ≤ reachBytes) = true → X W args → W.ShapedOpen C.prog →
   a.holds C.prog (lone (Frame.enter C.prog f args .normal) [] W) →
   Calls C.prog f args W fun e W' => ∃ v, e = .returned v ∧ s.post enc C.prog fn apart fresh handsOn again W args v W') :
  ReturnsInHanded a C os f .any (fun w args => (s.pre enc C.prog fn conds apart w args ∧ X w args) ∧ sizedMet enc C.prog fn (OpenSpec.ofChange s) apart w args) (s.post enc C.prog fn apart fresh handsOn again) := by
 refine returnsInHanded_of_calls own started noInit witness ?_
 intro w tape i _ hsh _ hok hpre hholds
 obtain ⟨_, _, _, fn', hfn', _, _, _, _, hval⟩ := hok
 have e : fn' = fn := Option.some.inj (hfn'.symm.trans hfn)
 subst e
 obtain ⟨⟨⟨ds, gs, before, hw, hc⟩, hx⟩, hz⟩ := hpre
 have hw' := DataW.Whole.of_heap (w' := w.forCall tape i) (by rfl) hw
 refine (contract (w.forCall tape i) w.heap.size i.args ds gs before hval hw' hc (hz.weights hw) (hX _ _ _ (by rfl) hx) hsh hholds).mono fun e W' ⟨v, he, hp⟩ => ?_
 subst he
 exact ChangeSpec.post_blind hp
end Go
end
section
namespace Go.Mini
section
variable {P : Program} {S : Start} {m : Ren} {h : Heap} {w : World}
end
section
universe v
variable {β : Type v}
end
end Go.Mini
end
section
namespace Go.Mini
end Go.Mini
end
section
namespace Go.Mini
theorem ORel.scO {P : Program} {base n : Nat} {m : Ren} {w : World} {i : Nat} {o : AObj} (h : ORel P base m n w i o) : Mini.scO n o := by
 cases o with
 | row r => exact (scL_all _ _).2 h.1
 | map es c => exact h.1
 | _ => trivial
theorem HRel.eldest {P : Program} {S : Start} {m : Ren} {h h2 : Heap} {w : World} (hr : HRel P S m h w) (hG : S.G ≤ h2.next) (hg : ∀ j, j < h2.next → h2.get j = h.get j) (hs : ∀ j o, h2.get j = some o → Mini.scO h2.next o) : HRel P S m h2 w where
 gle := hG
 glob := hr.glob
 obj i o ho := by
  have hi := Heap.lg ho
  have h1 := hr.obj i o (by rw [← hg i hi]; exact ho)
  have h3 := hs i o ho
  cases o with
  | dead => trivial
  | row r => exact ⟨(scL_all _ _).1 h3, h1.2⟩
  | map es c => exact ⟨h3, h1.2⟩
  | iter s p => exact h1
 apart i j o p hij hi hj := by
  have li := Heap.lg hi
  have lj := Heap.lg hj
  exact hr.apart i j o p hij (by rw [← hg i li]; exact hi) (by rw [← hg j lj]; exact hj)
 frame := hr.frame
 size := hr.size
 io := hr.io
theorem GoodE.clean {P : Program} {G : Nat} {B : Base P G} {f : FuncId} {args : List Value} {h h' h2 : Heap} {v : Value} (hg : GoodE P B f args h v h') (hv : flat v = true) (hn : h2.next = h.next)
  (he : ∀ j, j < h.next → h'.get j = h2.get j) (hs : ∀ j o, h2.get j = some o → h.get j = some o ∨ scO h.next o) : GoodE P B f args h v h2 := by
 intro S hS m w hr hsc
 refine (hg S hS m w hr hsc).mono ?_
 rintro e w' ⟨m', q1, _, q3, rfl, _⟩
 refine ⟨m', q1, by omega, q3.eldest (by rw [hn]; exact hr.gle) (fun j hj => (he j (by omega)).symm) ?_, rfl, sc_flat _ v hv⟩
 intro j o ho
 rw [hn]
 rcases hs j o ho with h1 | h1
 ·exact (hr.obj j o h1).scO
 ·exact h1
theorem Does.clean {P : Program} {G : Nat} {B : Base P G} {f : FuncId} {args : List Value} {h h2 : Heap} {v : Value} (hd : Does P G (GoodE P B) f args h fun x h' => x = .returned v ∧ h.next ≤ h'.next ∧ ∀ j, j < h.next → h'.get j = h2.get j) (hv : flat v = true) (hn : h2.next = h.next)
  (hs : ∀ j o, h2.get j = some o → h.get j = some o ∨ scO h.next o) : GoodE P B f args h v h2 := by
 obtain ⟨e, h', b, rfl, _, q2⟩ := hd
 exact (GoodE.of b).clean hv hn q2 hs
theorem GoodE.does {P : Program} {G : Nat} {B : Base P G} {f : FuncId} {args : List Value} {h h2 : Heap} {v : Value} (hg : GoodE P B f args h v h2) : Does P G (GoodE P B) f args h fun x h' => x = .returned v ∧ h' = h2 := ⟨_, _, .ext hg, rfl, rfl⟩
end Go.Mini
end
