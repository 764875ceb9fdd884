/-
  MINI, part G: append, copy, clear, len, min, max; bytes and strings.
-/
import Derived.Test.YtbcdlipddmoobaaMiniF
namespace Go.Mini
open Go.Lib (strCells strCells_length strCells_oneCell)

section
variable {P : Program} {S : Start} {m : Ren} {h : Heap} {w : World}

theorem run_append_in {st xt ty e : TypeId} {xd : TypeDesc} {i : TypeInfo} {a : Addr} {l cap n : Nat} {x : Value} {new : Array Value} {w' : World}
    (hst : P.underlying st = some (.slice e)) (hxt : P.underlying xt = some xd) (hxd : seqD xd = true) (hi : P.info? e = some i)
    (hn : (Builtin.lenOf x).run P w = .ok n w) (hnew : (Builtin.firstCells i.size n x).run P w = .ok new w) (hle : l + n ≤ cap)
    (hrun : (storeCells (a.add (l * i.size)) new.toList 0).run P w = .ok () w') :
    (Builtin.append_ #[st, xt] ty #[.slice (some a) l cap, x]).run P w = .ok (.slice (some a) (l + n) cap) w' := by
  unfold Builtin.append_
  cases xd <;> first | (simp [seqD] at hxd; done) | (simp [run_underlying hst, run_underlying hxt, run_sizeOf' hi, hn, hnew, hle, hrun]; done)

theorem run_append_nothing {st xt ty e : TypeId} {xd : TypeDesc} {i : TypeInfo} {x : Value}
    (hst : P.underlying st = some (.slice e)) (hxt : P.underlying xt = some xd) (hxd : seqD xd = true) (hi : P.info? e = some i)
    (hn : (Builtin.lenOf x).run P w = .ok 0 w) (hnew : ∃ new, (Builtin.firstCells i.size 0 x).run P w = .ok new w) :
    (Builtin.append_ #[st, xt] ty #[.slice none 0 0, x]).run P w = .ok (.slice none 0 0) w := by
  obtain ⟨new, hnew⟩ := hnew
  unfold Builtin.append_
  cases xd <;> first | (simp [seqD] at hxd; done) | (simp [run_underlying hst, run_underlying hxt, run_sizeOf' hi, hn, hnew]; done)

theorem run_append_out {st xt ty e : TypeId} {xd : TypeDesc} {i : TypeInfo} {z : Value} {base : Option Addr} {l cap n : Nat} {x : Value} {old new : Array Value}
    (hst : P.underlying st = some (.slice e)) (hxt : P.underlying xt = some xd) (hxd : seqD xd = true) (hi : P.info? e = some i) (hz : i.zero = some z)
    (hn : (Builtin.lenOf x).run P w = .ok n w) (hnew : ∀ w', w'.heap = w.heap → Mini.io w' = Mini.io w → (Builtin.firstCells i.size n x).run P w' = .ok new w')
    (hold : ∀ w', w'.heap = w.heap → Mini.io w' = Mini.io w → (Builtin.firstCells i.size l (.slice base l cap)).run P w' = .ok old w') (hlt : cap < l + n) (hb : (l + n) * i.bytes ≤ 140737488355328) (hmx : l + n ≤ 140737488355328) :
    ∃ c w', l + n ≤ c ∧ (Builtin.append_ #[st, xt] ty #[.slice base l cap, x]).run P w = .ok (.slice (some ⟨w.heap.size, 0, none⟩) (l + n) c) w' ∧
      w'.heap = (w.alloc (.cells (old ++ new ++ Builtin.zeroCells z.cells (c - (l + n))) e)).heap ∧ Mini.io w' = Mini.io w := by
  refine ⟨grownCap w (l + n) cap e, { w.drew with heap := w.heap.push (.cells (old ++ new ++ Builtin.zeroCells z.cells (grownCap w (l + n) cap e - (l + n))) e) }, grownCap_ge _ _ _ _, ?_, rfl, rfl⟩
  have hnl : ¬ l + n ≤ cap := by omega
  have hmax : IntKind.i64.max = 9223372036854775807 := by decide
  have h1 : ¬ (((l + n : Nat) : Int) > IntKind.i64.max) := by rw [hmax]; omega
  have h2 : ¬ (Builtin.nextslicecap (l + n) cap * i.bytes > 2 ^ 48) := by
    have := nextslicecap_le hlt
    have h3 : Builtin.nextslicecap (l + n) cap * i.bytes ≤ 2 * (l + n) * i.bytes := Nat.mul_le_mul_right _ this
    have h4 : 2 * (l + n) * i.bytes = 2 * ((l + n) * i.bytes) := Nat.mul_assoc _ _ _
    omega
  have h2' : ¬ (281474976710656 < Builtin.nextslicecap (l + n) cap * i.bytes) := by simpa using h2
  have e1 := hold w.drew rfl rfl
  have e2 := hnew w.drew rfl rfl
  have hzz : (zeroValue e).run P w.drew = .ok z w.drew := run_zeroValue' hi hz _
  have hti : ∀ w0 : World, (typeInfo e).run P w0 = .ok i w0 := fun w0 => by simp [typeInfo, hi]
  have hq : (Question.appendCap (l + n) cap e).forced = false := rfl
  have h1' : ¬ (9223372036854775807 < (l : Int) + (n : Int)) := by omega
  unfold Builtin.append_
  cases xd <;> first
    | (simp [seqD] at hxd; done)
    | (simp [run_underlying hst, run_underlying hxt, run_sizeOf' hi, hn, hnl, hti, hq, h1', h2', e1, e2, hzz, newRow, grownCap, -World.alloc_eq]; rfl)

theorem cells_toList (l : List Value) (f : Value → Value) : ((l.map f).toArray).toList = l.map f := by simp

theorem afirst_run_any (hr : HRel P S m h w) {size n : Nat} {x : Value} {cs : List Value} (e : afirst h size n x = some cs) (w' : World) (he : w'.heap = w.heap) (hio : Mini.io w' = Mini.io w) :
    (Builtin.firstCells size n (ren m x)).run P w' = .ok (cs.map (ren m)).toArray w' := (afirst_run (hr.world he hio) e).1

theorem agrow_run (hr : HRel P S m h w) {st xt ty e : TypeId} {xd : TypeDesc} {i : TypeInfo} {z : Value} {base : Option Addr} {l cap n : Nat} {x v : Value} {cs new : List Value} {h' : Heap} {str : Bool}
    (hst : P.underlying st = some (.slice e)) (hxt : P.underlying xt = some xd) (hxd : seqD xd = true) (hi : P.info? e = some i) (hz : i.zero = some z)
    (hn : alenOf x = some n) (hnew : afirst h i.size n x = some new) (hsc : ∀ c ∈ cs, sc h.next c)
    (hold : ∀ w', w'.heap = w.heap → Mini.io w' = Mini.io w → (Builtin.firstCells i.size l (.slice base l cap)).run P w' = .ok (cs.map (ren m)).toArray w') (hlt : cap < l + n)
    (eg : agrow P h e (l + n) (cs ++ new) str = some (v, h')) :
    Goes P S m h w (Builtin.append_ #[st, xt] ty #[.slice base l cap, ren m x]) v h' := by
  have hsn := (afirst_run hr hnew).2
  have hs : ∀ c ∈ cs ++ new, sc h.next c := by
    intro c hc
    rcases List.mem_append.1 hc with hc | hc
    · exact hsc c hc
    · exact hsn c hc
  have hb := (hr.grow hs eg 0 i z hi hz).2.2.2
  obtain ⟨c, w', hc, hrun, hheap, hio⟩ := run_append_out (ty := ty) hst hxt hxd hi hz (alenOf_run hn) (afirst_run_any hr hnew) hold hlt hb.1 hb.2
  obtain ⟨h1, rfl, hnx, _⟩ := hr.grow hs eg (c - (l + n)) i z hi hz
  refine ⟨_, w', Ren.agree_put m _ _ _ _ _ (Nat.le_refl _), ?_, h1.world ?_ hio, by simp [sc, hnx], by omega⟩
  · rw [hrun]
    simp only [ren, Ren.put_blk, Ren.put_sh, Ren.put_ext, Option.isSome_none, Bool.false_eq_true, if_false]
    congr 2
    omega
  · rw [hheap, List.map_append, ← List.append_toArray]

theorem aappend_run (hr : HRel P S m h w) {st xt ty : TypeId} {s x v : Value} {h' : Heap} (hs : sc h.next s) (e : aappend P h st xt s x = some (v, h')) :
    Goes P S m h w (Builtin.append_ #[st, xt] ty #[ren m s, ren m x]) v h' := by
  unfold aappend at e
  split at e
  · rename_i el xd hst hxt
    obtain ⟨i, hi, e1⟩ := Option.bind_eq_some_iff.1 e
    clear e
    obtain ⟨n, hn, e2⟩ := Option.bind_eq_some_iff.1 e1
    clear e1
    obtain ⟨new, hnew, e⟩ := Option.bind_eq_some_iff.1 e2
    clear e2
    split at e
    · cases e
    rename_i hxd0
    have hxd : seqD xd = true := by simpa using hxd0
    obtain ⟨hfr, hsn⟩ := afirst_run hr hnew
    have hne : ∀ q : Option (Value × Heap), q = none → q = some (v, h') → False := fun q h1 h2 => by rw [h1] at h2; cases h2
    cases s with
    | slice a l c =>
     cases a with
     | none =>
      simp only [] at e
      split at e
      · rename_i hlc
        obtain ⟨rfl, rfl⟩ := hlc
        split at e
        · rename_i hn0
          subst hn0
          simp only [Option.some.injEq, Prod.mk.injEq] at e
          obtain ⟨rfl, rfl⟩ := e
          refine Goes.same hr ?_ hs
          simp only [ren]
          exact run_append_nothing hst hxt hxd hi (alenOf_run hn) ⟨_, hfr⟩
        · rename_i hn0
          have hz : ∃ z, i.zero = some z := by
            unfold agrow at e
            rw [hi] at e
            obtain ⟨z, hz, _⟩ := Option.bind_eq_some_iff.1 (by simpa using e)
            exact ⟨z, hz⟩
          obtain ⟨z, hz⟩ := hz
          have e' : agrow P h el (0 + n) ([] ++ new) false = some (v, h') := by simpa using e
          simp only [ren]
          exact agrow_run hr hst hxt hxd hi hz hn hnew (by simp) (fun w' _ _ => by simp [Builtin.firstCells]) (by omega) e'
      · cases e
     | some ad =>
      obtain ⟨b, k, sp⟩ := ad
      simp only [] at e
      have hb : b < h.next := by simpa [sc] using hs
      obtain ⟨cc, hcc⟩ : ∃ cc, cc = (if sp.isSome then c else c + m.ext b) := ⟨_, rfl⟩
      have hge : c ≤ cc := by rw [hcc]; split <;> omega
      split at e
      · rename_i hle
        split at e
        · rename_i hnil
          subst hnil
          simp only [Option.some.injEq, Prod.mk.injEq] at e
          obtain ⟨rfl, rfl⟩ := e
          refine Goes.same hr ?_ (by simpa [sc] using hb)
          simp only [ren, ← hcc]
          exact run_append_in hst hxt hxd hi (alenOf_run hn) hfr (by omega) (by simp [storeCells])
        · split at e
          · rename_i hone
            obtain ⟨h1, hsts, e⟩ := Option.map_eq_some_iff.1 e
            simp only [Prod.mk.injEq] at e
            obtain ⟨rfl, rfl⟩ := e
            obtain ⟨w', hrun, hr', hnx⟩ := hr.sts_run hsts (fun u hu => (List.all_eq_true.1 hone) u hu) hsn
            refine ⟨m, w', Ren.agree_refl _ _, ?_, hr', by simpa [sc, hnx] using hb, by omega⟩
            simp only [ren, ← hcc]
            refine run_append_in hst hxt hxd hi (alenOf_run hn) hfr (by omega) ?_
            rw [addr_add, cells_toList, show k + m.sh b + l * i.size = k + l * i.size + m.sh b by omega]
            exact hrun
          · cases e
      · rename_i hle
        obtain ⟨old, hold, e⟩ := Option.bind_eq_some_iff.1 e
        obtain ⟨r, hrow, e⟩ := Option.bind_eq_some_iff.1 e
        have hz : ∃ z, i.zero = some z := by
          split at e
          · unfold agrow at e
            rw [hi] at e
            obtain ⟨z, hz, _⟩ := Option.bind_eq_some_iff.1 (by simpa using e)
            exact ⟨z, hz⟩
          · split at e
            · unfold agrow at e
              rw [hi] at e
              obtain ⟨z, hz, _⟩ := Option.bind_eq_some_iff.1 (by simpa using e)
              exact ⟨z, hz⟩
            · cases e
        obtain ⟨z, hz⟩ := hz
        obtain ⟨hl1, hl2, hl3⟩ := hr.lds_run hold
        have hfold : ∀ cap w', w'.heap = w.heap → Mini.io w' = Mini.io w → (Builtin.firstCells i.size l (.slice (some ⟨m.blk b, k + m.sh b, none⟩) l cap)).run P w' = .ok (old.map (ren m)).toArray w' := by
          intro cap w' he hio
          simpa [Builtin.firstCells] using ((hr.world he hio).lds_run hold).1
        split at e
        · rename_i hsg
          have hext : cc = c := by
            rw [hcc]
            cases hsp : sp.isSome with
            | true => simp
            | false =>
              rw [hsp] at hsg
              simp only [Bool.false_or, Bool.not_eq_true'] at hsg
              obtain ⟨_, _, _, _, _, _, _, _, _, _, h5⟩ := hr.obj b _ (Heap.row_some.1 hrow)
              simp [h5 hsg]
          simp only [ren, ← hcc]
          exact agrow_run hr hst hxt hxd hi hz hn hnew hl2 (hfold cc) (by omega) e
        · rename_i hsg
          simp only [Bool.or_eq_true, Bool.not_eq_true', not_or, Bool.not_eq_true, Bool.not_eq_false] at hsg
          split at e
          · rename_i hcnd
            obtain ⟨ho, hro, hkc, hcell, hone, hre⟩ := hcnd
            have hsp : cc = c + m.ext b := by rw [hcc, hsg.1]; simp
            simp only [ren, ← hcc]
            by_cases hroom : l + n ≤ cc
            · have hnl : new.length + l * i.size = (l + n) * i.size := by
                unfold agrow at e
                rw [hi] at e
                simp only [Option.bind_some, hz] at e
                split at e
                · rename_i q
                  have := q.2.2.2
                  rw [List.length_append, hl3] at this
                  omega
                · cases e
              obtain ⟨w', hrun, hr', rfl, hnx⟩ := hr.growIn hi (Heap.row_some.1 hrow) ho hro hkc hcell hre hold hnl hone hsn (by omega) e
              refine ⟨_, w', Ren.agree_put m _ _ _ _ _ (Nat.le_refl _), ?_, hr', by simp [sc, hnx], by omega⟩
              have := run_append_in (ty := ty) (a := ⟨m.blk b, k + m.sh b, none⟩) (l := l) (cap := cc) (w' := w') hst hxt hxd hi (alenOf_run hn) hfr hroom (by rw [addr_add, cells_toList]; exact hrun)
              rw [this]
              simp only [ren, Ren.put_blk, Ren.put_sh, Ren.put_ext, Option.isSome_none, Bool.false_eq_true, if_false, Nat.zero_add]
              congr 2
              omega
            · have hk := hr.kill (Heap.row_some.1 hrow)
              have hgo : Goes P S m (h.set b .dead) w (Builtin.append_ #[st, xt] ty #[.slice (some ⟨m.blk b, k + m.sh b, none⟩) l cc, ren m x]) v h' := by
                have hs' : ∀ c ∈ old ++ new, sc (h.set b .dead).next c := by
                  intro c hc
                  simp only [Heap.next_set]
                  rcases List.mem_append.1 hc with hc | hc
                  · exact hl2 c hc
                  · exact hsn c hc
                have hbd := (hk.grow hs' e 0 i z hi hz).2.2.2
                obtain ⟨c', w', hc', hrun, hheap, hio⟩ := run_append_out (ty := ty) hst hxt hxd hi hz (alenOf_run hn) (afirst_run_any hr hnew) (hfold cc) (by omega) hbd.1 hbd.2
                obtain ⟨h1, rfl, hnx, _⟩ := hk.grow hs' e (c' - (l + n)) i z hi hz
                simp only [Heap.next_set] at h1 hnx
                refine ⟨_, w', Ren.agree_put m h.next _ _ _ _ (by simp), ?_, h1.world ?_ hio, by simp [sc, hnx], by simp [hnx]⟩
                · rw [hrun]
                  simp only [ren, Heap.next_set, Ren.put_blk, Ren.put_sh, Ren.put_ext, Option.isSome_none, Bool.false_eq_true, if_false]
                  congr 2
                  omega
                · rw [hheap, List.map_append, ← List.append_toArray]
              obtain ⟨m', w', g1, g2, g3, g4, g5⟩ := hgo
              exact ⟨m', w', by simpa using g1, g2, g3, g4, by simpa using g5⟩
          · cases e
    | _ => exact (hne _ rfl e).elim
  · cases e
end
end Go.Mini
