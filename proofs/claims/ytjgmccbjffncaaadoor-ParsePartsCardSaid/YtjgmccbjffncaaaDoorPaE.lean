import Derived.Test.YtjgmccbjffncaaaDoorPaAtoPaD
import Derived.Test.YtjgmccbjffncaaaDoorPatA
set_option maxHeartbeats 4000000
set_option maxRecDepth 100000
set_option linter.unusedSimpArgs false
namespace Go.Mini
structure ArmT where
 kind : Int
 text : List UInt8
 to : List UInt8
deriving DecidableEq
structure LineT where
 op : Int
 text : List UInt8
 name : List UInt8
 n : Int
 to : List UInt8
 arms : List ArmT
 wait : Int
 late : List UInt8
deriving DecidableEq
structure BlockT where
 name : List UInt8
 lines : List LineT
deriving DecidableEq
def line0 (op : Int) : LineT := ⟨op, [], [], 0, [], [], 0, []⟩
def globB : List UInt8 := [103, 108, 111, 98]
def reB : List UInt8 := [114, 101]
def timeoutB : List UInt8 := [116, 105, 109, 101, 111, 117, 116]
def patKind (o : List Tok) (e a : Nat) : Nat × Nat := if isS o e 1 globB a then (2, a + 1) else if isS o e 1 reB a then (3, a + 1) else (1, a)
def patternS (o : List Tok) (e a : Nat) : RdR (Nat × List UInt8) := match takeS o e 4 (patKind o e a).2 with
 | .error x => .error x
 | .ok (t, a') => if (treeS (patKind o e a).1 t.text).1 = 0 then .ok (((patKind o e a).1, t.text), a') else .error ((treeS (patKind o e a).1 t.text).1, t.at')
def begins (t : Tok) : Bool := decide (t.kind = 4) || decide (t.kind = 1) && (decide (t.text = globB) || decide (t.text = reB))
def armsL (o : List Tok) (e : Nat) : Nat → LineT → Nat → RdR LineT
 | 0, _, _ => .error (0, 0)
 | f + 1, x, a =>
  if x.late = [] ∧ isS o e 1 timeoutB a then
   match numberS o e 1 1000 (a + 1) with
   | .error z => .error z
   | .ok (n, a1) => match leadsS o e a1 with
    | .error z => .error z
    | .ok (l, a2) => match takeS o e 6 a2 with
     | .error z => .error z
     | .ok (_, a3) => armsL o e f { x with wait := n, late := l } a3
  else if (x.arms ≠ [] ∨ x.late ≠ []) ∧ isS o e 5 [125] a then .ok (x, a + 1)
  else if x.late ≠ [] ∨ begins (nextS o e a) = false then .error (6, (nextS o e a).at')
  else if x.arms.length = 8 then .error (8, (nextS o e a).at')
  else match patternS o e a with
   | .error z => .error z
   | .ok ((k, s), a1) => match leadsS o e a1 with
    | .error z => .error z
    | .ok (l, a2) => match takeS o e 6 a2 with
     | .error z => .error z
     | .ok (_, a3) => armsL o e f { x with arms := x.arms ++ [⟨k, s, l⟩] } a3
def armsS (o : List Tok) (e : Nat) (x : LineT) (a : Nat) : RdR LineT := match mustS o e 5 [123] a with
 | .error z => .error z
 | .ok (_, a1) => match takeS o e 6 a1 with
  | .error z => .error z
  | .ok (_, a2) => armsL o e 11 x a2
def opsL : List (List UInt8) := [[115, 101, 110, 100], [115, 101, 116], [105, 110, 99], [105, 102], [103, 111, 116, 111], [101, 120, 105, 116], [101, 120, 112, 101, 99, 116]]
def opOf (t : Tok) : Nat := if t.kind = 1 ∧ t.text ∈ opsL then opsL.idxOf t.text + 1 else 0
def bodyS (o : List Tok) (e op a : Nat) : RdR LineT :=
 match op with
 | 1 => match takeS o e 4 a with
  | .error z => .error z
  | .ok (t, a1) => .ok ({ line0 1 with text := t.text }, a1)
 | 2 => match nameRS o e 1 a with
  | .error z => .error z
  | .ok (m, a1) => match numberS o e 0 255 a1 with
   | .error z => .error z
   | .ok (n, a2) => .ok ({ line0 2 with name := m, n := n }, a2)
 | 3 => match nameRS o e 1 a with
  | .error z => .error z
  | .ok (m, a1) => .ok ({ line0 3 with name := m }, a1)
 | 4 => match nameRS o e 1 a with
  | .error z => .error z
  | .ok (m, a1) => match mustS o e 5 [60] a1 with
   | .error z => .error z
   | .ok (_, a2) => match numberS o e 0 255 a2 with
    | .error z => .error z
    | .ok (n, a3) => match leadsS o e a3 with
     | .error z => .error z
     | .ok (l, a4) => .ok ({ line0 4 with name := m, n := n, to := l }, a4)
 | 5 => match nameRS o e 1 a with
  | .error z => .error z
  | .ok (m, a1) => .ok ({ line0 5 with to := m }, a1)
 | 6 => match numberS o e 0 255 a with
  | .error z => .error z
  | .ok (n, a1) => .ok ({ line0 6 with n := n }, a1)
 | _ => armsS o e (line0 7) a
def lineS (o : List Tok) (e r a : Nat) : RdR LineT :=
 if opOf (nextS o e a) = 0 then .error (6, (nextS o e a).at')
 else if 128 < r + 1 then .error (8, (nextS o e a).at')
 else match bodyS o e (opOf (nextS o e a)) (a + 1) with
  | .error z => .error z
  | .ok (x, a1) => match takeS o e 6 a1 with
   | .error z => .error z
   | .ok (_, a2) => .ok (x, a2)
def linesL (o : List Tok) (e : Nat) : Nat → Nat → Nat → List LineT → Except (Nat × Nat) (List LineT × Nat × Nat)
 | 0, _, _, _ => .error (0, 0)
 | f + 1, r, a, l => match lineS o e r a with
  | .error z => .error z
  | .ok (x, a1) => if 5 ≤ x.op then .ok (l ++ [x], r + 1, a1) else linesL o e f (r + 1) a1 (l ++ [x])
def blocksL (o : List Tok) (e : Nat) : Nat → Nat → Nat → List BlockT → Except (Nat × Nat) (List BlockT)
 | 0, _, _, _ => .error (0, 0)
 | f + 1, r, a, bl =>
  if a < o.length ∨ bl = [] then
   match nameRS o e 2 a with
   | .error z => .error z
   | .ok (m, a1) => if bl.length = 32 then .error (8, (nextS o e a).at')
    else match takeS o e 6 a1 with
     | .error z => .error z
     | .ok (_, a2) => match linesL o e 130 r a2 [] with
      | .error z => .error z
      | .ok (l, r', a3) => blocksL o e f r' a3 (bl ++ [⟨m, l⟩])
  else .ok bl
def progS (T : List UInt8) : Except (Nat × Nat) (List BlockT) := match lexS T with
 | .error z => .error z
 | .ok o => blocksL o T.length 34 0 0 []
end Go.Mini
