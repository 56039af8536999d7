/- What is told of instructions, in plain words. -/
import Derived.Test.YthemfgeagohdhaaLTyp
namespace Go.Vm
def calls (o : Int) : Bool := decide (23 ≤ o) && decide (o ≤ 26)
def ends (o : Int) : Bool := decide (o = 27) || decide (o = 30) || decide (o = 31)
def leads (o : Int) : Bool := decide (o = 27) || decide (o = 28) || decide (o = 29)
def throws (o : Int) : Bool := (decide (7 ≤ o) && decide (o ≤ 12)) || decide (o = 20) || decide (o = 21) || decide (o = 31) || calls o
def purel (o : Int) : Bool := decide (o ∈ [1, 2, 3, 4, 5, 6, 13, 15, 16, 18, 22])
/-- Does it write 'Dst'? -/
def writes (o : Int) : Bool := decide (o ∈ [1, 2, 3, 4, 5, 6, 13, 15, 16, 18, 20, 21, 22, 32]) || calls o
def defr (x : Ins) : Int := if writes x.op then x.d else -1
/-- How many of A, B, C it reads, where that hangs on 'Op' alone. -/
def reads (o : Int) : Nat :=
  if o ∈ [4, 6, 7, 8, 10, 12, 15, 16, 19, 21, 22, 31] then 1 else if o ∈ [5, 9, 11, 13, 17, 28] then 2 else if o = 14 then 3 else 0
def uses (x : Ins) : Option (List Int) :=
  if calls x.op then x.args
  else if x.op = 29 then (if x.b < 0 then some [x.a] else some [x.a, x.b])
  else if x.op = 30 then (if 0 ≤ x.a then some [x.a] else none)
  else if reads x.op = 1 then some [x.a] else if reads x.op = 2 then some [x.a, x.b] else if reads x.op = 3 then some [x.a, x.b, x.c] else none

def putABC (x : Ins) : List Int → Ins
  | [] => x
  | [a] => { x with a := a }
  | [a, b] => { x with a := a, b := b }
  | a :: b :: c :: _ => { x with a := a, b := b, c := c }
/-- With other registers to read. -/
def repl (x : Ins) (l : Option (List Int)) : Ins :=
  if (lst (uses x)).length ≠ (lst l).length then x
  else if calls x.op then { x with args := l }
  else putABC x (lst l)

theorem uses_le3 {x : Ins} (h : calls x.op = false) : (lst (uses x)).length ≤ 3 := by
  unfold uses
  rw [h]
  simp only [Bool.false_eq_true, if_false]
  repeat' split
  all_goals simp

theorem op_cases (o : Int) : o = 1 ∨ o = 2 ∨ o = 3 ∨ o = 4 ∨ o = 5 ∨ o = 6 ∨ o = 7 ∨ o = 8 ∨ o = 9 ∨ o = 10 ∨ o = 11 ∨ o = 12 ∨ o = 13 ∨ o = 14 ∨ o = 15 ∨ o = 16 ∨ o = 17 ∨ o = 18 ∨ o = 19 ∨ o = 20 ∨ o = 21 ∨ o = 22 ∨ o = 23 ∨ o = 24 ∨ o = 25 ∨ o = 26 ∨ o = 27 ∨ o = 28 ∨ o = 29 ∨ o = 30 ∨ o = 31 ∨ o = 32 ∨ o = 33 ∨ o < 1 ∨ 33 < o := by omega
def NoOp (o : Int) : Prop := ¬ o = 1 ∧ ¬ o = 2 ∧ ¬ o = 3 ∧ ¬ o = 4 ∧ ¬ o = 5 ∧ ¬ o = 6 ∧ ¬ o = 7 ∧ ¬ o = 8 ∧ ¬ o = 9 ∧ ¬ o = 10 ∧ ¬ o = 11 ∧ ¬ o = 12 ∧ ¬ o = 13 ∧ ¬ o = 14 ∧ ¬ o = 15 ∧ ¬ o = 16 ∧ ¬ o = 17 ∧ ¬ o = 18 ∧ ¬ o = 19 ∧ ¬ o = 20 ∧ ¬ o = 21 ∧ ¬ o = 22 ∧ ¬ o = 23 ∧ ¬ o = 24 ∧ ¬ o = 25 ∧ ¬ o = 26 ∧ ¬ o = 27 ∧ ¬ o = 28 ∧ ¬ o = 29 ∧ ¬ o = 30 ∧ ¬ o = 31 ∧ ¬ o = 32 ∧ ¬ o = 33
theorem lo_f {o : Int} (h : o < 1) : (¬ o = 1 ∧ ¬ o = 2 ∧ ¬ o = 3 ∧ ¬ o = 4 ∧ ¬ o = 5 ∧ ¬ o = 6 ∧ ¬ o = 7 ∧ ¬ o = 8 ∧ ¬ o = 9 ∧ ¬ o = 10 ∧ ¬ o = 11 ∧ ¬ o = 12 ∧ ¬ o = 13 ∧ ¬ o = 14 ∧ ¬ o = 15 ∧ ¬ o = 16 ∧ ¬ o = 17 ∧ ¬ o = 18 ∧ ¬ o = 19 ∧ ¬ o = 20 ∧ ¬ o = 21 ∧ ¬ o = 22 ∧ ¬ o = 23 ∧ ¬ o = 24 ∧ ¬ o = 25 ∧ ¬ o = 26 ∧ ¬ o = 27 ∧ ¬ o = 28 ∧ ¬ o = 29 ∧ ¬ o = 30 ∧ ¬ o = 31 ∧ ¬ o = 32 ∧ ¬ o = 33) ∧ ¬ 7 ≤ o ∧ ¬ 23 ≤ o ∧ ¬ 1 ≤ o := by omega
theorem hi_f {o : Int} (h : 33 < o) : (¬ o = 1 ∧ ¬ o = 2 ∧ ¬ o = 3 ∧ ¬ o = 4 ∧ ¬ o = 5 ∧ ¬ o = 6 ∧ ¬ o = 7 ∧ ¬ o = 8 ∧ ¬ o = 9 ∧ ¬ o = 10 ∧ ¬ o = 11 ∧ ¬ o = 12 ∧ ¬ o = 13 ∧ ¬ o = 14 ∧ ¬ o = 15 ∧ ¬ o = 16 ∧ ¬ o = 17 ∧ ¬ o = 18 ∧ ¬ o = 19 ∧ ¬ o = 20 ∧ ¬ o = 21 ∧ ¬ o = 22 ∧ ¬ o = 23 ∧ ¬ o = 24 ∧ ¬ o = 25 ∧ ¬ o = 26 ∧ ¬ o = 27 ∧ ¬ o = 28 ∧ ¬ o = 29 ∧ ¬ o = 30 ∧ ¬ o = 31 ∧ ¬ o = 32 ∧ ¬ o = 33) ∧ 7 ≤ o ∧ 23 ≤ o ∧ ¬ o ≤ 12 ∧ ¬ o ≤ 26 ∧ 1 ≤ o := by omega
end Go.Vm
