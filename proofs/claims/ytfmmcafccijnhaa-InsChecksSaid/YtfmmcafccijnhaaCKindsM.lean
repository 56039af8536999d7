/- What an instruction wants of its registers, in plain words. -/
import Derived.Test.YtfmmcafccijnhaaCInsM
import Derived.Test.YtfmmcafccijnhaaCDescS2
import Derived.Test.YtfmmcafccijnhaaCNumK
namespace Go.Vm

/-- Of Dst, A, B, C (0: any; below: none), and whether it is one. -/
def kindsM (x : Ins) : Int × Int × Int × Int × Bool :=
  match x.op with
  | 1 => (0, -1, -1, -1, true)
  | 2 => (3, -1, -1, -1, true)
  | 3 => (3, -1, -1, -1, true)
  | 4 => (0, 0, -1, -1, true)
  | 5 => ((numK x.n).2.2, (numK x.n).1, (numK x.n).2.1, -1, decide (¬ (numK x.n).2.1 = 0))
  | 6 => ((numK x.n).2.2, (numK x.n).1, -1, -1, decide (¬ (numK x.n).1 = 0) && decide ((numK x.n).2.1 = 0))
  | 7 => (-1, 0, -1, -1, true)
  | 8 => (-1, 3, -1, -1, true)
  | 9 => (-1, 3, 1, -1, true)
  | 10 => (-1, 1, -1, -1, true)
  | 11 => (-1, 3, 3, -1, true)
  | 12 => (-1, 3, -1, -1, typeOk x.s)
  | 13 => (0, 3, 1, -1, true)
  | 14 => (-1, 3, 1, 0, true)
  | 15 => (1, 3, -1, -1, true)
  | 16 => (0, 3, -1, -1, decide (0 ≤ x.n))
  | 17 => (-1, 3, 0, -1, decide (0 ≤ x.n))
  | 18 => (0, -1, -1, -1, true)
  | 19 => (-1, 0, -1, -1, true)
  | 20 => (3, -1, -1, -1, true)
  | 21 => (3, 1, -1, -1, typeOk x.s)
  | 22 => (1, 3, -1, -1, typeOk x.s)
  | 23 => (if x.d = -1 then -1 else 0, -1, -1, -1, decide (0 ≤ x.n) && decide ((lst x.args).length ≤ 21))
  | 24 => (if x.d = -1 then -1 else 0, -1, -1, -1, decide (0 < (lst x.args).length) && decide (0 ≤ x.n) && decide ((lst x.args).length ≤ 21))
  | 25 => (if x.d = -1 then -1 else 0, -1, -1, -1, decide (0 < (lst x.args).length) && decide ((lst x.args).length ≤ 21))
  | 26 => (if x.d = -1 then -1 else 0, -1, -1, -1, decide (0 ≤ x.n) && decide ((lst x.args).length ≤ 21))
  | 27 => (-1, -1, -1, -1, true)
  | 28 => (-1, 1, 1, -1, decide (0 ≤ x.n) && decide (x.n ≤ 5))
  | 29 => (-1, 3, if x.b = -1 then -1 else 3, -1, decide (x.n = 0) || decide (x.n = 1))
  | 30 => (-1, if x.a = -1 then -1 else 0, -1, -1, true)
  | 31 => (-1, 3, -1, -1, true)
  | 32 => (3, -1, -1, -1, true)
  | 33 => (-1, -1, -1, -1, true)
  | _ => (0, 0, 0, 0, false)
def exK (k : Int × Int × Int × Int × Bool) : Ex AV := ⟨.tup [.agg [.int .i64 k.1, .int .i64 k.2.1, .int .i64 k.2.2.1, .int .i64 k.2.2.2.1], .bool k.2.2.2.2], [], true, [], []⟩
theorem kindsM_out {x : Ins} (h : x.op < 1 ∨ 33 < x.op) : kindsM x = (0, 0, 0, 0, false) := by
  unfold kindsM
  split <;> first | rfl | omega
end Go.Vm
