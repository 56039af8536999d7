/- Which instructions may throw. -/
import Derived.Test.YthemfgeagohdhaaLInsS
namespace Go.Vm
open Cel
attribute [local simp] callAny callP heapOf_nil

@[simp] theorem s_Throws (x : Ins) : (callW E).p 18 [.agg (enc x)] = some ⟨.bool (throws x.op), [], true, [], []⟩ := by
  rw [x_ins_Throws]
  rcases op_cases x.op with h|h|h|h|h|h|h|h|h|h|h|h|h|h|h|h|h|h|h|h|h|h|h|h|h|h|h|h|h|h|h|h|h|h|h <;> first | (simp [h, throws, calls, ins_Throws_1]; done) | (simp [lo_f h, throws, calls, ins_Throws_1]; done) | simp [hi_f h, throws, calls, ins_Throws_1]
end Go.Vm
