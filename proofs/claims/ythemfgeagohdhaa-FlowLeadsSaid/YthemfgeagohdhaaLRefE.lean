/- The document's answer whether an operation is a call. -/
import Derived.Test.YthemfgeagohdhaaLInsM
import Derived.Test.YthemfgeagohdhaaLX
namespace Go.Vm

@[simp] theorem s_RCalls (op : Int) : (callW E).p 7 [.int .i64 op] = some ⟨.bool (calls op), [], true, [], []⟩ := by
  rw [x_regletref10_Calls, regletref10_Calls_1]
  by_cases h1 : 23 ≤ op
  · by_cases h2 : op ≤ 26 <;> simp [h1, h2, calls]
  · simp [h1, calls]
end Go.Vm
