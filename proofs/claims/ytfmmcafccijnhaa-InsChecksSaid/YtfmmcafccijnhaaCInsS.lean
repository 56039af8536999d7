/- What the functions of 'ins' answer of single instructions. -/
import Derived.Test.YtfmmcafccijnhaaCInsM
import Derived.Test.YtfmmcafccijnhaaCX
namespace Go.Vm
open Cel
attribute [local simp] callAny callP heapOf_nil

@[simp] theorem s_Ends (x : Ins) : (callW E).p 24 [.agg (enc x)] = some ⟨.bool (ends x.op), [], true, [], []⟩ := by
  rw [x_ins_Ends, ins_Ends_1]
  by_cases h1 : x.op = 27
  · simp [h1, ends]
  by_cases h2 : x.op = 30
  · simp [h2, ends]
  by_cases h3 : x.op = 31 <;> simp [h1, h2, h3, ends]
@[simp] theorem s_Leads (x : Ins) : (callW E).p 22 [.agg (enc x)] = some ⟨.bool (leads x.op), [], true, [], []⟩ := by
  rw [x_ins_Leads, ins_Leads_1]
  by_cases h1 : x.op = 27
  · simp [h1, leads]
  by_cases h2 : x.op = 28
  · simp [h2, leads]
  by_cases h3 : x.op = 29 <;> simp [h1, h2, h3, leads]
@[simp] theorem s_Calls (x : Ins) : (callW E).p 17 [.agg (enc x)] = some ⟨.bool (calls x.op), [], true, [], []⟩ := by
  rw [x_ins_Calls, ins_Calls_1]
  by_cases h1 : 23 ≤ x.op
  · by_cases h2 : x.op ≤ 26 <;> simp [h1, h2, calls]
  · simp [h1, calls]
@[simp] theorem s_Def (x : Ins) : (callW E).p 9 [.agg (enc x)] = some ⟨.int .i64 (defr x), [], true, [], []⟩ := by
  rw [x_ins_Def]
  rcases op_cases x.op with h|h|h|h|h|h|h|h|h|h|h|h|h|h|h|h|h|h|h|h|h|h|h|h|h|h|h|h|h|h|h|h|h|h|h <;> first | (simp [h, defr, writes, calls, ins_Def_1, ins_Def_2, ins_Def_3, ins_Def_4, ins_Def_6, ins_Def_8]; done) | (simp [lo_f h, defr, writes, calls, ins_Def_1, ins_Def_2, ins_Def_3, ins_Def_4, ins_Def_6, ins_Def_8]; done) | simp [hi_f h, defr, writes, calls, ins_Def_1, ins_Def_2, ins_Def_3, ins_Def_4, ins_Def_6, ins_Def_8]

theorem app_fits {n b : Nat} (hb : b ≤ 200) (h : n ≤ 2 ^ 38) : (2 * n + 512) * b ≤ 281474976710656 := by
  have e : (2:Nat)^38 = 274877906944 := by decide
  have h1 : (2 * n + 512) ≤ 549755814400 := by omega
  have : (2 * n + 512) * b ≤ 549755814400 * 200 := Nat.mul_le_mul h1 hb
  omega
@[simp] theorem s_Clone_int (o : Option (List Int)) (h : (lst o).length ≤ 2 ^ 38) : (callW E).p 39 [slA o] = some (exO o) := by
  rw [x_slices_Clone_int_int]
  cases o with
  | none => simp [slices_Clone_int_int_1, slices_Clone_int_int_2, slices_Clone_int_int_3]; rfl
  | some L =>
    have h1 := app_fits (b := 8) (by omega) h
    simp only [lst_some] at h1
    simp [slices_Clone_int_int_1, slices_Clone_int_int_2, slices_Clone_int_int_3, buildSC, fillRows, evApp, h1]
    exact expo1_own (α := Int) (by simp)
end Go.Vm
