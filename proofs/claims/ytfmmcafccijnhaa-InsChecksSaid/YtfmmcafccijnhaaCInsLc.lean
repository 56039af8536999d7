/- InsChecks: functions are well formed just where the document says so. -/
import Derived.Test.YtfmmcafccijnhaaCRefC
import Derived.Test.YtfmmcafccijnhaaCTys
namespace Go.Vm
open Cel
attribute [local simp] callAny callP heapOf_nil fpCall

theorem FnIn.fit {f : Fn} (h : FnIn f) : FnFit f := by
  have e : maxLen = 9223372036854775807 := rfl
  refine ⟨fun x hx => ?_, e ▸ h.code, e ▸ h.regs, e ▸ h.params, e ▸ h.rows⟩
  have k := h.insI x hx
  refine ⟨⟨k.n.1, ?_⟩, e ▸ k.s, e ▸ k.len⟩
  have := k.n.2
  omega
@[simp] theorem holds10 : (callW E).p 4 [] = some ⟨.bool true, [], true, [], []⟩ := lift_p 60 (by kernel_rfl)

theorem InsChecks_all (f : Fn) (hf : FnIn f) : (callW E).p 30 [.agg (enc f)] = some ⟨.bool true, [], true, [], []⟩ := by
  rw [x_regletlaw10_InsChecks]
  have h1 := s_Check f hf.fit
  have h2 := s_RCheck f hf.fit
  generalize (if wf f then (0 : Int) else 80) = k at *
  by_cases c1 : (30000 : Int) < ((lst f.code).length : Int)
  · simp [regletlaw10_InsChecks_1, regletlaw10_InsChecks_2, regletlaw10_InsChecks_3, regletlaw10_InsChecks_4, c1]
  by_cases c2 : (30000 : Int) < ((lst f.regs).length : Int)
  · simp [regletlaw10_InsChecks_1, regletlaw10_InsChecks_2, regletlaw10_InsChecks_3, regletlaw10_InsChecks_4, c1, c2]
  by_cases c3 : (1000 : Int) < ((lst f.params).length : Int)
  · simp [regletlaw10_InsChecks_1, regletlaw10_InsChecks_2, regletlaw10_InsChecks_3, regletlaw10_InsChecks_4, c1, c2, c3]
  by_cases c4 : (10000 : Int) < ((lst f.rows).length : Int)
  · simp [regletlaw10_InsChecks_1, regletlaw10_InsChecks_2, regletlaw10_InsChecks_3, regletlaw10_InsChecks_4, c1, c2, c3, c4]
  simp [regletlaw10_InsChecks_1, regletlaw10_InsChecks_2, regletlaw10_InsChecks_3, regletlaw10_InsChecks_4, c1, c2, c3, c4, h1, h2, pairsOk, fpApart, meets]
end Go.Vm
