/- What 'other' answers; all of 'kinds'. -/
import Derived.Test.YtfmmcafccijnhaaCKinds
namespace Go.Vm
open Cel
attribute [local simp] callAny callP heapOf_nil
theorem other_29 (x : Ins) (h : x.op = 29) : (callW E).p 51 [.agg (enc x)] = some (exK (kindsM x)) := by
  rw [x_ins_other]
  by_cases h0 : x.b = -1 <;> by_cases h1 : x.n = 0 <;> simp [h, h0, h1, ins_other_1, ins_other_2, ins_other_3, ins_other_4, ins_other_5, ins_other_6, ins_other_7, ins_other_8, ins_other_9, ins_other_10, ins_other_11, ins_other_12, ins_other_13, ins_other_14, ins_other_15, ins_other_16, ins_other_18, ins_other_20, pairsOk, fpApart, meets, kindsM]
theorem other_30 (x : Ins) (h : x.op = 30) : (callW E).p 51 [.agg (enc x)] = some (exK (kindsM x)) := by
  rw [x_ins_other]
  by_cases h0 : x.a = -1 <;> simp [h, h0, ins_other_1, ins_other_2, ins_other_3, ins_other_4, ins_other_5, ins_other_6, ins_other_7, ins_other_8, ins_other_9, ins_other_10, ins_other_11, ins_other_12, ins_other_13, ins_other_14, ins_other_15, ins_other_16, ins_other_18, ins_other_20, pairsOk, fpApart, meets, kindsM]
set_option maxHeartbeats 4000000 in
theorem other_c (x : Ins) (h : x.op = 23 ∨ x.op = 24 ∨ x.op = 25 ∨ x.op = 26) : (callW E).p 51 [.agg (enc x)] = some (exK (kindsM x)) := by
  rw [x_ins_other]
  have e1 : ((0 : Int) < ((lst x.args).length : Int)) = (0 < (lst x.args).length) := by simp
  have e2 : (((lst x.args).length : Int) ≤ (21 : Int)) = ((lst x.args).length ≤ 21) := by simp; omega
  by_cases h0 : x.d = -1 <;> by_cases h1 : 0 ≤ x.n <;> by_cases h2 : 0 < (lst x.args).length <;> rcases h with h|h|h|h <;> simp [h, h0, h1, h2, e1, e2, ins_other_1, ins_other_2, ins_other_3, ins_other_4, ins_other_5, ins_other_6, ins_other_7, ins_other_8, ins_other_9, ins_other_10, ins_other_11, ins_other_12, ins_other_13, ins_other_14, ins_other_15, ins_other_16, ins_other_18, ins_other_20, pairsOk, fpApart, meets, kindsM]
theorem other_o (x : Ins) (h : x.op < 1 ∨ 33 < x.op) : (callW E).p 51 [.agg (enc x)] = some (exK (kindsM x)) := by
  rw [x_ins_other, kindsM_out h]
  rcases h with h|h
  · simp [lo_f h, ins_other_1, ins_other_2, ins_other_3, ins_other_4, ins_other_5, ins_other_6, ins_other_7, ins_other_8, ins_other_9, ins_other_10, ins_other_11, ins_other_12, ins_other_13, ins_other_14, ins_other_15, ins_other_16, ins_other_18, ins_other_20, pairsOk, fpApart, meets]
  · simp [hi_f h, ins_other_1, ins_other_2, ins_other_3, ins_other_4, ins_other_5, ins_other_6, ins_other_7, ins_other_8, ins_other_9, ins_other_10, ins_other_11, ins_other_12, ins_other_13, ins_other_14, ins_other_15, ins_other_16, ins_other_18, ins_other_20, pairsOk, fpApart, meets]
theorem kinds_o (x : Ins) (h : x.op = 29 ∨ x.op = 30 ∨ x.op = 23 ∨ x.op = 24 ∨ x.op = 25 ∨ x.op = 26 ∨ x.op < 1 ∨ 33 < x.op) : (callW E).p 47 [.agg (enc x)] = some (exK (kindsM x)) := by
  have ho : (callW E).p 51 [.agg (enc x)] = some (exK (kindsM x)) := by
    rcases h with h|h|h|h|h|h|h
    · exact other_29 x h
    · exact other_30 x h
    · exact other_c x (.inl h)
    · exact other_c x (.inr (.inl h))
    · exact other_c x (.inr (.inr (.inl h)))
    · exact other_c x (.inr (.inr (.inr h)))
    · exact other_o x h
  rw [x_ins_kinds]
  generalize kindsM x = k at ho
  obtain ⟨a, b, c, d, o⟩ := k
  simp only [exK] at ho
  rcases h with h|h|h|h|h|h|h|h
  iterate 6 (simp [h, ho, ins_kinds_1, ins_kinds_2, ins_kinds_3, ins_kinds_4, ins_kinds_5, ins_kinds_6, ins_kinds_7, ins_kinds_8, ins_kinds_9, ins_kinds_10, ins_kinds_11, ins_kinds_12, ins_kinds_13, ins_kinds_14, ins_kinds_15, ins_kinds_16, ins_kinds_17, ins_kinds_18, ins_kinds_19, ins_kinds_20, ins_kinds_21, ins_kinds_22, ins_kinds_23, ins_kinds_24, ins_kinds_25, ins_kinds_26, ins_kinds_27, ins_kinds_28, ins_kinds_29, ins_kinds_30, ins_kinds_31, ins_kinds_32, ins_kinds_33, ins_kinds_34, ins_kinds_35, ins_kinds_36, ins_kinds_37, ins_kinds_38, ins_kinds_39, ins_kinds_40, ins_kinds_41, ins_kinds_42, ins_kinds_43, ins_kinds_45, ins_kinds_47, pairsOk, fpApart, meets])
  · simp [lo_f h, ho, ins_kinds_1, ins_kinds_2, ins_kinds_3, ins_kinds_4, ins_kinds_5, ins_kinds_6, ins_kinds_7, ins_kinds_8, ins_kinds_9, ins_kinds_10, ins_kinds_11, ins_kinds_12, ins_kinds_13, ins_kinds_14, ins_kinds_15, ins_kinds_16, ins_kinds_17, ins_kinds_18, ins_kinds_19, ins_kinds_20, ins_kinds_21, ins_kinds_22, ins_kinds_23, ins_kinds_24, ins_kinds_25, ins_kinds_26, ins_kinds_27, ins_kinds_28, ins_kinds_29, ins_kinds_30, ins_kinds_31, ins_kinds_32, ins_kinds_33, ins_kinds_34, ins_kinds_35, ins_kinds_36, ins_kinds_37, ins_kinds_38, ins_kinds_39, ins_kinds_40, ins_kinds_41, ins_kinds_42, ins_kinds_43, ins_kinds_45, ins_kinds_47, pairsOk, fpApart, meets]
  · simp [hi_f h, ho, ins_kinds_1, ins_kinds_2, ins_kinds_3, ins_kinds_4, ins_kinds_5, ins_kinds_6, ins_kinds_7, ins_kinds_8, ins_kinds_9, ins_kinds_10, ins_kinds_11, ins_kinds_12, ins_kinds_13, ins_kinds_14, ins_kinds_15, ins_kinds_16, ins_kinds_17, ins_kinds_18, ins_kinds_19, ins_kinds_20, ins_kinds_21, ins_kinds_22, ins_kinds_23, ins_kinds_24, ins_kinds_25, ins_kinds_26, ins_kinds_27, ins_kinds_28, ins_kinds_29, ins_kinds_30, ins_kinds_31, ins_kinds_32, ins_kinds_33, ins_kinds_34, ins_kinds_35, ins_kinds_36, ins_kinds_37, ins_kinds_38, ins_kinds_39, ins_kinds_40, ins_kinds_41, ins_kinds_42, ins_kinds_43, ins_kinds_45, ins_kinds_47, pairsOk, fpApart, meets]
theorem s_kinds (x : Ins) (hn : -9223372036854775808 ≤ x.n ∧ x.n < 9223372036854775808) (hs : x.s.length ≤ 9223372036854775807) : (callW E).p 47 [.agg (enc x)] = some (exK (kindsM x)) := by
  by_cases h1 : x.op = 1 ∨ x.op = 2 ∨ x.op = 3 ∨ x.op = 4 ∨ x.op = 7 ∨ x.op = 8 ∨ x.op = 9 ∨ x.op = 10 ∨ x.op = 11 ∨ x.op = 13 ∨ x.op = 14 ∨ x.op = 15 ∨ x.op = 16 ∨ x.op = 17 ∨ x.op = 18 ∨ x.op = 19 ∨ x.op = 20 ∨ x.op = 27 ∨ x.op = 31 ∨ x.op = 32 ∨ x.op = 33
  · exact kinds_1 x h1
  by_cases h2 : x.op = 12 ∨ x.op = 21 ∨ x.op = 22
  · exact kinds_t x hs h2
  by_cases h3 : x.op = 5 ∨ x.op = 6
  · exact kinds_n x hn h3
  by_cases h4 : x.op = 28
  · exact kinds_i x h4
  exact kinds_o x (by omega)
end Go.Vm
