/- What 'kinds' answers. What 'other' answers; all of 'kinds'. Whether one instruction is well formed: 'right'. 'right', whole. Whether a function is well formed: 'Check': its lists of registers, parameters, rows. The document's answer whether a function is well formed: the program's own. Short functions, of chapter 11. What a well formed function is like. What a callee made, as the caller's own: a list, or nothing. What a function that is handed in is fit for, for a check. FlowBlocks: within a block instructions follow one another alone: none leads or ends but the last, nobody leads to one but the first. -/
import Derived.Test.YthemfgeagohdhaaBX
import Derived.Test.YthemfgeagohdhaaBTb
set_option linter.unusedSimpArgs false
set_option linter.unusedVariables false
set_option linter.unusedSectionVars false
namespace Go.Vm
open Cel
attribute [local simp] callAny callP heapOf_nil
@[simp] theorem splice4 (a b c d : AV) (r : List AV) (h : r.length = 4) : spliceAt 0 [a, b, c, d] r = [a, b, c, d] := by
  simp [spliceAt, ← h]
@[simp] theorem expo1_k (h : Heap) (a b c d : Int) (o : Bool) : expo1 h (.tup [.agg [.int .i64 a, .int .i64 b, .int .i64 c, .int .i64 d], .bool o]) = some (exK (a, b, c, d, o)) := rfl
@[simp] theorem build4 (a b c d : Int) : evBuild [.int .i64 0, .int .i64 0, .int .i64 0, .int .i64 0] [(0, 1, .int .i64 a), (1, 1, .int .i64 b), (2, 1, .int .i64 c), (3, 1, .int .i64 d)] = some (.agg [.int .i64 a, .int .i64 b, .int .i64 c, .int .i64 d]) := rfl
@[simp] theorem build4z : evBuild [.int .i64 0, .int .i64 0, .int .i64 0, .int .i64 0] [] = some (.agg [.int .i64 0, .int .i64 0, .int .i64 0, .int .i64 0]) := rfl
@[simp] theorem fz_tup3 (h : Heap) (a b c : Int) : fz h fuelF (.tup [.int .i64 a, .int .i64 b, .int .i64 c]) = some ⟨.tup [.int .i64 a, .int .i64 b, .int .i64 c], true, []⟩ := rfl
@[simp] theorem fz_tupk (h : Heap) (a b c d : Int) (o : Bool) : fz h fuelF (.tup [.agg [.int .i64 a, .int .i64 b, .int .i64 c, .int .i64 d], .bool o]) = some ⟨.tup [.agg [.int .i64 a, .int .i64 b, .int .i64 c, .int .i64 d], .bool o], true, []⟩ := rfl
@[simp] theorem agg4 (a b c d : AV) : aggOr true 4 [a, b, c, d] = some (.agg [a, b, c, d]) := rfl
set_option maxHeartbeats 4000000 in
theorem kinds_1 (x : Ins) (h : x.op = 1 ∨ x.op = 2 ∨ x.op = 3 ∨ x.op = 4 ∨ x.op = 7 ∨ x.op = 8 ∨ x.op = 9 ∨ x.op = 10 ∨ x.op = 11 ∨ x.op = 13 ∨ x.op = 14 ∨ x.op = 15 ∨ x.op = 16 ∨ x.op = 17 ∨ x.op = 18 ∨ x.op = 19 ∨ x.op = 20 ∨ x.op = 27 ∨ x.op = 31 ∨ x.op = 32 ∨ x.op = 33) : (callW E).p 47 [.agg (enc x)] = some (exK (kindsM x)) := by
  rw [x_q21]
  rcases h with h|h|h|h|h|h|h|h|h|h|h|h|h|h|h|h|h|h|h|h|h <;> simp [h, q21_1, q21_2, q21_3, q21_4, q21_5, q21_6, q21_7, q21_8, q21_9, q21_10, q21_11, q21_12, q21_13, q21_14, q21_15, q21_16, q21_17, q21_18, q21_19, q21_20, q21_21, q21_22, q21_23, q21_24, q21_25, q21_26, q21_27, q21_28, q21_29, q21_30, q21_31, q21_32, q21_33, q21_34, q21_35, q21_36, q21_37, q21_38, q21_39, q21_40, q21_41, q21_42, q21_43, q21_45, q21_47, pairsOk, fpApart, meets, ids1, kindsM]
theorem kinds_t (x : Ins) (hs : x.s.length ≤ 9223372036854775807) (h : x.op = 12 ∨ x.op = 21 ∨ x.op = 22) : (callW E).p 47 [.agg (enc x)] = some (exK (kindsM x)) := by
  rw [x_q21]
  have ht := s_Type x.s hs
  rcases h with h|h|h <;> simp [h, ht, q21_1, q21_2, q21_3, q21_4, q21_5, q21_6, q21_7, q21_8, q21_9, q21_10, q21_11, q21_12, q21_13, q21_14, q21_15, q21_16, q21_17, q21_18, q21_19, q21_20, q21_21, q21_22, q21_23, q21_24, q21_25, q21_26, q21_27, q21_28, q21_29, q21_30, q21_31, q21_32, q21_33, q21_34, q21_35, q21_36, q21_37, q21_38, q21_39, q21_40, q21_41, q21_42, q21_43, q21_45, q21_47, pairsOk, fpApart, meets, ids1, kindsM]
theorem kinds_n (x : Ins) (hn : -9223372036854775808 ≤ x.n ∧ x.n < 9223372036854775808) (h : x.op = 5 ∨ x.op = 6) : (callW E).p 47 [.agg (enc x)] = some (exK (kindsM x)) := by
  rw [x_q21]
  have hk := s_Kinds x.n
  have hw := wrap_i64 hn.1 hn.2
  rcases h with h|h
  · simp [h, hk, hw, q21_1, q21_2, q21_3, q21_4, q21_5, q21_6, q21_7, q21_8, q21_9, q21_10, q21_11, q21_12, q21_13, q21_14, q21_15, q21_16, q21_17, q21_18, q21_19, q21_20, q21_21, q21_22, q21_23, q21_24, q21_25, q21_26, q21_27, q21_28, q21_29, q21_30, q21_31, q21_32, q21_33, q21_34, q21_35, q21_36, q21_37, q21_38, q21_39, q21_40, q21_41, q21_42, q21_43, q21_45, q21_47, pairsOk, fpApart, meets, ids1, kindsM]
  · by_cases h0 : (numK x.n).1 = 0
    · simp [h, hk, hw, h0, q21_1, q21_2, q21_3, q21_4, q21_5, q21_6, q21_7, q21_8, q21_9, q21_10, q21_11, q21_12, q21_13, q21_14, q21_15, q21_16, q21_17, q21_18, q21_19, q21_20, q21_21, q21_22, q21_23, q21_24, q21_25, q21_26, q21_27, q21_28, q21_29, q21_30, q21_31, q21_32, q21_33, q21_34, q21_35, q21_36, q21_37, q21_38, q21_39, q21_40, q21_41, q21_42, q21_43, q21_45, q21_47, pairsOk, fpApart, meets, ids1, kindsM]
    · simp [h, hk, hw, h0, q21_1, q21_2, q21_3, q21_4, q21_5, q21_6, q21_7, q21_8, q21_9, q21_10, q21_11, q21_12, q21_13, q21_14, q21_15, q21_16, q21_17, q21_18, q21_19, q21_20, q21_21, q21_22, q21_23, q21_24, q21_25, q21_26, q21_27, q21_28, q21_29, q21_30, q21_31, q21_32, q21_33, q21_34, q21_35, q21_36, q21_37, q21_38, q21_39, q21_40, q21_41, q21_42, q21_43, q21_45, q21_47, pairsOk, fpApart, meets, ids1, kindsM]
theorem kinds_i (x : Ins) (h : x.op = 28) : (callW E).p 47 [.agg (enc x)] = some (exK (kindsM x)) := by
  rw [x_q21]
  by_cases h0 : 0 ≤ x.n
  · simp [h, h0, q21_1, q21_2, q21_3, q21_4, q21_5, q21_6, q21_7, q21_8, q21_9, q21_10, q21_11, q21_12, q21_13, q21_14, q21_15, q21_16, q21_17, q21_18, q21_19, q21_20, q21_21, q21_22, q21_23, q21_24, q21_25, q21_26, q21_27, q21_28, q21_29, q21_30, q21_31, q21_32, q21_33, q21_34, q21_35, q21_36, q21_37, q21_38, q21_39, q21_40, q21_41, q21_42, q21_43, q21_45, q21_47, pairsOk, fpApart, meets, ids1, kindsM]
  · simp [h, h0, q21_1, q21_2, q21_3, q21_4, q21_5, q21_6, q21_7, q21_8, q21_9, q21_10, q21_11, q21_12, q21_13, q21_14, q21_15, q21_16, q21_17, q21_18, q21_19, q21_20, q21_21, q21_22, q21_23, q21_24, q21_25, q21_26, q21_27, q21_28, q21_29, q21_30, q21_31, q21_32, q21_33, q21_34, q21_35, q21_36, q21_37, q21_38, q21_39, q21_40, q21_41, q21_42, q21_43, q21_45, q21_47, pairsOk, fpApart, meets, ids1, kindsM]
end Go.Vm
namespace Go.Vm
open Cel
attribute [local simp] callAny callP heapOf_nil
theorem other_29 (x : Ins) (h : x.op = 29) : (callW E).p 51 [.agg (enc x)] = some (exK (kindsM x)) := by
  rw [x_q22]
  by_cases h0 : x.b = -1 <;> by_cases h1 : x.n = 0 <;> simp [h, h0, h1, q22_1, q22_2, q22_3, q22_4, q22_5, q22_6, q22_7, q22_8, q22_9, q22_10, q22_11, q22_12, q22_13, q22_14, q22_15, q22_16, q22_18, q22_20, pairsOk, fpApart, meets, kindsM]
theorem other_30 (x : Ins) (h : x.op = 30) : (callW E).p 51 [.agg (enc x)] = some (exK (kindsM x)) := by
  rw [x_q22]
  by_cases h0 : x.a = -1 <;> simp [h, h0, q22_1, q22_2, q22_3, q22_4, q22_5, q22_6, q22_7, q22_8, q22_9, q22_10, q22_11, q22_12, q22_13, q22_14, q22_15, q22_16, q22_18, q22_20, pairsOk, fpApart, meets, kindsM]
set_option maxHeartbeats 4000000 in
theorem other_c (x : Ins) (h : x.op = 23 ∨ x.op = 24 ∨ x.op = 25 ∨ x.op = 26) : (callW E).p 51 [.agg (enc x)] = some (exK (kindsM x)) := by
  rw [x_q22]
  have e1 : ((0 : Int) < ((lst x.args).length : Int)) = (0 < (lst x.args).length) := by simp
  have e2 : (((lst x.args).length : Int) ≤ (21 : Int)) = ((lst x.args).length ≤ 21) := by simp; omega
  by_cases h0 : x.d = -1 <;> by_cases h1 : 0 ≤ x.n <;> by_cases h2 : 0 < (lst x.args).length <;> rcases h with h|h|h|h <;> simp [h, h0, h1, h2, e1, e2, q22_1, q22_2, q22_3, q22_4, q22_5, q22_6, q22_7, q22_8, q22_9, q22_10, q22_11, q22_12, q22_13, q22_14, q22_15, q22_16, q22_18, q22_20, pairsOk, fpApart, meets, kindsM]
theorem other_o (x : Ins) (h : x.op < 1 ∨ 33 < x.op) : (callW E).p 51 [.agg (enc x)] = some (exK (kindsM x)) := by
  rw [x_q22, kindsM_out h]
  rcases h with h|h
  · simp [lo_f h, q22_1, q22_2, q22_3, q22_4, q22_5, q22_6, q22_7, q22_8, q22_9, q22_10, q22_11, q22_12, q22_13, q22_14, q22_15, q22_16, q22_18, q22_20, pairsOk, fpApart, meets]
  · simp [hi_f h, q22_1, q22_2, q22_3, q22_4, q22_5, q22_6, q22_7, q22_8, q22_9, q22_10, q22_11, q22_12, q22_13, q22_14, q22_15, q22_16, q22_18, q22_20, pairsOk, fpApart, meets]
theorem kinds_o (x : Ins) (h : x.op = 29 ∨ x.op = 30 ∨ x.op = 23 ∨ x.op = 24 ∨ x.op = 25 ∨ x.op = 26 ∨ x.op < 1 ∨ 33 < x.op) : (callW E).p 47 [.agg (enc x)] = some (exK (kindsM x)) := by
  have ho : (callW E).p 51 [.agg (enc x)] = some (exK (kindsM x)) := by
    rcases h with h|h|h|h|h|h|h
    · exact other_29 x h
    · exact other_30 x h
    · exact other_c x (.inl h)
    · exact other_c x (.inr (.inl h))
    · exact other_c x (.inr (.inr (.inl h)))
    · exact other_c x (.inr (.inr (.inr h)))
    · exact other_o x h
  rw [x_q21]
  generalize kindsM x = k at ho
  obtain ⟨a, b, c, d, o⟩ := k
  simp only [exK] at ho
  rcases h with h|h|h|h|h|h|h|h
  iterate 6 (simp [h, ho, q21_1, q21_2, q21_3, q21_4, q21_5, q21_6, q21_7, q21_8, q21_9, q21_10, q21_11, q21_12, q21_13, q21_14, q21_15, q21_16, q21_17, q21_18, q21_19, q21_20, q21_21, q21_22, q21_23, q21_24, q21_25, q21_26, q21_27, q21_28, q21_29, q21_30, q21_31, q21_32, q21_33, q21_34, q21_35, q21_36, q21_37, q21_38, q21_39, q21_40, q21_41, q21_42, q21_43, q21_45, q21_47, pairsOk, fpApart, meets])
  · simp [lo_f h, ho, q21_1, q21_2, q21_3, q21_4, q21_5, q21_6, q21_7, q21_8, q21_9, q21_10, q21_11, q21_12, q21_13, q21_14, q21_15, q21_16, q21_17, q21_18, q21_19, q21_20, q21_21, q21_22, q21_23, q21_24, q21_25, q21_26, q21_27, q21_28, q21_29, q21_30, q21_31, q21_32, q21_33, q21_34, q21_35, q21_36, q21_37, q21_38, q21_39, q21_40, q21_41, q21_42, q21_43, q21_45, q21_47, pairsOk, fpApart, meets]
  · simp [hi_f h, ho, q21_1, q21_2, q21_3, q21_4, q21_5, q21_6, q21_7, q21_8, q21_9, q21_10, q21_11, q21_12, q21_13, q21_14, q21_15, q21_16, q21_17, q21_18, q21_19, q21_20, q21_21, q21_22, q21_23, q21_24, q21_25, q21_26, q21_27, q21_28, q21_29, q21_30, q21_31, q21_32, q21_33, q21_34, q21_35, q21_36, q21_37, q21_38, q21_39, q21_40, q21_41, q21_42, q21_43, q21_45, q21_47, pairsOk, fpApart, meets]
theorem s_kinds (x : Ins) (hn : -9223372036854775808 ≤ x.n ∧ x.n < 9223372036854775808) (hs : x.s.length ≤ 9223372036854775807) : (callW E).p 47 [.agg (enc x)] = some (exK (kindsM x)) := by
  by_cases h1 : x.op = 1 ∨ x.op = 2 ∨ x.op = 3 ∨ x.op = 4 ∨ x.op = 7 ∨ x.op = 8 ∨ x.op = 9 ∨ x.op = 10 ∨ x.op = 11 ∨ x.op = 13 ∨ x.op = 14 ∨ x.op = 15 ∨ x.op = 16 ∨ x.op = 17 ∨ x.op = 18 ∨ x.op = 19 ∨ x.op = 20 ∨ x.op = 27 ∨ x.op = 31 ∨ x.op = 32 ∨ x.op = 33
  · exact kinds_1 x h1
  by_cases h2 : x.op = 12 ∨ x.op = 21 ∨ x.op = 22
  · exact kinds_t x hs h2
  by_cases h3 : x.op = 5 ∨ x.op = 6
  · exact kinds_n x hn h3
  by_cases h4 : x.op = 28
  · exact kinds_i x h4
  exact kinds_o x (by omega)
end Go.Vm
namespace Go.Vm
open Cel
attribute [local simp] callAny callP heapOf_nil
abbrev HR (f : Fn) (x : Ins) (a b c d : Int) : Heap := [⟨1, .arr true false 5 [enc f]⟩, ⟨1, .arr true false 9 [enc x]⟩, ⟨1, .arr true false 4 [[.int .i64 a, .int .i64 b, .int .i64 c, .int .i64 d]]⟩]
abbrev P0 : AV := .lp 0 1 0 0
abbrev P1 : AV := .lp 1 1 0 0
abbrev P2 : AV := .lp 2 1 0 0
theorem regs_at {f : Fn} {r : Int} (h : inR (lst f.regs) r = true) : evIxs 1 (slA f.regs) (.int .i64 r) = some (.rp [.int .i64 (regK (lst f.regs) r)]) := by
  obtain ⟨h0, h1, h2⟩ := inR_get h
  exact ixs_intI h0 h2 .i64
theorem right_field (f : Fn) (x : Ins) (a b c d : Int) (i : Nat) (w r : Int) (v26 : AV) (hi : i < 4) (hw : [a, b, c, d][i]? = some w) :
    q23_18 P0 P1 P2 (.int .i64 i) (.int .i64 r) v26 (.int .i64 i) (HR f x a b c d) =
      if fieldOk (lst f.regs) w r then q23_16 P0 P1 P2 v26 (.int .i64 i) (HR f x a b c d) else some ⟨.bool false, [], true, [], []⟩ := by
  have e1 : evIxa 4 1 P2 (.int .i64 i) = some (.lp 2 1 0 i) := by
    have : ((i : Int) < (4 : Int)) := by omega
    simp [evIxa, this]
  have e2 : ∀ f x, evLd false 1 (.lp 2 1 0 i) (HR f x a b c d) = some (.int .i64 w) := by
    intro f x
    simp only [evLd_lp]
    have : (rowsAt (HR f x a b c d) 2 1) = some (false, 4, [[.int .i64 a, .int .i64 b, .int .i64 c, .int .i64 d]]) := rfl
    rw [this]
    simp only [List.getElem?_cons_zero, aggOr_f]
    match i, hi, hw with
    | 0, _, hw => simp at hw; simp [hw]
    | 1, _, hw => simp at hw; simp [hw]
    | 2, _, hw => simp at hw; simp [hw]
    | 3, _, hw => simp at hw; simp [hw]
  have e2 := e2 f x
  by_cases hw0 : w < 0
  · simp [q23_18, e1, e2, fieldOk, hw0]
  by_cases h0 : r < 0
  · have : ¬ 0 ≤ r := by omega
    simp [q23_18, q23_17, e1, e2, fieldOk, hw0, h0, inR, this]
  by_cases h1 : r < ((lst f.regs).length : Int)
  · have h0' : 0 ≤ r := by omega
    have h1' : ¬ ((lst f.regs).length : Int) ≤ r := by omega
    have hin : inR (lst f.regs) r = true := by simp [inR, h0', h1]
    have hr := regs_at hin
    by_cases h2 : 0 < w
    · have h2' : ¬ w ≤ 0 := by omega
      by_cases h3 : regK (lst f.regs) r = w
      · simp [q23_18, q23_17, e1, e2, fieldOk, hw0, h0, h1', h2, h2', hin, hr, h3]
      · simp [q23_18, q23_17, e1, e2, fieldOk, hw0, h0, h1', h2, h2', hin, hr, h3]
    · have h2' : w ≤ 0 := by omega
      simp [q23_18, q23_17, e1, e2, fieldOk, hw0, h0, h1', h2, h2', hin]
  · have h1' : ((lst f.regs).length : Int) ≤ r := by omega
    simp [q23_18, q23_17, e1, e2, fieldOk, hw0, h0, h1', h1, inR]
theorem right_tail (f : Fn) (x : Ins) (a b c d : Int) (h1 : x.op = 1 → inR (lst f.regs) x.d = true) (h4 : x.op = 4 → inR (lst f.regs) x.d = true ∧ inR (lst f.regs) x.a = true) (h7 : x.op = 7 → inR (lst f.regs) x.a = true)
    (h30 : x.op = 30 → x.a = -1 ∨ inR (lst f.regs) x.a = true) :
    q23_2 P0 P1 (HR f x a b c d) = some ⟨.bool (tailOk (lst f.regs) f.ret (lst f.code).length x), [], true, [], []⟩ := by
  by_cases o1 : x.op = 1
  · have hr := regs_at (h1 o1)
    by_cases k3 : regK (lst f.regs) x.d = 3
    · simp [q23_2, tailOk, o1, hr, k3]
    · by_cases k2 : regK (lst f.regs) x.d = 2
      · simp [q23_2, tailOk, o1, hr, k2]
      · simp [q23_2, tailOk, o1, hr, k2, k3]
  by_cases o4 : x.op = 4
  · have hr := regs_at (h4 o4).1
    have hr2 := regs_at (h4 o4).2
    simp [q23_2, tailOk, o4, hr, hr2]
  by_cases o7 : x.op = 7
  · have hr := regs_at (h7 o7)
    simp [q23_2, tailOk, o7, hr]
  by_cases o30 : x.op = 30
  · by_cases ha : x.a = -1
    · by_cases hz : f.ret = 0
      · simp [q23_2, tailOk, o30, ha, hz]
      · simp [q23_2, tailOk, o30, ha, hz]
    · have hr := regs_at ((h30 o30).resolve_left ha)
      by_cases hz : f.ret = 0
      · simp [q23_2, tailOk, o30, ha, hz]
      · simp [q23_2, tailOk, o30, ha, hz, hr]
  · cases hl : leads x.op with
    | false => simp [q23_2, q23_1, tailOk, o1, o4, o7, o30, hl]
    | true =>
      by_cases ht : 0 ≤ x.t
      · simp [q23_2, q23_1, tailOk, o1, o4, o7, o30, hl, ht]
      · simp [q23_2, q23_1, tailOk, o1, o4, o7, o30, hl, ht]
end Go.Vm
namespace Go.Vm
open Cel
attribute [local simp] callAny callP heapOf_nil
theorem right_arg (f : Fn) (x : Ins) (a b c d : Int) (i : Nat) (r : Int) (v63 v64 : AV) :
    q23_5 P0 P1 (.int .i64 i) (.int .i64 r) v63 v64 (.int .i64 i) (HR f x a b c d) =
      if inR (lst f.regs) r && (!decide (i = 0) || !(decide (x.op = 24) || decide (x.op = 25)) || decide (regK (lst f.regs) r = 3)) then q23_4 P0 P1 v63 v64 (.int .i64 i) (HR f x a b c d) else some ⟨.bool false, [], true, [], []⟩ := by
  by_cases h0 : r < 0
  · have : ¬ 0 ≤ r := by omega
    simp [q23_5, h0, inR, this]
  by_cases h1 : r < ((lst f.regs).length : Int)
  · have h0' : 0 ≤ r := by omega
    have h1' : ¬ ((lst f.regs).length : Int) ≤ r := by omega
    have hin : inR (lst f.regs) r = true := by simp [inR, h0', h1]
    have hr := regs_at hin
    by_cases hi : i = 0
    · subst hi
      by_cases o1 : x.op = 24
      · by_cases h3 : regK (lst f.regs) r = 3
        · simp [q23_5, h0, h1', hin, hr, o1, h3]
        · simp [q23_5, h0, h1', hin, hr, o1, h3]
      · by_cases o2 : x.op = 25
        · by_cases h3 : regK (lst f.regs) r = 3
          · simp [q23_5, h0, h1', hin, hr, o2, h3]
          · simp [q23_5, h0, h1', hin, hr, o2, h3]
        · simp [q23_5, h0, h1', hin, o1, o2]
    · have hi' : ¬ ((i : Int) = 0) := by omega
      simp [q23_5, h0, h1', hin, hi, hi']
  · have h1' : ((lst f.regs).length : Int) ≤ r := by omega
    simp [q23_5, h0, h1', h1, inR]
theorem right_loop (f : Fn) (x : Ins) (a b c d : Int) (T : Bool) (hc : calls x.op = true) (hl : (lst x.args).length ≤ 9223372036854775807) (hT : q23_2 P0 P1 (HR f x a b c d) = some ⟨.bool T, [], true, [], []⟩) :
    ∀ (k i : Nat), i + k = (lst x.args).length → 0 < i →
    q23_L3 P0 P1 (slA x.args) (.int .i64 (lst x.args).length) (.int .i64 i) (HR f x a b c d) = some ⟨.bool (((lst x.args).drop i).all (inR (lst f.regs)) && T), [], true, [], []⟩ := by
  intro k
  induction k with
  | zero =>
    intro i hi _
    have e1 : (lst x.args).drop i = [] := List.drop_eq_nil_of_le (by omega)
    have hn : ¬ ((i : Int) < ((lst x.args).length : Int)) := by omega
    rw [q23_L3_go, e1]
    simp [q23_11, q23_10, hn, hT]
  | succ k ih =>
    intro i hi h0
    have hlt : i < (lst x.args).length := by omega
    have hn : ((i : Int) < ((lst x.args).length : Int)) := by omega
    have e1 : ((lst x.args).drop i).all (inR (lst f.regs)) = (inR (lst f.regs) (lst x.args)[i] && ((lst x.args).drop (i + 1)).all (inR (lst f.regs))) := by rw [List.drop_eq_getElem_cons hlt, List.all_cons]
    have ih := ih (i + 1) (by omega) (by omega)
    push_cast at ih
    have k1 := ixs_int (o := x.args) (i := i) (List.getElem?_eq_getElem hlt) .i64
    have hz : ¬ i = 0 := by omega
    rw [q23_L3_go, e1]
    simp only [q23_11, q23_10, evBin_lss, ob_some, hn, decide_true, cnd_t]
    simp only [q23_7, k1, ob_some, evLd_rp, aggOr_f, List.head?_cons]
    simp only [q23_6]
    simp only [evLd_lp]
    simp only [rowsAt_s, rowsAt_0]
    simp only [List.getElem?_cons_zero, List.drop_zero, agg_ins, ob_some]
    simp only [callAny, pure_17, if_true, callP, fzList_cons, fz_enc, fzList_nil, s_Calls, heapOf_nil, fz_bool', oh_some, Bool.true_or]
    simp only [evUn_not, ob_some, hc, Bool.not_true, cnd_f, right_arg]
    cases inR (lst f.regs) (lst x.args)[i]
    · simp
    · simp [hz, q23_4, wrap_up hlt hl, ih]
theorem right_args (f : Fn) (x : Ins) (a b c d : Int) (T : Bool) (hl : (lst x.args).length ≤ 9223372036854775807) (hT : q23_2 P0 P1 (HR f x a b c d) = some ⟨.bool T, [], true, [], []⟩) :
    q23_13 P0 P1 (HR f x a b c d) = some ⟨.bool (argsOk (lst f.regs) x && T), [], true, [], []⟩ := by
  have e0 : q23_13 P0 P1 (HR f x a b c d) = q23_L3 P0 P1 (slA x.args) (.int .i64 (lst x.args).length) (.int .i64 0) (HR f x a b c d) := by simp [q23_13]
  rw [e0, q23_L3_go]
  cases ha : lst x.args with
  | nil => simp [q23_11, q23_10, hT, argsOk, firstOk, ha]
  | cons r rest =>
    have k1 := ixs_int (o := x.args) (i := 0) (x := r) (by rw [ha]; rfl) .i64
    have k1 : evIxs 1 (slA x.args) (.int .i64 0) = some (.rp [.int .i64 r]) := k1
    have hn : ((0 : Int) < ((lst x.args).length : Int)) := by rw [ha]; simp
    have hra := right_arg f x a b c d 0 r (slA x.args) (.int .i64 (lst x.args).length)
    simp only [Int.ofNat_zero, decide_true, Bool.not_true, Bool.false_or] at hra
    rw [← ha]
    cases hc : calls x.op with
    | false =>
      simp only [q23_11, q23_10, evBin_lss, ob_some, hn, decide_true, cnd_t]
      simp only [q23_7, k1, ob_some, evLd_rp, aggOr_f, List.head?_cons]
      simp only [q23_6]
      simp only [evLd_lp]
      simp only [rowsAt_s, rowsAt_0]
      simp only [List.getElem?_cons_zero, List.drop_zero, agg_ins, ob_some]
      simp only [callAny, pure_17, if_true, callP, fzList_cons, fz_enc, fzList_nil, s_Calls, heapOf_nil, fz_bool', oh_some, Bool.true_or]
      simp only [evUn_not, ob_some, hc, Bool.not_false, cnd_t, hT, argsOk, Bool.true_or, Bool.true_and]
    | true =>
      have hlp := right_loop f x a b c d T hc hl hT rest.length 1 (by rw [ha]; simp; omega) (by omega)
      have hd : (lst x.args).drop 1 = rest := by rw [ha]; rfl
      rw [hd] at hlp
      have hlp : q23_L3 P0 P1 (slA x.args) (.int .i64 (lst x.args).length) (.int .i64 1) (HR f x a b c d) = _ := hlp
      simp only [q23_11, q23_10, evBin_lss, ob_some, hn, decide_true, cnd_t]
      simp only [q23_7, k1, ob_some, evLd_rp, aggOr_f, List.head?_cons]
      simp only [q23_6]
      simp only [evLd_lp]
      simp only [rowsAt_s, rowsAt_0]
      simp only [List.getElem?_cons_zero, List.drop_zero, agg_ins, ob_some]
      simp only [callAny, pure_17, if_true, callP, fzList_cons, fz_enc, fzList_nil, s_Calls, heapOf_nil, fz_bool', oh_some, Bool.true_or]
      simp only [evUn_not, ob_some, hc, Bool.not_true, cnd_f, hra]
      simp only [argsOk, firstOk, ha, List.all_cons]
      have hw : IntKind.wrap .i64 ((0 : Int) + 1) = 1 := wrap_i64 (n := 1) (by omega) (by omega)
      generalize (!(decide (x.op = 24) || decide (x.op = 25)) || decide (regK (lst f.regs) r = 3)) = B
      have hw2 : IntKind.wrap .i64 (1 : Int) = 1 := wrap_i64 (n := 1) (by omega) (by omega)
      cases inR (lst f.regs) r with
      | false => cases B <;> simp [hc]
      | true =>
        cases B with
        | false => simp [hc]
        | true =>
          simp only [Bool.and_self, if_true, q23_4, evBin_add, ob_some]
          rw [show IntKind.wrap .i64 ((0 : Int) + 1) = 1 from hw]
          rw [← ha, hlp]
          simp [hc]
theorem kinds_any (x : Ins) : (x.op = 1 → (kindsM x).1 = 0) ∧ (x.op = 4 → (kindsM x).1 = 0 ∧ (kindsM x).2.1 = 0) ∧ (x.op = 7 → (kindsM x).2.1 = 0) ∧ (x.op = 30 → x.a = -1 ∨ (kindsM x).2.1 = 0) := by
  refine ⟨fun h => ?_, fun h => ?_, fun h => ?_, fun h => ?_⟩ <;> simp [kindsM, h]
  by_cases ha : x.a = -1 <;> simp [ha]
theorem field_in {R : List Int} {w r : Int} (h : fieldOk R w r = true) (hw : w = 0) : inR R r = true := by
  subst hw
  simpa [fieldOk] using h
set_option maxHeartbeats 1000000 in
theorem s_right (f : Fn) (x : Ins) (hn : -9223372036854775808 ≤ x.n ∧ x.n < 9223372036854775808) (hs : x.s.length ≤ 9223372036854775807) (hl : (lst x.args).length ≤ 9223372036854775807) :
    (callW E).p 63 [.agg (enc f), .agg (enc x)] = some ⟨.bool (rightM f x), [], true, [], []⟩ := by
  have hk := s_kinds x hn hs
  obtain ⟨q1, q4, q7, q30⟩ := kinds_any x
  rw [x_q23]
  have red : ∀ X : Option (Ex AV), rightM f x = rightM f x → True := fun _ _ => trivial
  have e0 : q23_29 (.agg (enc f)) (.agg (enc x)) [⟨0, .dead⟩, ⟨0, .dead⟩, ⟨0, .dead⟩] =
      if (kindsM x).2.2.2.2 = true then q23_L15 P0 P1 P2 (.agg [.int .i64 x.d, .int .i64 x.a, .int .i64 x.b, .int .i64 x.c]) (.int .i64 0) (HR f x (kindsM x).1 (kindsM x).2.1 (kindsM x).2.2.1 (kindsM x).2.2.2.1) else some ⟨.bool false, [], true, [], []⟩ := by
    unfold exK at hk
    generalize kindsM x = k at *
    obtain ⟨a, b, c, d, o⟩ := k
    simp only at hk ⊢
    cases o with
    | true => simp [q23_29, q23_28, q23_27, q23_25, hk]
    | false => simp [q23_29, q23_28, q23_27, hk]
  rw [e0, rightM]
  cases hok : (kindsM x).2.2.2.2 with
  | false => simp
  | true =>
    simp only [if_true, Bool.true_and]
    have step : ∀ (i : Nat) (w r : Int), i < 4 → [(kindsM x).1, (kindsM x).2.1, (kindsM x).2.2.1, (kindsM x).2.2.2.1][i]? = some w → [x.d, x.a, x.b, x.c][i]? = some r →
        q23_L15 P0 P1 P2 (.agg [.int .i64 x.d, .int .i64 x.a, .int .i64 x.b, .int .i64 x.c]) (.int .i64 i) (HR f x (kindsM x).1 (kindsM x).2.1 (kindsM x).2.2.1 (kindsM x).2.2.2.1) =
        if fieldOk (lst f.regs) w r then q23_L15 P0 P1 P2 (.agg [.int .i64 x.d, .int .i64 x.a, .int .i64 x.b, .int .i64 x.c]) (.int .i64 (i + 1 : Nat)) (HR f x (kindsM x).1 (kindsM x).2.1 (kindsM x).2.2.1 (kindsM x).2.2.2.1) else some ⟨.bool false, [], true, [], []⟩ := by
      intro i w r hi hw hr
      have hc : ((i : Int) < (4 : Int)) := by omega
      have hv : evIxv false 4 1 (.agg [.int .i64 x.d, .int .i64 x.a, .int .i64 x.b, .int .i64 x.c]) (.int .i64 i) = some (.int .i64 r) := by
        match i, hi, hr with
        | 0, _, hr => simp at hr; simp [evIxv, hr]
        | 1, _, hr => simp at hr; simp [evIxv, hr]
        | 2, _, hr => simp at hr; simp [evIxv, hr]
        | 3, _, hr => simp at hr; simp [evIxv, hr]
      have hw2 : IntKind.wrap .i64 ((i : Int) + 1) = ((i + 1 : Nat) : Int) := by rw [wrap_i64] <;> omega
      rw [q23_L15_go]
      simp only [q23_23, q23_22, evBin_lss, ob_some, hc, decide_true, cnd_t]
      simp only [q23_19, hv, ob_some]
      rw [right_field f x _ _ _ _ i w r _ hi hw]
      simp only [q23_16, evBin_add, ob_some, hw2]
    have s0 := step 0 _ _ (by omega) rfl rfl
    have s1 := step 1 _ _ (by omega) rfl rfl
    have s2 := step 2 _ _ (by omega) rfl rfl
    have s3 := step 3 _ _ (by omega) rfl rfl
    simp only [Int.ofNat_zero] at s0
    rw [s0]
    cases f0 : fieldOk (lst f.regs) (kindsM x).1 x.d with
    | false => simp
    | true =>
      simp only [if_true, Bool.true_and]
      rw [s1]
      cases f1 : fieldOk (lst f.regs) (kindsM x).2.1 x.a with
      | false => simp
      | true =>
        simp only [if_true, Bool.true_and]
        rw [s2]
        cases f2 : fieldOk (lst f.regs) (kindsM x).2.2.1 x.b with
        | false => simp
        | true =>
          simp only [if_true, Bool.true_and]
          rw [s3]
          cases f3 : fieldOk (lst f.regs) (kindsM x).2.2.2.1 x.c with
          | false => simp
          | true =>
            simp only [if_true, Bool.true_and]
            have ht := right_tail f x (kindsM x).1 (kindsM x).2.1 (kindsM x).2.2.1 (kindsM x).2.2.2.1 (fun h => field_in f0 (q1 h)) (fun h => ⟨field_in f0 (q4 h).1, field_in f1 (q4 h).2⟩) (fun h => field_in f1 (q7 h)) (fun h => (q30 h).imp id fun h => field_in f1 h)
            rw [← right_args f x _ _ _ _ _ hl ht]
            rw [q23_L15_go]
            simp [q23_23, q23_22]
end Go.Vm
namespace Go.Vm
open Cel
attribute [local simp] callAny callP heapOf_nil
abbrev HC (f : Fn) (o1 o2 : AO) : Heap := [⟨1, .arr true false 5 [enc f]⟩, o1, o2]
abbrev E80 : Option (Ex AV) := some ⟨.int .i64 80, [], true, [], []⟩
abbrev E0 : Option (Ex AV) := some ⟨.int .i64 0, [], true, [], []⟩
theorem Check_rows (f : Fn) (o1 : AO) (n : Int) (hn : n = (lst f.code).length) (hl : (lst f.rows).length ≤ 9223372036854775807) : ∀ (d i : Nat) (o2 : AO), i + d = (lst f.rows).length →
    q14_L2 P0 (.int .i64 n) (slA f.rows) (.int .i64 (lst f.rows).length) (.int .i64 i) (HC f o1 o2) = if ((lst f.rows).drop i).all (rowOk (lst f.code)) then E0 else E80 := by
  intro d
  induction d with
  | zero =>
    intro i o2 hi
    have e1 : (lst f.rows).drop i = [] := List.drop_eq_nil_of_le (by omega)
    have hn : ¬ ((i : Int) < ((lst f.rows).length : Int)) := by omega
    rw [q14_L2_go, e1]
    simp [q14_6, q14_5, q14_1, hn]
  | succ d ih =>
    intro i o2 hi
    have hlt : i < (lst f.rows).length := by omega
    have hc : ((i : Int) < ((lst f.rows).length : Int)) := by omega
    have k1 := ixs_row (o := f.rows) (i := i) (List.getElem?_eq_getElem hlt) .i64
    rw [q14_L2_go]
    have e1 : ((lst f.rows).drop i).all (rowOk (lst f.code)) = (rowOk (lst f.code) (lst f.rows)[i] && ((lst f.rows).drop (i + 1)).all (rowOk (lst f.code))) := by rw [List.drop_eq_getElem_cons hlt, List.all_cons]
    rw [e1]
    generalize hr : (lst f.rows)[i] = r at *
    have ih := fun o2 => ih (i + 1) o2 (by omega)
    push_cast at ih
    subst hn
    simp only [q14_6, q14_5, evBin_lss, ob_some, hc, decide_true, cnd_t]
    by_cases h1 : r.f < 0
    · simp [q14_4, k1, rowOk, h1]
    by_cases h2 : r.t ≤ r.f
    · simp [q14_4, k1, rowOk, h1, h2]
    by_cases h3 : ((lst f.code).length : Int) < r.t
    · simp [q14_4, k1, rowOk, h1, h2, h3]
    by_cases h4 : r.at_ < 0
    · simp [q14_4, k1, rowOk, h1, h2, h3, h4]
    by_cases h5 : ((lst f.code).length : Int) ≤ r.at_
    · simp [q14_4, k1, rowOk, h1, h2, h3, h4, h5]
    · have hx : r.at_.toNat < (lst f.code).length := by omega
      have k2 := ixs_insI (o := f.code) (n := r.at_) (by omega) (List.getElem?_eq_getElem hx) .i64
      have hg : (lst f.code).getD r.at_.toNat default = (lst f.code)[r.at_.toNat] := by rw [List.getD_eq_getElem?_getD, List.getElem?_eq_getElem hx]; rfl
      by_cases h6 : ((lst f.code)[r.at_.toNat]).op = 32
      · simp [q14_4, k1, rowOk, h1, h2, h3, h4, h5, k2, h6, hx, q14_3, wrap_up hlt hl, ih]
      · simp [q14_4, k1, rowOk, h1, h2, h3, h4, h5, k2, h6, hx]
theorem Check_regs (f : Fn) (o1 o2 : AO) (n : Int) (hl : (lst f.regs).length ≤ 9223372036854775807) : ∀ (d i : Nat), i + d = (lst f.regs).length →
    q14_L30 P0 (.int .i64 n) (slA f.regs) (.int .i64 (lst f.regs).length) (.int .i64 i) (HC f o1 o2) = if ((lst f.regs).drop i).all (fun k => decide (1 ≤ k) && decide (k ≤ 3)) then q14_28 P0 (.int .i64 n) (HC f o1 o2) else E80 := by
  intro d
  induction d with
  | zero =>
    intro i hi
    have e1 : (lst f.regs).drop i = [] := List.drop_eq_nil_of_le (by omega)
    have hn : ¬ ((i : Int) < ((lst f.regs).length : Int)) := by omega
    rw [q14_L30_go, e1]
    simp [q14_34, q14_33, hn]
  | succ d ih =>
    intro i hi
    have hlt : i < (lst f.regs).length := by omega
    have hc : ((i : Int) < ((lst f.regs).length : Int)) := by omega
    have k1 := ixs_int (o := f.regs) (i := i) (List.getElem?_eq_getElem hlt) .i64
    have e1 : ((lst f.regs).drop i).all (fun k => decide (1 ≤ k) && decide (k ≤ 3)) = ((decide (1 ≤ (lst f.regs)[i]) && decide ((lst f.regs)[i] ≤ 3)) && ((lst f.regs).drop (i + 1)).all (fun k => decide (1 ≤ k) && decide (k ≤ 3))) := by
      rw [List.drop_eq_getElem_cons hlt, List.all_cons]
    rw [q14_L30_go, e1]
    generalize hr : (lst f.regs)[i] = r at *
    have ih := ih (i + 1) (by omega)
    push_cast at ih
    simp only [q14_34, q14_33, evBin_lss, ob_some, hc, decide_true, cnd_t]
    by_cases h1 : r < 1
    · have : ¬ 1 ≤ r := by omega
      simp [q14_32, k1, h1, this]
    by_cases h2 : 3 < r
    · have : ¬ r ≤ 3 := by omega
      simp [q14_32, k1, h1, h2, this]
    · have a1 : 1 ≤ r := by omega
      have a2 : r ≤ 3 := by omega
      simp [q14_32, k1, h1, h2, a1, a2, q14_31, wrap_up hlt hl, ih]
theorem Check_params (f : Fn) (o1 o2 : AO) (n : Int) (hl : (lst f.params).length ≤ 9223372036854775807) : ∀ (d i : Nat), i + d = (lst f.params).length →
    q14_L22 P0 (.int .i64 n) (slA f.params) (.int .i64 (lst f.params).length) (.int .i64 i) (HC f o1 o2) = if parOk (lst f.regs) i ((lst f.params).take i) ((lst f.params).drop i) then q14_20 P0 (.int .i64 n) (HC f o1 o2) else E80 := by
  intro d
  induction d with
  | zero =>
    intro i hi
    have e1 : (lst f.params).drop i = [] := List.drop_eq_nil_of_le (by omega)
    have hn : ¬ ((i : Int) < ((lst f.params).length : Int)) := by omega
    rw [q14_L22_go, e1]
    simp [q14_26, q14_25, hn, parOk]
  | succ d ih =>
    intro i hi
    have hlt : i < (lst f.params).length := by omega
    have hc : ((i : Int) < ((lst f.params).length : Int)) := by omega
    have k1 := ixs_int (o := f.params) (i := i) (List.getElem?_eq_getElem hlt) .i64
    have ks := slc_to (α := Int) f.params i (by omega) .i64
    simp only [es_int] at ks
    have hlm : lst (f.params.map (List.take i)) = (lst f.params).take i := by cases f.params <;> simp
    have e1 : parOk (lst f.regs) i ((lst f.params).take i) ((lst f.params).drop i) = ((inR (lst f.regs) (lst f.params)[i] && !((lst f.params).take i).contains (lst f.params)[i] && decide (i ≤ 20)) && parOk (lst f.regs) (i + 1) ((lst f.params).take (i + 1)) ((lst f.params).drop (i + 1))) := by
      rw [List.drop_eq_getElem_cons hlt, parOk, List.take_append_getElem]
    rw [q14_L22_go, e1]
    have hct : (callW E).p 46 [slA (f.params.map (List.take i)), .int .i64 (lst f.params)[i]] = some ⟨.bool (((lst f.params).take i).contains (lst f.params)[i]), [], true, [], []⟩ := by
      rw [s_Contains _ _ (by rw [hlm, List.length_take]; omega), hlm]
    generalize hr : (lst f.params)[i] = r at *
    generalize ((lst f.params).take i).contains r = B at *
    have ih := ih (i + 1) (by omega)
    push_cast at ih
    simp only [q14_26, q14_25, evBin_lss, ob_some, hc, decide_true, cnd_t]
    have e20 : ((20 : Int) < (i : Int)) ↔ ¬ i ≤ 20 := by omega
    by_cases h1 : r < 0
    · have : ¬ 0 ≤ r := by omega
      simp [q14_24, k1, inR, h1, this]
    by_cases h2 : ((lst f.regs).length : Int) ≤ r
    · have : ¬ r < ((lst f.regs).length : Int) := by omega
      simp [q14_24, k1, inR, h1, h2, this]
    · have a1 : 0 ≤ r := by omega
      have a2 : r < ((lst f.regs).length : Int) := by omega
      cases B with
      | true => simp [q14_24, k1, inR, h1, h2, a1, a2, ks, hct]
      | false =>
        by_cases h3 : i ≤ 20
        · have h3' : ¬ ((20 : Int) < (i : Int)) := by omega
          simp [q14_24, k1, inR, h1, h2, a1, a2, ks, hct, h3, h3', q14_23, wrap_up hlt hl, ih]
        · have h3' : ((20 : Int) < (i : Int)) := by omega
          simp [q14_24, k1, inR, h1, h2, a1, a2, ks, hct, h3, h3']
theorem tail_leads {R : List Int} {ret : Int} {n : Nat} {x : Ins} (h : tailOk R ret n x = true) (hl : leads x.op = true) : 0 ≤ x.t ∧ x.t < n := by
  have hne : ¬ x.op = 1 ∧ ¬ x.op = 4 ∧ ¬ x.op = 7 ∧ ¬ x.op = 30 := by
    simp only [leads, Bool.or_eq_true, decide_eq_true_eq] at hl
    omega
  simp only [tailOk, hne, if_false, hl, Bool.not_true, Bool.false_or, Bool.and_eq_true, decide_eq_true_eq] at h
  exact h
theorem right_leads {f : Fn} {x : Ins} (h : rightM f x = true) (hl : leads x.op = true) : 0 ≤ x.t ∧ x.t < (lst f.code).length := by
  simp only [rightM, Bool.and_eq_true] at h
  exact tail_leads h.2 hl
structure InsFit (x : Ins) : Prop where
  n : -9223372036854775808 ≤ x.n ∧ x.n < 9223372036854775808
  s : x.s.length ≤ 9223372036854775807
  a : (lst x.args).length ≤ 9223372036854775807
theorem Check_spot (f : Fn) (o2 : AO) (n : Int) (x : Ins) (i g : Nat) (v92 v93 v94 : AV) (hi : i < (lst f.code).length) (hl : (lst f.code).length ≤ 9223372036854775807) (ht : leads x.op = true → 0 ≤ x.t ∧ x.t < (lst f.code).length) :
    q14_12 P0 (.int .i64 n) (.int .i64 i) (.lp 1 g 0 0) v92 v93 v94 (HC f ⟨g, .arr true false 9 [enc x]⟩ o2) =
      if spotOk (lst f.code) i x then q14_11 P0 (.int .i64 n) v92 v93 v94 (HC f ⟨g, .arr true false 9 [enc x]⟩ o2) else E80 := by
  by_cases h32 : x.op = 32
  · have hld : leads x.op = false := by simp [leads, h32]
    by_cases h0 : i = 0
    · subst h0
      simp [q14_12, h32, spotOk]
    · have h0' : ¬ ((i : Int) = 0) := by omega
      have hp : i - 1 < (lst f.code).length := by omega
      have k1 := ixs_ins (o := f.code) (i := i - 1) (List.getElem?_eq_getElem hp) .i64
      have hw : IntKind.wrap .i64 ((i : Int) - 1) = ((i - 1 : Nat) : Int) := by rw [wrap_i64] <;> omega
      have hg : (lst f.code).getD (i - 1) default = (lst f.code)[i - 1] := by rw [List.getD_eq_getElem?_getD, List.getElem?_eq_getElem hp]; rfl
      have hld32 : leads 32 = false := by simp [leads]
      cases he : ends ((lst f.code)[i - 1]).op with
      | true => simp [q14_12, h32, spotOk, h0, h0', hw, k1, hp, he, hld32]
      | false => simp [q14_12, h32, spotOk, h0, h0', hw, k1, hp, he]
  · cases hld : leads x.op with
    | false => simp [q14_12, h32, spotOk, hld]
    | true =>
      obtain ⟨t0, t1⟩ := ht hld
      have hx : x.t.toNat < (lst f.code).length := by omega
      have k2 := ixs_insI (o := f.code) (n := x.t) t0 (List.getElem?_eq_getElem hx) .i64
      by_cases h6 : ((lst f.code)[x.t.toNat]).op = 32
      · simp [q14_12, h32, spotOk, hld, k2, h6, hx]
      · simp [q14_12, h32, spotOk, hld, k2, h6, hx]
theorem Check_code (f : Fn) (o2 : AO) (n : Int) (hfit : ∀ x ∈ lst f.code, InsFit x) (hl : (lst f.code).length ≤ 9223372036854775807) : ∀ (d i : Nat) (o1 : AO), i + d = (lst f.code).length →
    ∃ o1', q14_L10 P0 (.int .i64 n) (slA f.code) (.int .i64 (lst f.code).length) (.int .i64 i) (HC f o1 o2) = if codeOk f (lst f.code) i ((lst f.code).drop i) then q14_8 P0 (.int .i64 n) (HC f o1' o2) else E80 := by
  intro d
  induction d with
  | zero =>
    intro i o1 hi
    have e1 : (lst f.code).drop i = [] := List.drop_eq_nil_of_le (by omega)
    have hn : ¬ ((i : Int) < ((lst f.code).length : Int)) := by omega
    rw [q14_L10_go, e1]
    exact ⟨o1, by simp [q14_18, q14_17, hn, codeOk]⟩
  | succ d ih =>
    intro i o1 hi
    have hlt : i < (lst f.code).length := by omega
    have hc : ((i : Int) < ((lst f.code).length : Int)) := by omega
    have k1 := ixs_ins (o := f.code) (i := i) (List.getElem?_eq_getElem hlt) .i64
    have e1 : codeOk f (lst f.code) i ((lst f.code).drop i) = (rightM f (lst f.code)[i] && spotOk (lst f.code) i (lst f.code)[i] && codeOk f (lst f.code) (i + 1) ((lst f.code).drop (i + 1))) := by
      rw [List.drop_eq_getElem_cons hlt, codeOk]
    have fit := hfit _ (List.getElem_mem hlt)
    rw [q14_L10_go, e1]
    generalize hx : (lst f.code)[i] = x at *
    have hr := s_right f x fit.n fit.s fit.a
    simp only [q14_18, q14_17, evBin_lss, ob_some, hc, decide_true, cnd_t]
    cases hok : rightM f x with
    | false =>
      rw [hok] at hr
      exact ⟨o1, by simp [q14_14, q14_13, k1, hr]⟩
    | true =>
      rw [hok] at hr
      have e13 : ∀ K : Option (Ex AV), q14_14 P0 (.int .i64 n) (slA f.code) (.int .i64 (lst f.code).length) (.int .i64 i) (HC f o1 o2) = q14_12 P0 (.int .i64 n) (.int .i64 i) (.lp 1 (o1.gen + 1) 0 0) (slA f.code) (.int .i64 (lst f.code).length) (.int .i64 i) (HC f ⟨o1.gen + 1, .arr true false 9 [enc x]⟩ o2) := by
        intro _
        simp [q14_14, q14_13, k1, hr]
      rw [e13 none]
      rw [Check_spot f o2 n x i _ _ _ _ hlt hl (fun h => right_leads hok h)]
      cases hs : spotOk (lst f.code) i x with
      | false => exact ⟨o1, by simp⟩
      | true =>
        obtain ⟨o1', ih⟩ := ih (i + 1) ⟨o1.gen + 1, .arr true false 9 [enc x]⟩ (by omega)
        push_cast at ih
        exact ⟨o1', by simp [q14_11, wrap_up hlt hl, ih]⟩
structure FnFit (f : Fn) : Prop where
  ins : ∀ x ∈ lst f.code, InsFit x
  code : (lst f.code).length ≤ 9223372036854775807
  regs : (lst f.regs).length ≤ 9223372036854775807
  params : (lst f.params).length ≤ 9223372036854775807
  rows : (lst f.rows).length ≤ 9223372036854775807
theorem Check_all (f : Fn) (hf : FnFit f) (o1 o2 : AO) (n : Int) (hn : n = (lst f.code).length) :
    q14_36 P0 (.int .i64 n) (HC f o1 o2) = if (lst f.regs).all (fun k => decide (1 ≤ k) && decide (k ≤ 3)) && parOk (lst f.regs) 0 [] (lst f.params) && codeOk f (lst f.code) 0 (lst f.code) && (lst f.rows).all (rowOk (lst f.code)) then E0 else E80 := by
  have a1 := Check_regs f o1 o2 n hf.regs _ 0 (Nat.zero_add _)
  have a2 := Check_params f o1 o2 n hf.params _ 0 (Nat.zero_add _)
  obtain ⟨o1', a3⟩ := Check_code f o2 n hf.ins hf.code _ 0 o1 (Nat.zero_add _)
  have a4 := Check_rows f o1' n hn hf.rows _ 0 o2 (Nat.zero_add _)
  simp only [Int.ofNat_zero, List.drop_zero, List.take_zero] at a1 a2 a3 a4
  have e1 : q14_36 P0 (.int .i64 n) (HC f o1 o2) = q14_L30 P0 (.int .i64 n) (slA f.regs) (.int .i64 (lst f.regs).length) (.int .i64 0) (HC f o1 o2) := by simp [q14_36]
  have e2 : q14_28 P0 (.int .i64 n) (HC f o1 o2) = q14_L22 P0 (.int .i64 n) (slA f.params) (.int .i64 (lst f.params).length) (.int .i64 0) (HC f o1 o2) := by simp [q14_28]
  have e3 : q14_20 P0 (.int .i64 n) (HC f o1 o2) = q14_L10 P0 (.int .i64 n) (slA f.code) (.int .i64 (lst f.code).length) (.int .i64 0) (HC f o1 o2) := by simp [q14_20]
  have e4 : q14_8 P0 (.int .i64 n) (HC f o1' o2) = q14_L2 P0 (.int .i64 n) (slA f.rows) (.int .i64 (lst f.rows).length) (.int .i64 0) (HC f o1' o2) := by simp [q14_8]
  rw [e1, a1, e2, a2, e3, a3, e4, a4]
  generalize (lst f.regs).all (fun k => decide (1 ≤ k) && decide (k ≤ 3)) = b1
  generalize parOk (lst f.regs) 0 [] (lst f.params) = b2
  generalize codeOk f (lst f.code) 0 (lst f.code) = b3
  generalize (lst f.rows).all (rowOk (lst f.code)) = b4
  cases b1 <;> cases b2 <;> cases b3 <;> cases b4 <;> rfl
set_option maxHeartbeats 1000000 in
theorem s_Check (f : Fn) (hf : FnFit f) : (callW E).p 8 [.agg (enc f)] = some ⟨.int .i64 (if wf f then 0 else 80), [], true, [], []⟩ := by
  rw [x_q14]
  have hall := Check_all f hf ⟨0, .dead⟩ ⟨0, .dead⟩ _ rfl
  by_cases h1 : (lst f.code).length < 1
  · have h1' : ((lst f.code).length : Int) < 1 := by omega
    have : ¬ 1 ≤ (lst f.code).length := by omega
    simp [q14_40, q14_39, q14_38, h1', wf, this]
  have h1' : ¬ ((lst f.code).length : Int) < 1 := by omega
  have g1 : 1 ≤ (lst f.code).length := by omega
  by_cases h2 : 20000 < (lst f.code).length
  · have h2' : (20000 : Int) < ((lst f.code).length : Int) := by omega
    have : ¬ (lst f.code).length ≤ 20000 := by omega
    simp [q14_40, q14_39, q14_38, h1', h2', wf, this]
  have h2' : ¬ (20000 : Int) < ((lst f.code).length : Int) := by omega
  have g2 : (lst f.code).length ≤ 20000 := by omega
  by_cases h3 : 20000 < (lst f.regs).length
  · have h3' : (20000 : Int) < ((lst f.regs).length : Int) := by omega
    have : ¬ (lst f.regs).length ≤ 20000 := by omega
    simp [q14_40, q14_39, q14_38, h1', h2', h3', wf, this]
  have h3' : ¬ (20000 : Int) < ((lst f.regs).length : Int) := by omega
  have g3 : (lst f.regs).length ≤ 20000 := by omega
  by_cases h4 : f.ret < 0
  · have : ¬ 0 ≤ f.ret := by omega
    simp [q14_40, q14_39, q14_38, h1', h2', h3', h4, wf, this]
  have g4 : 0 ≤ f.ret := by omega
  by_cases h5 : 3 < f.ret
  · have : ¬ f.ret ≤ 3 := by omega
    simp [q14_40, q14_39, q14_38, h1', h2', h3', h4, h5, wf, this]
  have g5 : f.ret ≤ 3 := by omega
  have hp : (lst f.code).length - 1 < (lst f.code).length := by omega
  have k1 := ixs_ins (o := f.code) (i := (lst f.code).length - 1) (List.getElem?_eq_getElem hp) .i64
  have hw : IntKind.wrap .i64 (((lst f.code).length : Int) - 1) = (((lst f.code).length - 1 : Nat) : Int) := by rw [wrap_i64] <;> omega
  have hg : (lst f.code).getD ((lst f.code).length - 1) default = (lst f.code)[(lst f.code).length - 1] := by rw [List.getD_eq_getElem?_getD, List.getElem?_eq_getElem hp]; rfl
  cases he : ends ((lst f.code)[(lst f.code).length - 1]).op with
  | false =>
    have hwf : wf f = false := by rw [wf, hg, he]; simp
    rw [hwf]
    simp [q14_40, q14_39, q14_38, h1', h2', h3', h4, h5, hw, k1, he]
  | true =>
    have hwf : wf f = ((lst f.regs).all (fun k => decide (1 ≤ k) && decide (k ≤ 3)) && parOk (lst f.regs) 0 [] (lst f.params) && codeOk f (lst f.code) 0 (lst f.code) && (lst f.rows).all (rowOk (lst f.code))) := by
      rw [wf, hg, he]
      simp only [g1, g2, g3, g4, g5, decide_true, Bool.true_and]
    have e : q14_40 (.agg (enc f)) [⟨0, .dead⟩, ⟨0, .dead⟩, ⟨0, .dead⟩] = q14_36 P0 (.int .i64 (lst f.code).length) (HC f ⟨0, .dead⟩ ⟨0, .dead⟩) := by
      simp [q14_40, q14_39, q14_38, h1', h2', h3', h4, h5, hw, k1, he]
    rw [e, hall, hwf]
    split <;> rfl
end Go.Vm
namespace Go.Vm
open Cel
attribute [local simp] callAny callP heapOf_nil fpCall
theorem RC_rows (f : Fn) (o1 : AO) (n : Int) (hn : n = (lst f.code).length) (hl : (lst f.rows).length ≤ 9223372036854775807) : ∀ (d i : Nat) (o2 : AO), i + d = (lst f.rows).length →
    q60_L2 P0 (.int .i64 n) (.int .i64 i) (HC f o1 o2) = if ((lst f.rows).drop i).all (rowOk (lst f.code)) then E0 else E80 := by
  intro d
  induction d with
  | zero =>
    intro i o2 hi
    have e1 : (lst f.rows).drop i = [] := List.drop_eq_nil_of_le (by omega)
    have hn : ¬ ((i : Int) < ((lst f.rows).length : Int)) := by omega
    rw [q60_L2_go, e1]
    simp [q60_5, q60_1, hn]
  | succ d ih =>
    intro i o2 hi
    have hlt : i < (lst f.rows).length := by omega
    have hc : ((i : Int) < ((lst f.rows).length : Int)) := by omega
    have k1 := ixs_row (o := f.rows) (i := i) (List.getElem?_eq_getElem hlt) .i64
    rw [q60_L2_go]
    have e1 : ((lst f.rows).drop i).all (rowOk (lst f.code)) = (rowOk (lst f.code) (lst f.rows)[i] && ((lst f.rows).drop (i + 1)).all (rowOk (lst f.code))) := by rw [List.drop_eq_getElem_cons hlt, List.all_cons]
    rw [e1]
    generalize hr : (lst f.rows)[i] = r at *
    have ih := fun o2 => ih (i + 1) o2 (by omega)
    push_cast at ih
    subst hn
    by_cases h1 : r.f < 0
    · simp [q60_5, hc, q60_4, k1, rowOk, h1]
    by_cases h2 : r.t ≤ r.f
    · simp [q60_5, hc, q60_4, k1, rowOk, h1, h2]
    by_cases h3 : ((lst f.code).length : Int) < r.t
    · simp [q60_5, hc, q60_4, k1, rowOk, h1, h2, h3]
    by_cases h4 : r.at_ < 0
    · have : ¬ 0 ≤ r.at_ := by omega
      simp [q60_5, hc, q60_4, k1, rowOk, h1, h2, h3, h4, placeOk, this]
    by_cases h5 : ((lst f.code).length : Int) ≤ r.at_
    · have : ¬ r.at_ < ((lst f.code).length : Int) := by omega
      simp [q60_5, hc, q60_4, k1, rowOk, h1, h2, h3, h4, h5, placeOk, this]
    · have hx : r.at_.toNat < (lst f.code).length := by omega
      have a1 : 0 ≤ r.at_ := by omega
      have a2 : r.at_ < ((lst f.code).length : Int) := by omega
      have k2 := ixs_insI (o := f.code) (n := r.at_) (by omega) (List.getElem?_eq_getElem hx) .i64
      by_cases h6 : ((lst f.code)[r.at_.toNat]).op = 32
      · simp [q60_5, hc, q60_4, k1, rowOk, h1, h2, h3, h4, h5, placeOk, a1, a2, k2, h6, hx, q60_3, wrap_up hlt hl, ih]
      · simp [q60_5, hc, q60_4, k1, rowOk, h1, h2, h3, h4, h5, placeOk, a1, a2, k2, h6, hx]
theorem RC_regs (f : Fn) (o1 o2 : AO) (n : Int) (hl : (lst f.regs).length ≤ 9223372036854775807) : ∀ (d i : Nat), i + d = (lst f.regs).length →
    q60_L23 P0 (.int .i64 n) (.int .i64 i) (HC f o1 o2) = if ((lst f.regs).drop i).all (fun k => decide (1 ≤ k) && decide (k ≤ 3)) then q60_21 P0 (.int .i64 n) (HC f o1 o2) else E80 := by
  intro d
  induction d with
  | zero =>
    intro i hi
    have e1 : (lst f.regs).drop i = [] := List.drop_eq_nil_of_le (by omega)
    have hn : ¬ ((i : Int) < ((lst f.regs).length : Int)) := by omega
    rw [q60_L23_go, e1]
    simp [q60_26, hn]
  | succ d ih =>
    intro i hi
    have hlt : i < (lst f.regs).length := by omega
    have hc : ((i : Int) < ((lst f.regs).length : Int)) := by omega
    have k1 := ixs_int (o := f.regs) (i := i) (List.getElem?_eq_getElem hlt) .i64
    have e1 : ((lst f.regs).drop i).all (fun k => decide (1 ≤ k) && decide (k ≤ 3)) = ((decide (1 ≤ (lst f.regs)[i]) && decide ((lst f.regs)[i] ≤ 3)) && ((lst f.regs).drop (i + 1)).all (fun k => decide (1 ≤ k) && decide (k ≤ 3))) := by
      rw [List.drop_eq_getElem_cons hlt, List.all_cons]
    rw [q60_L23_go, e1]
    generalize hr : (lst f.regs)[i] = r at *
    have ih := ih (i + 1) (by omega)
    push_cast at ih
    by_cases h1 : r < 1
    · have : ¬ 1 ≤ r := by omega
      simp [q60_26, hc, q60_25, k1, h1, this]
    by_cases h2 : 3 < r
    · have : ¬ r ≤ 3 := by omega
      simp [q60_26, hc, q60_25, k1, h1, h2, this]
    · have a1 : 1 ≤ r := by omega
      have a2 : r ≤ 3 := by omega
      simp [q60_26, hc, q60_25, k1, h1, h2, a1, a2, q60_24, wrap_up hlt hl, ih]
def parR (R : List Int) : List Int → List Int → Bool
  | _, [] => true
  | seen, p :: r => (inR R p && !seen.contains p) && parR R (seen ++ [p]) r
theorem RC_params (f : Fn) (o1 o2 : AO) (n : Int) (hR : (lst f.regs).all (fun k => decide (1 ≤ k) && decide (k ≤ 3)) = true) (hl : (lst f.params).length ≤ 9223372036854775807) : ∀ (d i : Nat), i + d = (lst f.params).length →
    q60_L16 P0 (.int .i64 n) (.int .i64 i) (HC f o1 o2) = if parR (lst f.regs) ((lst f.params).take i) ((lst f.params).drop i) then q60_14 P0 (.int .i64 n) (HC f o1 o2) else E80 := by
  intro d
  induction d with
  | zero =>
    intro i hi
    have e1 : (lst f.params).drop i = [] := List.drop_eq_nil_of_le (by omega)
    have hn : ¬ ((i : Int) < ((lst f.params).length : Int)) := by omega
    rw [q60_L16_go, e1]
    simp [q60_19, hn, parR]
  | succ d ih =>
    intro i hi
    have hlt : i < (lst f.params).length := by omega
    have hc : ((i : Int) < ((lst f.params).length : Int)) := by omega
    have k1 := ixs_int (o := f.params) (i := i) (List.getElem?_eq_getElem hlt) .i64
    have ks := slc_to (α := Int) f.params i (by omega) .i64
    simp only [es_int] at ks
    have hlm : lst (f.params.map (List.take i)) = (lst f.params).take i := by cases f.params <;> simp
    have e1 : parR (lst f.regs) ((lst f.params).take i) ((lst f.params).drop i) = ((inR (lst f.regs) (lst f.params)[i] && !((lst f.params).take i).contains (lst f.params)[i]) && parR (lst f.regs) ((lst f.params).take (i + 1)) ((lst f.params).drop (i + 1))) := by
      rw [List.drop_eq_getElem_cons hlt, parR, List.take_append_getElem]
    rw [q60_L16_go, e1]
    have hct : (callW E).p 42 [.int .i64 (lst f.params)[i], slA (f.params.map (List.take i))] = some ⟨.bool (((lst f.params).take i).contains (lst f.params)[i]), [], true, [], []⟩ := by
      rw [s_in _ _ (by rw [hlm, List.length_take]; omega), hlm, List.contains_eq_mem]
    generalize hr : (lst f.params)[i] = r at *
    generalize ((lst f.params).take i).contains r = B at *
    have ih := ih (i + 1) (by omega)
    push_cast at ih
    have hs := s_kind f r
    rcases regK_range hR r with ⟨a1, a2⟩ | ⟨a1, a2⟩
    · have hz : ¬ regK (lst f.regs) r = 0 := by omega
      rw [a1]
      generalize regK (lst f.regs) r = k at *
      cases B with
      | true => simp [q60_19, hc, q60_18, k1, hs, hz, ks, hct, pairsOk]
      | false =>
        simp [q60_19, hc, q60_18, k1, hs, hz, ks, hct, pairsOk, q60_17, wrap_up hlt hl]
        exact ih
    · rw [a2] at hs
      simp [q60_19, hc, q60_18, k1, hs, a1, pairsOk]
theorem RC_one (f : Fn) (o2 : AO) (n : Int) (x : Ins) (i g : Nat) (hR : (lst f.regs).all (fun k => decide (1 ≤ k) && decide (k ≤ 3)) = true) (fit : InsFit x) (hi : i < (lst f.code).length) (hl : (lst f.code).length ≤ 9223372036854775807) (hx : (lst f.code)[i]? = some x) (oc : OC) :
    q60_11 P0 (.int .i64 n) (.int .i64 i) (HC f ⟨g, oc⟩ o2) =
      if rightM f x && spotOk (lst f.code) i x then q60_10 P0 (.int .i64 n) (.int .i64 i) (HC f ⟨g + 1, .arr true false 9 [enc x]⟩ o2) else E80 := by
  have k0 := ixs_ins (o := f.code) (i := i) hx .i64
  have h1 := s_one f x fit.n fit.s fit.a
  rw [one_right f x hR] at h1
  cases hok : rightM f x with
  | false =>
    rw [hok] at h1
    simp [q60_11, k0, h1]
  | true =>
    have ht := right_leads (f := f) (x := x) hok
    rw [hok] at h1
    by_cases h32 : x.op = 32
    · have hld : leads 32 = false := by simp [leads]
      by_cases h0 : i = 0
      · subst h0
        simp only [Int.ofNat_zero] at k0
        simp [q60_11, k0, h1, h32, spotOk]
      · have h0' : ¬ ((i : Int) = 0) := by omega
        have hp : i - 1 < (lst f.code).length := by omega
        have k1 := ixs_ins (o := f.code) (i := i - 1) (List.getElem?_eq_getElem hp) .i64
        have hw : IntKind.wrap .i64 ((i : Int) - 1) = ((i - 1 : Nat) : Int) := by rw [wrap_i64] <;> omega
        cases he : ends ((lst f.code)[i - 1]).op with
        | true => simp [q60_11, k0, h1, h32, spotOk, h0, h0', hw, k1, hp, he, hld]
        | false => simp [q60_11, k0, h1, h32, spotOk, h0, h0', hw, k1, hp, he]
    · cases hld : leads x.op with
      | false => simp [q60_11, k0, h1, h32, spotOk, hld]
      | true =>
        obtain ⟨t0, t1⟩ := ht hld
        have hxt : x.t.toNat < (lst f.code).length := by omega
        have k2 := ixs_insI (o := f.code) (n := x.t) t0 (List.getElem?_eq_getElem hxt) .i64
        by_cases h6 : ((lst f.code)[x.t.toNat]).op = 32
        · simp [q60_11, k0, h1, h32, spotOk, hld, k2, h6, hxt]
        · simp [q60_11, k0, h1, h32, spotOk, hld, k2, h6, hxt]
theorem RC_code (f : Fn) (o2 : AO) (n : Int) (hn : n = (lst f.code).length) (hR : (lst f.regs).all (fun k => decide (1 ≤ k) && decide (k ≤ 3)) = true) (hfit : ∀ x ∈ lst f.code, InsFit x) (hl : (lst f.code).length ≤ 9223372036854775807) : ∀ (d i : Nat) (o1 : AO), i + d = (lst f.code).length →
    ∃ o1', q60_L9 P0 (.int .i64 n) (.int .i64 i) (HC f o1 o2) = if codeOk f (lst f.code) i ((lst f.code).drop i) then q60_7 P0 (.int .i64 n) (HC f o1' o2) else E80 := by
  intro d
  induction d with
  | zero =>
    intro i o1 hi
    have e1 : (lst f.code).drop i = [] := List.drop_eq_nil_of_le (by omega)
    have hnl : ¬ ((i : Int) < n) := by omega
    rw [q60_L9_go, e1]
    exact ⟨o1, by simp [q60_12, hnl, codeOk]⟩
  | succ d ih =>
    intro i o1 hi
    have hlt : i < (lst f.code).length := by omega
    have hc : ((i : Int) < n) := by omega
    have e1 : codeOk f (lst f.code) i ((lst f.code).drop i) = (rightM f (lst f.code)[i] && spotOk (lst f.code) i (lst f.code)[i] && codeOk f (lst f.code) (i + 1) ((lst f.code).drop (i + 1))) := by
      rw [List.drop_eq_getElem_cons hlt, codeOk]
    have fit := hfit _ (List.getElem_mem hlt)
    have hone := RC_one f o2 n _ i o1.gen hR fit hlt hl (List.getElem?_eq_getElem hlt) o1.c
    rw [q60_L9_go, e1]
    generalize (lst f.code)[i] = x at *
    generalize (rightM f x && spotOk (lst f.code) i x) = G at *
    simp only [q60_12, evBin_lss, ob_some, hc, decide_true, cnd_t, hone]
    cases G with
    | false => exact ⟨o1, by simp⟩
    | true =>
      obtain ⟨o1', ih⟩ := ih (i + 1) ⟨o1.gen + 1, .arr true false 9 [enc x]⟩ (by omega)
      push_cast at ih
      exact ⟨o1', by simp [q60_10, wrap_up hlt hl, ih]⟩
theorem par_same (R : List Int) : ∀ (l : List Int) (i : Nat) (seen : List Int), i + l.length ≤ 21 → parOk R i seen l = parR R seen l
  | [], _, _, _ => rfl
  | p :: r, i, seen, h => by
    simp only [List.length_cons] at h
    have : i ≤ 20 := by omega
    rw [parOk, parR, par_same R r (i + 1) (seen ++ [p]) (by omega)]
    simp [this]
theorem par_long (R : List Int) : ∀ (l : List Int) (i : Nat) (seen : List Int), 21 < i + l.length → i ≤ 21 → parOk R i seen l = false
  | [], i, _, h, h2 => by simp at h; omega
  | p :: r, i, seen, h, h2 => by
    simp only [List.length_cons] at h
    rw [parOk]
    by_cases hi : i ≤ 20
    · rw [par_long R r (i + 1) (seen ++ [p]) (by omega) (by omega)]; simp
    · simp [hi]
set_option maxRecDepth 100000 in
set_option maxHeartbeats 1000000 in
theorem s_RCheck (f : Fn) (hf : FnFit f) : (callW E).p 29 [.agg (enc f)] = some ⟨.int .i64 (if wf f then 0 else 80), [], true, [], []⟩ := by
  rw [x_q60]
  by_cases h0 : (lst f.code).length = 0
  · have h0' : ((lst f.code).length : Int) = 0 := by omega
    have : ¬ 1 ≤ (lst f.code).length := by omega
    simp [q60_32, q60_31, q60_30, h0', wf, this]
  have h0' : ¬ ((lst f.code).length : Int) = 0 := by omega
  have hne : ¬ lst f.code = [] := fun h => h0 (by rw [h]; rfl)
  have g1 : 1 ≤ (lst f.code).length := by omega
  by_cases h2 : 20000 < (lst f.code).length
  · have h2' : (20000 : Int) < ((lst f.code).length : Int) := by omega
    have : ¬ (lst f.code).length ≤ 20000 := by omega
    simp [q60_32, q60_31, q60_30, h0', hne, h2', wf, this]
  have h2' : ¬ (20000 : Int) < ((lst f.code).length : Int) := by omega
  have g2 : (lst f.code).length ≤ 20000 := by omega
  by_cases h3 : 20000 < (lst f.regs).length
  · have h3' : (20000 : Int) < ((lst f.regs).length : Int) := by omega
    have : ¬ (lst f.regs).length ≤ 20000 := by omega
    simp [q60_32, q60_31, q60_30, h0', hne, h2', h3', wf, this]
  have h3' : ¬ (20000 : Int) < ((lst f.regs).length : Int) := by omega
  have g3 : (lst f.regs).length ≤ 20000 := by omega
  by_cases hp : 21 < (lst f.params).length
  · have hp' : (21 : Int) < ((lst f.params).length : Int) := by omega
    have := par_long (lst f.regs) (lst f.params) 0 [] (by omega) (by omega)
    simp [q60_32, q60_31, q60_30, h0', hne, h2', h3', hp', wf, this]
  have hp' : ¬ (21 : Int) < ((lst f.params).length : Int) := by omega
  by_cases h4 : f.ret < 0
  · have : ¬ 0 ≤ f.ret := by omega
    simp [q60_32, q60_31, q60_30, h0', hne, h2', h3', hp', h4, wf, this]
  have g4 : 0 ≤ f.ret := by omega
  by_cases h5 : 3 < f.ret
  · have : ¬ f.ret ≤ 3 := by omega
    simp [q60_32, q60_31, q60_30, h0', hne, h2', h3', hp', h4, h5, wf, this]
  have g5 : f.ret ≤ 3 := by omega
  have hpl : (lst f.code).length - 1 < (lst f.code).length := by omega
  have k1 := ixs_ins (o := f.code) (i := (lst f.code).length - 1) (List.getElem?_eq_getElem hpl) .i64
  have hw : IntKind.wrap .i64 (((lst f.code).length : Int) - 1) = (((lst f.code).length - 1 : Nat) : Int) := by rw [wrap_i64] <;> omega
  have hg : (lst f.code).getD ((lst f.code).length - 1) default = (lst f.code)[(lst f.code).length - 1] := by rw [List.getD_eq_getElem?_getD, List.getElem?_eq_getElem hpl]; rfl
  cases he : ends ((lst f.code)[(lst f.code).length - 1]).op with
  | false =>
    have hwf : wf f = false := by rw [wf, hg, he]; simp
    rw [hwf]
    simp [q60_32, q60_31, q60_30, h0', hne, h2', h3', hp', h4, h5, hw, k1, he]
  | true =>
    have hps := par_same (lst f.regs) (lst f.params) 0 [] (by omega)
    have hwf : wf f = ((lst f.regs).all (fun k => decide (1 ≤ k) && decide (k ≤ 3)) && parR (lst f.regs) [] (lst f.params) && codeOk f (lst f.code) 0 (lst f.code) && (lst f.rows).all (rowOk (lst f.code))) := by
      rw [wf, hg, he, hps]
      simp only [g1, g2, g3, g4, g5, decide_true, Bool.true_and]
    have e : q60_32 (.agg (enc f)) [⟨0, .dead⟩, ⟨0, .dead⟩, ⟨0, .dead⟩] = q60_L23 P0 (.int .i64 (lst f.code).length) (.int .i64 0) (HC f ⟨0, .dead⟩ ⟨0, .dead⟩) := by
      simp [q60_32, q60_31, q60_30, h0', hne, h2', h3', hp', h4, h5, hw, k1, he, q60_1, q60_3, q60_4, q60_5, q60_7, q60_10, q60_11, q60_12, q60_14, q60_17, q60_18, q60_19, q60_21, q60_24, q60_25, q60_26, q60_28, q60_30, q60_31, q60_32]
    have a1 := RC_regs f ⟨0, .dead⟩ ⟨0, .dead⟩ (lst f.code).length hf.regs _ 0 (Nat.zero_add _)
    simp only [Int.ofNat_zero, List.drop_zero] at a1
    rw [e, a1, hwf]
    cases hR : (lst f.regs).all (fun k => decide (1 ≤ k) && decide (k ≤ 3)) with
    | false => simp
    | true =>
      have a2 := RC_params f ⟨0, .dead⟩ ⟨0, .dead⟩ (lst f.code).length hR hf.params _ 0 (Nat.zero_add _)
      obtain ⟨o1', a3⟩ := RC_code f ⟨0, .dead⟩ _ rfl hR hf.ins hf.code _ 0 ⟨0, .dead⟩ (Nat.zero_add _)
      have a4 := RC_rows f o1' _ rfl hf.rows _ 0 ⟨0, .dead⟩ (Nat.zero_add _)
      simp only [Int.ofNat_zero, List.drop_zero, List.take_zero] at a2 a3 a4
      have e2 : q60_21 P0 (.int .i64 (lst f.code).length) (HC f ⟨0, .dead⟩ ⟨0, .dead⟩) = q60_L16 P0 (.int .i64 (lst f.code).length) (.int .i64 0) (HC f ⟨0, .dead⟩ ⟨0, .dead⟩) := by simp [q60_1, q60_3, q60_4, q60_5, q60_7, q60_10, q60_11, q60_12, q60_14, q60_17, q60_18, q60_19, q60_21, q60_24, q60_25, q60_26, q60_28, q60_30, q60_31, q60_32]
      have e3 : q60_14 P0 (.int .i64 (lst f.code).length) (HC f ⟨0, .dead⟩ ⟨0, .dead⟩) = q60_L9 P0 (.int .i64 (lst f.code).length) (.int .i64 0) (HC f ⟨0, .dead⟩ ⟨0, .dead⟩) := by simp [q60_1, q60_3, q60_4, q60_5, q60_7, q60_10, q60_11, q60_12, q60_14, q60_17, q60_18, q60_19, q60_21, q60_24, q60_25, q60_26, q60_28, q60_30, q60_31, q60_32]
      have e4 : q60_7 P0 (.int .i64 (lst f.code).length) (HC f o1' ⟨0, .dead⟩) = q60_L2 P0 (.int .i64 (lst f.code).length) (.int .i64 0) (HC f o1' ⟨0, .dead⟩) := by simp [q60_1, q60_3, q60_4, q60_5, q60_7, q60_10, q60_11, q60_12, q60_14, q60_17, q60_18, q60_19, q60_21, q60_24, q60_25, q60_26, q60_28, q60_30, q60_31, q60_32]
      rw [e2, a2, e3, a3, e4, a4]
      generalize parR (lst f.regs) [] (lst f.params) = b2
      generalize codeOk f (lst f.code) 0 (lst f.code) = b3
      generalize (lst f.rows).all (rowOk (lst f.code)) = b4
      cases b2 <;> cases b3 <;> cases b4 <;> rfl
end Go.Vm
namespace Go.Vm
open Cel
attribute [local simp] callAny callP heapOf_nil
@[simp] theorem holds11 : (callW E).p 97 [] = some ⟨.bool true, [], true, [], []⟩ := lift_p 60 (by kernel_rfl)
theorem s_light (f : Fn) : (callW E).p 98 [.agg (enc f)] = some ⟨.bool (decide ((lst f.code).length ≤ 400) && decide ((lst f.regs).length ≤ 100) && decide ((lst f.rows).length ≤ 100)), [], true, [], []⟩ := by
  rw [x_q51]
  by_cases h1 : (lst f.code).length ≤ 400
  · by_cases h2 : (lst f.regs).length ≤ 100
    · have h1' : ((lst f.code).length : Int) ≤ 400 := by omega
      have h2' : ((lst f.regs).length : Int) ≤ 100 := by omega
      by_cases h3 : (lst f.rows).length ≤ 100
      · have h3' : ((lst f.rows).length : Int) ≤ 100 := by omega
        simp [q51_1, h1, h2, h3, h1', h2', h3']
      · have h3' : ¬ ((lst f.rows).length : Int) ≤ 100 := by omega
        simp [q51_1, h1, h2, h3, h1', h2', h3']
    · have h1' : ((lst f.code).length : Int) ≤ 400 := by omega
      have h2' : ¬ ((lst f.regs).length : Int) ≤ 100 := by omega
      simp [q51_1, h1, h2, h1', h2']
  · have h1' : ¬ ((lst f.code).length : Int) ≤ 400 := by omega
    simp [q51_1, h1, h1']
end Go.Vm
namespace Go.Vm
theorem codeOk_at {f : Fn} {C : List Ins} : ∀ {l : List Ins} {i k : Nat} {x : Ins}, codeOk f C i l = true → l[k]? = some x → rightM f x = true ∧ spotOk C (i + k) x = true
  | [], _, _, _, _, h => by simp at h
  | y :: l, i, k, x, hk, h => by
    simp only [codeOk, Bool.and_eq_true] at hk
    cases k with
    | zero => simp at h; subst h; exact hk.1
    | succ k =>
      have := codeOk_at hk.2 (by simpa using h)
      rwa [show i + 1 + k = i + (k + 1) by omega] at this
structure Wf (f : Fn) : Prop where
  n1 : 1 ≤ (lst f.code).length
  n2 : (lst f.code).length ≤ 20000
  regs : (lst f.regs).length ≤ 20000
  ret0 : 0 ≤ f.ret
  ret3 : f.ret ≤ 3
  last : ends (insAt f ((lst f.code).length - 1)).op = true
  kinds : ∀ k ∈ lst f.regs, 1 ≤ k ∧ k ≤ 3
  pars : parOk (lst f.regs) 0 [] (lst f.params) = true
  ins : ∀ i, i < (lst f.code).length → rightM f (insAt f i) = true
  spot : ∀ i, i < (lst f.code).length → spotOk (lst f.code) i (insAt f i) = true
  rows : ∀ r ∈ lst f.rows, rowOk (lst f.code) r = true
theorem wf_of {f : Fn} (h : wf f = true) : Wf f := by
  simp only [wf, Bool.and_eq_true, decide_eq_true_eq, List.all_eq_true] at h
  obtain ⟨⟨⟨⟨⟨⟨⟨⟨⟨h1, h2⟩, h3⟩, h4⟩, h5⟩, h6⟩, h7⟩, h8⟩, h9⟩, h10⟩ := h
  refine ⟨h1, h2, h3, h4, h5, h6, h7, h8, fun i hi => ?_, fun i hi => ?_, h10⟩
  · exact (codeOk_at h9 (insAt_lt hi)).1
  · have := (codeOk_at h9 (insAt_lt hi)).2
    rwa [Nat.zero_add] at this
theorem tail_leads' {R : List Int} {ret : Int} {n : Nat} {x : Ins} (h : tailOk R ret n x = true) (hl : leads x.op = true) : 0 ≤ x.t ∧ x.t < n := by
  have hne : ¬ x.op = 1 ∧ ¬ x.op = 4 ∧ ¬ x.op = 7 ∧ ¬ x.op = 30 := by
    simp only [leads, Bool.or_eq_true, decide_eq_true_eq] at hl
    omega
  simp only [tailOk, hne, if_false, hl, Bool.not_true, Bool.false_or, Bool.and_eq_true, decide_eq_true_eq] at h
  exact h
theorem Wf.leads {f : Fn} (w : Wf f) {i : Nat} (hi : i < (lst f.code).length) (hl : Go.Vm.leads (insAt f i).op = true) : 0 ≤ (insAt f i).t ∧ (insAt f i).t < (lst f.code).length := by
  have h := w.ins i hi
  simp only [rightM, Bool.and_eq_true] at h
  exact tail_leads' h.2 hl
structure RowIn (f : Fn) (r : Row) : Prop where
  f0 : 0 ≤ r.f
  ft : r.f < r.t
  tn : r.t ≤ (lst f.code).length
  a0 : 0 ≤ r.at_
  an : r.at_ < (lst f.code).length
  op : (insAt f r.at_.toNat).op = 32
theorem Wf.row {f : Fn} (w : Wf f) {r : Row} (hr : r ∈ lst f.rows) : RowIn f r := by
  have h := w.rows r hr
  simp only [rowOk, Bool.not_eq_true', Bool.or_eq_false_iff, decide_eq_false_iff_not, Classical.not_not] at h
  exact ⟨by omega, by omega, by omega, by omega, by omega, h.2⟩
end Go.Vm
namespace Go.Vm
open Cel
section
variable {α : Type} [Cel α]
def ownV (j g : Nat) : Option (List α) → AV
  | none => .nils
  | some L => .ls j g (es α) 0 L.length
def ownO (g : Nat) (d : AO) : Option (List α) → AO
  | none => d
  | some L => ⟨g, .arr false false (es α) (L.map enc)⟩
def exV (k : Nat) : Option (List α) → AV
  | none => .nils
  | some L => .ls k 0 (es α) 0 L.length
def exOs : Option (List α) → List OC
  | none => []
  | some L => [.arr false false (es α) (L.map enc)]
def ownI (j : Nat) : Option (List α) → List Nat
  | none => []
  | some _ => [j]
@[simp] theorem cellsOf_own (j g : Nat) (o : Option (List α)) : cellsOf (ownV j g o) = [ownV j g o] := by cases o <;> rfl
@[simp] theorem leaf1_own (j g : Nat) (o : Option (List α)) : leaf1 (ownV j g o) = true := by cases o <;> rfl
@[simp] theorem known_own (j g : Nat) (o : Option (List α)) : known (ownV j g o) = true := by cases o <;> rfl
@[simp] theorem evLen_own (j g : Nat) (o : Option (List α)) (H : Heap) : evLen 1 (ownV j g o) H = some (.int .i64 (lst o).length) := by cases o <;> rfl
theorem set_same {H : Heap} {i : Nat} {o : AO} (h : H[i]? = some o) : H.set i o = H := by
  refine List.ext_getElem? fun k => ?_
  rw [List.getElem?_set]
  split
  · rename_i e; subst e
    rw [if_pos (List.getElem?_eq_some_iff.1 h).1, h]
  · rfl
theorem call_own {E : Env} {C : Calls2} {fb j f : Nat} {args : List AV} {H : Heap} {fa : Fz (List AV)} {N : Option (List α)} {o : AO} (hE : E.pure f = true) (ha : fzList (fz H fuelF) args = some fa) (hc : C.p f fa.v = some (exO N))
    (hf : fa.ids = []) (ho : H[fb + j]? = some o) : callAny E C fb (some j) false f args H = some (ownV (fb + j) (o.gen + 1) N, H.set (fb + j) (ownO (o.gen + 1) o N)) := by
  simp only [callAny, hE, if_true, callP, ha, hc]
  have hfr : ((exO N).fresh || fa.ids.isEmpty) = true := by rw [hf]; simp
  simp only [hfr, if_true]
  cases N with
  | none =>
    simp only [exO, placeAll, Bool.false_eq_true, if_false, ownV, ownO, set_same ho]
    rfl
  | some L => simp only [Bool.false_eq_true, if_false, place_ex, ho, reloc_ex, ownV, ownO]
theorem fp_own {E : Env} {C : Calls2} {fb j f : Nat} {args : List AV} {H : Heap} {fa : Fz (List AV)} {N : Option (List α)} (hE : E.pure f = true) (ha : fzList (fz H fuelF) args = some fa) (hc : C.p f fa.v = some (exO N))
    (hf : fa.ids = []) : fpCall E C fb (some j) false f args H = some ([], ownI (fb + j) N) := by
  cases N with
  | none => simp [fpCall, hE, ha, hc, hf, exO, ownI]
  | some L => simp [fpCall, hE, ha, hc, hf, exO, ownI]
theorem own_rows {H : Heap} {j g : Nat} {d : AO} {L : List α} (h : H[j]? = some (ownO g d (some L))) : rowsAt H j g = some (false, es α, L.map enc) := by
  simp [rowsAt, objAt, h, ownO]
theorem fz_own {H : Heap} {j g k : Nat} {d : AO} {o : Option (List α)} (h : H[j]? = some (ownO g d o)) : fz H (k + 2) (ownV j g o) = some ⟨slA o, (lst o).all scal, ownI j o⟩ := by
  cases o with
  | none => rfl
  | some L =>
    rw [ownV, fz_lsk, own_rows h]
    simp only [List.drop_zero, Nat.zero_add, List.length_map, Nat.le_refl, and_self, if_true, take_rows, fz_rowsk]
    simp [slA, ownI]
theorem expo_own {H : Heap} {j g k : Nat} {d : AO} {o : Option (List α)} (h : H[j]? = some (ownO g d o)) (os : List OC) :
    expo H (k + 1) (ownV j g o) os = some ⟨exV os.length o, os ++ exOs o, (lst o).all scal, ownI j o, []⟩ := by
  cases o with
  | none => simp [ownV, expo, pure1, exV, exOs, ownI]
  | some L =>
    rw [ownV, expo_ls, own_rows h]
    simp only [List.drop_zero, Nat.zero_add, List.length_map, Nat.le_refl, and_self, if_true, take_rows, fz_rows]
    rfl
end
theorem set_rows {rows : List (List AV)} {i : Nat} {r : List AV} (h : rows[i]? = some r) : rows.set i r = rows := by
  refine List.ext_getElem? fun k => ?_
  rw [List.getElem?_set]
  split
  · rename_i e; subst e
    rw [if_pos (List.getElem?_eq_some_iff.1 h).1, h]
  · rfl
theorem setRows_same {H : Heap} {id g es : Nat} {fz : Bool} {rows : List (List AV)} (h : rowsAt H id g = some (fz, es, rows)) : setRows H id rows = H := by
  unfold rowsAt objAt at h
  cases ho : H[id]? with
  | none => rw [ho] at h; simp at h
  | some o =>
    obtain ⟨g', c⟩ := o
    rw [ho] at h
    by_cases hg : g' = g
    · cases c with
      | arr bx fz' es' rows' =>
        simp only [hg, if_true, Option.some.injEq, Prod.mk.injEq] at h
        obtain ⟨rfl, rfl, rfl⟩ := h
        simp only [setRows, ho]
        exact set_same ho
      | dead => simp [hg] at h
      | map _ _ => simp [hg] at h
    · simp [hg] at h
def copyEx (f : Fn) : Ex AV :=
  ⟨.agg [exV 0 f.regs, exV (exOs f.regs).length f.params, .int .i64 f.ret, exV (exOs f.regs ++ exOs f.params).length f.code, exV (exOs f.regs ++ exOs f.params ++ exOs f.code).length f.rows],
    exOs f.regs ++ exOs f.params ++ exOs f.code ++ exOs f.rows, (lst f.code).all scal && (lst f.rows).all scal, [], []⟩
theorem ownO_ex {α : Type} [Cel α] (o : Option (List α)) (A B : List OC) (L : List α) (h : o = some L) : (heapOf (A ++ exOs o ++ B))[A.length]? = some (ownO 0 ⟨0, .dead⟩ o) := by
  subst h
  simp [heapOf, exOs, ownO]
theorem fz_exV {α : Type} [Cel α] (o : Option (List α)) (A B : List OC) (k : Nat) : fz (heapOf (A ++ exOs o ++ B)) (k + 2) (exV A.length o) = some ⟨slA o, (lst o).all scal, ownI A.length o⟩ := by
  cases ho : o with
  | none => rfl
  | some L => exact fz_own (g := 0) (o := some L) (by have := ownO_ex o A B L ho; rwa [ho] at this)
theorem copy_reads (f : Fn) : Reads (copyEx f) (.agg (enc f)) := by
  have h1 := fz_exV f.regs [] (exOs f.params ++ exOs f.code ++ exOs f.rows) 9
  have h2 := fz_exV f.params (exOs f.regs) (exOs f.code ++ exOs f.rows) 9
  have h3 := fz_exV f.code (exOs f.regs ++ exOs f.params) (exOs f.rows) 9
  have h4 := fz_exV f.rows (exOs f.regs ++ exOs f.params ++ exOs f.code) [] 9
  simp only [List.nil_append, List.append_nil, List.append_assoc, List.length_nil, List.length_append] at h1 h2 h3 h4
  have hi : fz (heapOf (copyEx f).objs) 11 (.int .i64 f.ret) = some ⟨.int .i64 f.ret, true, []⟩ := rfl
  refine ⟨_, (fz_agg_eq _ 11 _).trans (by
    simp only [copyEx, fzList_cons, List.append_assoc, List.length_append] at hi ⊢
    simp only [h1, h2, h3, h4, hi, fzList_nil]
    rfl), rfl⟩
theorem call_reads {E : Env} {C : Calls2} {fb f : Nat} {sl : Option Nat} {args : List AV} {h : Heap} {fa : Fz (List AV)} {r : Ex AV} {v : AV} (hE : E.pure f = true) (ha : fzList (fz h fuelF) args = some fa) (hf : fa.ids = [])
    (hc : C.p f fa.v = some r) (hr : Reads r v) : callAny E C fb sl true f args h = some (v, h) := by
  obtain ⟨q, h1, h2⟩ := hr
  simp [callAny, hE, callP, ha, hc, hf, h1, h2]
theorem fp_reads {E : Env} {C : Calls2} {fb f : Nat} {sl : Option Nat} {args : List AV} {h : Heap} {fa : Fz (List AV)} {r : Ex AV} (hE : E.pure f = true) (ha : fzList (fz h fuelF) args = some fa) (hf : fa.ids = [])
    (hc : C.p f fa.v = some r) : fpCall E C fb sl true f args h = some ([], []) := by
  simp [fpCall, hE, ha, hc, hf]
end Go.Vm
namespace Go.Vm
theorem FnIn.fit3 {f : Fn} (h : FnIn f) : FnFit f := by
  have e : reachBytes = 140737488351232 := rfl
  refine ⟨fun x hx => ?_, ?_, ?_, ?_, ?_⟩
  · have k := h.insI x hx
    refine ⟨⟨k.n.1, ?_⟩, ?_, ?_⟩
    · have := k.n.2; omega
    · have := k.s; omega
    · have := k.len; omega
  · have := h.code; omega
  · have := h.regs; omega
  · have := h.params; omega
  · have := h.rows; omega
end Go.Vm
namespace Go.Vm
open Cel
theorem headsG_mem (f : Fn) : ∀ (k : Nat) (h : Int), h ∈ headsG f k ↔ ∃ i : Nat, h = i ∧ i < k ∧ isHead f i = true
  | 0, h => by simp [headsG]
  | k + 1, h => by
    rw [headsG, List.mem_append, headsG_mem f k h]
    constructor
    · rintro (⟨i, h1, h2, h3⟩ | h1)
      · exact ⟨i, h1, by omega, h3⟩
      · split at h1
        · rename_i hh
          rw [List.mem_singleton] at h1
          exact ⟨k, h1, by omega, hh⟩
        · cases h1
    · rintro ⟨i, h1, h2, h3⟩
      by_cases e : i = k
      · subst e; right; rw [if_pos h3]; simpa using h1
      · exact .inl ⟨i, h1, by omega, h3⟩
theorem headsG_inc (f : Fn) : ∀ (k : Nat), (headsG f k).Pairwise (· < ·)
  | 0 => .nil
  | k + 1 => by
    rw [headsG, List.pairwise_append]
    refine ⟨headsG_inc f k, by split <;> simp, fun a ha b hb => ?_⟩
    obtain ⟨i, h1, h2, _⟩ := (headsG_mem f k a).1 ha
    split at hb
    · rw [List.mem_singleton] at hb; omega
    · cases hb
theorem headsG_head (f : Fn) : ∀ (k : Nat), 0 < k → ∃ r, headsG f k = 0 :: r
  | 1, _ => ⟨[], by simp [headsG, isHead_0]⟩
  | k + 2, _ => by
    obtain ⟨r, h⟩ := headsG_head f (k + 1) (by omega)
    rw [headsG, h]
    exact ⟨_, rfl⟩
theorem caughtG_mem {i to : Int} : ∀ {rs : List Row} {l : List Int}, to ∈ caughtG i rs l → to ∈ l ∨ ∃ r ∈ rs, r.at_ = to
  | [], l, h => .inl h
  | r :: rs, l, h => by
    have hadd : ∀ {j : Int}, j ∈ addN l r.at_ → j ∈ l ∨ j = r.at_ := by
      intro j hj
      unfold addN at hj
      split at hj
      · exact .inl hj
      · rw [List.mem_append, List.mem_singleton] at hj; exact hj
    unfold caughtG at h
    split at h
    · split at h
      · rcases hadd h with h | h
        · exact .inl h
        · exact .inr ⟨r, by simp, h.symm⟩
      · rcases caughtG_mem h with h | ⟨r', h1, h2⟩
        · rcases hadd h with h | h
          · exact .inl h
          · exact .inr ⟨r, by simp, h.symm⟩
        · exact .inr ⟨r', by simp [h1], h2⟩
    · rcases caughtG_mem h with h | ⟨r', h1, h2⟩
      · exact .inl h
      · exact .inr ⟨r', by simp [h1], h2⟩
theorem succ_head {f : Fn} (w : Wf f) {i : Nat} (hi : i < (lst f.code).length) {to : Int} (h : to ∈ nextL f i ++ caughtL f i) (hne : to ≠ (i : Int) + 1) : to ∈ headsL f := by
  rw [headsL, headsG_mem]
  rw [List.mem_append] at h
  rcases h with h | h
  · rw [nextL, if_neg (by omega)] at h
    rw [show ((i : Int)).toNat = i by omega] at h
    have hm : ∀ {l : List Int}, (∀ j ∈ l, j = (i : Int) + 1) → to ∈ addN l (insAt f i).t → to = (insAt f i).t := by
      intro l hl hx
      unfold addN at hx
      split at hx
      · exact (hne (hl _ hx)).elim
      · rw [List.mem_append, List.mem_singleton] at hx
        rcases hx with hx | hx
        · exact (hne (hl _ hx)).elim
        · exact hx
    unfold nextI at h
    split at h
    · rename_i hl
      have ht := hm (by split <;> simp) h
      obtain ⟨t0, t1⟩ := w.leads hi hl
      refine ⟨to.toNat, by omega, by omega, ?_⟩
      rw [isHead_iff]
      exact .inr (.inr (.inl ⟨insAt f i, List.mem_of_getElem? (insAt_lt hi), hl, by omega⟩))
    · split at h
      · cases h
      · rw [List.mem_singleton] at h; exact (hne h).elim
  · rw [caughtL, if_neg (by omega)] at h
    split at h
    · rcases caughtG_mem h with h | ⟨r, h1, h2⟩
      · cases h
      · have hin := w.row h1
        refine ⟨to.toNat, by have := hin.a0; omega, by have := hin.an; have := hin.a0; omega, ?_⟩
        rw [isHead_iff]
        exact .inr (.inr (.inr ⟨r, h1, .inr (.inr (by have := hin.a0; omega))⟩))
    · cases h
def ents (L : List Int) : List (AV × AV) := L.map fun h => (.int .i64 h, .int .i64 1)
theorem mset_new (L : List Int) (h : Int) (hn : h ∉ L) : mset false [0] (.int .i64 h) (.int .i64 1) (ents L) = some (ents (L ++ [h])) := by
  induction L with
  | nil => rfl
  | cons a L ih =>
    simp only [List.mem_cons, not_or] at hn
    have hne : (h == a) = false := by simp [hn.1]
    simp only [ents, List.map_cons, mset, keyEq, Bool.false_eq_true, if_false, leafEq, if_true, hne, List.cons_append]
    rw [show (L.map fun h => ((.int .i64 h : AV), (.int .i64 1 : AV))) = ents L from rfl, ih hn.2]
    rfl
theorem mfind_ents (L : List Int) (k : Int) : mfind false [0] (.int .i64 k) (ents L) = some (if k ∈ L then some (.int .i64 1) else none) := by
  induction L with
  | nil => rfl
  | cons a L ih =>
    simp only [ents, List.map_cons, mfind, keyEq, Bool.false_eq_true, if_false, leafEq, if_true]
    by_cases he : k = a
    · subst he; simp
    · have hne : (k == a) = false := by simp [he]
      rw [hne]
      simp only
      rw [show (L.map fun h => ((.int .i64 h : AV), (.int .i64 1 : AV))) = ents L from rfl, ih]
      simp [he]
section
variable (f : Fn)
abbrev AM (L : List Int) : AO := ⟨1, .map false (ents L)⟩
theorem blk_put (L : List Int) (h : Int) (hn : h ∉ L) (t : Heap) : evMput false [0] (.lm 1 1) (.int .i64 h) (.int .i64 1) (AB f :: AM L :: t) = some (.tup [], AB f :: AM (L ++ [h]) :: t) := by
  simp only [evMput, mapAt, objAt, List.getElem?_cons_succ, List.getElem?_cons_zero, if_true, mset_new L h hn]
  rfl
theorem blk_get (L : List Int) (k : Int) (t : Heap) : evMget false [0] (.int .i64 0) false (.lm 1 1) (.int .i64 k) (AB f :: AM L :: t) = some (.int .i64 (if k ∈ L then 1 else 0)) := by
  simp only [evMget, mapAt, objAt, List.getElem?_cons_succ, List.getElem?_cons_zero, if_true, Option.map_some, mfind_ents]
  by_cases h : k ∈ L <;> simp [h]
abbrev KH : AV := slA (nz (headsL f))
theorem kh_at {k : Nat} {h : Int} (hk : (headsL f)[k]? = some h) : evIxs 1 (KH f) (.int .i64 (k : Int)) = some (.rp [.int .i64 h]) :=
  ixs_int (o := nz (headsL f)) (by rw [lst_nz]; exact hk) .i64
theorem Blocks_heads (hn : (headsL f).length ≤ 30000) (o2 o3 o4 : AO) : ∀ (d k : Nat), k + d = (headsL f).length →
    q46_L20 (.lp 0 1 0 0) (KH f) (.lm 1 1) (KH f) (.int .i64 (headsL f).length) (.int .i64 k) [AB f, AM ((headsL f).take k), o2, o3, o4] =
      q46_18 (.lp 0 1 0 0) (KH f) (.lm 1 1) [AB f, AM (headsL f), o2, o3, o4] := by
  intro d
  induction d with
  | zero =>
    intro k hk
    have hc : ¬ ((k : Int) < ((headsL f).length : Int)) := by omega
    have hk' : k = (headsL f).length := by omega
    rw [q46_L20_go]
    simp only [q46_24, evBin_lss, hc, decide_false, ob_some, q46_23, cnd_f]
    rw [hk', List.take_length]
  | succ d ih =>
    intro k hk
    have hlt : k < (headsL f).length := by omega
    have hc : ((k : Int) < ((headsL f).length : Int)) := by omega
    have hw := wrap_up hlt (by omega)
    have hinc := headsG_inc f (lst f.code).length
    rw [show headsG f (lst f.code).length = headsL f from rfl, List.pairwise_iff_getElem] at hinc
    have kx := kh_at f (List.getElem?_eq_getElem hlt)
    have hnot : (headsL f)[k] ∉ (headsL f).take k := by
      intro h
      obtain ⟨i, h1, h2⟩ := List.getElem_of_mem h
      rw [List.getElem_take] at h2
      have hi : i < k := by simp at h1; omega
      have := hinc i k (by omega) hlt hi
      omega
    have hp := blk_put f ((headsL f).take k) (headsL f)[k] hnot [o2, o3, o4]
    rw [show (headsL f).take k ++ [(headsL f)[k]] = (headsL f).take (k + 1) from List.take_append_getElem hlt] at hp
    have lk : ∀ (b : Int) (H : Heap), evLd false 1 (.rp [.int .i64 b]) H = some (.int .i64 b) := fun b H => by simp
    have ih := ih (k + 1) (by omega)
    push_cast at ih
    rw [q46_L20_go, ← ih]
    by_cases h0 : k = 0
    · have hz : ¬ ((0 : Int) < (k : Int)) := by omega
      simp only [q46_24, evBin_lss, hc, decide_true, ob_some, q46_23, cnd_t, q46_22, kx, lk, hp, oh_some, evBin_gtr, hz, decide_false, gb_ft, gb_tup, evPick_f, cnd_f, q46_21, evBin_add, hw]
    · have hz : ((0 : Int) < (k : Int)) := by omega
      have hlt2 : k - 1 < (headsL f).length := by omega
      have kx2 := kh_at f (List.getElem?_eq_getElem hlt2)
      have hw2 : IntKind.wrap .i64 ((k : Int) - 1) = ((k - 1 : Nat) : Int) := by rw [wrap_i64] <;> omega
      have hlt3 := hinc (k - 1) k hlt2 hlt (by omega)
      have hge : ¬ ((headsL f)[k] ≤ (headsL f)[k - 1]) := by omega
      simp only [q46_24, evBin_lss, hc, decide_true, ob_some, q46_23, cnd_t, q46_22, kx, lk, hp, oh_some, evBin_gtr, hz, gb_tt, evBin_sub, hw2, kx2, evBin_geq, hge, decide_false, evPick_t, cnd_f, q46_21, evBin_add, hw]
theorem Blocks_ways (w : Wf f) (i : Nat) (hi : i < (lst f.code).length) (v46 v47 v48 : AV) (M : List Int) (hM : ∀ to ∈ M, to ∈ nextL f i ++ caughtL f i) (hl : M.length ≤ 9223372036854775806) (V : AV) (H : Heap) (hH : ∃ t, H = AB f :: AM (headsL f) :: t)
    (hV : ∀ (k : Nat) (x : Int), M[k]? = some x → ∃ p, evIxs 1 V (.int .i64 (k : Int)) = some p ∧ evLd false 1 p H = some (.int .i64 x)) : ∀ (d k : Nat), k + d = M.length →
    q46_L4 (.lp 0 1 0 0) (KH f) (.lm 1 1) (.int .i64 i) v46 v47 v48 V (.int .i64 M.length) (.int .i64 k) H = q46_3 (.lp 0 1 0 0) (KH f) (.lm 1 1) v46 v47 v48 H := by
  have hn := w.n2
  intro d
  induction d with
  | zero =>
    intro k hk
    have hc : ¬ ((k : Int) < (M.length : Int)) := by omega
    rw [q46_L4_go]
    simp only [q46_8, evBin_lss, hc, decide_false, ob_some, q46_7, cnd_f]
  | succ d ih =>
    intro k hk
    have hlt : k < M.length := by omega
    have hc : ((k : Int) < (M.length : Int)) := by omega
    have hw := wrap_up hlt (by omega)
    obtain ⟨p, kx, lx⟩ := hV k M[k] (List.getElem?_eq_getElem hlt)
    have hm := hM _ (List.getElem_mem hlt)
    generalize M[k] = to at *
    have hwi : IntKind.wrap .i64 ((i : Int) + 1) = (i : Int) + 1 := by rw [wrap_i64] <;> omega
    have ih := ih (k + 1) (by omega)
    push_cast at ih
    rw [q46_L4_go, ← ih]
    by_cases hne : to = (i : Int) + 1
    · have hd : decide (to ≠ (i : Int) + 1) = false := by simp [hne]
      simp only [q46_8, evBin_lss, hc, decide_true, ob_some, q46_7, cnd_t, q46_6, kx, lx, evBin_add, hwi, evBin_neq, hd, gb_ft, gb_tup, evPick_f, cnd_f, q46_5, hw]
    · have hd : decide (to ≠ (i : Int) + 1) = true := by simp [hne]
      have hh := succ_head w hi hm hne
      obtain ⟨t, rfl⟩ := hH
      have g := blk_get f (headsL f) to t
      rw [if_pos hh] at g
      have h10 : decide ((1 : Int) = 0) = false := rfl
      simp only [q46_8, evBin_lss, hc, decide_true, ob_some, q46_7, cnd_t, q46_6, kx, lx, evBin_add, hwi, evBin_neq, hd, gb_tt, g, evBin_eql, h10, evPick_t, cnd_f, q46_5, hw]
theorem Blocks_end (w : Wf f) (H : Heap) : q46_1 (KH f) H = some ⟨.bool true, [], true, [], []⟩ := by
  obtain ⟨r, hr⟩ := headsG_head f (lst f.code).length w.n1
  have hr : headsL f = 0 :: r := hr
  have kx := kh_at f (k := 0) (h := 0) (by rw [hr]; rfl)
  simp only [Int.ofNat_zero] at kx
  have hp : (0 : Int) < ((headsL f).length : Int) := by rw [hr]; simp
  have lk : ∀ (b : Int) (H : Heap), evLd false 1 (.rp [.int .i64 b]) H = some (.int .i64 b) := fun b H => by simp
  simp only [q46_1, evLen_sl, lst_nz, ob_some, evBin_gtr, hp, decide_true, gb_tt, kx, lk, evBin_eql, evPick_t]
  rfl
theorem Blocks_code (w : Wf f) (hr : (lst f.rows).length ≤ 100) : ∀ (d i : Nat) (o2 o3 o4 : AO), i + d = (lst f.code).length →
    q46_L2 (.lp 0 1 0 0) (KH f) (.lm 1 1) (slA f.code) (.int .i64 (lst f.code).length) (.int .i64 i) [AB f, AM (headsL f), o2, o3, o4] = some ⟨.bool true, [], true, [], []⟩ := by
  have hn := w.n2
  intro d
  induction d with
  | zero =>
    intro i o2 o3 o4 hi
    have hc : ¬ ((i : Int) < ((lst f.code).length : Int)) := by omega
    rw [q46_L2_go]
    simp only [q46_16, evBin_lss, hc, decide_false, ob_some, q46_15, cnd_f]
    exact Blocks_end f w _
  | succ d ih =>
    intro i o2 o3 o4 hi
    have hlt : i < (lst f.code).length := by omega
    have hc : ((i : Int) < ((lst f.code).length : Int)) := by omega
    have k1 := ixs_ins (o := f.code) (i := i) (insAt_lt hlt) .i64
    have hw := wrap_up hlt (by omega)
    have hins := hlt
    rw [q46_L2_go]
    have e16 : q46_16 (.lp 0 1 0 0) (KH f) (.lm 1 1) (slA f.code) (.int .i64 (lst f.code).length) (.int .i64 i) [AB f, AM (headsL f), o2, o3, o4] =
        q46_11 (.lp 0 1 0 0) (KH f) (.lm 1 1) (.int .i64 i) (.lp 2 (o2.gen + 1) 0 0) (slA f.code) (.int .i64 (lst f.code).length) (.int .i64 i) [AB f, AM (headsL f), AX (o2.gen + 1) (insAt f i), o3, o4] := by
      simp [q46_16, q46_15, q46_12, hlt, k1]
    rw [e16]
    generalize o2.gen + 1 = g2
    have lop : evLd false 1 (.lp 2 g2 0 0) [AB f, AM (headsL f), AX g2 (insAt f i), o3, o4] = some (.int .i64 (insAt f i).op) := by simp
    have cL : ∀ h : Heap, callAny E (callW E) 0 none true 23 [.int .i64 (insAt f i).op] h = some (.bool (leads (insAt f i).op), h) := fun h => by simp [callAny, callP, heapOf_nil]
    have cE : ∀ h : Heap, callAny E (callW E) 0 none true 25 [.int .i64 (insAt f i).op] h = some (.bool (ends (insAt f i).op), h) := fun h => by simp [callAny, callP, heapOf_nil]
    have l03 : ∀ t : Heap, evLd false 1 (.lp 0 1 0 3) (AB f :: t) = some (slA f.code) := fun t => by simp
    have e11 : q46_11 (.lp 0 1 0 0) (KH f) (.lm 1 1) (.int .i64 i) (.lp 2 g2 0 0) (slA f.code) (.int .i64 (lst f.code).length) (.int .i64 i) [AB f, AM (headsL f), AX g2 (insAt f i), o3, o4] =
        q46_10 (.lp 0 1 0 0) (KH f) (.lm 1 1) (.int .i64 i) (slA f.code) (.int .i64 (lst f.code).length) (.int .i64 i) [AB f, AM (headsL f), AX g2 (insAt f i), o3, o4] := by
      have key : ∀ b : Bool, b = (leads (insAt f i).op || ends (insAt f i).op) → q46_11 (.lp 0 1 0 0) (KH f) (.lm 1 1) (.int .i64 i) (.lp 2 g2 0 0) (slA f.code) (.int .i64 (lst f.code).length) (.int .i64 i) [AB f, AM (headsL f), AX g2 (insAt f i), o3, o4] =
          gb (.bool b) true (some (.int .i64 i)) fun v62 => gb (.bool b) true (evBin .add v62 (.int .i64 1)) fun v63 => gb (.bool b) true (evFa 3 (.lp 0 1 0 0)) fun v64 => gb (.bool b) true (evLd false 1 v64 [AB f, AM (headsL f), AX g2 (insAt f i), o3, o4]) fun v65 =>
            gb (.bool b) true (evLen 1 v65 [AB f, AM (headsL f), AX g2 (insAt f i), o3, o4]) fun v66 => gb (.bool b) true (evBin .lss v63 v66) fun v67 => ob (evPick (.bool b) v67 (AV.bool false)) fun v68 =>
            gb v68 true (some (.lm 1 1)) fun v70 => gb v68 true (some (.int .i64 i)) fun v71 => gb v68 true (evBin .add v71 (.int .i64 1)) fun v72 => gb v68 true (evMget false [0] (.int .i64 0) false v70 v72 [AB f, AM (headsL f), AX g2 (insAt f i), o3, o4]) fun v73 =>
            gb v68 true (evBin .eql v73 (.int .i64 0)) fun v74 => ob (evPick v68 v74 (AV.bool false)) fun v75 => cnd v75 (expo1 [AB f, AM (headsL f), AX g2 (insAt f i), o3, o4] (AV.bool false))
              (q46_10 (.lp 0 1 0 0) (KH f) (.lm 1 1) (.int .i64 i) (slA f.code) (.int .i64 (lst f.code).length) (.int .i64 i) [AB f, AM (headsL f), AX g2 (insAt f i), o3, o4]) := by
        intro b hb
        subst hb
        cases hd : leads (insAt f i).op <;> simp only [q46_11, evFa_lp, Nat.zero_add, ob_some, lop, cL, oh_some, hd, gb_ff, gb_tf, gb_tup, gh_ff, gh_tf, cE, evPick_t, evPick_f, Bool.true_or, Bool.false_or]
      rw [key _ rfl]
      cases hb : (leads (insAt f i).op || ends (insAt f i).op) with
      | false => simp only [gb_ft, gb_tup, evPick_f, ob_some, cnd_f]
      | true =>
        have hw1 : IntKind.wrap .i64 ((i : Int) + 1) = (i : Int) + 1 := hw
        by_cases hl : (i : Int) + 1 < ((lst f.code).length : Int)
        · have hm : ((i : Int) + 1) ∈ headsL f := by
            rw [headsL, headsG_mem]
            refine ⟨i + 1, by omega, by omega, ?_⟩
            rw [isHead_iff]
            exact .inr (.inl (by simpa using hb))
          have g := blk_get f (headsL f) ((i : Int) + 1) [AX g2 (insAt f i), o3, o4]
          rw [if_pos hm] at g
          have h10 : decide ((1 : Int) = 0) = false := rfl
          simp only [gb_tt, ob_some, evBin_add, hw1, evFa_lp, Nat.zero_add, l03, evLen_sl, evBin_lss, hl, decide_true, evPick_t, g, evBin_eql, h10, cnd_f]
        · simp only [gb_tt, ob_some, evBin_add, hw1, evFa_lp, Nat.zero_add, l03, evLen_sl, evBin_lss, hl, decide_false, evPick_t, gb_ft, gb_tup, evPick_f, cnd_f]
    rw [e11]
    -- what follows the place
    have hN := s_Next f i (by omega)
    have hC := s_Caught f i (by omega)
    have hl1 := nextL_len f i
    have hl2 := caughtL_len f i
    have ha : ∀ H : Heap, fzList (fz H fuelF) [.agg (enc f), .int .i64 (i : Int)] = some ⟨[.agg (enc f), .int .i64 (i : Int)], scal f && (true && true), []⟩ := fun H => by
      rw [fzList_cons, fzList_cons, fz_enc, fz_int', fzList_nil]; rfl
    have l0 : ∀ t : Heap, evLd true 5 (.lp 0 1 0 0) (AB f :: t) = some (.agg (enc f)) := fun t => by simp
    have c2 : ∀ h : Heap, callAny E (callW E) 0 none true 79 [.agg (enc f), .int .i64 (i : Int)] h = some (slA (nz (caughtL f i)), h) := fun h => call_reads rfl (ha h) rfl hC ⟨_, exO_fz _, rfl⟩
    have f2 : ∀ h : Heap, fpCall E (callW E) 0 none true 79 [.agg (enc f), .int .i64 (i : Int)] h = some ([], []) := fun h => fp_reads rfl (ha h) rfl hC
    have c1 := call_own (E := E) (C := callW E) (fb := 0) (j := 3) (f := 81) (H := [AB f, AM (headsL f), AX g2 (insAt f i), o3, o4]) rfl (ha _) hN rfl rfl
    have f1 := fp_own (E := E) (C := callW E) (fb := 0) (j := 3) (f := 81) (H := [AB f, AM (headsL f), AX g2 (insAt f i), o3, o4]) rfl (ha _) hN rfl
    have hways := fun V H hH hV => Blocks_ways f w i hlt (slA f.code) (.int .i64 (lst f.code).length) (.int .i64 i) (nextL f i ++ caughtL f i) (fun _ h => h) (by rw [List.length_append]; omega) V H hH hV _ 0 (Nat.zero_add _)
    simp only [Int.ofNat_zero] at hways
    have hb := app_bound (a := (nextL f i).length) (b := (caughtL f i).length) (by omega)
    have fin : ∀ o2 o3 o4, q46_3 (.lp 0 1 0 0) (KH f) (.lm 1 1) (slA f.code) (.int .i64 (lst f.code).length) (.int .i64 i) [AB f, AM (headsL f), o2, o3, o4] = some ⟨.bool true, [], true, [], []⟩ := by
      intro o2 o3 o4
      have ih := ih (i + 1) o2 o3 o4 (by omega)
      push_cast at ih
      simp only [q46_3, evBin_add, hw, ob_some, ih]
    generalize hNl : nextL f i = N at *
    generalize hCl : caughtL f i = M at *
    simp only [Nat.zero_add, List.set_cons_zero, List.set_cons_succ] at c1 f1
    cases N with
    | nil =>
      obtain ⟨g', a1⟩ := app_slot (α := Int) (H := [AB f, AM (headsL f), AX g2 (insAt f i), o3, o4]) (fb := 0) (j := 4) (g := 0) (b := 8) (o := o4) (y := slA (nz M)) (L := []) (M := M) (by simp) rfl hb
      simp only [nz, ownV, ownO, ownI] at c1 f1
      simp only [slotV_nil, List.set_cons_zero, List.set_cons_succ, Nat.zero_add, List.nil_append, es_int] at c1 f1 a1
      have hp : pairsOk [(ids1 (.lp 0 1 0 0), []), ([], []), ([], []), (ids1 (.lp 0 1 0 0), []), ([], []), ([], []), (ids1 (slA (nz M)), ids1 AV.nils ++ [4]), (ids1 (slotV Int 4 g' M), []), ([], [])] [(2, 3)] = true := by simp [pairsOk, fpApart, meets]
      have hv := hways (slotV Int 4 g' M) [AB f, AM (headsL f), AX g2 (insAt f i), o3, slotO g' o4 M] ⟨_, rfl⟩ (by
        intro k x hk
        simp only [List.nil_append] at hk
        have hne : M ≠ [] := fun e => by rw [e] at hk; simp at hk
        rw [slotV_nn hne, slotO_nn hne]
        have hk' := (List.getElem?_eq_some_iff.1 hk).1
        exact ⟨_, ixAt (by omega) (by omega) _ _ _, by
          rw [show ((k : Int)).toNat = k by omega]
          exact ld_at' (α := Int) (id := 4) (g := g') rfl hk rfl⟩)
      simp only [List.nil_append] at hv
      simp only [q46_10, l0, ob_some, f1, ofp_some, c1, oh_some, f2, c2, a1, evLen_slot, hp, okK_t, Nat.zero_add, hv, fin]
    | cons x N =>
      have a1 := app_stk (α := Int) (H := [AB f, AM (headsL f), AX g2 (insAt f i), ⟨o3.gen + 1, .arr false false 1 ((x :: N).map enc)⟩, o4]) (fb := 0) (sl := some 4) (id := 3) (g := o3.gen + 1) (b := 8) (y := slA (nz M)) (L := x :: N) (M := M) (T := []) (by simp) (by simp) hb
      simp only [nz, ownV, ownO, ownI] at c1 f1
      simp only [List.set_cons_zero, List.set_cons_succ, Nat.zero_add, es_int] at c1 f1 a1
      have hp : pairsOk [(ids1 (.lp 0 1 0 0), []), ([], []), ([], [3]), (ids1 (.lp 0 1 0 0), []), ([], []), ([], []), (ids1 (slA (nz M)), ids1 (.ls 3 (o3.gen + 1) 1 0 (x :: N).length) ++ [4]), (ids1 (.ls 3 (o3.gen + 1 + 1) 1 0 (x :: N ++ M).length), []), ([], [])] [(2, 3)] = true := by simp [pairsOk, fpApart, meets]
      have hv := hways (.ls 3 (o3.gen + 1 + 1) 1 0 (x :: N ++ M).length) [AB f, AM (headsL f), AX g2 (insAt f i), ⟨o3.gen + 1 + 1, .arr false false 1 ((x :: N ++ M).map enc)⟩, o4] ⟨_, rfl⟩ (by
        intro k y hk
        have hk' := (List.getElem?_eq_some_iff.1 hk).1
        exact ⟨_, ixAt (by omega) (by omega) _ _ _, by
          rw [show ((k : Int)).toNat = k by omega]
          exact ld_at' (α := Int) (id := 3) (g := o3.gen + 1 + 1) rfl hk rfl⟩)
      simp only [q46_10, l0, ob_some, f1, ofp_some, c1, oh_some, f2, c2, a1, evLen_ls, hp, okK_t, Nat.zero_add, hv, fin]
end
theorem FlowBlocks_all (f : Fn) (hf : FnIn f) : (callW E).p 109 [.agg (enc f)] = some ⟨.bool true, [], true, [], []⟩ := by
  rw [x_q46]
  have hl := s_light f
  have hrc := s_RCheck f hf.fit3
  have n0 : newC 0 (some 0) (cellsOf (.agg (enc f))) [⟨0, .dead⟩, ⟨0, .dead⟩, ⟨0, .dead⟩, ⟨0, .dead⟩, ⟨0, .dead⟩] = some (.lp 0 1 0 0, [AB f, D0, D0, D0, D0]) := by simp
  have l0 : ∀ t : Heap, evLd true 5 (.lp 0 1 0 0) (AB f :: t) = some (.agg (enc f)) := fun t => by simp
  have ha : ∀ H : Heap, fzList (fz H fuelF) [.agg (enc f)] = some ⟨[.agg (enc f)], scal f && true, []⟩ := fun H => by
    rw [fzList_cons, fz_enc, fzList_nil]; rfl
  have ch : ∀ H : Heap, callAny E (callW E) 0 none true 97 [] H = some (.bool true, H) := fun H => call_reads (fa := ⟨[], true, []⟩) rfl rfl rfl holds11 ⟨_, rfl, rfl⟩
  have cl : ∀ H : Heap, callAny E (callW E) 0 none true 98 [.agg (enc f)] H = some (.bool _, H) := fun H => call_reads rfl (ha H) rfl hl ⟨_, rfl, rfl⟩
  have cc : ∀ H : Heap, callAny E (callW E) 0 none true 29 [.agg (enc f)] H = some (.int .i64 (if wf f then 0 else 80), H) := fun H => call_reads rfl (ha H) rfl hrc ⟨_, rfl, rfl⟩
  by_cases hg : (lst f.code).length ≤ 400 ∧ (lst f.regs).length ≤ 100 ∧ (lst f.rows).length ≤ 100
  · simp only [hg, decide_true, Bool.and_self] at cl
    cases hw : wf f with
    | false =>
      rw [hw] at cc
      have hd : decide ((80 : Int) ≠ 0) = true := rfl
      simp only [q46_32, n0, oh_some, q46_31, ch, ob_some, evUn_not, Bool.not_true, cnd_f, q46_30, l0, cl, gb_ff, gh_ff, cc, Bool.false_eq_true, if_false, evBin_neq, hd, evPick_f, cnd_t]
      rfl
    | true =>
      have w := wf_of hw
      rw [hw] at cc
      have hd : decide ((0 : Int) ≠ 0) = false := rfl
      have hH := s_Heads f (by omega) (by omega)
      have cH : ∀ H : Heap, callAny E (callW E) 0 none true 102 [.agg (enc f)] H = some (KH f, H) := fun H => call_reads rfl (ha H) rfl hH ⟨_, exO_fz _, rfl⟩
      have hlen : (headsL f).length ≤ 30000 := by have := headsG_len f (lst f.code).length; rw [headsL]; omega
      have h20 := Blocks_heads f hlen D0 D0 D0 _ 0 (Nat.zero_add _)
      have h2 := Blocks_code f w hg.2.2 _ 0 D0 D0 D0 (Nat.zero_add _)
      simp only [Int.ofNat_zero, List.take_zero] at h20 h2
      have l03 : ∀ t : Heap, evLd false 1 (.lp 0 1 0 3) (AB f :: t) = some (slA f.code) := fun t => by simp
      have mk : mkmC 0 (some 1) [AB f, D0, D0, D0, D0] = some (.lm 1 1, [AB f, AM [], D0, D0, D0]) := rfl
      simp only [q46_32, n0, oh_some, q46_31, ch, ob_some, evUn_not, Bool.not_true, cnd_f, q46_30, l0, cl, gb_ff, gh_ff, cc, if_true, evBin_neq, hd, evPick_f, q46_29, cH, q46_28, mk,
        q46_26, evLen_sl, lst_nz, h20, q46_18, evFa_lp, Nat.zero_add, l03, h2]
  · have hb : (decide ((lst f.code).length ≤ 400) && decide ((lst f.regs).length ≤ 100) && decide ((lst f.rows).length ≤ 100)) = false := by
      rw [← Bool.not_eq_true, Bool.and_eq_true, Bool.and_eq_true, decide_eq_true_eq, decide_eq_true_eq, decide_eq_true_eq]
      exact fun h => hg ⟨h.1.1, h.1.2, h.2⟩
    rw [hb] at cl
    simp only [q46_32, n0, oh_some, q46_31, ch, ob_some, evUn_not, Bool.not_true, cnd_f, q46_30, l0, cl, Bool.not_false, gb_tf, gh_tf, evPick_t, cnd_t]
    rfl
end Go.Vm
