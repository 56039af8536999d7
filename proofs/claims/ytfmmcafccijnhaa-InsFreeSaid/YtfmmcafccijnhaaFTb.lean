/- What 'kinds' answers. What 'other' answers; all of 'kinds'. Whether one instruction is well formed: 'right'. 'right', whole. A number in a list: the library's 'Contains'. Whether a function is well formed: 'Check': its lists of registers, parameters, rows. What a function that is handed in is fit for, for a check. InsFree: what an instruction doesn't need makes no difference. -/
import Derived.Test.YtfmmcafccijnhaaFX
import Derived.Test.YtfmmcafccijnhaaFTa
set_option linter.unusedSimpArgs false
set_option linter.unusedVariables false
set_option linter.unusedSectionVars false
namespace Go.Vm
open Cel
attribute [local simp] callAny callP heapOf_nil
@[simp] theorem splice4 (a b c d : AV) (r : List AV) (h : r.length = 4) : spliceAt 0 [a, b, c, d] r = [a, b, c, d] := by
  simp [spliceAt, ← h]
@[simp] theorem expo1_k (h : Heap) (a b c d : Int) (o : Bool) : expo1 h (.tup [.agg [.int .i64 a, .int .i64 b, .int .i64 c, .int .i64 d], .bool o]) = some (exK (a, b, c, d, o)) := rfl
@[simp] theorem build4 (a b c d : Int) : evBuild [.int .i64 0, .int .i64 0, .int .i64 0, .int .i64 0] [(0, 1, .int .i64 a), (1, 1, .int .i64 b), (2, 1, .int .i64 c), (3, 1, .int .i64 d)] = some (.agg [.int .i64 a, .int .i64 b, .int .i64 c, .int .i64 d]) := rfl
@[simp] theorem build4z : evBuild [.int .i64 0, .int .i64 0, .int .i64 0, .int .i64 0] [] = some (.agg [.int .i64 0, .int .i64 0, .int .i64 0, .int .i64 0]) := rfl
@[simp] theorem fz_tup3 (h : Heap) (a b c : Int) : fz h fuelF (.tup [.int .i64 a, .int .i64 b, .int .i64 c]) = some ⟨.tup [.int .i64 a, .int .i64 b, .int .i64 c], true, []⟩ := rfl
@[simp] theorem fz_tupk (h : Heap) (a b c d : Int) (o : Bool) : fz h fuelF (.tup [.agg [.int .i64 a, .int .i64 b, .int .i64 c, .int .i64 d], .bool o]) = some ⟨.tup [.agg [.int .i64 a, .int .i64 b, .int .i64 c, .int .i64 d], .bool o], true, []⟩ := rfl
@[simp] theorem agg4 (a b c d : AV) : aggOr true 4 [a, b, c, d] = some (.agg [a, b, c, d]) := rfl
set_option maxHeartbeats 4000000 in
theorem kinds_1 (x : Ins) (h : x.op = 1 ∨ x.op = 2 ∨ x.op = 3 ∨ x.op = 4 ∨ x.op = 7 ∨ x.op = 8 ∨ x.op = 9 ∨ x.op = 10 ∨ x.op = 11 ∨ x.op = 13 ∨ x.op = 14 ∨ x.op = 15 ∨ x.op = 16 ∨ x.op = 17 ∨ x.op = 18 ∨ x.op = 19 ∨ x.op = 20 ∨ x.op = 27 ∨ x.op = 31 ∨ x.op = 32 ∨ x.op = 33) : (callW E).p 47 [.agg (enc x)] = some (exK (kindsM x)) := by
  rw [x_q21]
  rcases h with h|h|h|h|h|h|h|h|h|h|h|h|h|h|h|h|h|h|h|h|h <;> simp [h, q21_1, q21_2, q21_3, q21_4, q21_5, q21_6, q21_7, q21_8, q21_9, q21_10, q21_11, q21_12, q21_13, q21_14, q21_15, q21_16, q21_17, q21_18, q21_19, q21_20, q21_21, q21_22, q21_23, q21_24, q21_25, q21_26, q21_27, q21_28, q21_29, q21_30, q21_31, q21_32, q21_33, q21_34, q21_35, q21_36, q21_37, q21_38, q21_39, q21_40, q21_41, q21_42, q21_43, q21_45, q21_47, pairsOk, fpApart, meets, ids1, kindsM]
theorem kinds_t (x : Ins) (hs : x.s.length ≤ 9223372036854775807) (h : x.op = 12 ∨ x.op = 21 ∨ x.op = 22) : (callW E).p 47 [.agg (enc x)] = some (exK (kindsM x)) := by
  rw [x_q21]
  have ht := s_Type x.s hs
  rcases h with h|h|h <;> simp [h, ht, q21_1, q21_2, q21_3, q21_4, q21_5, q21_6, q21_7, q21_8, q21_9, q21_10, q21_11, q21_12, q21_13, q21_14, q21_15, q21_16, q21_17, q21_18, q21_19, q21_20, q21_21, q21_22, q21_23, q21_24, q21_25, q21_26, q21_27, q21_28, q21_29, q21_30, q21_31, q21_32, q21_33, q21_34, q21_35, q21_36, q21_37, q21_38, q21_39, q21_40, q21_41, q21_42, q21_43, q21_45, q21_47, pairsOk, fpApart, meets, ids1, kindsM]
theorem kinds_n (x : Ins) (hn : -9223372036854775808 ≤ x.n ∧ x.n < 9223372036854775808) (h : x.op = 5 ∨ x.op = 6) : (callW E).p 47 [.agg (enc x)] = some (exK (kindsM x)) := by
  rw [x_q21]
  have hk := s_Kinds x.n
  have hw := wrap_i64 hn.1 hn.2
  rcases h with h|h
  · simp [h, hk, hw, q21_1, q21_2, q21_3, q21_4, q21_5, q21_6, q21_7, q21_8, q21_9, q21_10, q21_11, q21_12, q21_13, q21_14, q21_15, q21_16, q21_17, q21_18, q21_19, q21_20, q21_21, q21_22, q21_23, q21_24, q21_25, q21_26, q21_27, q21_28, q21_29, q21_30, q21_31, q21_32, q21_33, q21_34, q21_35, q21_36, q21_37, q21_38, q21_39, q21_40, q21_41, q21_42, q21_43, q21_45, q21_47, pairsOk, fpApart, meets, ids1, kindsM]
  · by_cases h0 : (numK x.n).1 = 0
    · simp [h, hk, hw, h0, q21_1, q21_2, q21_3, q21_4, q21_5, q21_6, q21_7, q21_8, q21_9, q21_10, q21_11, q21_12, q21_13, q21_14, q21_15, q21_16, q21_17, q21_18, q21_19, q21_20, q21_21, q21_22, q21_23, q21_24, q21_25, q21_26, q21_27, q21_28, q21_29, q21_30, q21_31, q21_32, q21_33, q21_34, q21_35, q21_36, q21_37, q21_38, q21_39, q21_40, q21_41, q21_42, q21_43, q21_45, q21_47, pairsOk, fpApart, meets, ids1, kindsM]
    · simp [h, hk, hw, h0, q21_1, q21_2, q21_3, q21_4, q21_5, q21_6, q21_7, q21_8, q21_9, q21_10, q21_11, q21_12, q21_13, q21_14, q21_15, q21_16, q21_17, q21_18, q21_19, q21_20, q21_21, q21_22, q21_23, q21_24, q21_25, q21_26, q21_27, q21_28, q21_29, q21_30, q21_31, q21_32, q21_33, q21_34, q21_35, q21_36, q21_37, q21_38, q21_39, q21_40, q21_41, q21_42, q21_43, q21_45, q21_47, pairsOk, fpApart, meets, ids1, kindsM]
theorem kinds_i (x : Ins) (h : x.op = 28) : (callW E).p 47 [.agg (enc x)] = some (exK (kindsM x)) := by
  rw [x_q21]
  by_cases h0 : 0 ≤ x.n
  · simp [h, h0, q21_1, q21_2, q21_3, q21_4, q21_5, q21_6, q21_7, q21_8, q21_9, q21_10, q21_11, q21_12, q21_13, q21_14, q21_15, q21_16, q21_17, q21_18, q21_19, q21_20, q21_21, q21_22, q21_23, q21_24, q21_25, q21_26, q21_27, q21_28, q21_29, q21_30, q21_31, q21_32, q21_33, q21_34, q21_35, q21_36, q21_37, q21_38, q21_39, q21_40, q21_41, q21_42, q21_43, q21_45, q21_47, pairsOk, fpApart, meets, ids1, kindsM]
  · simp [h, h0, q21_1, q21_2, q21_3, q21_4, q21_5, q21_6, q21_7, q21_8, q21_9, q21_10, q21_11, q21_12, q21_13, q21_14, q21_15, q21_16, q21_17, q21_18, q21_19, q21_20, q21_21, q21_22, q21_23, q21_24, q21_25, q21_26, q21_27, q21_28, q21_29, q21_30, q21_31, q21_32, q21_33, q21_34, q21_35, q21_36, q21_37, q21_38, q21_39, q21_40, q21_41, q21_42, q21_43, q21_45, q21_47, pairsOk, fpApart, meets, ids1, kindsM]
end Go.Vm
namespace Go.Vm
open Cel
attribute [local simp] callAny callP heapOf_nil
theorem other_29 (x : Ins) (h : x.op = 29) : (callW E).p 51 [.agg (enc x)] = some (exK (kindsM x)) := by
  rw [x_q22]
  by_cases h0 : x.b = -1 <;> by_cases h1 : x.n = 0 <;> simp [h, h0, h1, q22_1, q22_2, q22_3, q22_4, q22_5, q22_6, q22_7, q22_8, q22_9, q22_10, q22_11, q22_12, q22_13, q22_14, q22_15, q22_16, q22_18, q22_20, pairsOk, fpApart, meets, kindsM]
theorem other_30 (x : Ins) (h : x.op = 30) : (callW E).p 51 [.agg (enc x)] = some (exK (kindsM x)) := by
  rw [x_q22]
  by_cases h0 : x.a = -1 <;> simp [h, h0, q22_1, q22_2, q22_3, q22_4, q22_5, q22_6, q22_7, q22_8, q22_9, q22_10, q22_11, q22_12, q22_13, q22_14, q22_15, q22_16, q22_18, q22_20, pairsOk, fpApart, meets, kindsM]
set_option maxHeartbeats 4000000 in
theorem other_c (x : Ins) (h : x.op = 23 ∨ x.op = 24 ∨ x.op = 25 ∨ x.op = 26) : (callW E).p 51 [.agg (enc x)] = some (exK (kindsM x)) := by
  rw [x_q22]
  have e1 : ((0 : Int) < ((lst x.args).length : Int)) = (0 < (lst x.args).length) := by simp
  have e2 : (((lst x.args).length : Int) ≤ (21 : Int)) = ((lst x.args).length ≤ 21) := by simp; omega
  by_cases h0 : x.d = -1 <;> by_cases h1 : 0 ≤ x.n <;> by_cases h2 : 0 < (lst x.args).length <;> rcases h with h|h|h|h <;> simp [h, h0, h1, h2, e1, e2, q22_1, q22_2, q22_3, q22_4, q22_5, q22_6, q22_7, q22_8, q22_9, q22_10, q22_11, q22_12, q22_13, q22_14, q22_15, q22_16, q22_18, q22_20, pairsOk, fpApart, meets, kindsM]
theorem other_o (x : Ins) (h : x.op < 1 ∨ 33 < x.op) : (callW E).p 51 [.agg (enc x)] = some (exK (kindsM x)) := by
  rw [x_q22, kindsM_out h]
  rcases h with h|h
  · simp [lo_f h, q22_1, q22_2, q22_3, q22_4, q22_5, q22_6, q22_7, q22_8, q22_9, q22_10, q22_11, q22_12, q22_13, q22_14, q22_15, q22_16, q22_18, q22_20, pairsOk, fpApart, meets]
  · simp [hi_f h, q22_1, q22_2, q22_3, q22_4, q22_5, q22_6, q22_7, q22_8, q22_9, q22_10, q22_11, q22_12, q22_13, q22_14, q22_15, q22_16, q22_18, q22_20, pairsOk, fpApart, meets]
theorem kinds_o (x : Ins) (h : x.op = 29 ∨ x.op = 30 ∨ x.op = 23 ∨ x.op = 24 ∨ x.op = 25 ∨ x.op = 26 ∨ x.op < 1 ∨ 33 < x.op) : (callW E).p 47 [.agg (enc x)] = some (exK (kindsM x)) := by
  have ho : (callW E).p 51 [.agg (enc x)] = some (exK (kindsM x)) := by
    rcases h with h|h|h|h|h|h|h
    · exact other_29 x h
    · exact other_30 x h
    · exact other_c x (.inl h)
    · exact other_c x (.inr (.inl h))
    · exact other_c x (.inr (.inr (.inl h)))
    · exact other_c x (.inr (.inr (.inr h)))
    · exact other_o x h
  rw [x_q21]
  generalize kindsM x = k at ho
  obtain ⟨a, b, c, d, o⟩ := k
  simp only [exK] at ho
  rcases h with h|h|h|h|h|h|h|h
  iterate 6 (simp [h, ho, q21_1, q21_2, q21_3, q21_4, q21_5, q21_6, q21_7, q21_8, q21_9, q21_10, q21_11, q21_12, q21_13, q21_14, q21_15, q21_16, q21_17, q21_18, q21_19, q21_20, q21_21, q21_22, q21_23, q21_24, q21_25, q21_26, q21_27, q21_28, q21_29, q21_30, q21_31, q21_32, q21_33, q21_34, q21_35, q21_36, q21_37, q21_38, q21_39, q21_40, q21_41, q21_42, q21_43, q21_45, q21_47, pairsOk, fpApart, meets])
  · simp [lo_f h, ho, q21_1, q21_2, q21_3, q21_4, q21_5, q21_6, q21_7, q21_8, q21_9, q21_10, q21_11, q21_12, q21_13, q21_14, q21_15, q21_16, q21_17, q21_18, q21_19, q21_20, q21_21, q21_22, q21_23, q21_24, q21_25, q21_26, q21_27, q21_28, q21_29, q21_30, q21_31, q21_32, q21_33, q21_34, q21_35, q21_36, q21_37, q21_38, q21_39, q21_40, q21_41, q21_42, q21_43, q21_45, q21_47, pairsOk, fpApart, meets]
  · simp [hi_f h, ho, q21_1, q21_2, q21_3, q21_4, q21_5, q21_6, q21_7, q21_8, q21_9, q21_10, q21_11, q21_12, q21_13, q21_14, q21_15, q21_16, q21_17, q21_18, q21_19, q21_20, q21_21, q21_22, q21_23, q21_24, q21_25, q21_26, q21_27, q21_28, q21_29, q21_30, q21_31, q21_32, q21_33, q21_34, q21_35, q21_36, q21_37, q21_38, q21_39, q21_40, q21_41, q21_42, q21_43, q21_45, q21_47, pairsOk, fpApart, meets]
theorem s_kinds (x : Ins) (hn : -9223372036854775808 ≤ x.n ∧ x.n < 9223372036854775808) (hs : x.s.length ≤ 9223372036854775807) : (callW E).p 47 [.agg (enc x)] = some (exK (kindsM x)) := by
  by_cases h1 : x.op = 1 ∨ x.op = 2 ∨ x.op = 3 ∨ x.op = 4 ∨ x.op = 7 ∨ x.op = 8 ∨ x.op = 9 ∨ x.op = 10 ∨ x.op = 11 ∨ x.op = 13 ∨ x.op = 14 ∨ x.op = 15 ∨ x.op = 16 ∨ x.op = 17 ∨ x.op = 18 ∨ x.op = 19 ∨ x.op = 20 ∨ x.op = 27 ∨ x.op = 31 ∨ x.op = 32 ∨ x.op = 33
  · exact kinds_1 x h1
  by_cases h2 : x.op = 12 ∨ x.op = 21 ∨ x.op = 22
  · exact kinds_t x hs h2
  by_cases h3 : x.op = 5 ∨ x.op = 6
  · exact kinds_n x hn h3
  by_cases h4 : x.op = 28
  · exact kinds_i x h4
  exact kinds_o x (by omega)
end Go.Vm
namespace Go.Vm
open Cel
attribute [local simp] callAny callP heapOf_nil
abbrev HR (f : Fn) (x : Ins) (a b c d : Int) : Heap := [⟨1, .arr true false 5 [enc f]⟩, ⟨1, .arr true false 9 [enc x]⟩, ⟨1, .arr true false 4 [[.int .i64 a, .int .i64 b, .int .i64 c, .int .i64 d]]⟩]
abbrev P0 : AV := .lp 0 1 0 0
abbrev P1 : AV := .lp 1 1 0 0
abbrev P2 : AV := .lp 2 1 0 0
theorem regs_at {f : Fn} {r : Int} (h : inR (lst f.regs) r = true) : evIxs 1 (slA f.regs) (.int .i64 r) = some (.rp [.int .i64 (regK (lst f.regs) r)]) := by
  obtain ⟨h0, h1, h2⟩ := inR_get h
  exact ixs_intI h0 h2 .i64
theorem right_field (f : Fn) (x : Ins) (a b c d : Int) (i : Nat) (w r : Int) (v26 : AV) (hi : i < 4) (hw : [a, b, c, d][i]? = some w) :
    q23_18 P0 P1 P2 (.int .i64 i) (.int .i64 r) v26 (.int .i64 i) (HR f x a b c d) =
      if fieldOk (lst f.regs) w r then q23_16 P0 P1 P2 v26 (.int .i64 i) (HR f x a b c d) else some ⟨.bool false, [], true, [], []⟩ := by
  have e1 : evIxa 4 1 P2 (.int .i64 i) = some (.lp 2 1 0 i) := by
    have : ((i : Int) < (4 : Int)) := by omega
    simp [evIxa, this]
  have e2 : ∀ f x, evLd false 1 (.lp 2 1 0 i) (HR f x a b c d) = some (.int .i64 w) := by
    intro f x
    simp only [evLd_lp]
    have : (rowsAt (HR f x a b c d) 2 1) = some (false, 4, [[.int .i64 a, .int .i64 b, .int .i64 c, .int .i64 d]]) := rfl
    rw [this]
    simp only [List.getElem?_cons_zero, aggOr_f]
    match i, hi, hw with
    | 0, _, hw => simp at hw; simp [hw]
    | 1, _, hw => simp at hw; simp [hw]
    | 2, _, hw => simp at hw; simp [hw]
    | 3, _, hw => simp at hw; simp [hw]
  have e2 := e2 f x
  by_cases hw0 : w < 0
  · simp [q23_18, e1, e2, fieldOk, hw0]
  by_cases h0 : r < 0
  · have : ¬ 0 ≤ r := by omega
    simp [q23_18, q23_17, e1, e2, fieldOk, hw0, h0, inR, this]
  by_cases h1 : r < ((lst f.regs).length : Int)
  · have h0' : 0 ≤ r := by omega
    have h1' : ¬ ((lst f.regs).length : Int) ≤ r := by omega
    have hin : inR (lst f.regs) r = true := by simp [inR, h0', h1]
    have hr := regs_at hin
    by_cases h2 : 0 < w
    · have h2' : ¬ w ≤ 0 := by omega
      by_cases h3 : regK (lst f.regs) r = w
      · simp [q23_18, q23_17, e1, e2, fieldOk, hw0, h0, h1', h2, h2', hin, hr, h3]
      · simp [q23_18, q23_17, e1, e2, fieldOk, hw0, h0, h1', h2, h2', hin, hr, h3]
    · have h2' : w ≤ 0 := by omega
      simp [q23_18, q23_17, e1, e2, fieldOk, hw0, h0, h1', h2, h2', hin]
  · have h1' : ((lst f.regs).length : Int) ≤ r := by omega
    simp [q23_18, q23_17, e1, e2, fieldOk, hw0, h0, h1', h1, inR]
theorem right_tail (f : Fn) (x : Ins) (a b c d : Int) (h1 : x.op = 1 → inR (lst f.regs) x.d = true) (h4 : x.op = 4 → inR (lst f.regs) x.d = true ∧ inR (lst f.regs) x.a = true) (h7 : x.op = 7 → inR (lst f.regs) x.a = true)
    (h30 : x.op = 30 → x.a = -1 ∨ inR (lst f.regs) x.a = true) :
    q23_2 P0 P1 (HR f x a b c d) = some ⟨.bool (tailOk (lst f.regs) f.ret (lst f.code).length x), [], true, [], []⟩ := by
  by_cases o1 : x.op = 1
  · have hr := regs_at (h1 o1)
    by_cases k3 : regK (lst f.regs) x.d = 3
    · simp [q23_2, tailOk, o1, hr, k3]
    · by_cases k2 : regK (lst f.regs) x.d = 2
      · simp [q23_2, tailOk, o1, hr, k2]
      · simp [q23_2, tailOk, o1, hr, k2, k3]
  by_cases o4 : x.op = 4
  · have hr := regs_at (h4 o4).1
    have hr2 := regs_at (h4 o4).2
    simp [q23_2, tailOk, o4, hr, hr2]
  by_cases o7 : x.op = 7
  · have hr := regs_at (h7 o7)
    simp [q23_2, tailOk, o7, hr]
  by_cases o30 : x.op = 30
  · by_cases ha : x.a = -1
    · by_cases hz : f.ret = 0
      · simp [q23_2, tailOk, o30, ha, hz]
      · simp [q23_2, tailOk, o30, ha, hz]
    · have hr := regs_at ((h30 o30).resolve_left ha)
      by_cases hz : f.ret = 0
      · simp [q23_2, tailOk, o30, ha, hz]
      · simp [q23_2, tailOk, o30, ha, hz, hr]
  · cases hl : leads x.op with
    | false => simp [q23_2, q23_1, tailOk, o1, o4, o7, o30, hl]
    | true =>
      by_cases ht : 0 ≤ x.t
      · simp [q23_2, q23_1, tailOk, o1, o4, o7, o30, hl, ht]
      · simp [q23_2, q23_1, tailOk, o1, o4, o7, o30, hl, ht]
end Go.Vm
namespace Go.Vm
open Cel
attribute [local simp] callAny callP heapOf_nil
theorem right_arg (f : Fn) (x : Ins) (a b c d : Int) (i : Nat) (r : Int) (v63 v64 : AV) :
    q23_5 P0 P1 (.int .i64 i) (.int .i64 r) v63 v64 (.int .i64 i) (HR f x a b c d) =
      if inR (lst f.regs) r && (!decide (i = 0) || !(decide (x.op = 24) || decide (x.op = 25)) || decide (regK (lst f.regs) r = 3)) then q23_4 P0 P1 v63 v64 (.int .i64 i) (HR f x a b c d) else some ⟨.bool false, [], true, [], []⟩ := by
  by_cases h0 : r < 0
  · have : ¬ 0 ≤ r := by omega
    simp [q23_5, h0, inR, this]
  by_cases h1 : r < ((lst f.regs).length : Int)
  · have h0' : 0 ≤ r := by omega
    have h1' : ¬ ((lst f.regs).length : Int) ≤ r := by omega
    have hin : inR (lst f.regs) r = true := by simp [inR, h0', h1]
    have hr := regs_at hin
    by_cases hi : i = 0
    · subst hi
      by_cases o1 : x.op = 24
      · by_cases h3 : regK (lst f.regs) r = 3
        · simp [q23_5, h0, h1', hin, hr, o1, h3]
        · simp [q23_5, h0, h1', hin, hr, o1, h3]
      · by_cases o2 : x.op = 25
        · by_cases h3 : regK (lst f.regs) r = 3
          · simp [q23_5, h0, h1', hin, hr, o2, h3]
          · simp [q23_5, h0, h1', hin, hr, o2, h3]
        · simp [q23_5, h0, h1', hin, o1, o2]
    · have hi' : ¬ ((i : Int) = 0) := by omega
      simp [q23_5, h0, h1', hin, hi, hi']
  · have h1' : ((lst f.regs).length : Int) ≤ r := by omega
    simp [q23_5, h0, h1', h1, inR]
theorem right_loop (f : Fn) (x : Ins) (a b c d : Int) (T : Bool) (hc : calls x.op = true) (hl : (lst x.args).length ≤ 9223372036854775807) (hT : q23_2 P0 P1 (HR f x a b c d) = some ⟨.bool T, [], true, [], []⟩) :
    ∀ (k i : Nat), i + k = (lst x.args).length → 0 < i →
    q23_L3 P0 P1 (slA x.args) (.int .i64 (lst x.args).length) (.int .i64 i) (HR f x a b c d) = some ⟨.bool (((lst x.args).drop i).all (inR (lst f.regs)) && T), [], true, [], []⟩ := by
  intro k
  induction k with
  | zero =>
    intro i hi _
    have e1 : (lst x.args).drop i = [] := List.drop_eq_nil_of_le (by omega)
    have hn : ¬ ((i : Int) < ((lst x.args).length : Int)) := by omega
    rw [q23_L3_go, e1]
    simp [q23_11, q23_10, hn, hT]
  | succ k ih =>
    intro i hi h0
    have hlt : i < (lst x.args).length := by omega
    have hn : ((i : Int) < ((lst x.args).length : Int)) := by omega
    have e1 : ((lst x.args).drop i).all (inR (lst f.regs)) = (inR (lst f.regs) (lst x.args)[i] && ((lst x.args).drop (i + 1)).all (inR (lst f.regs))) := by rw [List.drop_eq_getElem_cons hlt, List.all_cons]
    have ih := ih (i + 1) (by omega) (by omega)
    push_cast at ih
    have k1 := ixs_int (o := x.args) (i := i) (List.getElem?_eq_getElem hlt) .i64
    have hz : ¬ i = 0 := by omega
    rw [q23_L3_go, e1]
    simp only [q23_11, q23_10, evBin_lss, ob_some, hn, decide_true, cnd_t]
    simp only [q23_7, k1, ob_some, evLd_rp, aggOr_f, List.head?_cons]
    simp only [q23_6]
    simp only [evLd_lp]
    simp only [rowsAt_s, rowsAt_0]
    simp only [List.getElem?_cons_zero, List.drop_zero, agg_ins, ob_some]
    simp only [callAny, pure_17, if_true, callP, fzList_cons, fz_enc, fzList_nil, s_Calls, heapOf_nil, fz_bool', oh_some, Bool.true_or]
    simp only [evUn_not, ob_some, hc, Bool.not_true, cnd_f, right_arg]
    cases inR (lst f.regs) (lst x.args)[i]
    · simp
    · simp [hz, q23_4, wrap_up hlt hl, ih]
theorem right_args (f : Fn) (x : Ins) (a b c d : Int) (T : Bool) (hl : (lst x.args).length ≤ 9223372036854775807) (hT : q23_2 P0 P1 (HR f x a b c d) = some ⟨.bool T, [], true, [], []⟩) :
    q23_13 P0 P1 (HR f x a b c d) = some ⟨.bool (argsOk (lst f.regs) x && T), [], true, [], []⟩ := by
  have e0 : q23_13 P0 P1 (HR f x a b c d) = q23_L3 P0 P1 (slA x.args) (.int .i64 (lst x.args).length) (.int .i64 0) (HR f x a b c d) := by simp [q23_13]
  rw [e0, q23_L3_go]
  cases ha : lst x.args with
  | nil => simp [q23_11, q23_10, hT, argsOk, firstOk, ha]
  | cons r rest =>
    have k1 := ixs_int (o := x.args) (i := 0) (x := r) (by rw [ha]; rfl) .i64
    have k1 : evIxs 1 (slA x.args) (.int .i64 0) = some (.rp [.int .i64 r]) := k1
    have hn : ((0 : Int) < ((lst x.args).length : Int)) := by rw [ha]; simp
    have hra := right_arg f x a b c d 0 r (slA x.args) (.int .i64 (lst x.args).length)
    simp only [Int.ofNat_zero, decide_true, Bool.not_true, Bool.false_or] at hra
    rw [← ha]
    cases hc : calls x.op with
    | false =>
      simp only [q23_11, q23_10, evBin_lss, ob_some, hn, decide_true, cnd_t]
      simp only [q23_7, k1, ob_some, evLd_rp, aggOr_f, List.head?_cons]
      simp only [q23_6]
      simp only [evLd_lp]
      simp only [rowsAt_s, rowsAt_0]
      simp only [List.getElem?_cons_zero, List.drop_zero, agg_ins, ob_some]
      simp only [callAny, pure_17, if_true, callP, fzList_cons, fz_enc, fzList_nil, s_Calls, heapOf_nil, fz_bool', oh_some, Bool.true_or]
      simp only [evUn_not, ob_some, hc, Bool.not_false, cnd_t, hT, argsOk, Bool.true_or, Bool.true_and]
    | true =>
      have hlp := right_loop f x a b c d T hc hl hT rest.length 1 (by rw [ha]; simp; omega) (by omega)
      have hd : (lst x.args).drop 1 = rest := by rw [ha]; rfl
      rw [hd] at hlp
      have hlp : q23_L3 P0 P1 (slA x.args) (.int .i64 (lst x.args).length) (.int .i64 1) (HR f x a b c d) = _ := hlp
      simp only [q23_11, q23_10, evBin_lss, ob_some, hn, decide_true, cnd_t]
      simp only [q23_7, k1, ob_some, evLd_rp, aggOr_f, List.head?_cons]
      simp only [q23_6]
      simp only [evLd_lp]
      simp only [rowsAt_s, rowsAt_0]
      simp only [List.getElem?_cons_zero, List.drop_zero, agg_ins, ob_some]
      simp only [callAny, pure_17, if_true, callP, fzList_cons, fz_enc, fzList_nil, s_Calls, heapOf_nil, fz_bool', oh_some, Bool.true_or]
      simp only [evUn_not, ob_some, hc, Bool.not_true, cnd_f, hra]
      simp only [argsOk, firstOk, ha, List.all_cons]
      have hw : IntKind.wrap .i64 ((0 : Int) + 1) = 1 := wrap_i64 (n := 1) (by omega) (by omega)
      generalize (!(decide (x.op = 24) || decide (x.op = 25)) || decide (regK (lst f.regs) r = 3)) = B
      have hw2 : IntKind.wrap .i64 (1 : Int) = 1 := wrap_i64 (n := 1) (by omega) (by omega)
      cases inR (lst f.regs) r with
      | false => cases B <;> simp [hc]
      | true =>
        cases B with
        | false => simp [hc]
        | true =>
          simp only [Bool.and_self, if_true, q23_4, evBin_add, ob_some]
          rw [show IntKind.wrap .i64 ((0 : Int) + 1) = 1 from hw]
          rw [← ha, hlp]
          simp [hc]
theorem kinds_any (x : Ins) : (x.op = 1 → (kindsM x).1 = 0) ∧ (x.op = 4 → (kindsM x).1 = 0 ∧ (kindsM x).2.1 = 0) ∧ (x.op = 7 → (kindsM x).2.1 = 0) ∧ (x.op = 30 → x.a = -1 ∨ (kindsM x).2.1 = 0) := by
  refine ⟨fun h => ?_, fun h => ?_, fun h => ?_, fun h => ?_⟩ <;> simp [kindsM, h]
  by_cases ha : x.a = -1 <;> simp [ha]
theorem field_in {R : List Int} {w r : Int} (h : fieldOk R w r = true) (hw : w = 0) : inR R r = true := by
  subst hw
  simpa [fieldOk] using h
set_option maxHeartbeats 1000000 in
theorem s_right (f : Fn) (x : Ins) (hn : -9223372036854775808 ≤ x.n ∧ x.n < 9223372036854775808) (hs : x.s.length ≤ 9223372036854775807) (hl : (lst x.args).length ≤ 9223372036854775807) :
    (callW E).p 63 [.agg (enc f), .agg (enc x)] = some ⟨.bool (rightM f x), [], true, [], []⟩ := by
  have hk := s_kinds x hn hs
  obtain ⟨q1, q4, q7, q30⟩ := kinds_any x
  rw [x_q23]
  have red : ∀ X : Option (Ex AV), rightM f x = rightM f x → True := fun _ _ => trivial
  have e0 : q23_29 (.agg (enc f)) (.agg (enc x)) [⟨0, .dead⟩, ⟨0, .dead⟩, ⟨0, .dead⟩] =
      if (kindsM x).2.2.2.2 = true then q23_L15 P0 P1 P2 (.agg [.int .i64 x.d, .int .i64 x.a, .int .i64 x.b, .int .i64 x.c]) (.int .i64 0) (HR f x (kindsM x).1 (kindsM x).2.1 (kindsM x).2.2.1 (kindsM x).2.2.2.1) else some ⟨.bool false, [], true, [], []⟩ := by
    unfold exK at hk
    generalize kindsM x = k at *
    obtain ⟨a, b, c, d, o⟩ := k
    simp only at hk ⊢
    cases o with
    | true => simp [q23_29, q23_28, q23_27, q23_25, hk]
    | false => simp [q23_29, q23_28, q23_27, hk]
  rw [e0, rightM]
  cases hok : (kindsM x).2.2.2.2 with
  | false => simp
  | true =>
    simp only [if_true, Bool.true_and]
    have step : ∀ (i : Nat) (w r : Int), i < 4 → [(kindsM x).1, (kindsM x).2.1, (kindsM x).2.2.1, (kindsM x).2.2.2.1][i]? = some w → [x.d, x.a, x.b, x.c][i]? = some r →
        q23_L15 P0 P1 P2 (.agg [.int .i64 x.d, .int .i64 x.a, .int .i64 x.b, .int .i64 x.c]) (.int .i64 i) (HR f x (kindsM x).1 (kindsM x).2.1 (kindsM x).2.2.1 (kindsM x).2.2.2.1) =
        if fieldOk (lst f.regs) w r then q23_L15 P0 P1 P2 (.agg [.int .i64 x.d, .int .i64 x.a, .int .i64 x.b, .int .i64 x.c]) (.int .i64 (i + 1 : Nat)) (HR f x (kindsM x).1 (kindsM x).2.1 (kindsM x).2.2.1 (kindsM x).2.2.2.1) else some ⟨.bool false, [], true, [], []⟩ := by
      intro i w r hi hw hr
      have hc : ((i : Int) < (4 : Int)) := by omega
      have hv : evIxv false 4 1 (.agg [.int .i64 x.d, .int .i64 x.a, .int .i64 x.b, .int .i64 x.c]) (.int .i64 i) = some (.int .i64 r) := by
        match i, hi, hr with
        | 0, _, hr => simp at hr; simp [evIxv, hr]
        | 1, _, hr => simp at hr; simp [evIxv, hr]
        | 2, _, hr => simp at hr; simp [evIxv, hr]
        | 3, _, hr => simp at hr; simp [evIxv, hr]
      have hw2 : IntKind.wrap .i64 ((i : Int) + 1) = ((i + 1 : Nat) : Int) := by rw [wrap_i64] <;> omega
      rw [q23_L15_go]
      simp only [q23_23, q23_22, evBin_lss, ob_some, hc, decide_true, cnd_t]
      simp only [q23_19, hv, ob_some]
      rw [right_field f x _ _ _ _ i w r _ hi hw]
      simp only [q23_16, evBin_add, ob_some, hw2]
    have s0 := step 0 _ _ (by omega) rfl rfl
    have s1 := step 1 _ _ (by omega) rfl rfl
    have s2 := step 2 _ _ (by omega) rfl rfl
    have s3 := step 3 _ _ (by omega) rfl rfl
    simp only [Int.ofNat_zero] at s0
    rw [s0]
    cases f0 : fieldOk (lst f.regs) (kindsM x).1 x.d with
    | false => simp
    | true =>
      simp only [if_true, Bool.true_and]
      rw [s1]
      cases f1 : fieldOk (lst f.regs) (kindsM x).2.1 x.a with
      | false => simp
      | true =>
        simp only [if_true, Bool.true_and]
        rw [s2]
        cases f2 : fieldOk (lst f.regs) (kindsM x).2.2.1 x.b with
        | false => simp
        | true =>
          simp only [if_true, Bool.true_and]
          rw [s3]
          cases f3 : fieldOk (lst f.regs) (kindsM x).2.2.2.1 x.c with
          | false => simp
          | true =>
            simp only [if_true, Bool.true_and]
            have ht := right_tail f x (kindsM x).1 (kindsM x).2.1 (kindsM x).2.2.1 (kindsM x).2.2.2.1 (fun h => field_in f0 (q1 h)) (fun h => ⟨field_in f0 (q4 h).1, field_in f1 (q4 h).2⟩) (fun h => field_in f1 (q7 h)) (fun h => (q30 h).imp id fun h => field_in f1 h)
            rw [← right_args f x _ _ _ _ _ hl ht]
            rw [q23_L15_go]
            simp [q23_23, q23_22]
end Go.Vm
namespace Go.Vm
open Cel
attribute [local simp] callAny callP heapOf_nil
theorem slc_to {α : Type} [Cel α] (o : Option (List α)) (i : Nat) (h : i ≤ (lst o).length) (k : IntKind) : evSlcO (es α) (slA o) none (some (.int k i)) = some (slA (o.map (List.take i))) := by
  have h2 : (0 : Int) ≤ (i : Int) ∧ (i : Int) ≤ ((lst o).length : Int) := by omega
  cases o with
  | none =>
    have : i = 0 := by simpa using h
    subst this
    simp [evSlcO, slA, evSlc, optIxv, asNat]
  | some L =>
    simp only [lst_some] at h2
    simp [evSlcO, slA, evSlc, optIxv, asNat, h2, List.map_take]
theorem Index_loop (o : Option (List Int)) (r : Int) (hl : (lst o).length ≤ 9223372036854775807) (h : Heap) : ∀ (d i : Nat), i + d = (lst o).length →
    ∃ k : Int, q128_L2 (slA o) (.int .i64 r) (.int .i64 (lst o).length) (.int .i64 i) h = some ⟨.int .i64 k, [], true, [], []⟩ ∧ (0 ≤ k ↔ r ∈ (lst o).drop i) := by
  intro d
  induction d with
  | zero =>
    intro i hi
    have e1 : (lst o).drop i = [] := List.drop_eq_nil_of_le (by omega)
    have hn : ¬ ((i : Int) < ((lst o).length : Int)) := by omega
    rw [q128_L2_go, e1]
    exact ⟨-1, by simp [q128_1, q128_3, q128_4, q128_5, q128_6, q128_8, q128_10, hn], by simp⟩
  | succ d ih =>
    intro i hi
    have hlt : i < (lst o).length := by omega
    have hn : ((i : Int) < ((lst o).length : Int)) := by omega
    have k1 := ixs_int (o := o) (i := i) (List.getElem?_eq_getElem hlt) .i64
    have hm : r ∈ (lst o).drop i ↔ r = (lst o)[i] ∨ r ∈ (lst o).drop (i + 1) := by rw [List.drop_eq_getElem_cons hlt, List.mem_cons]
    rw [q128_L2_go, hm]
    by_cases he : r = (lst o)[i]
    · exact ⟨i, by simp [q128_1, q128_3, q128_4, q128_5, q128_6, q128_8, q128_10, hn, k1, he], by simp [he]⟩
    · obtain ⟨k, h1, h2⟩ := ih (i + 1) (by omega)
      push_cast at h1
      refine ⟨k, ?_, ?_⟩
      · simp [q128_1, q128_3, q128_4, q128_5, q128_6, q128_8, q128_10, hn, k1, he, wrap_up hlt hl, h1]
      · rw [h2]; simp [he]
@[simp] theorem s_Contains (o : Option (List Int)) (r : Int) (hl : (lst o).length ≤ 9223372036854775807) : (callW E).p 46 [slA o, .int .i64 r] = some ⟨.bool ((lst o).contains r), [], true, [], []⟩ := by
  obtain ⟨k, h1, h2⟩ := Index_loop o r hl [] (lst o).length 0 (by omega)
  simp only [Int.ofNat_zero, List.drop_zero] at h1 h2
  have hi : (callW E).p 45 [slA o, .int .i64 r] = some ⟨.int .i64 k, [], true, [], []⟩ := by
    rw [x_q128, ← h1]
    simp [q128_1, q128_3, q128_4, q128_5, q128_6, q128_8, q128_10]
  rw [x_q127]
  by_cases h0 : 0 ≤ k
  · have := h2.1 h0
    simp [q127_1, hi, h0, this]
  · have : r ∉ lst o := fun h => h0 (h2.2 h)
    simp [q127_1, hi, h0, this]
end Go.Vm
namespace Go.Vm
open Cel
attribute [local simp] callAny callP heapOf_nil
abbrev HC (f : Fn) (o1 o2 : AO) : Heap := [⟨1, .arr true false 5 [enc f]⟩, o1, o2]
abbrev E80 : Option (Ex AV) := some ⟨.int .i64 80, [], true, [], []⟩
abbrev E0 : Option (Ex AV) := some ⟨.int .i64 0, [], true, [], []⟩
theorem Check_rows (f : Fn) (o1 : AO) (n : Int) (hn : n = (lst f.code).length) (hl : (lst f.rows).length ≤ 9223372036854775807) : ∀ (d i : Nat) (o2 : AO), i + d = (lst f.rows).length →
    q12_L2 P0 (.int .i64 n) (slA f.rows) (.int .i64 (lst f.rows).length) (.int .i64 i) (HC f o1 o2) = if ((lst f.rows).drop i).all (rowOk (lst f.code)) then E0 else E80 := by
  intro d
  induction d with
  | zero =>
    intro i o2 hi
    have e1 : (lst f.rows).drop i = [] := List.drop_eq_nil_of_le (by omega)
    have hn : ¬ ((i : Int) < ((lst f.rows).length : Int)) := by omega
    rw [q12_L2_go, e1]
    simp [q12_6, q12_5, q12_1, hn]
  | succ d ih =>
    intro i o2 hi
    have hlt : i < (lst f.rows).length := by omega
    have hc : ((i : Int) < ((lst f.rows).length : Int)) := by omega
    have k1 := ixs_row (o := f.rows) (i := i) (List.getElem?_eq_getElem hlt) .i64
    rw [q12_L2_go]
    have e1 : ((lst f.rows).drop i).all (rowOk (lst f.code)) = (rowOk (lst f.code) (lst f.rows)[i] && ((lst f.rows).drop (i + 1)).all (rowOk (lst f.code))) := by rw [List.drop_eq_getElem_cons hlt, List.all_cons]
    rw [e1]
    generalize hr : (lst f.rows)[i] = r at *
    have ih := fun o2 => ih (i + 1) o2 (by omega)
    push_cast at ih
    subst hn
    simp only [q12_6, q12_5, evBin_lss, ob_some, hc, decide_true, cnd_t]
    by_cases h1 : r.f < 0
    · simp [q12_4, k1, rowOk, h1]
    by_cases h2 : r.t ≤ r.f
    · simp [q12_4, k1, rowOk, h1, h2]
    by_cases h3 : ((lst f.code).length : Int) < r.t
    · simp [q12_4, k1, rowOk, h1, h2, h3]
    by_cases h4 : r.at_ < 0
    · simp [q12_4, k1, rowOk, h1, h2, h3, h4]
    by_cases h5 : ((lst f.code).length : Int) ≤ r.at_
    · simp [q12_4, k1, rowOk, h1, h2, h3, h4, h5]
    · have hx : r.at_.toNat < (lst f.code).length := by omega
      have k2 := ixs_insI (o := f.code) (n := r.at_) (by omega) (List.getElem?_eq_getElem hx) .i64
      have hg : (lst f.code).getD r.at_.toNat default = (lst f.code)[r.at_.toNat] := by rw [List.getD_eq_getElem?_getD, List.getElem?_eq_getElem hx]; rfl
      by_cases h6 : ((lst f.code)[r.at_.toNat]).op = 32
      · simp [q12_4, k1, rowOk, h1, h2, h3, h4, h5, k2, h6, hx, q12_3, wrap_up hlt hl, ih]
      · simp [q12_4, k1, rowOk, h1, h2, h3, h4, h5, k2, h6, hx]
theorem Check_regs (f : Fn) (o1 o2 : AO) (n : Int) (hl : (lst f.regs).length ≤ 9223372036854775807) : ∀ (d i : Nat), i + d = (lst f.regs).length →
    q12_L30 P0 (.int .i64 n) (slA f.regs) (.int .i64 (lst f.regs).length) (.int .i64 i) (HC f o1 o2) = if ((lst f.regs).drop i).all (fun k => decide (1 ≤ k) && decide (k ≤ 3)) then q12_28 P0 (.int .i64 n) (HC f o1 o2) else E80 := by
  intro d
  induction d with
  | zero =>
    intro i hi
    have e1 : (lst f.regs).drop i = [] := List.drop_eq_nil_of_le (by omega)
    have hn : ¬ ((i : Int) < ((lst f.regs).length : Int)) := by omega
    rw [q12_L30_go, e1]
    simp [q12_34, q12_33, hn]
  | succ d ih =>
    intro i hi
    have hlt : i < (lst f.regs).length := by omega
    have hc : ((i : Int) < ((lst f.regs).length : Int)) := by omega
    have k1 := ixs_int (o := f.regs) (i := i) (List.getElem?_eq_getElem hlt) .i64
    have e1 : ((lst f.regs).drop i).all (fun k => decide (1 ≤ k) && decide (k ≤ 3)) = ((decide (1 ≤ (lst f.regs)[i]) && decide ((lst f.regs)[i] ≤ 3)) && ((lst f.regs).drop (i + 1)).all (fun k => decide (1 ≤ k) && decide (k ≤ 3))) := by
      rw [List.drop_eq_getElem_cons hlt, List.all_cons]
    rw [q12_L30_go, e1]
    generalize hr : (lst f.regs)[i] = r at *
    have ih := ih (i + 1) (by omega)
    push_cast at ih
    simp only [q12_34, q12_33, evBin_lss, ob_some, hc, decide_true, cnd_t]
    by_cases h1 : r < 1
    · have : ¬ 1 ≤ r := by omega
      simp [q12_32, k1, h1, this]
    by_cases h2 : 3 < r
    · have : ¬ r ≤ 3 := by omega
      simp [q12_32, k1, h1, h2, this]
    · have a1 : 1 ≤ r := by omega
      have a2 : r ≤ 3 := by omega
      simp [q12_32, k1, h1, h2, a1, a2, q12_31, wrap_up hlt hl, ih]
theorem Check_params (f : Fn) (o1 o2 : AO) (n : Int) (hl : (lst f.params).length ≤ 9223372036854775807) : ∀ (d i : Nat), i + d = (lst f.params).length →
    q12_L22 P0 (.int .i64 n) (slA f.params) (.int .i64 (lst f.params).length) (.int .i64 i) (HC f o1 o2) = if parOk (lst f.regs) i ((lst f.params).take i) ((lst f.params).drop i) then q12_20 P0 (.int .i64 n) (HC f o1 o2) else E80 := by
  intro d
  induction d with
  | zero =>
    intro i hi
    have e1 : (lst f.params).drop i = [] := List.drop_eq_nil_of_le (by omega)
    have hn : ¬ ((i : Int) < ((lst f.params).length : Int)) := by omega
    rw [q12_L22_go, e1]
    simp [q12_26, q12_25, hn, parOk]
  | succ d ih =>
    intro i hi
    have hlt : i < (lst f.params).length := by omega
    have hc : ((i : Int) < ((lst f.params).length : Int)) := by omega
    have k1 := ixs_int (o := f.params) (i := i) (List.getElem?_eq_getElem hlt) .i64
    have ks := slc_to (α := Int) f.params i (by omega) .i64
    simp only [es_int] at ks
    have hlm : lst (f.params.map (List.take i)) = (lst f.params).take i := by cases f.params <;> simp
    have e1 : parOk (lst f.regs) i ((lst f.params).take i) ((lst f.params).drop i) = ((inR (lst f.regs) (lst f.params)[i] && !((lst f.params).take i).contains (lst f.params)[i] && decide (i ≤ 20)) && parOk (lst f.regs) (i + 1) ((lst f.params).take (i + 1)) ((lst f.params).drop (i + 1))) := by
      rw [List.drop_eq_getElem_cons hlt, parOk, List.take_append_getElem]
    rw [q12_L22_go, e1]
    have hct : (callW E).p 46 [slA (f.params.map (List.take i)), .int .i64 (lst f.params)[i]] = some ⟨.bool (((lst f.params).take i).contains (lst f.params)[i]), [], true, [], []⟩ := by
      rw [s_Contains _ _ (by rw [hlm, List.length_take]; omega), hlm]
    generalize hr : (lst f.params)[i] = r at *
    generalize ((lst f.params).take i).contains r = B at *
    have ih := ih (i + 1) (by omega)
    push_cast at ih
    simp only [q12_26, q12_25, evBin_lss, ob_some, hc, decide_true, cnd_t]
    have e20 : ((20 : Int) < (i : Int)) ↔ ¬ i ≤ 20 := by omega
    by_cases h1 : r < 0
    · have : ¬ 0 ≤ r := by omega
      simp [q12_24, k1, inR, h1, this]
    by_cases h2 : ((lst f.regs).length : Int) ≤ r
    · have : ¬ r < ((lst f.regs).length : Int) := by omega
      simp [q12_24, k1, inR, h1, h2, this]
    · have a1 : 0 ≤ r := by omega
      have a2 : r < ((lst f.regs).length : Int) := by omega
      cases B with
      | true => simp [q12_24, k1, inR, h1, h2, a1, a2, ks, hct]
      | false =>
        by_cases h3 : i ≤ 20
        · have h3' : ¬ ((20 : Int) < (i : Int)) := by omega
          simp [q12_24, k1, inR, h1, h2, a1, a2, ks, hct, h3, h3', q12_23, wrap_up hlt hl, ih]
        · have h3' : ((20 : Int) < (i : Int)) := by omega
          simp [q12_24, k1, inR, h1, h2, a1, a2, ks, hct, h3, h3']
theorem tail_leads {R : List Int} {ret : Int} {n : Nat} {x : Ins} (h : tailOk R ret n x = true) (hl : leads x.op = true) : 0 ≤ x.t ∧ x.t < n := by
  have hne : ¬ x.op = 1 ∧ ¬ x.op = 4 ∧ ¬ x.op = 7 ∧ ¬ x.op = 30 := by
    simp only [leads, Bool.or_eq_true, decide_eq_true_eq] at hl
    omega
  simp only [tailOk, hne, if_false, hl, Bool.not_true, Bool.false_or, Bool.and_eq_true, decide_eq_true_eq] at h
  exact h
theorem right_leads {f : Fn} {x : Ins} (h : rightM f x = true) (hl : leads x.op = true) : 0 ≤ x.t ∧ x.t < (lst f.code).length := by
  simp only [rightM, Bool.and_eq_true] at h
  exact tail_leads h.2 hl
structure InsFit (x : Ins) : Prop where
  n : -9223372036854775808 ≤ x.n ∧ x.n < 9223372036854775808
  s : x.s.length ≤ 9223372036854775807
  a : (lst x.args).length ≤ 9223372036854775807
theorem Check_spot (f : Fn) (o2 : AO) (n : Int) (x : Ins) (i g : Nat) (v92 v93 v94 : AV) (hi : i < (lst f.code).length) (hl : (lst f.code).length ≤ 9223372036854775807) (ht : leads x.op = true → 0 ≤ x.t ∧ x.t < (lst f.code).length) :
    q12_12 P0 (.int .i64 n) (.int .i64 i) (.lp 1 g 0 0) v92 v93 v94 (HC f ⟨g, .arr true false 9 [enc x]⟩ o2) =
      if spotOk (lst f.code) i x then q12_11 P0 (.int .i64 n) v92 v93 v94 (HC f ⟨g, .arr true false 9 [enc x]⟩ o2) else E80 := by
  by_cases h32 : x.op = 32
  · have hld : leads x.op = false := by simp [leads, h32]
    by_cases h0 : i = 0
    · subst h0
      simp [q12_12, h32, spotOk]
    · have h0' : ¬ ((i : Int) = 0) := by omega
      have hp : i - 1 < (lst f.code).length := by omega
      have k1 := ixs_ins (o := f.code) (i := i - 1) (List.getElem?_eq_getElem hp) .i64
      have hw : IntKind.wrap .i64 ((i : Int) - 1) = ((i - 1 : Nat) : Int) := by rw [wrap_i64] <;> omega
      have hg : (lst f.code).getD (i - 1) default = (lst f.code)[i - 1] := by rw [List.getD_eq_getElem?_getD, List.getElem?_eq_getElem hp]; rfl
      have hld32 : leads 32 = false := by simp [leads]
      cases he : ends ((lst f.code)[i - 1]).op with
      | true => simp [q12_12, h32, spotOk, h0, h0', hw, k1, hp, he, hld32]
      | false => simp [q12_12, h32, spotOk, h0, h0', hw, k1, hp, he]
  · cases hld : leads x.op with
    | false => simp [q12_12, h32, spotOk, hld]
    | true =>
      obtain ⟨t0, t1⟩ := ht hld
      have hx : x.t.toNat < (lst f.code).length := by omega
      have k2 := ixs_insI (o := f.code) (n := x.t) t0 (List.getElem?_eq_getElem hx) .i64
      by_cases h6 : ((lst f.code)[x.t.toNat]).op = 32
      · simp [q12_12, h32, spotOk, hld, k2, h6, hx]
      · simp [q12_12, h32, spotOk, hld, k2, h6, hx]
theorem Check_code (f : Fn) (o2 : AO) (n : Int) (hfit : ∀ x ∈ lst f.code, InsFit x) (hl : (lst f.code).length ≤ 9223372036854775807) : ∀ (d i : Nat) (o1 : AO), i + d = (lst f.code).length →
    ∃ o1', q12_L10 P0 (.int .i64 n) (slA f.code) (.int .i64 (lst f.code).length) (.int .i64 i) (HC f o1 o2) = if codeOk f (lst f.code) i ((lst f.code).drop i) then q12_8 P0 (.int .i64 n) (HC f o1' o2) else E80 := by
  intro d
  induction d with
  | zero =>
    intro i o1 hi
    have e1 : (lst f.code).drop i = [] := List.drop_eq_nil_of_le (by omega)
    have hn : ¬ ((i : Int) < ((lst f.code).length : Int)) := by omega
    rw [q12_L10_go, e1]
    exact ⟨o1, by simp [q12_18, q12_17, hn, codeOk]⟩
  | succ d ih =>
    intro i o1 hi
    have hlt : i < (lst f.code).length := by omega
    have hc : ((i : Int) < ((lst f.code).length : Int)) := by omega
    have k1 := ixs_ins (o := f.code) (i := i) (List.getElem?_eq_getElem hlt) .i64
    have e1 : codeOk f (lst f.code) i ((lst f.code).drop i) = (rightM f (lst f.code)[i] && spotOk (lst f.code) i (lst f.code)[i] && codeOk f (lst f.code) (i + 1) ((lst f.code).drop (i + 1))) := by
      rw [List.drop_eq_getElem_cons hlt, codeOk]
    have fit := hfit _ (List.getElem_mem hlt)
    rw [q12_L10_go, e1]
    generalize hx : (lst f.code)[i] = x at *
    have hr := s_right f x fit.n fit.s fit.a
    simp only [q12_18, q12_17, evBin_lss, ob_some, hc, decide_true, cnd_t]
    cases hok : rightM f x with
    | false =>
      rw [hok] at hr
      exact ⟨o1, by simp [q12_14, q12_13, k1, hr]⟩
    | true =>
      rw [hok] at hr
      have e13 : ∀ K : Option (Ex AV), q12_14 P0 (.int .i64 n) (slA f.code) (.int .i64 (lst f.code).length) (.int .i64 i) (HC f o1 o2) = q12_12 P0 (.int .i64 n) (.int .i64 i) (.lp 1 (o1.gen + 1) 0 0) (slA f.code) (.int .i64 (lst f.code).length) (.int .i64 i) (HC f ⟨o1.gen + 1, .arr true false 9 [enc x]⟩ o2) := by
        intro _
        simp [q12_14, q12_13, k1, hr]
      rw [e13 none]
      rw [Check_spot f o2 n x i _ _ _ _ hlt hl (fun h => right_leads hok h)]
      cases hs : spotOk (lst f.code) i x with
      | false => exact ⟨o1, by simp⟩
      | true =>
        obtain ⟨o1', ih⟩ := ih (i + 1) ⟨o1.gen + 1, .arr true false 9 [enc x]⟩ (by omega)
        push_cast at ih
        exact ⟨o1', by simp [q12_11, wrap_up hlt hl, ih]⟩
structure FnFit (f : Fn) : Prop where
  ins : ∀ x ∈ lst f.code, InsFit x
  code : (lst f.code).length ≤ 9223372036854775807
  regs : (lst f.regs).length ≤ 9223372036854775807
  params : (lst f.params).length ≤ 9223372036854775807
  rows : (lst f.rows).length ≤ 9223372036854775807
theorem Check_all (f : Fn) (hf : FnFit f) (o1 o2 : AO) (n : Int) (hn : n = (lst f.code).length) :
    q12_36 P0 (.int .i64 n) (HC f o1 o2) = if (lst f.regs).all (fun k => decide (1 ≤ k) && decide (k ≤ 3)) && parOk (lst f.regs) 0 [] (lst f.params) && codeOk f (lst f.code) 0 (lst f.code) && (lst f.rows).all (rowOk (lst f.code)) then E0 else E80 := by
  have a1 := Check_regs f o1 o2 n hf.regs _ 0 (Nat.zero_add _)
  have a2 := Check_params f o1 o2 n hf.params _ 0 (Nat.zero_add _)
  obtain ⟨o1', a3⟩ := Check_code f o2 n hf.ins hf.code _ 0 o1 (Nat.zero_add _)
  have a4 := Check_rows f o1' n hn hf.rows _ 0 o2 (Nat.zero_add _)
  simp only [Int.ofNat_zero, List.drop_zero, List.take_zero] at a1 a2 a3 a4
  have e1 : q12_36 P0 (.int .i64 n) (HC f o1 o2) = q12_L30 P0 (.int .i64 n) (slA f.regs) (.int .i64 (lst f.regs).length) (.int .i64 0) (HC f o1 o2) := by simp [q12_36]
  have e2 : q12_28 P0 (.int .i64 n) (HC f o1 o2) = q12_L22 P0 (.int .i64 n) (slA f.params) (.int .i64 (lst f.params).length) (.int .i64 0) (HC f o1 o2) := by simp [q12_28]
  have e3 : q12_20 P0 (.int .i64 n) (HC f o1 o2) = q12_L10 P0 (.int .i64 n) (slA f.code) (.int .i64 (lst f.code).length) (.int .i64 0) (HC f o1 o2) := by simp [q12_20]
  have e4 : q12_8 P0 (.int .i64 n) (HC f o1' o2) = q12_L2 P0 (.int .i64 n) (slA f.rows) (.int .i64 (lst f.rows).length) (.int .i64 0) (HC f o1' o2) := by simp [q12_8]
  rw [e1, a1, e2, a2, e3, a3, e4, a4]
  generalize (lst f.regs).all (fun k => decide (1 ≤ k) && decide (k ≤ 3)) = b1
  generalize parOk (lst f.regs) 0 [] (lst f.params) = b2
  generalize codeOk f (lst f.code) 0 (lst f.code) = b3
  generalize (lst f.rows).all (rowOk (lst f.code)) = b4
  cases b1 <;> cases b2 <;> cases b3 <;> cases b4 <;> rfl
set_option maxHeartbeats 1000000 in
theorem s_Check (f : Fn) (hf : FnFit f) : (callW E).p 8 [.agg (enc f)] = some ⟨.int .i64 (if wf f then 0 else 80), [], true, [], []⟩ := by
  rw [x_q12]
  have hall := Check_all f hf ⟨0, .dead⟩ ⟨0, .dead⟩ _ rfl
  by_cases h1 : (lst f.code).length < 1
  · have h1' : ((lst f.code).length : Int) < 1 := by omega
    have : ¬ 1 ≤ (lst f.code).length := by omega
    simp [q12_40, q12_39, q12_38, h1', wf, this]
  have h1' : ¬ ((lst f.code).length : Int) < 1 := by omega
  have g1 : 1 ≤ (lst f.code).length := by omega
  by_cases h2 : 20000 < (lst f.code).length
  · have h2' : (20000 : Int) < ((lst f.code).length : Int) := by omega
    have : ¬ (lst f.code).length ≤ 20000 := by omega
    simp [q12_40, q12_39, q12_38, h1', h2', wf, this]
  have h2' : ¬ (20000 : Int) < ((lst f.code).length : Int) := by omega
  have g2 : (lst f.code).length ≤ 20000 := by omega
  by_cases h3 : 20000 < (lst f.regs).length
  · have h3' : (20000 : Int) < ((lst f.regs).length : Int) := by omega
    have : ¬ (lst f.regs).length ≤ 20000 := by omega
    simp [q12_40, q12_39, q12_38, h1', h2', h3', wf, this]
  have h3' : ¬ (20000 : Int) < ((lst f.regs).length : Int) := by omega
  have g3 : (lst f.regs).length ≤ 20000 := by omega
  by_cases h4 : f.ret < 0
  · have : ¬ 0 ≤ f.ret := by omega
    simp [q12_40, q12_39, q12_38, h1', h2', h3', h4, wf, this]
  have g4 : 0 ≤ f.ret := by omega
  by_cases h5 : 3 < f.ret
  · have : ¬ f.ret ≤ 3 := by omega
    simp [q12_40, q12_39, q12_38, h1', h2', h3', h4, h5, wf, this]
  have g5 : f.ret ≤ 3 := by omega
  have hp : (lst f.code).length - 1 < (lst f.code).length := by omega
  have k1 := ixs_ins (o := f.code) (i := (lst f.code).length - 1) (List.getElem?_eq_getElem hp) .i64
  have hw : IntKind.wrap .i64 (((lst f.code).length : Int) - 1) = (((lst f.code).length - 1 : Nat) : Int) := by rw [wrap_i64] <;> omega
  have hg : (lst f.code).getD ((lst f.code).length - 1) default = (lst f.code)[(lst f.code).length - 1] := by rw [List.getD_eq_getElem?_getD, List.getElem?_eq_getElem hp]; rfl
  cases he : ends ((lst f.code)[(lst f.code).length - 1]).op with
  | false =>
    have hwf : wf f = false := by rw [wf, hg, he]; simp
    rw [hwf]
    simp [q12_40, q12_39, q12_38, h1', h2', h3', h4, h5, hw, k1, he]
  | true =>
    have hwf : wf f = ((lst f.regs).all (fun k => decide (1 ≤ k) && decide (k ≤ 3)) && parOk (lst f.regs) 0 [] (lst f.params) && codeOk f (lst f.code) 0 (lst f.code) && (lst f.rows).all (rowOk (lst f.code))) := by
      rw [wf, hg, he]
      simp only [g1, g2, g3, g4, g5, decide_true, Bool.true_and]
    have e : q12_40 (.agg (enc f)) [⟨0, .dead⟩, ⟨0, .dead⟩, ⟨0, .dead⟩] = q12_36 P0 (.int .i64 (lst f.code).length) (HC f ⟨0, .dead⟩ ⟨0, .dead⟩) := by
      simp [q12_40, q12_39, q12_38, h1', h2', h3', h4, h5, hw, k1, he]
    rw [e, hall, hwf]
    split <;> rfl
end Go.Vm
namespace Go.Vm
theorem FnIn.fit3 {f : Fn} (h : FnIn f) : FnFit f := by
  have e : reachBytes = 140737488351232 := rfl
  refine ⟨fun x hx => ?_, ?_, ?_, ?_, ?_⟩
  · have k := h.insI x hx
    refine ⟨⟨k.n.1, ?_⟩, ?_, ?_⟩
    · have := k.n.2; omega
    · have := k.s; omega
    · have := k.len; omega
  · have := h.code; omega
  · have := h.regs; omega
  · have := h.params; omega
  · have := h.rows; omega
end Go.Vm
namespace Go.Vm
open Cel
theorem free_uses (x y : Ins) : uses (freeM x y) = uses y := by
  unfold uses
  by_cases hc : calls y.op = true
  · simp [freeM, hc]
  by_cases h29 : y.op = 29
  · simp [freeM, h29, needsM, calls]
  by_cases h30 : y.op = 30
  · simp [freeM, h30, needsM, calls]
  have hn : needsM y.op = reads y.op := by simp [needsM, h29, h30]
  have h : reads y.op = 0 ∨ reads y.op = 1 ∨ reads y.op = 2 ∨ reads y.op = 3 := by
    unfold reads
    repeat' split
    all_goals simp
  rcases h with h | h | h | h <;> simp [freeM, hn, h, hc, h29, h30]
abbrev BI (x : Ins) : AO := ⟨1, .arr true false 9 [enc x]⟩
theorem rem_fit {a : Int} {n : Nat} (h0 : 0 < n) (h1 : n ≤ 400) : ∃ r : Nat, r < n ∧ ∃ b c : Int, evBin .rem (.int .i64 a) (.int .i64 n) = some (.int .i64 b) ∧ evBin .add (.int .i64 b) (.int .i64 n) = some (.int .i64 c) ∧ evBin .rem (.int .i64 c) (.int .i64 n) = some (.int .i64 (r : Int)) := by
  have hn : ¬ (n : Int) = 0 := by omega
  have hlt := Int.tmod_lt_of_pos a (show (0 : Int) < n by omega)
  have hgt : -(n : Int) < a.tmod n := by
    have := Int.lt_tmod_of_pos a (show (0 : Int) < n by omega)
    exact this
  have w1 : IntKind.wrap .i64 (a.tmod n) = a.tmod n := by rw [wrap_i64] <;> omega
  have w2 : IntKind.wrap .i64 (a.tmod n + n) = a.tmod n + n := by rw [wrap_i64] <;> omega
  have p0 : 0 ≤ (a.tmod n + n).tmod n := Int.tmod_nonneg _ (by omega)
  have p1 : (a.tmod n + n).tmod n < n := Int.tmod_lt_of_pos _ (by omega)
  have w3 : IntKind.wrap .i64 ((a.tmod n + n).tmod n) = (a.tmod n + n).tmod n := by rw [wrap_i64] <;> omega
  refine ⟨((a.tmod n + n).tmod n).toNat, by omega, a.tmod n, a.tmod n + n, ?_, ?_, ?_⟩
  · simp [evBin, isShift, binInt, hn, w1]; omega
  · rw [evBin_add, w2]
  · rw [show (((a.tmod n + n).tmod n).toNat : Int) = (a.tmod n + n).tmod n by omega]
    simp [evBin, isShift, binInt, hn, w3]; omega
section
variable (f : Fn) (x y w : Ins) (v1 : AV)
def HF (f : Fn) (x y w : Ins) : Heap := [AB f, BI x, BI y, BI w, D0, D0]
theorem fr8 : q63_8 v1 (.lp 0 1 0 0) (.lp 2 1 0 0) (.lp 3 1 0 0) (HF f x y w) = q63_7 v1 (.lp 0 1 0 0) (.lp 2 1 0 0) (.lp 3 1 0 0) (HF f x y { w with op := y.op }) := by
  simp [q63_8, HF, spliceAt]
  rfl
theorem fr7 : q63_7 v1 (.lp 0 1 0 0) (.lp 2 1 0 0) (.lp 3 1 0 0) (HF f x y w) = q63_6 v1 (.lp 0 1 0 0) (.lp 2 1 0 0) (.lp 3 1 0 0) (HF f x y { w with d := if writes y.op then y.d else w.d }) := by
  have ha : ∀ H : Heap, fzList (fz H fuelF) [.int .i64 y.op] = some ⟨[.int .i64 y.op], true && true, []⟩ := fun H => by rw [fzList_cons, fz_int', fzList_nil]; rfl
  have c : ∀ H, callAny E (callW E) 0 none true 5 [.int .i64 y.op] H = some (.bool (writes y.op), H) := fun H => call_reads rfl (ha H) rfl (s_Writes _) ⟨_, rfl, rfl⟩
  cases h : writes y.op <;> rw [h] at c <;> simp [q63_7, HF, spliceAt, c] <;> rfl
theorem fr6 : q63_6 v1 (.lp 0 1 0 0) (.lp 2 1 0 0) (.lp 3 1 0 0) (HF f x y w) = q63_5 v1 (.lp 0 1 0 0) (.lp 2 1 0 0) (.lp 3 1 0 0) (.int .i64 (needsM y.op)) (HF f x y w) := by
  have ha : ∀ H : Heap, fzList (fz H fuelF) [.int .i64 y.op] = some ⟨[.int .i64 y.op], true && true, []⟩ := fun H => by rw [fzList_cons, fz_int', fzList_nil]; rfl
  have c : ∀ H, callAny E (callW E) 0 none true 6 [.int .i64 y.op] H = some (.int .i64 (needsM y.op), H) := fun H => call_reads rfl (ha H) rfl (s_Needs _) ⟨_, rfl, rfl⟩
  simp [q63_6, HF, c]
theorem fr5 (n : Nat) : q63_5 v1 (.lp 0 1 0 0) (.lp 2 1 0 0) (.lp 3 1 0 0) (.int .i64 n) (HF f x y w) = q63_4 v1 (.lp 0 1 0 0) (.lp 2 1 0 0) (.lp 3 1 0 0) (.int .i64 n) (HF f x y { w with a := if 1 ≤ n then y.a else w.a }) := by
  by_cases h : 1 ≤ n
  · have h' : (1 : Int) ≤ n := by omega
    simp [q63_5, HF, spliceAt, h, h']; rfl
  · have h' : ¬ (1 : Int) ≤ n := by omega
    simp [q63_5, HF, spliceAt, h, h']; try rfl
theorem fr4 (n : Nat) : q63_4 v1 (.lp 0 1 0 0) (.lp 2 1 0 0) (.lp 3 1 0 0) (.int .i64 n) (HF f x y w) = q63_3 v1 (.lp 0 1 0 0) (.lp 2 1 0 0) (.lp 3 1 0 0) (.int .i64 n) (HF f x y { w with b := if 2 ≤ n then y.b else w.b }) := by
  by_cases h : 2 ≤ n
  · have h' : (2 : Int) ≤ n := by omega
    simp [q63_4, HF, spliceAt, h, h']; rfl
  · have h' : ¬ (2 : Int) ≤ n := by omega
    simp [q63_4, HF, spliceAt, h, h']; try rfl
theorem fr3 (n : Nat) : q63_3 v1 (.lp 0 1 0 0) (.lp 2 1 0 0) (.lp 3 1 0 0) (.int .i64 n) (HF f x y w) = q63_2 v1 (.lp 0 1 0 0) (.lp 2 1 0 0) (.lp 3 1 0 0) (HF f x y { w with c := if 3 ≤ n then y.c else w.c }) := by
  by_cases h : 3 ≤ n
  · have h' : (3 : Int) ≤ n := by omega
    simp [q63_3, HF, spliceAt, h, h']; rfl
  · have h' : ¬ (3 : Int) ≤ n := by omega
    simp [q63_3, HF, spliceAt, h, h']; try rfl
theorem fr2 : q63_2 v1 (.lp 0 1 0 0) (.lp 2 1 0 0) (.lp 3 1 0 0) (HF f x y w) = q63_1 v1 (.lp 0 1 0 0) (.lp 2 1 0 0) (.lp 3 1 0 0) (HF f x y { w with args := if calls y.op then y.args else w.args }) := by
  have ha : ∀ H : Heap, fzList (fz H fuelF) [.int .i64 y.op] = some ⟨[.int .i64 y.op], true && true, []⟩ := fun H => by rw [fzList_cons, fz_int', fzList_nil]; rfl
  have c : ∀ H, callAny E (callW E) 0 none true 7 [.int .i64 y.op] H = some (.bool (calls y.op), H) := fun H => call_reads rfl (ha H) rfl (s_RCalls _) ⟨_, rfl, rfl⟩
  cases h : calls y.op <;> rw [h] at c <;> simp [q63_2, HF, spliceAt, c] <;> rfl
theorem fr_all : q63_8 v1 (.lp 0 1 0 0) (.lp 2 1 0 0) (.lp 3 1 0 0) (HF f x y x) = q63_1 v1 (.lp 0 1 0 0) (.lp 2 1 0 0) (.lp 3 1 0 0) (HF f x y { freeM x y with n := x.n, t := x.t, s := x.s }) := by
  rw [fr8, fr7, fr6, fr5, fr4, fr3, fr2]
  rfl
end
theorem call_sc {E : Env} {C : Calls2} {fb f : Nat} {sl : Option Nat} {args : List AV} {h : Heap} {fa : Fz (List AV)} {n : Int} (hE : E.pure f = true) (ha : fzList (fz h fuelF) args = some fa) (hc : C.p f fa.v = some ⟨.int .i64 n, [], true, [], []⟩) :
    callAny E C fb sl true f args h = some (.int .i64 n, h) := by
  have hz : fz (heapOf []) fuelF (.int .i64 n) = some ⟨.int .i64 n, true, []⟩ := rfl
  simp [callAny, hE, callP, ha, hc, hz]
theorem fp_sc {E : Env} {C : Calls2} {fb f : Nat} {sl : Option Nat} {args : List AV} {h : Heap} {fa : Fz (List AV)} {v : AV} (hE : E.pure f = true) (ha : fzList (fz h fuelF) args = some fa) (hc : C.p f fa.v = some ⟨v, [], true, [], []⟩) :
    fpCall E C fb sl true f args h = some (fa.ids, []) := by
  simp [fpCall, hE, ha, hc]
def putAt (f : Fn) (i : Nat) (w : Ins) : Fn := { f with code := some ((lst f.code).set i w) }
theorem put_wf {f : Fn} {i : Nat} {y : Ins} (hy : (lst f.code)[i]? = some y) (x : Ins) : wf (putAt f i (freeM x y)) = wf f := by
  have hlen : (lst (putAt f i (freeM x y)).code).length = (lst f.code).length := by simp [putAt]
  refine wf_congr rfl rfl rfl rfl hlen fun k h1 h2 => ?_
  have hget : (lst (putAt f i (freeM x y)).code)[k] = if i = k then freeM x y else (lst f.code)[k] := by
    simp only [putAt, lst_some, List.getElem_set]
  rw [hget]
  by_cases e : i = k
  · subst e
    rw [List.getElem?_eq_getElem h2] at hy
    injection hy with hy
    rw [if_pos rfl, hy]
    exact ⟨rfl, rfl, by rw [rightM_congr (f := f) (g := putAt f i _) rfl rfl hlen, free_right]⟩
  · rw [if_neg e]
    exact ⟨rfl, rfl, rightM_congr (f := f) (g := putAt f i _) rfl rfl hlen _⟩
theorem put_fit {f : Fn} {i : Nat} {y : Ins} (hf : FnFit f) (hy : (lst f.code)[i]? = some y) {x : Ins} (hx : (lst x.args).length ≤ 100) : FnFit (putAt f i (freeM x y)) := by
  refine ⟨fun z hz => ?_, by simpa [putAt] using hf.code, hf.regs, hf.params, hf.rows⟩
  rcases List.mem_or_eq_of_mem_set hz with h | h
  · exact hf.ins z h
  · subst h
    obtain ⟨a, b, c⟩ := hf.ins y (List.mem_of_getElem? hy)
    refine ⟨a, b, ?_⟩
    simp only [freeM]
    split
    · exact c
    · omega
def H7 (f : Fn) (x y w : Ins) (i : Nat) : Heap := [AB f, BI x, BI y, BI w, ⟨1, .arr true false 5 [[slA f.regs, slA f.params, .int .i64 f.ret, .ls 5 1 9 0 (lst f.code).length, slA f.rows]]⟩, ⟨1, .arr false false 9 (((lst f.code).set i w).map enc)⟩]
theorem fz_g (f : Fn) (x y w : Ins) (i : Nat) : ∃ b, fz (H7 f x y w i) fuelF (.agg [slA f.regs, slA f.params, .int .i64 f.ret, .ls 5 1 9 0 (lst f.code).length, slA f.rows]) = some ⟨.agg (enc (putAt f i w)), b, [5]⟩ := by
  have h3 : fz (H7 f x y w i) 11 (.ls 5 1 9 0 ((lst f.code).set i w).length) = some ⟨slA (some ((lst f.code).set i w)), ((lst f.code).set i w).all scal, [5]⟩ := by
    have := fz_own (α := Ins) (H := H7 f x y w i) (j := 5) (g := 1) (k := 9) (d := D0) (o := some ((lst f.code).set i w)) rfl
    exact this
  rw [List.length_set] at h3
  refine ⟨_, (fz_agg_eq _ 11 _).trans (by
    simp only [fzList_cons, fz_p (pure1_sl f.regs) _ 10, fz_p (pure1_sl f.params) _ 10, fz_p (pure1_sl f.rows) _ 10, fz_p (show pure1 (.int .i64 f.ret) = true from rfl) _ 10, h3, fzList_nil]
    rfl)⟩
theorem fr1 (f : Fn) (x y : Ins) (i : Nat) (hf : FnFit f) (hc : (lst f.code).length ≤ 400) (hy : (lst f.code)[i]? = some y) (hx : (lst x.args).length ≤ 100) (hya : (lst y.args).length ≤ 17592186043904) (w : Ins) (hw : { w with n := y.n, t := y.t, s := y.s } = freeM x y) :
    q63_1 (.int .i64 i) (.lp 0 1 0 0) (.lp 2 1 0 0) (.lp 3 1 0 0) (HF f x y w) = some ⟨.bool true, [], true, [], []⟩ := by
  have hlt := (List.getElem?_eq_some_iff.1 hy).1
  have s5 : evSt 1 (.lp 3 1 0 5) (.int .i64 y.n) (HF f x y w) = some (.tup [], HF f x y { w with n := y.n }) := rfl
  have s6 : evSt 1 (.lp 3 1 0 6) (.int .i64 y.t) (HF f x y { w with n := y.n }) = some (.tup [], HF f x y { w with n := y.n, t := y.t }) := rfl
  have s7 : evSt 1 (.lp 3 1 0 7) (.str y.s) (HF f x y { w with n := y.n, t := y.t }) = some (.tup [], HF f x y (freeM x y)) := by
    rw [← hw]; rfl
  have l5 : evLd false 1 (.lp 2 1 0 5) (HF f x y w) = some (.int .i64 y.n) := rfl
  have l6 : evLd false 1 (.lp 2 1 0 6) (HF f x y w) = some (.int .i64 y.t) := rfl
  have l7 : evLd false 1 (.lp 2 1 0 7) (HF f x y w) = some (.str y.s) := rfl
  have hwf := put_wf hy x
  have hfit := put_fit hf hy hx
  have hdef := free_def x y
  have huse := free_uses x y
  have hWa : (lst (freeM x y).args).length ≤ 17592186043904 := by
    simp only [freeM]
    split <;> omega
  generalize freeM x y = W at *
  have lf : evLd true 5 (.lp 0 1 0 0) (HF f x y W) = some (.agg (enc f)) := rfl
  have n4 : newC 0 (some 4) [.nils, .nils, .int .i64 0, .nils, .nils] (HF f x y W) = some (.lp 4 1 0 0, [AB f, BI x, BI y, BI W, ⟨1, .arr true false 5 [[.nils, .nils, .int .i64 0, .nils, .nils]]⟩, D0]) := rfl
  have s4 : evSt 5 (.lp 4 1 0 0) (.agg (enc f)) [AB f, BI x, BI y, BI W, ⟨1, .arr true false 5 [[.nils, .nils, .int .i64 0, .nils, .nils]]⟩, D0] = some (.tup [], [AB f, BI x, BI y, BI W, AB f, D0]) := by simp [evSt_lp]
  have lc : evLd false 1 (.lp 0 1 0 3) [AB f, BI x, BI y, BI W, AB f, D0] = some (slA f.code) := rfl
  have ap : evApp 0 (some 5) 9 96 .nils (slA f.code) [AB f, BI x, BI y, BI W, AB f, D0] = some (.ls 5 1 9 0 (lst f.code).length, [AB f, BI x, BI y, BI W, AB f, ⟨1, .arr false false 9 ((lst f.code).map enc)⟩]) := by
    have hne : ((lst f.code).map enc).isEmpty = false := by
      rw [List.isEmpty_eq_false_iff]
      intro e
      have := congrArg List.length e
      rw [List.length_map] at this
      simp only [List.length_nil] at this
      omega
    have hb : ((lst f.code).map enc).length * 96 ≤ 2 ^ 48 := by rw [List.length_map]; omega
    unfold evApp
    rw [rowsOf_sl9]
    simp only [hne, hb, if_true, Bool.false_eq_true, if_false]
    simp only [newArr, place, List.length_map]
    rfl
  have s43 : evSt 1 (.lp 4 1 0 3) (.ls 5 1 9 0 (lst f.code).length) [AB f, BI x, BI y, BI W, AB f, ⟨1, .arr false false 9 ((lst f.code).map enc)⟩] = some (.tup [], [AB f, BI x, BI y, BI W, ⟨1, .arr true false 5 [[slA f.regs, slA f.params, .int .i64 f.ret, .ls 5 1 9 0 (lst f.code).length, slA f.rows]]⟩, ⟨1, .arr false false 9 ((lst f.code).map enc)⟩]) := rfl
  have l43 : evLd false 1 (.lp 4 1 0 3) [AB f, BI x, BI y, BI W, ⟨1, .arr true false 5 [[slA f.regs, slA f.params, .int .i64 f.ret, .ls 5 1 9 0 (lst f.code).length, slA f.rows]]⟩, ⟨1, .arr false false 9 ((lst f.code).map enc)⟩] = some (.ls 5 1 9 0 (lst f.code).length) := rfl
  have l3 : evLd true 9 (.lp 3 1 0 0) [AB f, BI x, BI y, BI W, ⟨1, .arr true false 5 [[slA f.regs, slA f.params, .int .i64 f.ret, .ls 5 1 9 0 (lst f.code).length, slA f.rows]]⟩, ⟨1, .arr false false 9 ((lst f.code).map enc)⟩] = some (.agg (enc W)) := rfl
  have ix : evIxs 9 (.ls 5 1 9 0 (lst f.code).length) (.int .i64 (i : Int)) = some (.lp 5 1 i 0) := by
    have : (i : Int) < ((lst f.code).length : Int) := by omega
    simp [evIxs, this]
  have s5i : evSt 9 (.lp 5 1 i 0) (.agg (enc W)) [AB f, BI x, BI y, BI W, ⟨1, .arr true false 5 [[slA f.regs, slA f.params, .int .i64 f.ret, .ls 5 1 9 0 (lst f.code).length, slA f.rows]]⟩, ⟨1, .arr false false 9 ((lst f.code).map enc)⟩] = some (.tup [], H7 f x y W i) := by
    have := evSt_at (α := Ins) (H := [AB f, BI x, BI y, BI W, ⟨1, .arr true false 5 [[slA f.regs, slA f.params, .int .i64 f.ret, .ls 5 1 9 0 (lst f.code).length, slA f.rows]]⟩, ⟨1, .arr false false 9 ((lst f.code).map enc)⟩]) (id := 5) (g := 1) (i := i) (L := lst f.code) (v := .agg (enc W)) (y := W) rfl hlt rfl
    exact this
  have l4 : evLd true 5 (.lp 4 1 0 0) (H7 f x y W i) = some (.agg [slA f.regs, slA f.params, .int .i64 f.ret, .ls 5 1 9 0 (lst f.code).length, slA f.rows]) := rfl
  have l0 : evLd true 5 (.lp 0 1 0 0) (H7 f x y W i) = some (.agg (enc f)) := rfl
  have l2 : evLd true 9 (.lp 2 1 0 0) (H7 f x y W i) = some (.agg (enc y)) := rfl
  have l3' : evLd true 9 (.lp 3 1 0 0) (H7 f x y W i) = some (.agg (enc W)) := rfl
  obtain ⟨b, hz⟩ := fz_g f x y W i
  generalize H7 f x y W i = H at *
  have hag : fzList (fz H fuelF) [.agg [slA f.regs, slA f.params, .int .i64 f.ret, .ls 5 1 9 0 (lst f.code).length, slA f.rows]] = some ⟨[.agg (enc (putAt f i W))], b && true, [5]⟩ := by
    rw [fzList_cons, hz, fzList_nil]; rfl
  have haf : fzList (fz H fuelF) [.agg (enc f)] = some ⟨[.agg (enc f)], scal f && true, []⟩ := by
    rw [fzList_cons, fz_enc, fzList_nil]; rfl
  have hai : ∀ z : Ins, fzList (fz H fuelF) [.agg (enc z)] = some ⟨[.agg (enc z)], scal z && true, []⟩ := fun z => by
    rw [fzList_cons, fz_enc, fzList_nil]; rfl
  have hau : ∀ o : Option (List Int), fzList (fz H fuelF) [slA o, slA o] = some ⟨[slA o, slA o], (lst o).isEmpty && ((lst o).isEmpty && true), []⟩ := fun o => by
    rw [fzList_cons, fzList_cons, fz_sl, fzList_nil]; rfl
  have kg := s_Check _ hfit
  rw [hwf] at kg
  have kf := s_Check f hf
  generalize (if wf f then (0 : Int) else 80) = r at *
  have cg := call_sc (E := E) (C := callW E) (fb := 0) (sl := none) rfl hag kg
  have fg := fp_sc (E := E) (C := callW E) (fb := 0) (sl := none) rfl hag kg
  have cf := call_sc (E := E) (C := callW E) (fb := 0) (sl := none) rfl haf kf
  have ff := fp_sc (E := E) (C := callW E) (fb := 0) (sl := none) rfl haf kf
  have dW := call_sc (E := E) (C := callW E) (fb := 0) (sl := none) rfl (hai W) (s_Def W)
  have eW := fp_sc (E := E) (C := callW E) (fb := 0) (sl := none) rfl (hai W) (s_Def W)
  have dy := call_sc (E := E) (C := callW E) (fb := 0) (sl := none) rfl (hai y) (s_Def y)
  have ey := fp_sc (E := E) (C := callW E) (fb := 0) (sl := none) rfl (hai y) (s_Def y)
  have uW : callAny E (callW E) 0 none true 10 [.agg (enc W)] H = some (slA (uses W), H) := call_reads rfl (hai W) rfl (s_Uses W hWa) ⟨_, exO_fz _, rfl⟩
  have vW : fpCall E (callW E) 0 none true 10 [.agg (enc W)] H = some ([], []) := fp_reads rfl (hai W) rfl (s_Uses W hWa)
  have uy : callAny E (callW E) 0 none true 10 [.agg (enc y)] H = some (slA (uses y), H) := call_reads rfl (hai y) rfl (s_Uses y hya) ⟨_, exO_fz _, rfl⟩
  have vy : fpCall E (callW E) 0 none true 10 [.agg (enc y)] H = some ([], []) := fp_reads rfl (hai y) rfl (s_Uses y hya)
  rw [hdef] at dW
  rw [huse] at uW
  have ki := s_Ints (uses y) (uses y) (by
    have : (lst (uses y)).length ≤ (lst y.args).length + 3 := by
      unfold uses
      repeat' split
      all_goals simp
    omega)
  rw [decide_eq_true rfl] at ki
  have ci : callAny E (callW E) 0 none true 11 [slA (uses y), slA (uses y)] H = some (.bool true, H) := call_reads rfl (hau _) rfl ki ⟨_, rfl, rfl⟩
  have fi : fpCall E (callW E) 0 none true 11 [slA (uses y), slA (uses y)] H = some ([], []) := fp_reads rfl (hau _) rfl ki
  have hpa : pairsOk [([], []), (ids1 (.lp 2 1 0 5), []), ([], []), (ids1 (.lp 2 1 0 6), []), ([], []), (ids1 (.lp 2 1 0 7), []), ([], []), ([], ids1 (.lp 3 1 0 5)), ([], []), ([], ids1 (.lp 3 1 0 6)), ([], []), ([], ids1 (.lp 3 1 0 7))] [(3, 7), (5, 7), (5, 9)] = true := rfl
  have hpb : pairsOk [(ids1 (.lp 4 1 0 0), []), ([5], []), (ids1 (.lp 0 1 0 0), []), ([], []), ([], []), ([], []), (ids1 (.lp 3 1 0 0), []), ([], []), (ids1 (.lp 2 1 0 0), []), ([], []), ([], []), ([], []), ([], []), (ids1 (.lp 3 1 0 0), []), ([], []), (ids1 (.lp 2 1 0 0), []), ([], []), ([], []), ([], []), ([], [])] [(1, 2), (7, 8), (14, 15)] = true := rfl
  simp only [q63_1, evFa_lp, ob_some, Nat.zero_add, l5, l6, l7, s5, s6, s7, oh_some, hpa, okK_t, lf, n4, s4, lc, ap, s43, l43, l3, ix, s5i, l4, l0, l2, l3', cg, fg, cf, ff, ofp_some, evBin_eql, decide_true, fgd_tt, gb_tt, gh_tt, dW, eW, dy, ey, evPick_t, uW, vW, uy, vy, ci, fi, hpb, expo1_bool']
set_option maxHeartbeats 1000000 in
theorem InsFree_all (f : Fn) (a : Int) (x : Ins) (hf : FnIn f) : (callW E).p 12 [.agg (enc f), .int .i64 a, .agg (enc x)] = some ⟨.bool true, [], true, [], []⟩ := by
  rw [x_q63]
  have h10 : (callW E).p 4 [] = some ⟨.bool true, [], true, [], []⟩ := lift_p 60 (by kernel_rfl)
  have ch : ∀ H : Heap, callAny E (callW E) 0 none true 4 [] H = some (.bool true, H) := fun H => call_reads (fa := ⟨[], true, []⟩) rfl rfl rfl h10 ⟨_, rfl, rfl⟩
  have n0 : newC 0 (some 0) (cellsOf (.agg (enc f))) [D0, D0, D0, D0, D0, D0] = some (.lp 0 1 0 0, [AB f, D0, D0, D0, D0, D0]) := by simp
  have n1 : newC 0 (some 1) (cellsOf (.agg (enc x))) [AB f, D0, D0, D0, D0, D0] = some (.lp 1 1 0 0, [AB f, BI x, D0, D0, D0, D0]) := by simp
  have lf : evLd false 1 (.lp 0 1 0 3) [AB f, BI x, D0, D0, D0, D0] = some (slA f.code) := rfl
  have lr : evLd false 1 (.lp 0 1 0 0) [AB f, BI x, D0, D0, D0, D0] = some (slA f.regs) := rfl
  have la : evLd false 1 (.lp 1 1 0 8) [AB f, BI x, D0, D0, D0, D0] = some (slA x.args) := rfl
  have e1 : q63_14 (.agg (enc f)) (.int .i64 a) (.agg (enc x)) [D0, D0, D0, D0, D0, D0] = q63_12 (.int .i64 a) (.lp 0 1 0 0) (.lp 1 1 0 0) [AB f, BI x, D0, D0, D0, D0] := by
    simp only [q63_14, n0, oh_some, n1, q63_13, ch, evUn_not, ob_some, Bool.not_true, cnd_f]
  rw [e1]
  by_cases c1 : ((lst f.code).length : Int) = 0
  · simp only [q63_12, evFa_lp, Nat.zero_add, ob_some, lf, evLen_sl, evBin_eql, c1, decide_true, gb_tf, evPick_t, cnd_t, expo1_bool']
  by_cases c2 : (400 : Int) < ((lst f.code).length : Int)
  · simp only [q63_12, evFa_lp, Nat.zero_add, ob_some, lf, evLen_sl, evBin_eql, c1, decide_false, gb_ff, evBin_gtr, c2, decide_true, evPick_f, gb_tf, evPick_t, cnd_t, expo1_bool']
  by_cases c3 : (100 : Int) < ((lst f.regs).length : Int)
  · simp only [q63_12, evFa_lp, Nat.zero_add, ob_some, lf, evLen_sl, evBin_eql, c1, decide_false, gb_ff, evBin_gtr, c2, lr, c3, decide_true, evPick_f, gb_tf, evPick_t, cnd_t, expo1_bool']
  by_cases c4 : (100 : Int) < ((lst x.args).length : Int)
  · simp only [q63_12, evFa_lp, Nat.zero_add, ob_some, lf, evLen_sl, evBin_eql, c1, decide_false, gb_ff, evBin_gtr, c2, lr, c3, la, c4, decide_true, evPick_f, evPick_t, cnd_t, expo1_bool']
  obtain ⟨i, hi, b, c, r1, r2, r3⟩ := rem_fit (a := a) (n := (lst f.code).length) (by omega) (by omega)
  have hy := List.getElem?_eq_getElem hi
  have ix := ixs_ins (o := f.code) hy .i64
  have hya := (hf.insI _ (List.mem_of_getElem? hy)).len
  have e : reachBytes = 140737488351232 := rfl
  generalize (lst f.code)[i] = y at *
  have ly : ∀ H : Heap, evLd true 9 (.rp (enc y)) H = some (.agg (enc y)) := fun H => by simp
  have n2 : newC 0 (some 2) [.int .i64 0, .int .i64 0, .int .i64 0, .int .i64 0, .int .i64 0, .int .i64 0, .int .i64 0, .str [], .nils] [AB f, BI x, D0, D0, D0, D0] = some (.lp 2 1 0 0, [AB f, BI x, ⟨1, .arr true false 9 [[.int .i64 0, .int .i64 0, .int .i64 0, .int .i64 0, .int .i64 0, .int .i64 0, .int .i64 0, .str [], .nils]]⟩, D0, D0, D0]) := rfl
  have s2 : evSt 9 (.lp 2 1 0 0) (.agg (enc y)) [AB f, BI x, ⟨1, .arr true false 9 [[.int .i64 0, .int .i64 0, .int .i64 0, .int .i64 0, .int .i64 0, .int .i64 0, .int .i64 0, .str [], .nils]]⟩, D0, D0, D0] = some (.tup [], [AB f, BI x, BI y, D0, D0, D0]) := by simp [evSt_lp, spliceAt]
  have lx : evLd true 9 (.lp 1 1 0 0) [AB f, BI x, BI y, D0, D0, D0] = some (.agg (enc x)) := rfl
  have n3 : newC 0 (some 3) [.int .i64 0, .int .i64 0, .int .i64 0, .int .i64 0, .int .i64 0, .int .i64 0, .int .i64 0, .str [], .nils] [AB f, BI x, BI y, D0, D0, D0] = some (.lp 3 1 0 0, [AB f, BI x, BI y, ⟨1, .arr true false 9 [[.int .i64 0, .int .i64 0, .int .i64 0, .int .i64 0, .int .i64 0, .int .i64 0, .int .i64 0, .str [], .nils]]⟩, D0, D0]) := rfl
  have s3 : evSt 9 (.lp 3 1 0 0) (.agg (enc x)) [AB f, BI x, BI y, ⟨1, .arr true false 9 [[.int .i64 0, .int .i64 0, .int .i64 0, .int .i64 0, .int .i64 0, .int .i64 0, .int .i64 0, .str [], .nils]]⟩, D0, D0] = some (.tup [], HF f x y x) := by simp [evSt_lp, spliceAt, HF]
  have fin := fr1 f x y i hf.fit3 (by omega) hy (by omega) (by omega) { freeM x y with n := x.n, t := x.t, s := x.s } rfl
  simp only [q63_12, evFa_lp, Nat.zero_add, ob_some, lf, evLen_sl, evBin_eql, c1, decide_false, gb_ff, evBin_gtr, c2, lr, c3, la, c4, evPick_f, cnd_f, q63_11, r1, r2, r3, q63_10, ix, ly, n2, oh_some, s2, q63_9, lx, n3, s3, fr_all, fin]
end Go.Vm
