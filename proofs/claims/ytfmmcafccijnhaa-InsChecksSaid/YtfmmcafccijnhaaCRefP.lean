/- The document's answer whether an instruction is well formed. -/
import Derived.Test.YtfmmcafccijnhaaCRefO
namespace Go.Vm
open Cel
attribute [local simp] callAny callP heapOf_nil fpCall

def switchM (f : Fn) (x : Ins) : Bool :=
  match x.op with
  | 1 => decide (regK (lst f.regs) x.d = 2) || (decide (-2147483648 ≤ x.n) && decide (x.n < 2147483648))
  | 4 => decide (regK (lst f.regs) x.d = regK (lst f.regs) x.a)
  | 5 => decide (0 < (numK x.n).2.1) && decide (regK (lst f.regs) x.d = (numK x.n).2.2) && decide (regK (lst f.regs) x.a = (numK x.n).1) && decide (regK (lst f.regs) x.b = (numK x.n).2.1)
  | 6 => decide (0 < (numK x.n).1) && decide ((numK x.n).2.1 = 0) && decide (regK (lst f.regs) x.d = (numK x.n).2.2) && decide (regK (lst f.regs) x.a = (numK x.n).1)
  | 12 => typeOk x.s
  | 21 => typeOk x.s
  | 22 => typeOk x.s
  | 16 => decide (0 ≤ x.n)
  | 17 => decide (0 ≤ x.n)
  | 23 => callM (lst f.regs) x
  | 24 => callM (lst f.regs) x
  | 25 => callM (lst f.regs) x
  | 26 => callM (lst f.regs) x
  | 27 => placeOk (lst f.code).length x.t
  | 28 => decide (0 ≤ x.n) && decide (x.n ≤ 5) && placeOk (lst f.code).length x.t
  | 29 => (decide (x.n = 0) || decide (x.n = 1)) && (decide (x.b = -1) || decide (regK (lst f.regs) x.b = 3)) && placeOk (lst f.code).length x.t
  | 30 => if f.ret = 0 then decide (x.a = -1) else !decide (x.a = -1) && decide (regK (lst f.regs) x.a = f.ret)
  | _ => true
def oneM (f : Fn) (x : Ins) : Bool :=
  decide (1 ≤ x.op) && decide (x.op ≤ 33) && (wantM (regK (lst f.regs) x.d) ((rowM x.op).getD 0 0) && (wantM (regK (lst f.regs) x.a) ((rowM x.op).getD 1 0) && (wantM (regK (lst f.regs) x.b) ((rowM x.op).getD 2 0) && (wantM (regK (lst f.regs) x.c) ((rowM x.op).getD 3 0) && switchM f x))))


set_option maxHeartbeats 8000000 in
theorem one_25 (f : Fn) (x : Ins) (hs : x.s.length ≤ 9223372036854775807) (hl : (lst x.args).length ≤ 9223372036854775807) (v55 : AV) (hv : v55 = .int .i64 x.op) :
    regletref10_one_25 Q0 Q1 (.int .i64 (numK x.n).1) (.int .i64 (numK x.n).2.1) (.int .i64 (numK x.n).2.2) v55 (H3 f x) = some ⟨.bool (switchM f x), [], true, [], []⟩ := by
  subst hv
  have hkd := s_kind f x.d
  have hka := s_kind f x.a
  have hkb := s_kind f x.b
  have hty := s_RType x.s hs
  have hcl := s_call f x hl
  have hpl := s_place f x.t
  unfold switchM
  generalize regK (lst f.regs) x.d = kd at *
  generalize regK (lst f.regs) x.a = ka at *
  generalize regK (lst f.regs) x.b = kb at *
  generalize typeOk x.s = ty at *
  generalize callM (lst f.regs) x = cl at *
  generalize placeOk (lst f.code).length x.t = pl at *
  generalize numK x.n = k at *
  obtain ⟨a, b, d⟩ := k
  simp only
  by_cases o1 : x.op = 1
  · by_cases h2 : kd = 2
    · simp [o1, regletref10_one_25, regletref10_one_24, hkd, h2, pairsOk, fpApart, meets]
    · by_cases h3 : -2147483648 ≤ x.n <;> simp [o1, regletref10_one_25, regletref10_one_24, hkd, h2, h3, pairsOk, fpApart, meets]
  by_cases o4 : x.op = 4
  · simp [o4, regletref10_one_25, regletref10_one_24, regletref10_one_23, regletref10_one_22, hkd, hka, pairsOk, fpApart, meets]
  by_cases o5 : x.op = 5
  · by_cases h1 : 0 < b
    · by_cases h2 : kd = d
      · by_cases h3 : ka = a
        · simp [o5, h1, h2, h3, hkd, hka, hkb, regletref10_one_25, regletref10_one_24, regletref10_one_23, regletref10_one_22, regletref10_one_21, regletref10_one_20, regletref10_one_19, regletref10_one_18, regletref10_one_17, regletref10_one_16, regletref10_one_15, regletref10_one_14, regletref10_one_13, regletref10_one_12, regletref10_one_11, regletref10_one_10, regletref10_one_9, regletref10_one_8, regletref10_one_7, regletref10_one_6, regletref10_one_5, regletref10_one_4, regletref10_one_3, regletref10_one_2, regletref10_one_1, pairsOk, fpApart, meets]
        · simp [o5, h1, h2, h3, hkd, hka, hkb, regletref10_one_25, regletref10_one_24, regletref10_one_23, regletref10_one_22, regletref10_one_21, regletref10_one_20, regletref10_one_19, regletref10_one_18, regletref10_one_17, regletref10_one_16, regletref10_one_15, regletref10_one_14, regletref10_one_13, regletref10_one_12, regletref10_one_11, regletref10_one_10, regletref10_one_9, regletref10_one_8, regletref10_one_7, regletref10_one_6, regletref10_one_5, regletref10_one_4, regletref10_one_3, regletref10_one_2, regletref10_one_1, pairsOk, fpApart, meets]
      · simp [o5, h1, h2, hkd, hka, hkb, regletref10_one_25, regletref10_one_24, regletref10_one_23, regletref10_one_22, regletref10_one_21, regletref10_one_20, regletref10_one_19, regletref10_one_18, regletref10_one_17, regletref10_one_16, regletref10_one_15, regletref10_one_14, regletref10_one_13, regletref10_one_12, regletref10_one_11, regletref10_one_10, regletref10_one_9, regletref10_one_8, regletref10_one_7, regletref10_one_6, regletref10_one_5, regletref10_one_4, regletref10_one_3, regletref10_one_2, regletref10_one_1, pairsOk, fpApart, meets]
    · simp [o5, h1, regletref10_one_25, regletref10_one_24, regletref10_one_23, regletref10_one_22, regletref10_one_21, regletref10_one_20, regletref10_one_19, regletref10_one_18, regletref10_one_17, regletref10_one_16, regletref10_one_15, regletref10_one_14, regletref10_one_13, regletref10_one_12, regletref10_one_11, regletref10_one_10, regletref10_one_9, regletref10_one_8, regletref10_one_7, regletref10_one_6, regletref10_one_5, regletref10_one_4, regletref10_one_3, regletref10_one_2, regletref10_one_1, pairsOk, fpApart, meets]
  by_cases o6 : x.op = 6
  · by_cases h1 : 0 < a
    · by_cases h2 : b = 0
      · by_cases h3 : kd = d
        · simp [o6, h1, h2, h3, hkd, hka, regletref10_one_25, regletref10_one_24, regletref10_one_23, regletref10_one_22, regletref10_one_21, regletref10_one_20, regletref10_one_19, regletref10_one_18, regletref10_one_17, regletref10_one_16, regletref10_one_15, regletref10_one_14, regletref10_one_13, regletref10_one_12, regletref10_one_11, regletref10_one_10, regletref10_one_9, regletref10_one_8, regletref10_one_7, regletref10_one_6, regletref10_one_5, regletref10_one_4, regletref10_one_3, regletref10_one_2, regletref10_one_1, pairsOk, fpApart, meets]
        · simp [o6, h1, h2, h3, hkd, hka, regletref10_one_25, regletref10_one_24, regletref10_one_23, regletref10_one_22, regletref10_one_21, regletref10_one_20, regletref10_one_19, regletref10_one_18, regletref10_one_17, regletref10_one_16, regletref10_one_15, regletref10_one_14, regletref10_one_13, regletref10_one_12, regletref10_one_11, regletref10_one_10, regletref10_one_9, regletref10_one_8, regletref10_one_7, regletref10_one_6, regletref10_one_5, regletref10_one_4, regletref10_one_3, regletref10_one_2, regletref10_one_1, pairsOk, fpApart, meets]
      · simp [o6, h1, h2, regletref10_one_25, regletref10_one_24, regletref10_one_23, regletref10_one_22, regletref10_one_21, regletref10_one_20, regletref10_one_19, regletref10_one_18, regletref10_one_17, regletref10_one_16, regletref10_one_15, regletref10_one_14, regletref10_one_13, regletref10_one_12, regletref10_one_11, regletref10_one_10, regletref10_one_9, regletref10_one_8, regletref10_one_7, regletref10_one_6, regletref10_one_5, regletref10_one_4, regletref10_one_3, regletref10_one_2, regletref10_one_1, pairsOk, fpApart, meets]
    · simp [o6, h1, regletref10_one_25, regletref10_one_24, regletref10_one_23, regletref10_one_22, regletref10_one_21, regletref10_one_20, regletref10_one_19, regletref10_one_18, regletref10_one_17, regletref10_one_16, regletref10_one_15, regletref10_one_14, regletref10_one_13, regletref10_one_12, regletref10_one_11, regletref10_one_10, regletref10_one_9, regletref10_one_8, regletref10_one_7, regletref10_one_6, regletref10_one_5, regletref10_one_4, regletref10_one_3, regletref10_one_2, regletref10_one_1, pairsOk, fpApart, meets]
  by_cases o12 : x.op = 12
  · simp [o12, hty, regletref10_one_25, regletref10_one_24, regletref10_one_23, regletref10_one_22, regletref10_one_21, regletref10_one_20, regletref10_one_19, regletref10_one_18, regletref10_one_17, regletref10_one_16, regletref10_one_15, regletref10_one_14, regletref10_one_13, regletref10_one_12, regletref10_one_11, regletref10_one_10, regletref10_one_9, regletref10_one_8, regletref10_one_7, regletref10_one_6, regletref10_one_5, regletref10_one_4, regletref10_one_3, regletref10_one_2, regletref10_one_1, pairsOk, fpApart, meets]
  by_cases o21 : x.op = 21
  · simp [o21, hty, regletref10_one_25, regletref10_one_24, regletref10_one_23, regletref10_one_22, regletref10_one_21, regletref10_one_20, regletref10_one_19, regletref10_one_18, regletref10_one_17, regletref10_one_16, regletref10_one_15, regletref10_one_14, regletref10_one_13, regletref10_one_12, regletref10_one_11, regletref10_one_10, regletref10_one_9, regletref10_one_8, regletref10_one_7, regletref10_one_6, regletref10_one_5, regletref10_one_4, regletref10_one_3, regletref10_one_2, regletref10_one_1, pairsOk, fpApart, meets]
  by_cases o22 : x.op = 22
  · simp [o22, hty, regletref10_one_25, regletref10_one_24, regletref10_one_23, regletref10_one_22, regletref10_one_21, regletref10_one_20, regletref10_one_19, regletref10_one_18, regletref10_one_17, regletref10_one_16, regletref10_one_15, regletref10_one_14, regletref10_one_13, regletref10_one_12, regletref10_one_11, regletref10_one_10, regletref10_one_9, regletref10_one_8, regletref10_one_7, regletref10_one_6, regletref10_one_5, regletref10_one_4, regletref10_one_3, regletref10_one_2, regletref10_one_1, pairsOk, fpApart, meets]
  by_cases o16 : x.op = 16
  · simp [o16, regletref10_one_25, regletref10_one_24, regletref10_one_23, regletref10_one_22, regletref10_one_21, regletref10_one_20, regletref10_one_19, regletref10_one_18, regletref10_one_17, regletref10_one_16, regletref10_one_15, regletref10_one_14, regletref10_one_13, regletref10_one_12, regletref10_one_11, regletref10_one_10, regletref10_one_9, regletref10_one_8, regletref10_one_7, regletref10_one_6, regletref10_one_5, regletref10_one_4, regletref10_one_3, regletref10_one_2, regletref10_one_1, pairsOk, fpApart, meets]
  by_cases o17 : x.op = 17
  · simp [o17, regletref10_one_25, regletref10_one_24, regletref10_one_23, regletref10_one_22, regletref10_one_21, regletref10_one_20, regletref10_one_19, regletref10_one_18, regletref10_one_17, regletref10_one_16, regletref10_one_15, regletref10_one_14, regletref10_one_13, regletref10_one_12, regletref10_one_11, regletref10_one_10, regletref10_one_9, regletref10_one_8, regletref10_one_7, regletref10_one_6, regletref10_one_5, regletref10_one_4, regletref10_one_3, regletref10_one_2, regletref10_one_1, pairsOk, fpApart, meets]
  by_cases o23 : x.op = 23
  · simp [o23, hcl, regletref10_one_25, regletref10_one_24, regletref10_one_23, regletref10_one_22, regletref10_one_21, regletref10_one_20, regletref10_one_19, regletref10_one_18, regletref10_one_17, regletref10_one_16, regletref10_one_15, regletref10_one_14, regletref10_one_13, regletref10_one_12, regletref10_one_11, regletref10_one_10, regletref10_one_9, regletref10_one_8, regletref10_one_7, regletref10_one_6, regletref10_one_5, regletref10_one_4, regletref10_one_3, regletref10_one_2, regletref10_one_1, pairsOk, fpApart, meets]
  by_cases o24 : x.op = 24
  · simp [o24, hcl, regletref10_one_25, regletref10_one_24, regletref10_one_23, regletref10_one_22, regletref10_one_21, regletref10_one_20, regletref10_one_19, regletref10_one_18, regletref10_one_17, regletref10_one_16, regletref10_one_15, regletref10_one_14, regletref10_one_13, regletref10_one_12, regletref10_one_11, regletref10_one_10, regletref10_one_9, regletref10_one_8, regletref10_one_7, regletref10_one_6, regletref10_one_5, regletref10_one_4, regletref10_one_3, regletref10_one_2, regletref10_one_1, pairsOk, fpApart, meets]
  by_cases o25 : x.op = 25
  · simp [o25, hcl, regletref10_one_25, regletref10_one_24, regletref10_one_23, regletref10_one_22, regletref10_one_21, regletref10_one_20, regletref10_one_19, regletref10_one_18, regletref10_one_17, regletref10_one_16, regletref10_one_15, regletref10_one_14, regletref10_one_13, regletref10_one_12, regletref10_one_11, regletref10_one_10, regletref10_one_9, regletref10_one_8, regletref10_one_7, regletref10_one_6, regletref10_one_5, regletref10_one_4, regletref10_one_3, regletref10_one_2, regletref10_one_1, pairsOk, fpApart, meets]
  by_cases o26 : x.op = 26
  · simp [o26, hcl, regletref10_one_25, regletref10_one_24, regletref10_one_23, regletref10_one_22, regletref10_one_21, regletref10_one_20, regletref10_one_19, regletref10_one_18, regletref10_one_17, regletref10_one_16, regletref10_one_15, regletref10_one_14, regletref10_one_13, regletref10_one_12, regletref10_one_11, regletref10_one_10, regletref10_one_9, regletref10_one_8, regletref10_one_7, regletref10_one_6, regletref10_one_5, regletref10_one_4, regletref10_one_3, regletref10_one_2, regletref10_one_1, pairsOk, fpApart, meets]
  by_cases o28 : x.op = 28
  · by_cases h1 : 0 ≤ x.n
    · by_cases h2 : x.n ≤ 5 <;> simp [o28, h1, h2, hpl, regletref10_one_25, regletref10_one_24, regletref10_one_23, regletref10_one_22, regletref10_one_21, regletref10_one_20, regletref10_one_19, regletref10_one_18, regletref10_one_17, regletref10_one_16, regletref10_one_15, regletref10_one_14, regletref10_one_13, regletref10_one_12, regletref10_one_11, regletref10_one_10, regletref10_one_9, regletref10_one_8, regletref10_one_7, regletref10_one_6, regletref10_one_5, regletref10_one_4, regletref10_one_3, regletref10_one_2, regletref10_one_1, pairsOk, fpApart, meets]
    · simp [o28, h1, regletref10_one_25, regletref10_one_24, regletref10_one_23, regletref10_one_22, regletref10_one_21, regletref10_one_20, regletref10_one_19, regletref10_one_18, regletref10_one_17, regletref10_one_16, regletref10_one_15, regletref10_one_14, regletref10_one_13, regletref10_one_12, regletref10_one_11, regletref10_one_10, regletref10_one_9, regletref10_one_8, regletref10_one_7, regletref10_one_6, regletref10_one_5, regletref10_one_4, regletref10_one_3, regletref10_one_2, regletref10_one_1, pairsOk, fpApart, meets]
  by_cases o27 : x.op = 27
  · simp [o27, hpl, regletref10_one_25, regletref10_one_24, regletref10_one_23, regletref10_one_22, regletref10_one_21, regletref10_one_20, regletref10_one_19, regletref10_one_18, regletref10_one_17, regletref10_one_16, regletref10_one_15, regletref10_one_14, regletref10_one_13, regletref10_one_12, regletref10_one_11, regletref10_one_10, regletref10_one_9, regletref10_one_8, regletref10_one_7, regletref10_one_6, regletref10_one_5, regletref10_one_4, regletref10_one_3, regletref10_one_2, regletref10_one_1, pairsOk, fpApart, meets]
  by_cases o29 : x.op = 29
  · by_cases h1 : x.n = 0
    · by_cases h2 : x.b = -1
      · simp [o29, h1, h2, hpl, regletref10_one_25, regletref10_one_24, regletref10_one_23, regletref10_one_22, regletref10_one_21, regletref10_one_20, regletref10_one_19, regletref10_one_18, regletref10_one_17, regletref10_one_16, regletref10_one_15, regletref10_one_14, regletref10_one_13, regletref10_one_12, regletref10_one_11, regletref10_one_10, regletref10_one_9, regletref10_one_8, regletref10_one_7, regletref10_one_6, regletref10_one_5, regletref10_one_4, regletref10_one_3, regletref10_one_2, regletref10_one_1, pairsOk, fpApart, meets]
      · by_cases h3 : kb = 3 <;> simp [o29, h1, h2, h3, hpl, hkb, regletref10_one_25, regletref10_one_24, regletref10_one_23, regletref10_one_22, regletref10_one_21, regletref10_one_20, regletref10_one_19, regletref10_one_18, regletref10_one_17, regletref10_one_16, regletref10_one_15, regletref10_one_14, regletref10_one_13, regletref10_one_12, regletref10_one_11, regletref10_one_10, regletref10_one_9, regletref10_one_8, regletref10_one_7, regletref10_one_6, regletref10_one_5, regletref10_one_4, regletref10_one_3, regletref10_one_2, regletref10_one_1, pairsOk, fpApart, meets]
    · by_cases h1' : x.n = 1
      · by_cases h2 : x.b = -1
        · simp [o29, h1', h2, hpl, regletref10_one_25, regletref10_one_24, regletref10_one_23, regletref10_one_22, regletref10_one_21, regletref10_one_20, regletref10_one_19, regletref10_one_18, regletref10_one_17, regletref10_one_16, regletref10_one_15, regletref10_one_14, regletref10_one_13, regletref10_one_12, regletref10_one_11, regletref10_one_10, regletref10_one_9, regletref10_one_8, regletref10_one_7, regletref10_one_6, regletref10_one_5, regletref10_one_4, regletref10_one_3, regletref10_one_2, regletref10_one_1, pairsOk, fpApart, meets]
        · by_cases h3 : kb = 3 <;> simp [o29, h1', h2, h3, hpl, hkb, regletref10_one_25, regletref10_one_24, regletref10_one_23, regletref10_one_22, regletref10_one_21, regletref10_one_20, regletref10_one_19, regletref10_one_18, regletref10_one_17, regletref10_one_16, regletref10_one_15, regletref10_one_14, regletref10_one_13, regletref10_one_12, regletref10_one_11, regletref10_one_10, regletref10_one_9, regletref10_one_8, regletref10_one_7, regletref10_one_6, regletref10_one_5, regletref10_one_4, regletref10_one_3, regletref10_one_2, regletref10_one_1, pairsOk, fpApart, meets]
      · simp [o29, h1, h1', regletref10_one_25, regletref10_one_24, regletref10_one_23, regletref10_one_22, regletref10_one_21, regletref10_one_20, regletref10_one_19, regletref10_one_18, regletref10_one_17, regletref10_one_16, regletref10_one_15, regletref10_one_14, regletref10_one_13, regletref10_one_12, regletref10_one_11, regletref10_one_10, regletref10_one_9, regletref10_one_8, regletref10_one_7, regletref10_one_6, regletref10_one_5, regletref10_one_4, regletref10_one_3, regletref10_one_2, regletref10_one_1, pairsOk, fpApart, meets]
  by_cases o30 : x.op = 30
  · by_cases h1 : f.ret = 0
    · simp [o30, h1, regletref10_one_25, regletref10_one_24, regletref10_one_23, regletref10_one_22, regletref10_one_21, regletref10_one_20, regletref10_one_19, regletref10_one_18, regletref10_one_17, regletref10_one_16, regletref10_one_15, regletref10_one_14, regletref10_one_13, regletref10_one_12, regletref10_one_11, regletref10_one_10, regletref10_one_9, regletref10_one_8, regletref10_one_7, regletref10_one_6, regletref10_one_5, regletref10_one_4, regletref10_one_3, regletref10_one_2, regletref10_one_1, pairsOk, fpApart, meets]
    · by_cases h2 : x.a = -1 <;> simp [o30, h1, h2, hka, regletref10_one_25, regletref10_one_24, regletref10_one_23, regletref10_one_22, regletref10_one_21, regletref10_one_20, regletref10_one_19, regletref10_one_18, regletref10_one_17, regletref10_one_16, regletref10_one_15, regletref10_one_14, regletref10_one_13, regletref10_one_12, regletref10_one_11, regletref10_one_10, regletref10_one_9, regletref10_one_8, regletref10_one_7, regletref10_one_6, regletref10_one_5, regletref10_one_4, regletref10_one_3, regletref10_one_2, regletref10_one_1, pairsOk, fpApart, meets]
  · have e : (match x.op with
      | 1 => decide (kd = 2) || (decide (-2147483648 ≤ x.n) && decide (x.n < 2147483648))
      | 4 => decide (kd = ka)
      | 5 => decide (0 < b) && decide (kd = d) && decide (ka = a) && decide (kb = b)
      | 6 => decide (0 < a) && decide (b = 0) && decide (kd = d) && decide (ka = a)
      | 12 => ty
      | 21 => ty
      | 22 => ty
      | 16 => decide (0 ≤ x.n)
      | 17 => decide (0 ≤ x.n)
      | 23 => cl
      | 24 => cl
      | 25 => cl
      | 26 => cl
      | 27 => pl
      | 28 => decide (0 ≤ x.n) && decide (x.n ≤ 5) && pl
      | 29 => (decide (x.n = 0) || decide (x.n = 1)) && (decide (x.b = -1) || decide (kb = 3)) && pl
      | 30 => if f.ret = 0 then decide (x.a = -1) else !decide (x.a = -1) && decide (ka = f.ret)
      | _ => true) = true := by
      split <;> first | rfl | contradiction
    rw [show _ = true from e]
    simp [o1, o4, o5, o6, o12, o21, o22, o16, o17, o23, o24, o25, o26, o27, o28, o29, o30, regletref10_one_25, regletref10_one_24, regletref10_one_23, regletref10_one_22, regletref10_one_21, regletref10_one_20, regletref10_one_19, regletref10_one_18, regletref10_one_17, regletref10_one_16, regletref10_one_15, regletref10_one_14, regletref10_one_13, regletref10_one_12, regletref10_one_11, regletref10_one_10, regletref10_one_9, regletref10_one_8, regletref10_one_7, regletref10_one_6, regletref10_one_5, regletref10_one_4, regletref10_one_3, regletref10_one_2, regletref10_one_1, pairsOk, fpApart, meets]
end Go.Vm
