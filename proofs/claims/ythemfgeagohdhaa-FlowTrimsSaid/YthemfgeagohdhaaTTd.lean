/- The document's answer whether an instruction is well formed. The document's answer whether an instruction is well formed, whole. The document's answer for an instruction is the program's. The document's answer whether a function is well formed: the program's own. The document's Trim. Whether two lists of numbers are the same. Whether two lists of numbers, two instructions are the same; a number in a list. Whether two functions are the same. Short functions, of chapter 11. What a function that is handed in is fit for, for a check. What a function that is handed in is fit for. FlowTrims: a function is trimmed as the document has it. -/
import Derived.Test.YthemfgeagohdhaaTX
import Derived.Test.YthemfgeagohdhaaTTc
set_option linter.unusedSimpArgs false
set_option linter.unusedVariables false
set_option linter.unusedSectionVars false
namespace Go.Vm
open Cel
attribute [local simp] callAny callP heapOf_nil fpCall
def switchM (f : Fn) (x : Ins) : Bool :=
  match x.op with
  | 1 => decide (regK (lst f.regs) x.d = 2) || (decide (-2147483648 ≤ x.n) && decide (x.n < 2147483648))
  | 4 => decide (regK (lst f.regs) x.d = regK (lst f.regs) x.a)
  | 5 => decide (0 < (numK x.n).2.1) && decide (regK (lst f.regs) x.d = (numK x.n).2.2) && decide (regK (lst f.regs) x.a = (numK x.n).1) && decide (regK (lst f.regs) x.b = (numK x.n).2.1)
  | 6 => decide (0 < (numK x.n).1) && decide ((numK x.n).2.1 = 0) && decide (regK (lst f.regs) x.d = (numK x.n).2.2) && decide (regK (lst f.regs) x.a = (numK x.n).1)
  | 12 => typeOk x.s
  | 21 => typeOk x.s
  | 22 => typeOk x.s
  | 16 => decide (0 ≤ x.n)
  | 17 => decide (0 ≤ x.n)
  | 23 => callM (lst f.regs) x
  | 24 => callM (lst f.regs) x
  | 25 => callM (lst f.regs) x
  | 26 => callM (lst f.regs) x
  | 27 => placeOk (lst f.code).length x.t
  | 28 => decide (0 ≤ x.n) && decide (x.n ≤ 5) && placeOk (lst f.code).length x.t
  | 29 => (decide (x.n = 0) || decide (x.n = 1)) && (decide (x.b = -1) || decide (regK (lst f.regs) x.b = 3)) && placeOk (lst f.code).length x.t
  | 30 => if f.ret = 0 then decide (x.a = -1) else !decide (x.a = -1) && decide (regK (lst f.regs) x.a = f.ret)
  | _ => true
def oneM (f : Fn) (x : Ins) : Bool :=
  decide (1 ≤ x.op) && decide (x.op ≤ 33) && (wantM (regK (lst f.regs) x.d) ((rowM x.op).getD 0 0) && (wantM (regK (lst f.regs) x.a) ((rowM x.op).getD 1 0) && (wantM (regK (lst f.regs) x.b) ((rowM x.op).getD 2 0) && (wantM (regK (lst f.regs) x.c) ((rowM x.op).getD 3 0) && switchM f x))))
set_option maxHeartbeats 8000000 in
theorem one_25 (f : Fn) (x : Ins) (hs : x.s.length ≤ 9223372036854775807) (hl : (lst x.args).length ≤ 9223372036854775807) (v55 : AV) (hv : v55 = .int .i64 x.op) :
    q72_25 Q0 Q1 (.int .i64 (numK x.n).1) (.int .i64 (numK x.n).2.1) (.int .i64 (numK x.n).2.2) v55 (H3 f x) = some ⟨.bool (switchM f x), [], true, [], []⟩ := by
  subst hv
  have hkd := s_kind f x.d
  have hka := s_kind f x.a
  have hkb := s_kind f x.b
  have hty := s_RType x.s hs
  have hcl := s_call f x hl
  have hpl := s_place f x.t
  unfold switchM
  generalize regK (lst f.regs) x.d = kd at *
  generalize regK (lst f.regs) x.a = ka at *
  generalize regK (lst f.regs) x.b = kb at *
  generalize typeOk x.s = ty at *
  generalize callM (lst f.regs) x = cl at *
  generalize placeOk (lst f.code).length x.t = pl at *
  generalize numK x.n = k at *
  obtain ⟨a, b, d⟩ := k
  simp only
  by_cases o1 : x.op = 1
  · by_cases h2 : kd = 2
    · simp [o1, q72_25, q72_24, hkd, h2, pairsOk, fpApart, meets]
    · by_cases h3 : -2147483648 ≤ x.n <;> simp [o1, q72_25, q72_24, hkd, h2, h3, pairsOk, fpApart, meets]
  by_cases o4 : x.op = 4
  · simp [o4, q72_25, q72_24, q72_23, q72_22, hkd, hka, pairsOk, fpApart, meets]
  by_cases o5 : x.op = 5
  · by_cases h1 : 0 < b
    · by_cases h2 : kd = d
      · by_cases h3 : ka = a
        · simp [o5, h1, h2, h3, hkd, hka, hkb, q72_25, q72_24, q72_23, q72_22, q72_21, q72_20, q72_19, q72_18, q72_17, q72_16, q72_15, q72_14, q72_13, q72_12, q72_11, q72_10, q72_9, q72_8, q72_7, q72_6, q72_5, q72_4, q72_3, q72_2, q72_1, pairsOk, fpApart, meets]
        · simp [o5, h1, h2, h3, hkd, hka, hkb, q72_25, q72_24, q72_23, q72_22, q72_21, q72_20, q72_19, q72_18, q72_17, q72_16, q72_15, q72_14, q72_13, q72_12, q72_11, q72_10, q72_9, q72_8, q72_7, q72_6, q72_5, q72_4, q72_3, q72_2, q72_1, pairsOk, fpApart, meets]
      · simp [o5, h1, h2, hkd, hka, hkb, q72_25, q72_24, q72_23, q72_22, q72_21, q72_20, q72_19, q72_18, q72_17, q72_16, q72_15, q72_14, q72_13, q72_12, q72_11, q72_10, q72_9, q72_8, q72_7, q72_6, q72_5, q72_4, q72_3, q72_2, q72_1, pairsOk, fpApart, meets]
    · simp [o5, h1, q72_25, q72_24, q72_23, q72_22, q72_21, q72_20, q72_19, q72_18, q72_17, q72_16, q72_15, q72_14, q72_13, q72_12, q72_11, q72_10, q72_9, q72_8, q72_7, q72_6, q72_5, q72_4, q72_3, q72_2, q72_1, pairsOk, fpApart, meets]
  by_cases o6 : x.op = 6
  · by_cases h1 : 0 < a
    · by_cases h2 : b = 0
      · by_cases h3 : kd = d
        · simp [o6, h1, h2, h3, hkd, hka, q72_25, q72_24, q72_23, q72_22, q72_21, q72_20, q72_19, q72_18, q72_17, q72_16, q72_15, q72_14, q72_13, q72_12, q72_11, q72_10, q72_9, q72_8, q72_7, q72_6, q72_5, q72_4, q72_3, q72_2, q72_1, pairsOk, fpApart, meets]
        · simp [o6, h1, h2, h3, hkd, hka, q72_25, q72_24, q72_23, q72_22, q72_21, q72_20, q72_19, q72_18, q72_17, q72_16, q72_15, q72_14, q72_13, q72_12, q72_11, q72_10, q72_9, q72_8, q72_7, q72_6, q72_5, q72_4, q72_3, q72_2, q72_1, pairsOk, fpApart, meets]
      · simp [o6, h1, h2, q72_25, q72_24, q72_23, q72_22, q72_21, q72_20, q72_19, q72_18, q72_17, q72_16, q72_15, q72_14, q72_13, q72_12, q72_11, q72_10, q72_9, q72_8, q72_7, q72_6, q72_5, q72_4, q72_3, q72_2, q72_1, pairsOk, fpApart, meets]
    · simp [o6, h1, q72_25, q72_24, q72_23, q72_22, q72_21, q72_20, q72_19, q72_18, q72_17, q72_16, q72_15, q72_14, q72_13, q72_12, q72_11, q72_10, q72_9, q72_8, q72_7, q72_6, q72_5, q72_4, q72_3, q72_2, q72_1, pairsOk, fpApart, meets]
  by_cases o12 : x.op = 12
  · simp [o12, hty, q72_25, q72_24, q72_23, q72_22, q72_21, q72_20, q72_19, q72_18, q72_17, q72_16, q72_15, q72_14, q72_13, q72_12, q72_11, q72_10, q72_9, q72_8, q72_7, q72_6, q72_5, q72_4, q72_3, q72_2, q72_1, pairsOk, fpApart, meets]
  by_cases o21 : x.op = 21
  · simp [o21, hty, q72_25, q72_24, q72_23, q72_22, q72_21, q72_20, q72_19, q72_18, q72_17, q72_16, q72_15, q72_14, q72_13, q72_12, q72_11, q72_10, q72_9, q72_8, q72_7, q72_6, q72_5, q72_4, q72_3, q72_2, q72_1, pairsOk, fpApart, meets]
  by_cases o22 : x.op = 22
  · simp [o22, hty, q72_25, q72_24, q72_23, q72_22, q72_21, q72_20, q72_19, q72_18, q72_17, q72_16, q72_15, q72_14, q72_13, q72_12, q72_11, q72_10, q72_9, q72_8, q72_7, q72_6, q72_5, q72_4, q72_3, q72_2, q72_1, pairsOk, fpApart, meets]
  by_cases o16 : x.op = 16
  · simp [o16, q72_25, q72_24, q72_23, q72_22, q72_21, q72_20, q72_19, q72_18, q72_17, q72_16, q72_15, q72_14, q72_13, q72_12, q72_11, q72_10, q72_9, q72_8, q72_7, q72_6, q72_5, q72_4, q72_3, q72_2, q72_1, pairsOk, fpApart, meets]
  by_cases o17 : x.op = 17
  · simp [o17, q72_25, q72_24, q72_23, q72_22, q72_21, q72_20, q72_19, q72_18, q72_17, q72_16, q72_15, q72_14, q72_13, q72_12, q72_11, q72_10, q72_9, q72_8, q72_7, q72_6, q72_5, q72_4, q72_3, q72_2, q72_1, pairsOk, fpApart, meets]
  by_cases o23 : x.op = 23
  · simp [o23, hcl, q72_25, q72_24, q72_23, q72_22, q72_21, q72_20, q72_19, q72_18, q72_17, q72_16, q72_15, q72_14, q72_13, q72_12, q72_11, q72_10, q72_9, q72_8, q72_7, q72_6, q72_5, q72_4, q72_3, q72_2, q72_1, pairsOk, fpApart, meets]
  by_cases o24 : x.op = 24
  · simp [o24, hcl, q72_25, q72_24, q72_23, q72_22, q72_21, q72_20, q72_19, q72_18, q72_17, q72_16, q72_15, q72_14, q72_13, q72_12, q72_11, q72_10, q72_9, q72_8, q72_7, q72_6, q72_5, q72_4, q72_3, q72_2, q72_1, pairsOk, fpApart, meets]
  by_cases o25 : x.op = 25
  · simp [o25, hcl, q72_25, q72_24, q72_23, q72_22, q72_21, q72_20, q72_19, q72_18, q72_17, q72_16, q72_15, q72_14, q72_13, q72_12, q72_11, q72_10, q72_9, q72_8, q72_7, q72_6, q72_5, q72_4, q72_3, q72_2, q72_1, pairsOk, fpApart, meets]
  by_cases o26 : x.op = 26
  · simp [o26, hcl, q72_25, q72_24, q72_23, q72_22, q72_21, q72_20, q72_19, q72_18, q72_17, q72_16, q72_15, q72_14, q72_13, q72_12, q72_11, q72_10, q72_9, q72_8, q72_7, q72_6, q72_5, q72_4, q72_3, q72_2, q72_1, pairsOk, fpApart, meets]
  by_cases o28 : x.op = 28
  · by_cases h1 : 0 ≤ x.n
    · by_cases h2 : x.n ≤ 5 <;> simp [o28, h1, h2, hpl, q72_25, q72_24, q72_23, q72_22, q72_21, q72_20, q72_19, q72_18, q72_17, q72_16, q72_15, q72_14, q72_13, q72_12, q72_11, q72_10, q72_9, q72_8, q72_7, q72_6, q72_5, q72_4, q72_3, q72_2, q72_1, pairsOk, fpApart, meets]
    · simp [o28, h1, q72_25, q72_24, q72_23, q72_22, q72_21, q72_20, q72_19, q72_18, q72_17, q72_16, q72_15, q72_14, q72_13, q72_12, q72_11, q72_10, q72_9, q72_8, q72_7, q72_6, q72_5, q72_4, q72_3, q72_2, q72_1, pairsOk, fpApart, meets]
  by_cases o27 : x.op = 27
  · simp [o27, hpl, q72_25, q72_24, q72_23, q72_22, q72_21, q72_20, q72_19, q72_18, q72_17, q72_16, q72_15, q72_14, q72_13, q72_12, q72_11, q72_10, q72_9, q72_8, q72_7, q72_6, q72_5, q72_4, q72_3, q72_2, q72_1, pairsOk, fpApart, meets]
  by_cases o29 : x.op = 29
  · by_cases h1 : x.n = 0
    · by_cases h2 : x.b = -1
      · simp [o29, h1, h2, hpl, q72_25, q72_24, q72_23, q72_22, q72_21, q72_20, q72_19, q72_18, q72_17, q72_16, q72_15, q72_14, q72_13, q72_12, q72_11, q72_10, q72_9, q72_8, q72_7, q72_6, q72_5, q72_4, q72_3, q72_2, q72_1, pairsOk, fpApart, meets]
      · by_cases h3 : kb = 3 <;> simp [o29, h1, h2, h3, hpl, hkb, q72_25, q72_24, q72_23, q72_22, q72_21, q72_20, q72_19, q72_18, q72_17, q72_16, q72_15, q72_14, q72_13, q72_12, q72_11, q72_10, q72_9, q72_8, q72_7, q72_6, q72_5, q72_4, q72_3, q72_2, q72_1, pairsOk, fpApart, meets]
    · by_cases h1' : x.n = 1
      · by_cases h2 : x.b = -1
        · simp [o29, h1', h2, hpl, q72_25, q72_24, q72_23, q72_22, q72_21, q72_20, q72_19, q72_18, q72_17, q72_16, q72_15, q72_14, q72_13, q72_12, q72_11, q72_10, q72_9, q72_8, q72_7, q72_6, q72_5, q72_4, q72_3, q72_2, q72_1, pairsOk, fpApart, meets]
        · by_cases h3 : kb = 3 <;> simp [o29, h1', h2, h3, hpl, hkb, q72_25, q72_24, q72_23, q72_22, q72_21, q72_20, q72_19, q72_18, q72_17, q72_16, q72_15, q72_14, q72_13, q72_12, q72_11, q72_10, q72_9, q72_8, q72_7, q72_6, q72_5, q72_4, q72_3, q72_2, q72_1, pairsOk, fpApart, meets]
      · simp [o29, h1, h1', q72_25, q72_24, q72_23, q72_22, q72_21, q72_20, q72_19, q72_18, q72_17, q72_16, q72_15, q72_14, q72_13, q72_12, q72_11, q72_10, q72_9, q72_8, q72_7, q72_6, q72_5, q72_4, q72_3, q72_2, q72_1, pairsOk, fpApart, meets]
  by_cases o30 : x.op = 30
  · by_cases h1 : f.ret = 0
    · simp [o30, h1, q72_25, q72_24, q72_23, q72_22, q72_21, q72_20, q72_19, q72_18, q72_17, q72_16, q72_15, q72_14, q72_13, q72_12, q72_11, q72_10, q72_9, q72_8, q72_7, q72_6, q72_5, q72_4, q72_3, q72_2, q72_1, pairsOk, fpApart, meets]
    · by_cases h2 : x.a = -1 <;> simp [o30, h1, h2, hka, q72_25, q72_24, q72_23, q72_22, q72_21, q72_20, q72_19, q72_18, q72_17, q72_16, q72_15, q72_14, q72_13, q72_12, q72_11, q72_10, q72_9, q72_8, q72_7, q72_6, q72_5, q72_4, q72_3, q72_2, q72_1, pairsOk, fpApart, meets]
  · have e : (match x.op with
      | 1 => decide (kd = 2) || (decide (-2147483648 ≤ x.n) && decide (x.n < 2147483648))
      | 4 => decide (kd = ka)
      | 5 => decide (0 < b) && decide (kd = d) && decide (ka = a) && decide (kb = b)
      | 6 => decide (0 < a) && decide (b = 0) && decide (kd = d) && decide (ka = a)
      | 12 => ty
      | 21 => ty
      | 22 => ty
      | 16 => decide (0 ≤ x.n)
      | 17 => decide (0 ≤ x.n)
      | 23 => cl
      | 24 => cl
      | 25 => cl
      | 26 => cl
      | 27 => pl
      | 28 => decide (0 ≤ x.n) && decide (x.n ≤ 5) && pl
      | 29 => (decide (x.n = 0) || decide (x.n = 1)) && (decide (x.b = -1) || decide (kb = 3)) && pl
      | 30 => if f.ret = 0 then decide (x.a = -1) else !decide (x.a = -1) && decide (ka = f.ret)
      | _ => true) = true := by
      split <;> first | rfl | contradiction
    rw [show _ = true from e]
    simp [o1, o4, o5, o6, o12, o21, o22, o16, o17, o23, o24, o25, o26, o27, o28, o29, o30, q72_25, q72_24, q72_23, q72_22, q72_21, q72_20, q72_19, q72_18, q72_17, q72_16, q72_15, q72_14, q72_13, q72_12, q72_11, q72_10, q72_9, q72_8, q72_7, q72_6, q72_5, q72_4, q72_3, q72_2, q72_1, pairsOk, fpApart, meets]
end Go.Vm
namespace Go.Vm
open Cel
attribute [local simp] callAny callP heapOf_nil fpCall
def signB (c : UInt8) : Bool := decide (c = 45) || decide (c = 63) || decide (c = 42) || decide (c = 61) || decide (c = 110) || decide (c = 49) || decide (c = 50) || decide (c = 51)
theorem signB_or {c : UInt8} (h : signB c = true) : c = 45 ∨ c = 63 ∨ c = 42 ∨ c = 61 ∨ c = 110 ∨ c = 49 ∨ c = 50 ∨ c = 51 := by
  simp only [signB, Bool.or_eq_true, decide_eq_true_eq] at h
  simp only [or_assoc] at h
  exact h
@[simp] theorem fz_tup3' (h : Heap) (a b c : Int) : fz h fuelF (.tup [.int .i64 a, .int .i64 b, .int .i64 c]) = some ⟨.tup [.int .i64 a, .int .i64 b, .int .i64 c], true, []⟩ := rfl
theorem row_signs : ((List.range 33).all fun i => decide ((rowM (1 + i)).length = 4) && (rowM (1 + i)).all signB) = true := by kernel_rfl
theorem row_ok {op : Int} (h1 : 1 ≤ op) (h2 : op ≤ 33) : (rowM op).length = 4 ∧ (rowM op).all signB = true := by
  have := range_all row_signs (op - 1).toNat (by omega)
  have e : (1 + ((op - 1).toNat : Int)) = op := by omega
  simp only [e, Bool.and_eq_true, decide_eq_true_eq] at this
  exact this
theorem one_field (f : Fn) (x : Ins) (w : List UInt8) (i : Nat) (r : Int) (c : UInt8) (hi : i < 4) (hw : w[i]? = some c) (hc : signB c = true) (hr : [x.d, x.a, x.b, x.c][i]? = some r) :
    q72_L31 Q0 Q1 (.str w) (.ls 2 1 1 0 4) (.int .i64 i) (H3 f x) = if wantM (regK (lst f.regs) r) c then q72_L31 Q0 Q1 (.str w) (.ls 2 1 1 0 4) (.int .i64 (i + 1 : Nat)) (H3 f x) else some ⟨.bool false, [], true, [], []⟩ := by
  have hn : ((i : Int) < (4 : Int)) := by omega
  have hw2 : IntKind.wrap .i64 ((i : Int) + 1) = ((i + 1 : Nat) : Int) := by rw [wrap_i64] <;> omega
  have hs := s_wanted f r c (signB_or hc)
  have k1 : evIxs 1 (.ls 2 1 1 0 4) (.int .i64 i) = some (.lp 2 1 i 0) := by simp [evIxs, hi, hn]
  have k2 : evLd false 1 (.lp 2 1 i 0) (H3 f x) = some (.int .i64 r) := by
    match i, hi, hr with
    | 0, _, hr => simp at hr; simp [hr]
    | 1, _, hr => simp at hr; simp [hr]
    | 2, _, hr => simp at hr; simp [hr]
    | 3, _, hr => simp at hr; simp [hr]
  have k3 := ixstr hw
  rw [q72_L31_go]
  generalize wantM (regK (lst f.regs) r) c = T at *
  simp only [q72_34, evBin_lss, ob_some, hn, decide_true, cnd_t]
  generalize hZ : q72_L31 Q0 Q1 (.str w) (.ls 2 1 1 0 4) (.int .i64 (i + 1 : Nat)) (H3 f x) = Z
  have e32 : q72_32 Q0 Q1 (.str w) (.ls 2 1 1 0 4) (.int .i64 i) (H3 f x) = Z := by
    rw [← hZ]; simp only [q72_32, evBin_add, ob_some, hw2]
  have e5 : evLd true 5 Q0 (H3 f x) = some (.agg (enc f)) := by simp
  simp only [q72_33, k1, k2, k3, e5, ob_some]
  cases T with
  | true => simp [hs, e32, pairsOk]
  | false => simp [hs, pairsOk]
set_option maxHeartbeats 1000000 in
theorem s_one (f : Fn) (x : Ins) (hn : -9223372036854775808 ≤ x.n ∧ x.n < 9223372036854775808) (hs : x.s.length ≤ 9223372036854775807) (hl : (lst x.args).length ≤ 9223372036854775807) :
    (callW E).p 64 [.agg (enc f), .agg (enc x)] = some ⟨.bool (oneM f x), [], true, [], []⟩ := by
  rw [x_q72]
  have hrow := s_row x.op
  by_cases h1 : 1 ≤ x.op
  · by_cases h2 : x.op ≤ 33
    · obtain ⟨hlen, hsg⟩ := row_ok h1 h2
      rw [oneM]
      simp only [h1, h2, decide_true, Bool.true_and]
      generalize rowM x.op = w at *
      match w, hlen, hsg with
      | [c0, c1, c2, c3], _, hsg =>
        simp only [List.all_cons, List.all_nil, Bool.and_true, Bool.and_eq_true] at hsg
        have e0 : q72_41 (.agg (enc f)) (.agg (enc x)) [⟨0, .dead⟩, ⟨0, .dead⟩, ⟨0, .dead⟩] = q72_L31 Q0 Q1 (.str [c0, c1, c2, c3]) (.ls 2 1 1 0 4) (.int .i64 0) (H3 f x) := by
          simp [q72_41, q72_40, q72_39, q72_38, q72_36, hrow, buildSC, fillRows]
        have s0 := one_field f x [c0, c1, c2, c3] 0 x.d c0 (by omega) rfl hsg.1 rfl
        have s1 := one_field f x [c0, c1, c2, c3] 1 x.a c1 (by omega) rfl hsg.2.1 rfl
        have s2 := one_field f x [c0, c1, c2, c3] 2 x.b c2 (by omega) rfl hsg.2.2.1 rfl
        have s3 := one_field f x [c0, c1, c2, c3] 3 x.c c3 (by omega) rfl hsg.2.2.2 rfl
        simp only [Int.ofNat_zero] at s0
        have e4 : q72_L31 Q0 Q1 (.str [c0, c1, c2, c3]) (.ls 2 1 1 0 4) (.int .i64 (3 + 1 : Nat)) (H3 f x) = some ⟨.bool (switchM f x), [], true, [], []⟩ := by
          have h25 := one_25 f x hs hl (.int .i64 x.op) rfl
          show q72_L31 Q0 Q1 (.str [c0, c1, c2, c3]) (.ls 2 1 1 0 4) (.int .i64 4) (H3 f x) = _
          rw [q72_L31_go]
          by_cases hk0 : 0 ≤ x.n
          · by_cases hk1 : x.n < 1000
            · have hK := s_RKinds x.n hk0 hk1
              simp [q72_34, q72_30, q72_29, hk0, hk1, hK, q72_27]
              exact h25
            · have : numK x.n = (0, 0, 0) := numK_out (by omega)
              rw [this] at h25
              simp [q72_34, q72_30, q72_29, hk0, hk1, q72_27]
              exact h25
          · have : numK x.n = (0, 0, 0) := numK_out (by omega)
            rw [this] at h25
            simp [q72_34, q72_30, q72_29, hk0, q72_27]
            exact h25
        rw [e0, s0]
        simp only [List.getD_cons_zero, List.getD_cons_succ]
        cases wantM (regK (lst f.regs) x.d) c0 with
        | false => simp
        | true =>
          rw [if_pos rfl, s1]
          cases wantM (regK (lst f.regs) x.a) c1 with
          | false => simp
          | true =>
            rw [if_pos rfl, s2]
            cases wantM (regK (lst f.regs) x.b) c2 with
            | false => simp
            | true =>
              rw [if_pos rfl, s3]
              cases wantM (regK (lst f.regs) x.c) c3 with
              | false => simp
              | true => rw [if_pos rfl, e4]; simp
    · have : rowM x.op = [] := by rw [rowM, if_pos (by omega)]
      rw [this] at hrow
      simp [q72_41, q72_40, q72_39, hrow, oneM, h2]
  · have : rowM x.op = [] := by rw [rowM, if_pos (by omega)]
    rw [this] at hrow
    simp [q72_41, q72_40, q72_39, hrow, oneM, h1]
end Go.Vm
namespace Go.Vm
theorem numK_ge (n : Int) : 0 ≤ (numK n).1 ∧ 0 ≤ (numK n).2.1 ∧ 0 ≤ (numK n).2.2 ∧ (numK n).1 ≤ 2 ∧ (numK n).2.1 ≤ 2 ∧ (numK n).2.2 ≤ 2 ∧ (¬ (numK n).1 = 0 → ¬ (numK n).2.2 = 0) ∧ (¬ (numK n).2.1 = 0 → ¬ (numK n).1 = 0 ∧ ¬ (numK n).2.2 = 0) := by
  unfold numK
  repeat' split
  all_goals decide
theorem regK_range {R : List Int} (hR : R.all (fun k => decide (1 ≤ k) && decide (k ≤ 3)) = true) (r : Int) : (inR R r = true ∧ (regK R r = 1 ∨ regK R r = 2 ∨ regK R r = 3)) ∨ (inR R r = false ∧ regK R r = 0) := by
  cases h : inR R r with
  | true =>
    obtain ⟨_, h1, h2⟩ := inR_get h
    rw [List.all_eq_true] at hR
    have := hR (regK R r) (List.mem_of_getElem? h2)
    simp only [Bool.and_eq_true, decide_eq_true_eq] at this
    refine .inl ⟨rfl, ?_⟩
    omega
  | false =>
    refine .inr ⟨rfl, ?_⟩
    simp only [inR, Bool.and_eq_false_iff, decide_eq_false_iff_not] at h
    unfold regK
    split
    · rfl
    · rw [List.getD_eq_getElem?_getD, List.getElem?_eq_none (by omega)]; rfl
theorem wrap32 {n : Int} : n = IntKind.wrap .i64 (IntKind.wrap .i32 n) ↔ -2147483648 ≤ n ∧ n < 2147483648 := by
  have h : -2147483648 ≤ IntKind.wrap .i32 n ∧ IntKind.wrap .i32 n < 2147483648 := by
    simp only [IntKind.wrap, IntKind.bits, IntKind.signed]
    simp
    omega
  rw [wrap_i64 (n := IntKind.wrap .i32 n) (by omega) (by omega)]
  constructor
  · intro e; rw [e]; exact h
  · intro e
    simp only [IntKind.wrap, IntKind.bits, IntKind.signed]
    simp
    omega
theorem field_m {R : List Int} {r : Int} : fieldOk R (-1) r = true := by simp [fieldOk]
theorem field_0 {R : List Int} (hR : R.all (fun k => decide (1 ≤ k) && decide (k ≤ 3)) = true) (r : Int) : fieldOk R 0 r = decide (0 < regK R r) := by
  rcases regK_range hR r with ⟨h1, h2⟩ | ⟨h1, h2⟩
  · simp [fieldOk, h1]; omega
  · simp [fieldOk, h1, h2]
theorem field_k {R : List Int} (hR : R.all (fun k => decide (1 ≤ k) && decide (k ≤ 3)) = true) (r k : Int) (hk : 0 < k) : fieldOk R k r = decide (regK R r = k) := by
  have a1 : ¬ k < 0 := by omega
  have a2 : ¬ k ≤ 0 := by omega
  rcases regK_range hR r with ⟨h1, h2⟩ | ⟨h1, h2⟩
  · simp [fieldOk, h1, a1, a2]
  · have : ¬ 0 = k := by omega
    simp [fieldOk, h1, h2, a1, a2, this]
theorem all_in {R : List Int} (hR : R.all (fun k => decide (1 ≤ k) && decide (k ≤ 3)) = true) (l : List Int) : (l.all fun r => !decide (regK R r = 0)) = l.all (inR R) := by
  congr 1
  funext r
  rcases regK_range hR r with ⟨h1, h2⟩ | ⟨h1, h2⟩
  · rw [h1]; simp; omega
  · rw [h1, h2]; rfl
theorem one_5 (f : Fn) (x : Ins) (hR : (lst f.regs).all (fun k => decide (1 ≤ k) && decide (k ≤ 3)) = true) (h : x.op = 5) : oneM f x = rightM f x := by
  have hk := numK_ge x.n
  have Fm := fun r => field_m (R := lst f.regs) (r := r)
  simp only [oneM, rightM, h, kindsM, rowM, rowT, wantM, argsOk, calls, tailOk, leads, switchM, Fm]
  generalize numK x.n = k at *
  obtain ⟨a, b, d⟩ := k
  simp only at hk ⊢
  by_cases hb : b = 0
  · subst hb; simp
  · rw [field_k hR x.d d (by omega), field_k hR x.a a (by omega), field_k hR x.b b (by omega)]
    rw [Bool.eq_iff_iff]
    simp
    omega
theorem one_6 (f : Fn) (x : Ins) (hR : (lst f.regs).all (fun k => decide (1 ≤ k) && decide (k ≤ 3)) = true) (h : x.op = 6) : oneM f x = rightM f x := by
  have hk := numK_ge x.n
  have Fm := fun r => field_m (R := lst f.regs) (r := r)
  simp only [oneM, rightM, h, kindsM, rowM, rowT, wantM, argsOk, calls, tailOk, leads, switchM, Fm]
  generalize numK x.n = k at *
  obtain ⟨a, b, d⟩ := k
  simp only at hk ⊢
  by_cases ha : a = 0
  · subst ha; simp
  · rw [field_k hR x.d d (by omega), field_k hR x.a a (by omega)]
    rw [Bool.eq_iff_iff]
    simp
    omega
theorem one_c (f : Fn) (x : Ins) (hR : (lst f.regs).all (fun k => decide (1 ≤ k) && decide (k ≤ 3)) = true) (h : x.op = 23 ∨ x.op = 24 ∨ x.op = 25 ∨ x.op = 26) : oneM f x = rightM f x := by
  have F0 := field_0 hR
  have Fm := fun r => field_m (R := lst f.regs) (r := r)
  have hA := all_in hR (lst x.args)
  have kd := regK_range hR x.d
  have hc : callM (lst f.regs) x = (!((decide (x.n < 0) && !decide (x.op = 25)) || decide (21 < (lst x.args).length) || (!decide (x.d = -1) && decide (regK (lst f.regs) x.d = 0))) && ((lst x.args).all (inR (lst f.regs)) && lastM (lst f.regs) x)) := by rw [callM, hA]
  cases ha : lst x.args with
  | nil =>
    by_cases hd : x.d = -1 <;> rcases h with h|h|h|h <;> (rw [Bool.eq_iff_iff]; simp [oneM, rightM, h, kindsM, rowM, rowT, wantM, argsOk, calls, tailOk, leads, switchM, hc, lastM, firstOk, ha, hd, F0, Fm]; try omega)
  | cons r t =>
    rw [ha] at hc
    generalize hg : (r :: t).all (inR (lst f.regs)) = A at *
    generalize hl : (r :: t).length = n at *
    by_cases hd : x.d = -1 <;> rcases h with h|h|h|h <;> (rw [Bool.eq_iff_iff]; simp [oneM, rightM, h, kindsM, rowM, rowT, wantM, argsOk, calls, tailOk, leads, switchM, hc, lastM, firstOk, ha, hd, F0, Fm]; first | (simp at hl hg; omega) | (simp at hl hg; grind) | skip)
theorem one_out (f : Fn) (x : Ins) (h : x.op < 1 ∨ 33 < x.op) : oneM f x = rightM f x := by
  rw [oneM, rightM, kindsM_out h]
  rcases h with h | h
  · have : ¬ 1 ≤ x.op := by omega
    simp [this]
  · have : ¬ x.op ≤ 33 := by omega
    simp [this]
set_option maxHeartbeats 4000000 in
theorem one_right (f : Fn) (x : Ins) (hR : (lst f.regs).all (fun k => decide (1 ≤ k) && decide (k ≤ 3)) = true) : oneM f x = rightM f x := by
  have F0 := field_0 hR
  have F1 := fun r => field_k hR r 1 (by omega)
  have F3 := fun r => field_k hR r 3 (by omega)
  have Fm := fun r => field_m (R := lst f.regs) (r := r)
  have hA := all_in hR (lst x.args)
  have kd := regK_range hR x.d
  have ka := regK_range hR x.a
  have hd : 0 < regK (lst f.regs) x.d ↔ ¬ regK (lst f.regs) x.d = 0 := by rcases kd with ⟨_, h⟩ | ⟨_, h⟩ <;> omega
  have hw := @wrap32 x.n
  rcases op_cases x.op with h|h|h|h|h|h|h|h|h|h|h|h|h|h|h|h|h|h|h|h|h|h|h|h|h|h|h|h|h|h|h|h|h|h|h
  all_goals first
    | (simp [oneM, rightM, h, kindsM, rowM, rowT, wantM, argsOk, calls, tailOk, leads, switchM, F0, F1, F3, Fm, placeOk, Bool.and_assoc]; done)
    | skip
  all_goals first
    | exact one_5 f x hR h
    | exact one_6 f x hR h
    | exact one_out f x (.inl h)
    | exact one_out f x (.inr h)
    | exact one_c f x hR (.inl h)
    | exact one_c f x hR (.inr (.inl h))
    | exact one_c f x hR (.inr (.inr (.inl h)))
    | exact one_c f x hR (.inr (.inr (.inr h)))
    | (rw [Bool.eq_iff_iff]; simp [oneM, rightM, h, kindsM, rowM, rowT, wantM, argsOk, calls, tailOk, leads, switchM, F0, F1, F3, Fm, placeOk]; omega)
    | (rw [Bool.eq_iff_iff]; simp [oneM, rightM, h, kindsM, rowM, rowT, wantM, argsOk, calls, tailOk, leads, switchM, F0, F1, F3, Fm, placeOk]; grind)
    | exact one_5 f x hR h
    | exact one_6 f x hR h
    | exact one_out f x (.inl h)
    | exact one_out f x (.inr h)
    | exact one_c f x hR (.inl h)
    | exact one_c f x hR (.inr (.inl h))
    | exact one_c f x hR (.inr (.inr (.inl h)))
    | exact one_c f x hR (.inr (.inr (.inr h)))
end Go.Vm
namespace Go.Vm
open Cel
attribute [local simp] callAny callP heapOf_nil fpCall
theorem RC_rows (f : Fn) (o1 : AO) (n : Int) (hn : n = (lst f.code).length) (hl : (lst f.rows).length ≤ 9223372036854775807) : ∀ (d i : Nat) (o2 : AO), i + d = (lst f.rows).length →
    q60_L2 P0 (.int .i64 n) (.int .i64 i) (HC f o1 o2) = if ((lst f.rows).drop i).all (rowOk (lst f.code)) then E0 else E80 := by
  intro d
  induction d with
  | zero =>
    intro i o2 hi
    have e1 : (lst f.rows).drop i = [] := List.drop_eq_nil_of_le (by omega)
    have hn : ¬ ((i : Int) < ((lst f.rows).length : Int)) := by omega
    rw [q60_L2_go, e1]
    simp [q60_5, q60_1, hn]
  | succ d ih =>
    intro i o2 hi
    have hlt : i < (lst f.rows).length := by omega
    have hc : ((i : Int) < ((lst f.rows).length : Int)) := by omega
    have k1 := ixs_row (o := f.rows) (i := i) (List.getElem?_eq_getElem hlt) .i64
    rw [q60_L2_go]
    have e1 : ((lst f.rows).drop i).all (rowOk (lst f.code)) = (rowOk (lst f.code) (lst f.rows)[i] && ((lst f.rows).drop (i + 1)).all (rowOk (lst f.code))) := by rw [List.drop_eq_getElem_cons hlt, List.all_cons]
    rw [e1]
    generalize hr : (lst f.rows)[i] = r at *
    have ih := fun o2 => ih (i + 1) o2 (by omega)
    push_cast at ih
    subst hn
    by_cases h1 : r.f < 0
    · simp [q60_5, hc, q60_4, k1, rowOk, h1]
    by_cases h2 : r.t ≤ r.f
    · simp [q60_5, hc, q60_4, k1, rowOk, h1, h2]
    by_cases h3 : ((lst f.code).length : Int) < r.t
    · simp [q60_5, hc, q60_4, k1, rowOk, h1, h2, h3]
    by_cases h4 : r.at_ < 0
    · have : ¬ 0 ≤ r.at_ := by omega
      simp [q60_5, hc, q60_4, k1, rowOk, h1, h2, h3, h4, placeOk, this]
    by_cases h5 : ((lst f.code).length : Int) ≤ r.at_
    · have : ¬ r.at_ < ((lst f.code).length : Int) := by omega
      simp [q60_5, hc, q60_4, k1, rowOk, h1, h2, h3, h4, h5, placeOk, this]
    · have hx : r.at_.toNat < (lst f.code).length := by omega
      have a1 : 0 ≤ r.at_ := by omega
      have a2 : r.at_ < ((lst f.code).length : Int) := by omega
      have k2 := ixs_insI (o := f.code) (n := r.at_) (by omega) (List.getElem?_eq_getElem hx) .i64
      by_cases h6 : ((lst f.code)[r.at_.toNat]).op = 32
      · simp [q60_5, hc, q60_4, k1, rowOk, h1, h2, h3, h4, h5, placeOk, a1, a2, k2, h6, hx, q60_3, wrap_up hlt hl, ih]
      · simp [q60_5, hc, q60_4, k1, rowOk, h1, h2, h3, h4, h5, placeOk, a1, a2, k2, h6, hx]
theorem RC_regs (f : Fn) (o1 o2 : AO) (n : Int) (hl : (lst f.regs).length ≤ 9223372036854775807) : ∀ (d i : Nat), i + d = (lst f.regs).length →
    q60_L23 P0 (.int .i64 n) (.int .i64 i) (HC f o1 o2) = if ((lst f.regs).drop i).all (fun k => decide (1 ≤ k) && decide (k ≤ 3)) then q60_21 P0 (.int .i64 n) (HC f o1 o2) else E80 := by
  intro d
  induction d with
  | zero =>
    intro i hi
    have e1 : (lst f.regs).drop i = [] := List.drop_eq_nil_of_le (by omega)
    have hn : ¬ ((i : Int) < ((lst f.regs).length : Int)) := by omega
    rw [q60_L23_go, e1]
    simp [q60_26, hn]
  | succ d ih =>
    intro i hi
    have hlt : i < (lst f.regs).length := by omega
    have hc : ((i : Int) < ((lst f.regs).length : Int)) := by omega
    have k1 := ixs_int (o := f.regs) (i := i) (List.getElem?_eq_getElem hlt) .i64
    have e1 : ((lst f.regs).drop i).all (fun k => decide (1 ≤ k) && decide (k ≤ 3)) = ((decide (1 ≤ (lst f.regs)[i]) && decide ((lst f.regs)[i] ≤ 3)) && ((lst f.regs).drop (i + 1)).all (fun k => decide (1 ≤ k) && decide (k ≤ 3))) := by
      rw [List.drop_eq_getElem_cons hlt, List.all_cons]
    rw [q60_L23_go, e1]
    generalize hr : (lst f.regs)[i] = r at *
    have ih := ih (i + 1) (by omega)
    push_cast at ih
    by_cases h1 : r < 1
    · have : ¬ 1 ≤ r := by omega
      simp [q60_26, hc, q60_25, k1, h1, this]
    by_cases h2 : 3 < r
    · have : ¬ r ≤ 3 := by omega
      simp [q60_26, hc, q60_25, k1, h1, h2, this]
    · have a1 : 1 ≤ r := by omega
      have a2 : r ≤ 3 := by omega
      simp [q60_26, hc, q60_25, k1, h1, h2, a1, a2, q60_24, wrap_up hlt hl, ih]
def parR (R : List Int) : List Int → List Int → Bool
  | _, [] => true
  | seen, p :: r => (inR R p && !seen.contains p) && parR R (seen ++ [p]) r
theorem RC_params (f : Fn) (o1 o2 : AO) (n : Int) (hR : (lst f.regs).all (fun k => decide (1 ≤ k) && decide (k ≤ 3)) = true) (hl : (lst f.params).length ≤ 9223372036854775807) : ∀ (d i : Nat), i + d = (lst f.params).length →
    q60_L16 P0 (.int .i64 n) (.int .i64 i) (HC f o1 o2) = if parR (lst f.regs) ((lst f.params).take i) ((lst f.params).drop i) then q60_14 P0 (.int .i64 n) (HC f o1 o2) else E80 := by
  intro d
  induction d with
  | zero =>
    intro i hi
    have e1 : (lst f.params).drop i = [] := List.drop_eq_nil_of_le (by omega)
    have hn : ¬ ((i : Int) < ((lst f.params).length : Int)) := by omega
    rw [q60_L16_go, e1]
    simp [q60_19, hn, parR]
  | succ d ih =>
    intro i hi
    have hlt : i < (lst f.params).length := by omega
    have hc : ((i : Int) < ((lst f.params).length : Int)) := by omega
    have k1 := ixs_int (o := f.params) (i := i) (List.getElem?_eq_getElem hlt) .i64
    have ks := slc_to (α := Int) f.params i (by omega) .i64
    simp only [es_int] at ks
    have hlm : lst (f.params.map (List.take i)) = (lst f.params).take i := by cases f.params <;> simp
    have e1 : parR (lst f.regs) ((lst f.params).take i) ((lst f.params).drop i) = ((inR (lst f.regs) (lst f.params)[i] && !((lst f.params).take i).contains (lst f.params)[i]) && parR (lst f.regs) ((lst f.params).take (i + 1)) ((lst f.params).drop (i + 1))) := by
      rw [List.drop_eq_getElem_cons hlt, parR, List.take_append_getElem]
    rw [q60_L16_go, e1]
    have hct : (callW E).p 42 [.int .i64 (lst f.params)[i], slA (f.params.map (List.take i))] = some ⟨.bool (((lst f.params).take i).contains (lst f.params)[i]), [], true, [], []⟩ := by
      rw [s_in _ _ (by rw [hlm, List.length_take]; omega), hlm, List.contains_eq_mem]
    generalize hr : (lst f.params)[i] = r at *
    generalize ((lst f.params).take i).contains r = B at *
    have ih := ih (i + 1) (by omega)
    push_cast at ih
    have hs := s_kind f r
    rcases regK_range hR r with ⟨a1, a2⟩ | ⟨a1, a2⟩
    · have hz : ¬ regK (lst f.regs) r = 0 := by omega
      rw [a1]
      generalize regK (lst f.regs) r = k at *
      cases B with
      | true => simp [q60_19, hc, q60_18, k1, hs, hz, ks, hct, pairsOk]
      | false =>
        simp [q60_19, hc, q60_18, k1, hs, hz, ks, hct, pairsOk, q60_17, wrap_up hlt hl]
        exact ih
    · rw [a2] at hs
      simp [q60_19, hc, q60_18, k1, hs, a1, pairsOk]
theorem RC_one (f : Fn) (o2 : AO) (n : Int) (x : Ins) (i g : Nat) (hR : (lst f.regs).all (fun k => decide (1 ≤ k) && decide (k ≤ 3)) = true) (fit : InsFit x) (hi : i < (lst f.code).length) (hl : (lst f.code).length ≤ 9223372036854775807) (hx : (lst f.code)[i]? = some x) (oc : OC) :
    q60_11 P0 (.int .i64 n) (.int .i64 i) (HC f ⟨g, oc⟩ o2) =
      if rightM f x && spotOk (lst f.code) i x then q60_10 P0 (.int .i64 n) (.int .i64 i) (HC f ⟨g + 1, .arr true false 9 [enc x]⟩ o2) else E80 := by
  have k0 := ixs_ins (o := f.code) (i := i) hx .i64
  have h1 := s_one f x fit.n fit.s fit.a
  rw [one_right f x hR] at h1
  cases hok : rightM f x with
  | false =>
    rw [hok] at h1
    simp [q60_11, k0, h1]
  | true =>
    have ht := right_leads (f := f) (x := x) hok
    rw [hok] at h1
    by_cases h32 : x.op = 32
    · have hld : leads 32 = false := by simp [leads]
      by_cases h0 : i = 0
      · subst h0
        simp only [Int.ofNat_zero] at k0
        simp [q60_11, k0, h1, h32, spotOk]
      · have h0' : ¬ ((i : Int) = 0) := by omega
        have hp : i - 1 < (lst f.code).length := by omega
        have k1 := ixs_ins (o := f.code) (i := i - 1) (List.getElem?_eq_getElem hp) .i64
        have hw : IntKind.wrap .i64 ((i : Int) - 1) = ((i - 1 : Nat) : Int) := by rw [wrap_i64] <;> omega
        cases he : ends ((lst f.code)[i - 1]).op with
        | true => simp [q60_11, k0, h1, h32, spotOk, h0, h0', hw, k1, hp, he, hld]
        | false => simp [q60_11, k0, h1, h32, spotOk, h0, h0', hw, k1, hp, he]
    · cases hld : leads x.op with
      | false => simp [q60_11, k0, h1, h32, spotOk, hld]
      | true =>
        obtain ⟨t0, t1⟩ := ht hld
        have hxt : x.t.toNat < (lst f.code).length := by omega
        have k2 := ixs_insI (o := f.code) (n := x.t) t0 (List.getElem?_eq_getElem hxt) .i64
        by_cases h6 : ((lst f.code)[x.t.toNat]).op = 32
        · simp [q60_11, k0, h1, h32, spotOk, hld, k2, h6, hxt]
        · simp [q60_11, k0, h1, h32, spotOk, hld, k2, h6, hxt]
theorem RC_code (f : Fn) (o2 : AO) (n : Int) (hn : n = (lst f.code).length) (hR : (lst f.regs).all (fun k => decide (1 ≤ k) && decide (k ≤ 3)) = true) (hfit : ∀ x ∈ lst f.code, InsFit x) (hl : (lst f.code).length ≤ 9223372036854775807) : ∀ (d i : Nat) (o1 : AO), i + d = (lst f.code).length →
    ∃ o1', q60_L9 P0 (.int .i64 n) (.int .i64 i) (HC f o1 o2) = if codeOk f (lst f.code) i ((lst f.code).drop i) then q60_7 P0 (.int .i64 n) (HC f o1' o2) else E80 := by
  intro d
  induction d with
  | zero =>
    intro i o1 hi
    have e1 : (lst f.code).drop i = [] := List.drop_eq_nil_of_le (by omega)
    have hnl : ¬ ((i : Int) < n) := by omega
    rw [q60_L9_go, e1]
    exact ⟨o1, by simp [q60_12, hnl, codeOk]⟩
  | succ d ih =>
    intro i o1 hi
    have hlt : i < (lst f.code).length := by omega
    have hc : ((i : Int) < n) := by omega
    have e1 : codeOk f (lst f.code) i ((lst f.code).drop i) = (rightM f (lst f.code)[i] && spotOk (lst f.code) i (lst f.code)[i] && codeOk f (lst f.code) (i + 1) ((lst f.code).drop (i + 1))) := by
      rw [List.drop_eq_getElem_cons hlt, codeOk]
    have fit := hfit _ (List.getElem_mem hlt)
    have hone := RC_one f o2 n _ i o1.gen hR fit hlt hl (List.getElem?_eq_getElem hlt) o1.c
    rw [q60_L9_go, e1]
    generalize (lst f.code)[i] = x at *
    generalize (rightM f x && spotOk (lst f.code) i x) = G at *
    simp only [q60_12, evBin_lss, ob_some, hc, decide_true, cnd_t, hone]
    cases G with
    | false => exact ⟨o1, by simp⟩
    | true =>
      obtain ⟨o1', ih⟩ := ih (i + 1) ⟨o1.gen + 1, .arr true false 9 [enc x]⟩ (by omega)
      push_cast at ih
      exact ⟨o1', by simp [q60_10, wrap_up hlt hl, ih]⟩
theorem par_same (R : List Int) : ∀ (l : List Int) (i : Nat) (seen : List Int), i + l.length ≤ 21 → parOk R i seen l = parR R seen l
  | [], _, _, _ => rfl
  | p :: r, i, seen, h => by
    simp only [List.length_cons] at h
    have : i ≤ 20 := by omega
    rw [parOk, parR, par_same R r (i + 1) (seen ++ [p]) (by omega)]
    simp [this]
theorem par_long (R : List Int) : ∀ (l : List Int) (i : Nat) (seen : List Int), 21 < i + l.length → i ≤ 21 → parOk R i seen l = false
  | [], i, _, h, h2 => by simp at h; omega
  | p :: r, i, seen, h, h2 => by
    simp only [List.length_cons] at h
    rw [parOk]
    by_cases hi : i ≤ 20
    · rw [par_long R r (i + 1) (seen ++ [p]) (by omega) (by omega)]; simp
    · simp [hi]
set_option maxRecDepth 100000 in
set_option maxHeartbeats 1000000 in
theorem s_RCheck (f : Fn) (hf : FnFit f) : (callW E).p 29 [.agg (enc f)] = some ⟨.int .i64 (if wf f then 0 else 80), [], true, [], []⟩ := by
  rw [x_q60]
  by_cases h0 : (lst f.code).length = 0
  · have h0' : ((lst f.code).length : Int) = 0 := by omega
    have : ¬ 1 ≤ (lst f.code).length := by omega
    simp [q60_32, q60_31, q60_30, h0', wf, this]
  have h0' : ¬ ((lst f.code).length : Int) = 0 := by omega
  have hne : ¬ lst f.code = [] := fun h => h0 (by rw [h]; rfl)
  have g1 : 1 ≤ (lst f.code).length := by omega
  by_cases h2 : 20000 < (lst f.code).length
  · have h2' : (20000 : Int) < ((lst f.code).length : Int) := by omega
    have : ¬ (lst f.code).length ≤ 20000 := by omega
    simp [q60_32, q60_31, q60_30, h0', hne, h2', wf, this]
  have h2' : ¬ (20000 : Int) < ((lst f.code).length : Int) := by omega
  have g2 : (lst f.code).length ≤ 20000 := by omega
  by_cases h3 : 20000 < (lst f.regs).length
  · have h3' : (20000 : Int) < ((lst f.regs).length : Int) := by omega
    have : ¬ (lst f.regs).length ≤ 20000 := by omega
    simp [q60_32, q60_31, q60_30, h0', hne, h2', h3', wf, this]
  have h3' : ¬ (20000 : Int) < ((lst f.regs).length : Int) := by omega
  have g3 : (lst f.regs).length ≤ 20000 := by omega
  by_cases hp : 21 < (lst f.params).length
  · have hp' : (21 : Int) < ((lst f.params).length : Int) := by omega
    have := par_long (lst f.regs) (lst f.params) 0 [] (by omega) (by omega)
    simp [q60_32, q60_31, q60_30, h0', hne, h2', h3', hp', wf, this]
  have hp' : ¬ (21 : Int) < ((lst f.params).length : Int) := by omega
  by_cases h4 : f.ret < 0
  · have : ¬ 0 ≤ f.ret := by omega
    simp [q60_32, q60_31, q60_30, h0', hne, h2', h3', hp', h4, wf, this]
  have g4 : 0 ≤ f.ret := by omega
  by_cases h5 : 3 < f.ret
  · have : ¬ f.ret ≤ 3 := by omega
    simp [q60_32, q60_31, q60_30, h0', hne, h2', h3', hp', h4, h5, wf, this]
  have g5 : f.ret ≤ 3 := by omega
  have hpl : (lst f.code).length - 1 < (lst f.code).length := by omega
  have k1 := ixs_ins (o := f.code) (i := (lst f.code).length - 1) (List.getElem?_eq_getElem hpl) .i64
  have hw : IntKind.wrap .i64 (((lst f.code).length : Int) - 1) = (((lst f.code).length - 1 : Nat) : Int) := by rw [wrap_i64] <;> omega
  have hg : (lst f.code).getD ((lst f.code).length - 1) default = (lst f.code)[(lst f.code).length - 1] := by rw [List.getD_eq_getElem?_getD, List.getElem?_eq_getElem hpl]; rfl
  cases he : ends ((lst f.code)[(lst f.code).length - 1]).op with
  | false =>
    have hwf : wf f = false := by rw [wf, hg, he]; simp
    rw [hwf]
    simp [q60_32, q60_31, q60_30, h0', hne, h2', h3', hp', h4, h5, hw, k1, he]
  | true =>
    have hps := par_same (lst f.regs) (lst f.params) 0 [] (by omega)
    have hwf : wf f = ((lst f.regs).all (fun k => decide (1 ≤ k) && decide (k ≤ 3)) && parR (lst f.regs) [] (lst f.params) && codeOk f (lst f.code) 0 (lst f.code) && (lst f.rows).all (rowOk (lst f.code))) := by
      rw [wf, hg, he, hps]
      simp only [g1, g2, g3, g4, g5, decide_true, Bool.true_and]
    have e : q60_32 (.agg (enc f)) [⟨0, .dead⟩, ⟨0, .dead⟩, ⟨0, .dead⟩] = q60_L23 P0 (.int .i64 (lst f.code).length) (.int .i64 0) (HC f ⟨0, .dead⟩ ⟨0, .dead⟩) := by
      simp [q60_32, q60_31, q60_30, h0', hne, h2', h3', hp', h4, h5, hw, k1, he, q60_1, q60_3, q60_4, q60_5, q60_7, q60_10, q60_11, q60_12, q60_14, q60_17, q60_18, q60_19, q60_21, q60_24, q60_25, q60_26, q60_28, q60_30, q60_31, q60_32]
    have a1 := RC_regs f ⟨0, .dead⟩ ⟨0, .dead⟩ (lst f.code).length hf.regs _ 0 (Nat.zero_add _)
    simp only [Int.ofNat_zero, List.drop_zero] at a1
    rw [e, a1, hwf]
    cases hR : (lst f.regs).all (fun k => decide (1 ≤ k) && decide (k ≤ 3)) with
    | false => simp
    | true =>
      have a2 := RC_params f ⟨0, .dead⟩ ⟨0, .dead⟩ (lst f.code).length hR hf.params _ 0 (Nat.zero_add _)
      obtain ⟨o1', a3⟩ := RC_code f ⟨0, .dead⟩ _ rfl hR hf.ins hf.code _ 0 ⟨0, .dead⟩ (Nat.zero_add _)
      have a4 := RC_rows f o1' _ rfl hf.rows _ 0 ⟨0, .dead⟩ (Nat.zero_add _)
      simp only [Int.ofNat_zero, List.drop_zero, List.take_zero] at a2 a3 a4
      have e2 : q60_21 P0 (.int .i64 (lst f.code).length) (HC f ⟨0, .dead⟩ ⟨0, .dead⟩) = q60_L16 P0 (.int .i64 (lst f.code).length) (.int .i64 0) (HC f ⟨0, .dead⟩ ⟨0, .dead⟩) := by simp [q60_1, q60_3, q60_4, q60_5, q60_7, q60_10, q60_11, q60_12, q60_14, q60_17, q60_18, q60_19, q60_21, q60_24, q60_25, q60_26, q60_28, q60_30, q60_31, q60_32]
      have e3 : q60_14 P0 (.int .i64 (lst f.code).length) (HC f ⟨0, .dead⟩ ⟨0, .dead⟩) = q60_L9 P0 (.int .i64 (lst f.code).length) (.int .i64 0) (HC f ⟨0, .dead⟩ ⟨0, .dead⟩) := by simp [q60_1, q60_3, q60_4, q60_5, q60_7, q60_10, q60_11, q60_12, q60_14, q60_17, q60_18, q60_19, q60_21, q60_24, q60_25, q60_26, q60_28, q60_30, q60_31, q60_32]
      have e4 : q60_7 P0 (.int .i64 (lst f.code).length) (HC f o1' ⟨0, .dead⟩) = q60_L2 P0 (.int .i64 (lst f.code).length) (.int .i64 0) (HC f o1' ⟨0, .dead⟩) := by simp [q60_1, q60_3, q60_4, q60_5, q60_7, q60_10, q60_11, q60_12, q60_14, q60_17, q60_18, q60_19, q60_21, q60_24, q60_25, q60_26, q60_28, q60_30, q60_31, q60_32]
      rw [e2, a2, e3, a3, e4, a4]
      generalize parR (lst f.regs) [] (lst f.params) = b2
      generalize codeOk f (lst f.code) 0 (lst f.code) = b3
      generalize (lst f.rows).all (rowOk (lst f.code)) = b4
      cases b2 <;> cases b3 <;> cases b4 <;> rfl
end Go.Vm
namespace Go.Vm
open Cel
noncomputable def plcP (f : Fn) (k : Nat) : List Int := (List.range k).map fun j => (plc f j : Int)
theorem plcP_len (f : Fn) (k : Nat) : (plcP f k).length = k := by simp [plcP]
theorem plcP_succ (f : Fn) (k : Nat) : plcP f (k + 1) = plcP f k ++ [(plc f k : Int)] := by simp [plcP, List.range_succ]
theorem plcP_get {f : Fn} {j n : Nat} (h : j < n) : (plcP f n)[j]? = some (plc f j : Int) := by simp [plcP, h]
theorem slotV_ne {α : Type} [Cel α] {j g : Nat} {L : List α} (h : L ≠ []) : slotV α j g L = .ls j g (es α) 0 L.length := by
  cases L with
  | nil => exact (h rfl).elim
  | cons x L => rfl
theorem slotO_ne {α : Type} [Cel α] {g : Nat} {o : AO} {L : List α} (h : L ≠ []) : slotO g o L = ⟨g, .arr false false (es α) (L.map enc)⟩ := by
  cases L with
  | nil => exact (h rfl).elim
  | cons x L => rfl
theorem keep_row {f : Fn} {r : Row} (h : RowIn f r) : keepB f r.at_.toNat = (reachL f).getD r.at_.toNat false := by
  rw [keepB, h.op]; simp
section
variable (f : Fn) (w : Wf f)
include w
noncomputable abbrev KR (f : Fn) : AV := slA (some (reachL f))
theorem kr_at {i : Nat} (h : i < (lst f.code).length) (k : IntKind) : evIxs 1 (KR f) (.int k (i : Int)) = some (.rp [.bool ((reachL f).getD i false)]) := by
  have hr : i < (reachL f).length := by rw [reachL_len]; exact h
  have := evIxs_sl (α := Bool) (o := some (reachL f)) (x := (reachL f)[i]) (List.getElem?_eq_getElem hr) k
  rw [List.getD_eq_getElem?_getD, List.getElem?_eq_getElem hr]
  exact this
theorem kr_atI {p : Int} (h0 : 0 ≤ p) (h : p < (lst f.code).length) (k : IntKind) : evIxs 1 (KR f) (.int k p) = some (.rp [.bool ((reachL f).getD p.toNat false)]) := by
  obtain ⟨i, rfl⟩ := Int.eq_ofNat_of_zero_le h0
  exact kr_at f w (by omega) k
theorem RTrim_place (o1 o4 o5 o6 o7 o8 o9 o10 o11 o12 : AO) : ∀ (d i g : Nat) (o2 : AO), i + d = (lst f.code).length →
    ∃ g' o2', q82_L23 (.lp 0 1 0 0) (.lp 1 1 0 0) (KR f) (slotV Int 3 g (plcP f i)) (.int .i64 (plc f i)) (.int .i64 i) [AB f, o1, o2, slotO g D0 (plcP f i), o4, o5, o6, o7, o8, o9, o10, o11, o12] =
      q82_22 (.lp 0 1 0 0) (.lp 1 1 0 0) (KR f) (slotV Int 3 g' (plcP f (lst f.code).length)) (.int .i64 (plc f (lst f.code).length)) [AB f, o1, o2', slotO g' D0 (plcP f (lst f.code).length), o4, o5, o6, o7, o8, o9, o10, o11, o12] := by
  have hl := w.n2
  intro d
  induction d with
  | zero =>
    intro i g o2 hi
    have hi' : i = (lst f.code).length := by omega
    have hn : ¬ ((i : Int) < ((lst f.code).length : Int)) := by omega
    have l0 : ∀ t : Heap, evLd false 1 (.lp 0 1 0 3) (AB f :: t) = some (slA f.code) := fun t => by simp
    refine ⟨g, o2, ?_⟩
    rw [q82_L23_go]
    simp only [q82_26, evFa_lp, ob_some, Nat.zero_add, l0, evLen_sl, evBin_lss, hn, decide_false, cnd_f]
    rw [hi']
  | succ d ih =>
    intro i g o2 hi
    have hlt : i < (lst f.code).length := by omega
    have hc : ((i : Int) < ((lst f.code).length : Int)) := by omega
    have k1 := ixs_ins (o := f.code) (i := i) (insAt_lt hlt) .i64
    have hw := wrap_up hlt (by omega)
    have hle := plc_le f i
    have hw2 : IntKind.wrap .i64 ((plc f i : Int) + 1) = (plc f i : Int) + 1 := by rw [wrap_i64] <;> omega
    have l0 : ∀ t : Heap, evLd false 1 (.lp 0 1 0 3) (AB f :: t) = some (slA f.code) := fun t => by simp
    have h38 : (plcP f i).length ≤ 2 ^ 38 := by
      have : (2:Nat)^38 = 274877906944 := by decide
      rw [plcP_len]
      omega
    obtain ⟨g2, ha⟩ := app_int (H := [AB f, o1, ⟨o2.gen + 1, .arr false false 1 [[.int .i64 (plc f i)]]⟩, slotO g D0 (plcP f i), o4, o5, o6, o7, o8, o9, o10, o11, o12]) (fb := 0) (j := 3) (g := g) (o := D0) (y := .ls 2 (o2.gen + 1) 1 0 1) (L := plcP f i) (n := plc f i) (by simp) rfl h38
    rw [← plcP_succ] at ha
    have ha' : evApp 0 (some 3) 1 8 (slotV Int 3 g (plcP f i)) (.ls 2 (o2.gen + 1) 1 0 1) [AB f, o1, ⟨o2.gen + 1, .arr false false 1 [[.int .i64 (plc f i)]]⟩, slotO g D0 (plcP f i), o4, o5, o6, o7, o8, o9, o10, o11, o12] =
        some (slotV Int 3 g2 (plcP f (i + 1)), [AB f, o1, ⟨o2.gen + 1, .arr false false 1 [[.int .i64 (plc f i)]]⟩, slotO g2 D0 (plcP f (i + 1)), o4, o5, o6, o7, o8, o9, o10, o11, o12]) := ha
    obtain ⟨g', o2', ih⟩ := ih (i + 1) g2 ⟨o2.gen + 1, .arr false false 1 [[.int .i64 (plc f i)]]⟩ (by omega)
    push_cast at ih
    refine ⟨g', o2', ?_⟩
    have bs : buildSC 0 (some 2) 1 1 [.int .i64 0] [(0, .int .i64 (plc f i))] [AB f, o1, o2, slotO g D0 (plcP f i), o4, o5, o6, o7, o8, o9, o10, o11, o12] = some (.ls 2 (o2.gen + 1) 1 0 1, [AB f, o1, ⟨o2.gen + 1, .arr false false 1 [[.int .i64 (plc f i)]]⟩, slotO g D0 (plcP f i), o4, o5, o6, o7, o8, o9, o10, o11, o12]) := by
      simp [buildSC, fillRows]
    have kk := kr_at f w hlt .i64
    have lk : ∀ (b : Bool) (H : Heap), evLd false 1 (.rp [.bool b]) H = some (.bool b) := fun b H => by simp
    have fa0 : evFa 0 (.rp (enc (insAt f i))) = some (.rp (enc (insAt f i))) := rfl
    have lo : ∀ (H : Heap), evLd false 1 (.rp (enc (insAt f i))) H = some (.int .i64 (insAt f i).op) := fun H => by simp
    rw [q82_L23_go, ← ih]
    cases hr : (reachL f).getD i false with
    | false =>
      rw [hr] at kk
      have hp : plc f (i + 1) = plc f i := by rw [plc, keepB, hr]; rfl
      rw [hp]
      simp only [q82_26, evFa_lp, ob_some, Nat.zero_add, l0, evLen_sl, evBin_lss, hc, decide_true, cnd_t, q82_25, bs, oh_some, ha', kk, lk, gb_ft, gb_tup, evPick_f, cnd_f, q82_24, evBin_add, hw]
    | true =>
      rw [hr] at kk
      by_cases hop : (insAt f i).op = 33
      · have hp : plc f (i + 1) = plc f i := by rw [plc, keepB, hr, hop]; rfl
        have hd : decide ((33 : Int) ≠ 33) = false := rfl
        rw [hp]
        simp only [q82_26, evFa_lp, ob_some, Nat.zero_add, l0, evLen_sl, evBin_lss, hc, decide_true, cnd_t, q82_25, bs, oh_some, ha', kk, lk, gb_tt, k1, fa0, lo, hop, evBin_neq, hd, evPick_t, cnd_f, q82_24, evBin_add, hw]
      · have hp : plc f (i + 1) = plc f i + 1 := by rw [plc, keepB, hr]; simp [hop]
        have hd : decide ((insAt f i).op ≠ 33) = true := by simp [hop]
        rw [hp]
        simp only [q82_26, evFa_lp, ob_some, Nat.zero_add, l0, evLen_sl, evBin_lss, hc, decide_true, cnd_t, q82_25, bs, oh_some, ha', kk, lk, gb_tt, k1, fa0, lo, evBin_neq, hd, evPick_t, q82_24, evBin_add, hw, hw2]
        push_cast
        rfl
abbrev AG2 (f : Fn) (L : List Ins) (gc : Nat) (R : List Row) (gr : Nat) : AO := ⟨1, .arr true false 5 [[slA f.regs, slA f.params, .int .i64 f.ret, slotV Ins 9 gc L, slotV Row 12 gr R]]⟩
abbrev PV (f : Fn) (g : Nat) : AV := .ls 3 g 1 0 ((lst f.code).length + 1)
noncomputable abbrev PO (f : Fn) (g : Nat) : AO := AI g (plcP f ((lst f.code).length + 1))
theorem RTrim_code (gp : Nat) (o1 o2 o4 o5 o10 o11 o12 : AO) : ∀ (d i gc : Nat) (o7 o8 : AO), i + d = (lst f.code).length →
    ∃ gc' o7' o8', q82_L9 (.lp 0 1 0 0) (.lp 1 1 0 0) (KR f) (PV f gp) (.lp 6 1 0 0) (.int .i64 i) [AB f, o1, o2, PO f gp, o4, o5, AG2 f (trimG f i) gc [] 0, o7, o8, slotO gc D0 (trimG f i), o10, o11, o12] =
      q82_7 (.lp 0 1 0 0) (.lp 1 1 0 0) (KR f) (PV f gp) (.lp 6 1 0 0) [AB f, o1, o2, PO f gp, o4, o5, AG2 f (trimG f (lst f.code).length) gc' [] 0, o7', o8', slotO gc' D0 (trimG f (lst f.code).length), o10, o11, o12] := by
  have hl := w.n2
  intro d
  induction d with
  | zero =>
    intro i gc o7 o8 hi
    have hi' : i = (lst f.code).length := by omega
    have hn : ¬ ((i : Int) < ((lst f.code).length : Int)) := by omega
    have l0 : ∀ t : Heap, evLd false 1 (.lp 0 1 0 3) (AB f :: t) = some (slA f.code) := fun t => by simp
    refine ⟨gc, o7, o8, ?_⟩
    rw [q82_L9_go]
    simp only [q82_17, evFa_lp, ob_some, Nat.zero_add, l0, evLen_sl, evBin_lss, hn, decide_false, cnd_f]
    rw [hi']
  | succ d ih =>
    intro i gc o7 o8 hi
    have hlt : i < (lst f.code).length := by omega
    have hc : ((i : Int) < ((lst f.code).length : Int)) := by omega
    have k1 := ixs_ins (o := f.code) (i := i) (insAt_lt hlt) .i64
    have hw := wrap_up hlt (by omega)
    have hle := plc_le f i
    have hgl := trimG_len f i
    have hld := fun h => w.leads hlt h
    have kk := kr_at f w hlt .i64
    have lk : ∀ (b : Bool) (H : Heap), evLd false 1 (.rp [.bool b]) H = some (.bool b) := fun b H => by simp
    have hkb : keepB f i = ((reachL f).getD i false && !decide ((insAt f i).op = 33)) := rfl
    rw [q82_L9_go]
    have e17 : q82_17 (.lp 0 1 0 0) (.lp 1 1 0 0) (KR f) (PV f gp) (.lp 6 1 0 0) (.int .i64 i) [AB f, o1, o2, PO f gp, o4, o5, AG2 f (trimG f i) gc [] 0, o7, o8, slotO gc D0 (trimG f i), o10, o11, o12] =
        q82_13 (.lp 0 1 0 0) (.lp 1 1 0 0) (KR f) (PV f gp) (.lp 6 1 0 0) (.int .i64 i) (.lp 7 (o7.gen + 1) 0 0) [AB f, o1, o2, PO f gp, o4, o5, AG2 f (trimG f i) gc [] 0, AX (o7.gen + 1) (insAt f i), o8, slotO gc D0 (trimG f i), o10, o11, o12] := by
      simp [q82_17, q82_14, hlt, k1]
    rw [e17]
    generalize hx : insAt f i = x at *
    generalize o7.gen + 1 = g7 at *
    have lop : ∀ (x : Ins) (b c d e g : AO), evLd false 1 (.lp 7 g7 0 0) [AB f, o1, o2, PO f gp, o4, o5, AG2 f (trimG f i) gc [] 0, AX g7 x, b, c, d, e, g] = some (.int .i64 x.op) := fun x b c d e g => by simp
    have e13 : q82_13 (.lp 0 1 0 0) (.lp 1 1 0 0) (KR f) (PV f gp) (.lp 6 1 0 0) (.int .i64 i) (.lp 7 g7 0 0) [AB f, o1, o2, PO f gp, o4, o5, AG2 f (trimG f i) gc [] 0, AX g7 x, o8, slotO gc D0 (trimG f i), o10, o11, o12] =
        cnd (.bool (!keepB f i)) (q82_10 (.lp 0 1 0 0) (.lp 1 1 0 0) (KR f) (PV f gp) (.lp 6 1 0 0) (.int .i64 i) [AB f, o1, o2, PO f gp, o4, o5, AG2 f (trimG f i) gc [] 0, AX g7 x, o8, slotO gc D0 (trimG f i), o10, o11, o12])
          (q82_12 (.lp 0 1 0 0) (.lp 1 1 0 0) (KR f) (PV f gp) (.lp 6 1 0 0) (.int .i64 i) (.lp 7 g7 0 0) [AB f, o1, o2, PO f gp, o4, o5, AG2 f (trimG f i) gc [] 0, AX g7 x, o8, slotO gc D0 (trimG f i), o10, o11, o12]) := by
      rw [hkb]
      cases hr : (reachL f).getD i false with
      | false =>
        rw [hr] at kk
        simp only [q82_13, kk, ob_some, lk, evUn_not, Bool.not_false, gb_tf, gb_tup, evPick_t, Bool.false_and]
      | true =>
        rw [hr] at kk
        simp only [q82_13, kk, ob_some, lk, evUn_not, Bool.not_true, gb_ff, evFa_lp, Nat.zero_add, lop, evBin_eql, evPick_f, Bool.true_and, Bool.not_not]
    rw [e13]
    cases hk : keepB f i with
    | false =>
      obtain ⟨gc', o7', o8', ih⟩ := ih (i + 1) gc (AX g7 x) o8 (by omega)
      refine ⟨gc', o7', o8', ?_⟩
      rw [← ih, trimG, hk]
      simp only [Bool.false_eq_true, if_false, List.append_nil, Bool.not_false, cnd_t, q82_10, evBin_add, ob_some, hw]
      push_cast
      rfl
    | true =>
      have cL : ∀ h : Heap, callAny E (callW E) 0 none true 23 [.int .i64 x.op] h = some (.bool (leads x.op), h) := fun h => by simp [callAny, callP, heapOf_nil]
      have e12 : q82_12 (.lp 0 1 0 0) (.lp 1 1 0 0) (KR f) (PV f gp) (.lp 6 1 0 0) (.int .i64 i) (.lp 7 g7 0 0) [AB f, o1, o2, PO f gp, o4, o5, AG2 f (trimG f i) gc [] 0, AX g7 x, o8, slotO gc D0 (trimG f i), o10, o11, o12] =
          q82_11 (.lp 0 1 0 0) (.lp 1 1 0 0) (KR f) (PV f gp) (.lp 6 1 0 0) (.int .i64 i) (.lp 7 g7 0 0) [AB f, o1, o2, PO f gp, o4, o5, AG2 f (trimG f i) gc [] 0, AX g7 (trimI f x), o8, slotO gc D0 (trimG f i), o10, o11, o12] := by
        have l66 : evLd false 1 (.lp 7 g7 0 6) [AB f, o1, o2, PO f gp, o4, o5, AG2 f (trimG f i) gc [] 0, AX g7 x, o8, slotO gc D0 (trimG f i), o10, o11, o12] = some (.int .i64 x.t) := by simp
        have st6 : ∀ n : Int, evSt 1 (.lp 7 g7 0 6) (.int .i64 n) [AB f, o1, o2, PO f gp, o4, o5, AG2 f (trimG f i) gc [] 0, AX g7 x, o8, slotO gc D0 (trimG f i), o10, o11, o12] =
            some (.tup [], [AB f, o1, o2, PO f gp, o4, o5, AG2 f (trimG f i) gc [] 0, AX g7 { x with t := n }, o8, slotO gc D0 (trimG f i), o10, o11, o12]) := fun n => by simp [evSt_lp]
        cases hd : leads x.op with
        | true =>
          obtain ⟨t0, t1⟩ := hld hd
          have ixt := ixAt (n := (lst f.code).length + 1) t0 (by omega) 3 gp .i64
          have lp := ld_at (α := Int) (H := [AB f, o1, o2, PO f gp, o4, o5, AG2 f (trimG f i) gc [] 0, AX g7 x, o8, slotO gc D0 (trimG f i), o10, o11, o12]) (id := 3) (g := gp) (v := .int .i64 (plc f x.t.toNat)) rfl (plcP_get (f := f) (j := x.t.toNat) (by omega)) rfl
          simp only [q82_12, evFa_lp, Nat.zero_add, ob_some, lop, cL, oh_some, hd, cnd_t, l66, ixt, lp, st6, trimI, if_true]
        | false =>
          simp only [q82_12, evFa_lp, Nat.zero_add, ob_some, lop, cL, oh_some, hd, cnd_f, st6, trimI, Bool.false_eq_true, if_false]
      have hlen : (trimG f i).length ≤ 2 ^ 38 := by
        have e : (2:Nat)^38 = 274877906944 := by decide
        omega
      obtain ⟨gc2, ha⟩ := app_ins (H := [AB f, o1, o2, PO f gp, o4, o5, AG2 f (trimG f i) gc [] 0, AX g7 (trimI f x), ⟨o8.gen + 1, .arr false false 9 [enc (trimI f x)]⟩, slotO gc D0 (trimG f i), o10, o11, o12]) (fb := 0) (j := 9) (g := gc) (o := D0) (y := .ls 8 (o8.gen + 1) 9 0 1) (L := trimG f i) (x := trimI f x) (by simp) rfl hlen
      have ha' : evApp 0 (some 9) 9 96 (slotV Ins 9 gc (trimG f i)) (.ls 8 (o8.gen + 1) 9 0 1) [AB f, o1, o2, PO f gp, o4, o5, AG2 f (trimG f i) gc [] 0, AX g7 (trimI f x), ⟨o8.gen + 1, .arr false false 9 [enc (trimI f x)]⟩, slotO gc D0 (trimG f i), o10, o11, o12] =
          some (slotV Ins 9 gc2 (trimG f i ++ [trimI f x]), [AB f, o1, o2, PO f gp, o4, o5, AG2 f (trimG f i) gc [] 0, AX g7 (trimI f x), ⟨o8.gen + 1, .arr false false 9 [enc (trimI f x)]⟩, slotO gc2 D0 (trimG f i ++ [trimI f x]), o10, o11, o12]) := ha
      obtain ⟨gc', o7', o8', ih⟩ := ih (i + 1) gc2 (AX g7 (trimI f x)) ⟨o8.gen + 1, .arr false false 9 [enc (trimI f x)]⟩ (by omega)
      refine ⟨gc', o7', o8', ?_⟩
      have hG : trimG f (i + 1) = trimG f i ++ [trimI f x] := by rw [trimG, hk, hx]; rfl
      rw [hG] at ih
      rw [← ih, Bool.not_true, cnd_f, e12]
      have l53 : ∀ (a b c : AO), evLd false 1 (.lp 6 1 0 3) [AB f, o1, o2, PO f gp, o4, o5, AG2 f (trimG f i) gc [] 0, a, b, c, o10, o11, o12] = some (slotV Ins 9 gc (trimG f i)) := fun a b c => by simp
      have l6 : ∀ (b c : AO), evLd true 9 (.lp 7 g7 0 0) [AB f, o1, o2, PO f gp, o4, o5, AG2 f (trimG f i) gc [] 0, AX g7 (trimI f x), b, c, o10, o11, o12] = some (.agg (enc (trimI f x))) := fun b c => by simp
      have bs : buildSC 0 (some 8) 9 1 [.int .i64 0, .int .i64 0, .int .i64 0, .int .i64 0, .int .i64 0, .int .i64 0, .int .i64 0, .str [], .nils] [(0, .agg (enc (trimI f x)))] [AB f, o1, o2, PO f gp, o4, o5, AG2 f (trimG f i) gc [] 0, AX g7 (trimI f x), o8, slotO gc D0 (trimG f i), o10, o11, o12] =
          some (.ls 8 (o8.gen + 1) 9 0 1, [AB f, o1, o2, PO f gp, o4, o5, AG2 f (trimG f i) gc [] 0, AX g7 (trimI f x), ⟨o8.gen + 1, .arr false false 9 [enc (trimI f x)]⟩, slotO gc D0 (trimG f i), o10, o11, o12]) := by
        simp [buildSC, fillRows]
      have st5 : ∀ (a b c : AO), evSt 1 (.lp 6 1 0 3) (slotV Ins 9 gc2 (trimG f i ++ [trimI f x])) [AB f, o1, o2, PO f gp, o4, o5, AG2 f (trimG f i) gc [] 0, a, b, c, o10, o11, o12] =
          some (.tup [], [AB f, o1, o2, PO f gp, o4, o5, AG2 f (trimG f i ++ [trimI f x]) gc2 [] 0, a, b, c, o10, o11, o12]) := fun a b c => by simp [evSt_lp, spliceAt]
      simp only [q82_11, evFa_lp, Nat.zero_add, ob_some, l53, l6, bs, oh_some, ha', st5, q82_10, evBin_add, hw]
      push_cast
      rfl
theorem RTrim_rows (L : List Ins) (gc gp : Nat) (o1 o2 o4 o5 o7 o8 o9 : AO) (hrl : (lst f.rows).length ≤ 2 ^ 38) : ∀ (d k gr : Nat) (o10 o11 : AO), k + d = (lst f.rows).length →
    ∃ gr' o10' o11', q82_L2 (.lp 0 1 0 0) (.lp 1 1 0 0) (KR f) (PV f gp) (.lp 6 1 0 0) (.int .i64 k) [AB f, o1, o2, PO f gp, o4, o5, AG2 f L gc (trimR f k) gr, o7, o8, o9, o10, o11, slotO gr D0 (trimR f k)] =
      q82_1 (.lp 1 1 0 0) (.lp 6 1 0 0) [AB f, o1, o2, PO f gp, o4, o5, AG2 f L gc (trimR f (lst f.rows).length) gr', o7, o8, o9, o10', o11', slotO gr' D0 (trimR f (lst f.rows).length)] := by
  have e38 : (2:Nat)^38 = 274877906944 := by decide
  have hl := w.n2
  intro d
  induction d with
  | zero =>
    intro k gr o10 o11 hk
    have hk' : k = (lst f.rows).length := by omega
    have hn : ¬ ((k : Int) < ((lst f.rows).length : Int)) := by omega
    have l0 : ∀ t : Heap, evLd false 1 (.lp 0 1 0 4) (AB f :: t) = some (slA f.rows) := fun t => by simp
    refine ⟨gr, o10, o11, ?_⟩
    rw [q82_L2_go]
    simp only [q82_5, evFa_lp, ob_some, Nat.zero_add, l0, evLen_sl, evBin_lss, hn, decide_false, cnd_f]
    rw [hk']
  | succ d ih =>
    intro k gr o10 o11 hk
    have hlt : k < (lst f.rows).length := by omega
    have hc : ((k : Int) < ((lst f.rows).length : Int)) := by omega
    have hw := wrap_up hlt (by omega)
    have hgr := trimR_len f k
    obtain ⟨r, hr⟩ : ∃ r, (lst f.rows)[k]? = some r := ⟨_, List.getElem?_eq_getElem hlt⟩
    have hin := w.row (List.mem_of_getElem? hr)
    have k1 := ixs_row (o := f.rows) hr .i64
    have hsucc := trimR_succ hr
    have l0 : ∀ t : Heap, evLd false 1 (.lp 0 1 0 4) (AB f :: t) = some (slA f.rows) := fun t => by simp
    rw [q82_L2_go]
    have ixA := kr_atI f w hin.a0 hin.an .i64
    rw [← keep_row hin] at ixA
    have ixF := ixAt (n := (lst f.code).length + 1) hin.f0 (by have := hin.ft; have := hin.tn; omega) 3 gp .i64
    have ixT := ixAt (n := (lst f.code).length + 1) (p := r.t) (by have := hin.ft; have := hin.f0; omega) (by have := hin.tn; omega) 3 gp .i64
    have ixQ := ixAt (n := (lst f.code).length + 1) hin.a0 (by have := hin.an; omega) 3 gp .i64
    generalize hg9 : o10.gen + 1 = g9 at *
    have lk : ∀ (b : Bool) (H : Heap), evLd false 1 (.rp [.bool b]) H = some (.bool b) := fun b H => by simp
    have PL : ∀ (p : Nat) (g : Nat) (L' : List Row) (b c : AO), p ≤ (lst f.code).length → evLd false 1 (.lp 3 gp p 0) [AB f, o1, o2, PO f gp, o4, o5, AG2 f L gc L' g, o7, o8, o9, ⟨g9, .arr true false 4 [enc r]⟩, b, c] = some (.int .i64 (plc f p)) := fun p g L' b c hp =>
      ld_at (α := Int) (id := 3) (g := gp) (v := .int .i64 (plc f p)) rfl (plcP_get (by omega)) rfl
    have pF := fun g L' b c => PL r.f.toNat g L' b c (by have := hin.ft; have := hin.tn; omega)
    have pT := fun g L' b c => PL r.t.toNat g L' b c (by have := hin.tn; omega)
    have pA := fun g L' b c => PL r.at_.toNat g L' b c (by have := hin.an; omega)
    have lb : ∀ (j : Nat) (g : Nat) (L' : List Row) (b c : AO), evLd false 1 (.lp 10 g9 0 j) [AB f, o1, o2, PO f gp, o4, o5, AG2 f L gc L' g, o7, o8, o9, ⟨g9, .arr true false 4 [enc r]⟩, b, c] = ((enc r).drop j).head? := fun j g L' b c => by simp
    have d0 : ((enc r).drop 0).head? = some (.int .i64 r.f) := rfl
    have d1 : ((enc r).drop 1).head? = some (.int .i64 r.t) := rfl
    have d2 : ((enc r).drop 2).head? = some (.int .i64 r.at_) := rfl
    have d3 : ((enc r).drop 3).head? = some (.str r.c) := rfl
    have e6 : q82_5 (.lp 0 1 0 0) (.lp 1 1 0 0) (KR f) (PV f gp) (.lp 6 1 0 0) (.int .i64 k) [AB f, o1, o2, PO f gp, o4, o5, AG2 f L gc (trimR f k) gr, o7, o8, o9, o10, o11, slotO gr D0 (trimR f k)] =
        q82_4 (.lp 0 1 0 0) (.lp 1 1 0 0) (KR f) (PV f gp) (.lp 6 1 0 0) (.int .i64 k) [AB f, o1, o2, PO f gp, o4, o5, AG2 f L gc (trimR f k) gr, o7, o8, o9, o10, o11, slotO gr D0 (trimR f k)] := by
      simp only [q82_5, evFa_lp, ob_some, Nat.zero_add, l0, evLen_sl, evBin_lss, hc, decide_true, cnd_t]
    have lr : ∀ t : Heap, evLd true 4 (.rp (enc r)) t = some (.agg (enc r)) := fun t => by simp
    have nc : newC 0 (some 10) [.int .i64 0, .int .i64 0, .int .i64 0, .str []] [AB f, o1, o2, PO f gp, o4, o5, AG2 f L gc (trimR f k) gr, o7, o8, o9, o10, o11, slotO gr D0 (trimR f k)] =
        some (.lp 10 g9 0 0, [AB f, o1, o2, PO f gp, o4, o5, AG2 f L gc (trimR f k) gr, o7, o8, o9, ⟨g9, .arr true false 4 [[.int .i64 0, .int .i64 0, .int .i64 0, .str []]]⟩, o11, slotO gr D0 (trimR f k)]) := by
      simp [newC, newBox, place, hg9]
    have s9 : evSt 4 (.lp 10 g9 0 0) (.agg (enc r)) [AB f, o1, o2, PO f gp, o4, o5, AG2 f L gc (trimR f k) gr, o7, o8, o9, ⟨g9, .arr true false 4 [[.int .i64 0, .int .i64 0, .int .i64 0, .str []]]⟩, o11, slotO gr D0 (trimR f k)] =
        some (.tup [], [AB f, o1, o2, PO f gp, o4, o5, AG2 f L gc (trimR f k) gr, o7, o8, o9, ⟨g9, .arr true false 4 [enc r]⟩, o11, slotO gr D0 (trimR f k)]) := by
      simp [evSt_lp]
    rw [e6]
    by_cases hb : keepB f r.at_.toNat = true ∧ plc f r.f.toNat < plc f r.t.toNat
    · have hT : trimW f r = [⟨plc f r.f.toNat, plc f r.t.toNat, plc f r.at_.toNat, r.c⟩] := by rw [trimW, hb.1]; simp [hb.2]
      rw [hT] at hsucc
      generalize hnr : (⟨plc f r.f.toNat, plc f r.t.toNat, plc f r.at_.toNat, r.c⟩ : Row) = nr at *
      have hlt2 : ((plc f r.f.toNat : Nat) : Int) < ((plc f r.t.toNat : Nat) : Int) := by have := hb.2; omega
      obtain ⟨gr2, ha⟩ := app_row (H := [AB f, o1, o2, PO f gp, o4, o5, AG2 f L gc (trimR f k) gr, o7, o8, o9, ⟨g9, .arr true false 4 [enc r]⟩, ⟨o11.gen + 1, .arr false false 4 [enc nr]⟩, slotO gr D0 (trimR f k)]) (fb := 0) (j := 12) (g := gr) (o := D0) (y := .ls 11 (o11.gen + 1) 4 0 1) (L := trimR f k) (x := nr) (by simp) rfl (by omega)
      have ha' : evApp 0 (some 12) 4 40 (slotV Row 12 gr (trimR f k)) (.ls 11 (o11.gen + 1) 4 0 1) [AB f, o1, o2, PO f gp, o4, o5, AG2 f L gc (trimR f k) gr, o7, o8, o9, ⟨g9, .arr true false 4 [enc r]⟩, ⟨o11.gen + 1, .arr false false 4 [enc nr]⟩, slotO gr D0 (trimR f k)] =
          some (slotV Row 12 gr2 (trimR f k ++ [nr]), [AB f, o1, o2, PO f gp, o4, o5, AG2 f L gc (trimR f k) gr, o7, o8, o9, ⟨g9, .arr true false 4 [enc r]⟩, ⟨o11.gen + 1, .arr false false 4 [enc nr]⟩, slotO gr2 D0 (trimR f k ++ [nr])]) := ha
      obtain ⟨gr', o10', o11', ih⟩ := ih (k + 1) gr2 ⟨g9, .arr true false 4 [enc r]⟩ ⟨o11.gen + 1, .arr false false 4 [enc nr]⟩ (by omega)
      refine ⟨gr', o10', o11', ?_⟩
      rw [← ih, hsucc]
      have l54 : ∀ (b c : AO), evLd false 1 (.lp 6 1 0 4) [AB f, o1, o2, PO f gp, o4, o5, AG2 f L gc (trimR f k) gr, o7, o8, o9, ⟨g9, .arr true false 4 [enc r]⟩, b, c] = some (slotV Row 12 gr (trimR f k)) := fun b c => by simp
      have bd : evBuild [.int .i64 0, .int .i64 0, .int .i64 0, .str []] [(0, 1, .int .i64 (plc f r.f.toNat)), (1, 1, .int .i64 (plc f r.t.toNat)), (2, 1, .int .i64 (plc f r.at_.toNat)), (3, 1, .str r.c)] = some (.agg (enc nr)) := by
        rw [← hnr]; simp [evBuild, fillParts, known, spliceAt, enc_row]
      have bs : buildSC 0 (some 11) 4 1 [.int .i64 0, .int .i64 0, .int .i64 0, .str []] [(0, .agg (enc nr))] [AB f, o1, o2, PO f gp, o4, o5, AG2 f L gc (trimR f k) gr, o7, o8, o9, ⟨g9, .arr true false 4 [enc r]⟩, o11, slotO gr D0 (trimR f k)] =
          some (.ls 11 (o11.gen + 1) 4 0 1, [AB f, o1, o2, PO f gp, o4, o5, AG2 f L gc (trimR f k) gr, o7, o8, o9, ⟨g9, .arr true false 4 [enc r]⟩, ⟨o11.gen + 1, .arr false false 4 [enc nr]⟩, slotO gr D0 (trimR f k)]) := by
        simp [buildSC, fillRows]
      have s5 : ∀ (b c : AO), evSt 1 (.lp 6 1 0 4) (slotV Row 12 gr2 (trimR f k ++ [nr])) [AB f, o1, o2, PO f gp, o4, o5, AG2 f L gc (trimR f k) gr, o7, o8, o9, ⟨g9, .arr true false 4 [enc r]⟩, b, c] =
          some (.tup [], [AB f, o1, o2, PO f gp, o4, o5, AG2 f L gc (trimR f k ++ [nr]) gr2, o7, o8, o9, ⟨g9, .arr true false 4 [enc r]⟩, b, c]) := fun b c => by simp [evSt_lp, spliceAt]
      have hp : pairsOk [([], []), (ids1 (.lp 6 1 0 4), []), ([], []), ([], []), (ids1 (.lp 10 g9 0 0), []), ([], []), (ids1 (.lp 3 gp r.f.toNat 0), []), ([], []), ([], []), (ids1 (.lp 10 g9 0 1), []), ([], []), (ids1 (.lp 3 gp r.t.toNat 0), []), ([], []), ([], []), (ids1 (.lp 10 g9 0 2), []), ([], []), (ids1 (.lp 3 gp r.at_.toNat 0), []), ([], []), (ids1 (.lp 10 g9 0 3), []), ([], []), ([], [11]),
          (ids1 (.ls 11 (o11.gen + 1) 4 0 1), ids1 (slotV Row 12 gr (trimR f k)) ++ [12]), ([], []), ([], ids1 (.lp 6 1 0 4))] [(1, 20)] = true := by simp [pairsOk, fpApart, meets]
      simp only [q82_4, evFa_lp, Nat.zero_add, l0, k1, ob_some, lr, nc, oh_some, s9, lb, d0, d1, d2, d3, ixA, lk, hb.1, gb_tt, ixF, pF, ixT, pT, evBin_lss, hlt2, decide_true, evPick_t, cnd_t, l54, ixQ, pA, bd, bs, ha', s5, hp, okK_t, q82_3, evBin_add, hw]
      push_cast
      rfl
    · have hT : trimW f r = [] := by
        rw [trimW]
        cases hk2 : keepB f r.at_.toNat with
        | false => rfl
        | true =>
          have : ¬ plc f r.f.toNat < plc f r.t.toNat := fun h => hb ⟨hk2, h⟩
          simp [this]
      rw [hT, List.append_nil] at hsucc
      obtain ⟨gr', o10', o11', ih⟩ := ih (k + 1) gr ⟨g9, .arr true false 4 [enc r]⟩ o11 (by omega)
      refine ⟨gr', o10', o11', ?_⟩
      rw [← ih, hsucc]
      cases hk2 : keepB f r.at_.toNat with
      | false =>
        simp only [q82_4, evFa_lp, Nat.zero_add, l0, k1, ob_some, lr, nc, oh_some, s9, lb, d0, d1, d2, d3, ixA, lk, hk2, gb_ft, gb_tup, evPick_f, cnd_f, q82_3, evBin_add, hw]
        push_cast
        rfl
      | true =>
        have hlt2 : ¬ ((plc f r.f.toNat : Nat) : Int) < ((plc f r.t.toNat : Nat) : Int) := by
          have : ¬ plc f r.f.toNat < plc f r.t.toNat := fun h => hb ⟨hk2, h⟩
          omega
        simp only [q82_4, evFa_lp, Nat.zero_add, l0, k1, ob_some, lr, nc, oh_some, s9, lb, d0, d1, d2, d3, ixA, lk, hk2, gb_tt, ixF, pF, ixT, pT, evBin_lss, hlt2, decide_false, evPick_t, cnd_f, q82_3, evBin_add, hw]
        push_cast
        rfl
end
theorem Rtrim_reads (f g : Fn) {H : Heap} {gc gr : Nat} {L : List Ins} {R : List Row} (h8 : H[9]? = some (slotO gc D0 L)) (h11 : H[12]? = some (slotO gr D0 R)) (hg : g = { regs := f.regs, params := f.params, ret := f.ret, code := nz L, rows := nz R }) :
    ∃ r, expo1 H (.agg [slA f.regs, slA f.params, .int .i64 f.ret, slotV Ins 9 gc L, slotV Row 12 gr R]) = some r ∧ Reads r (.agg (enc g)) := by
  have x1 : ∀ os, expo H 11 (slotV Ins 9 gc L) os = some ⟨exV os.length (nz L), os ++ exOs (nz L), L.all scal, ownI 9 (nz L), []⟩ := by
    intro os
    cases L with
    | nil => exact expo_own (α := Ins) (H := H) (j := 9) (g := gc) (k := 10) (d := D0) (o := none) h8 os
    | cons x L => exact expo_own (α := Ins) (H := H) (j := 9) (g := gc) (k := 10) (d := D0) (o := some (x :: L)) h8 os
  have x2 : ∀ os, expo H 11 (slotV Row 12 gr R) os = some ⟨exV os.length (nz R), os ++ exOs (nz R), R.all scal, ownI 12 (nz R), []⟩ := by
    intro os
    cases R with
    | nil => exact expo_own (α := Row) (H := H) (j := 12) (g := gr) (k := 10) (d := D0) (o := none) h11 os
    | cons x R => exact expo_own (α := Row) (H := H) (j := 12) (g := gr) (k := 10) (d := D0) (o := some (x :: R)) h11 os
  rw [expo1_agg]
  simp only [exList, expo_p (pure1_sl f.regs) H 10, expo_p (pure1_sl f.params) H 10, expo_p (show pure1 (.int .i64 f.ret) = true from rfl) H 10, x1, x2, List.nil_append, List.append_nil, List.length_nil]
  have ap : apartIds (ownI 9 (nz L) ++ ownI 12 (nz R)) [] = true := by
    cases L <;> cases R <;> rfl
  rw [if_pos ap]
  refine ⟨_, rfl, ?_⟩
  have h3 := fz_exV (nz L) [] (exOs (nz R)) 9
  have h4 := fz_exV (nz R) (exOs (nz L)) [] 9
  simp only [List.nil_append, List.append_nil, List.length_nil] at h3 h4
  refine ⟨_, (fz_agg_eq _ 11 _).trans (by
    simp only [fzList_cons, fz_p (pure1_sl f.regs) _ 10, fz_p (pure1_sl f.params) _ 10, fz_p (show pure1 (.int .i64 f.ret) = true from rfl) _ 10, h3, h4, fzList_nil]
    rfl), by rw [hg]; rfl⟩
set_option maxHeartbeats 1000000 in
theorem s_RTrim (f : Fn) (hf : FnRd f) (hr : (lst f.rows).length ≤ 1000000) : ∃ r, (callW E).p 103 [.agg (enc f)] = some r ∧ Reads r (.agg (enc (trimM f))) := by
  rw [x_q82]
  have hck := s_RCheck f hf.fit
  have ha : ∀ H : Heap, fzList (fz H fuelF) [.agg (enc f)] = some ⟨[.agg (enc f)], scal f && true, []⟩ := fun H => by
    rw [fzList_cons, fz_enc, fzList_nil]; rfl
  have c2 : ∀ H, callAny E (callW E) 0 none true 29 [.agg (enc f)] H = some (.int .i64 (if wf f then 0 else 80), H) := fun H => call_reads rfl (ha H) rfl hck ⟨_, rfl, rfl⟩
  have l0 : ∀ t : Heap, evLd true 5 (.lp 0 1 0 0) (AB f :: t) = some (.agg (enc f)) := fun t => by simp
  have e46 : q82_34 (.agg (enc f)) [D0, D0, D0, D0, D0, D0, D0, D0, D0, D0, D0, D0, D0] = q82_33 (.lp 0 1 0 0) (.lp 1 1 0 0) [AB f, ⟨1, .arr true false 5 [[.nils, .nils, .int .i64 0, .nils, .nils]]⟩, D0, D0, D0, D0, D0, D0, D0, D0, D0, D0, D0] := by
    simp [q82_34]
  rw [e46]
  cases hw : wf f with
  | false =>
    rw [hw] at c2
    have s1 : ∀ (t : Heap), evSt 5 (.lp 1 1 0 0) (.agg (enc f)) (AB f :: ⟨1, .arr true false 5 [[.nils, .nils, .int .i64 0, .nils, .nils]]⟩ :: t) = some (.tup [], AB f :: AB f :: t) := fun t => by simp [evSt_lp]
    have l1 : ∀ t : Heap, evLd true 5 (.lp 1 1 0 0) (AB f :: AB f :: t) = some (.agg (enc f)) := fun t => by simp
    have hx : trimM f = f := by rw [trimM, hw]; rfl
    rw [hx]
    simp only [q82_33, l0, ob_some, c2, oh_some, Bool.false_eq_true, if_false, evBin_neq, show decide ((80 : Int) ≠ 0) = true from rfl, cnd_t, s1, l1, expo1_enc]
    exact ⟨_, rfl, _, fz_enc f _, rfl⟩
  | true =>
    have w := wf_of hw
    rw [hw] at c2
    have hn := w.n2
    have hR := s_RReach f (by have := w.n2; omega) hr
    have cR : ∀ H, callAny E (callW E) 0 none true 104 [.agg (enc f)] H = some (KR f, H) := fun H => call_reads rfl (ha H) rfl hR ⟨_, exO_fz _, rfl⟩
    obtain ⟨gp, o2, h23⟩ := RTrim_place f w ⟨1, .arr true false 5 [[.nils, .nils, .int .i64 0, .nils, .nils]]⟩ D0 D0 D0 D0 D0 D0 D0 D0 D0 _ 0 0 D0 (Nat.zero_add _)
    have hne : plcP f (lst f.code).length ≠ [] := fun e => by
      have := plcP_len f (lst f.code).length
      rw [e] at this
      have := w.n1
      simp at *
      omega
    rw [slotV_ne hne, slotO_ne hne, plcP_len] at h23
    simp only [es_int] at h23
    have hb8 : (2 * ((plcP f (lst f.code).length).length + [(plc f (lst f.code).length : Int)].length) + 512) * 8 ≤ 2 ^ 48 := app_bound (by rw [plcP_len]; simp only [List.length_singleton]; omega)
    have a1 := app_stk (α := Int) (H := [AB f, ⟨1, .arr true false 5 [[.nils, .nils, .int .i64 0, .nils, .nils]]⟩, o2, AI gp (plcP f (lst f.code).length), ⟨1, .arr false false 1 [[.int .i64 (plc f (lst f.code).length)]]⟩, D0, D0, D0, D0, D0, D0, D0, D0]) (fb := 0) (sl := some 5) (id := 3) (g := gp) (b := 8) (y := .ls 4 1 1 0 1) (L := plcP f (lst f.code).length) (M := [(plc f (lst f.code).length : Int)]) (T := []) (by simp) (by simp) hb8
    rw [← plcP_succ, plcP_len, plcP_len] at a1
    simp only [es_int, List.set_cons_zero, List.set_cons_succ] at a1
    obtain ⟨gc, o7, o8, h10⟩ := RTrim_code f w (gp + 1) ⟨1, .arr true false 5 [[.nils, .nils, .int .i64 0, .nils, .nils]]⟩ o2 ⟨1, .arr false false 1 [[.int .i64 (plc f (lst f.code).length)]]⟩ D0 D0 D0 D0 _ 0 0 D0 D0 (Nat.zero_add _)
    have hr38 : (lst f.rows).length ≤ 2 ^ 38 := by
      have : (2:Nat)^38 = 274877906944 := by decide
      omega
    obtain ⟨gr, o10, o11, h2⟩ := RTrim_rows f w (trimG f (lst f.code).length) gc (gp + 1) ⟨1, .arr true false 5 [[.nils, .nils, .int .i64 0, .nils, .nils]]⟩ o2 ⟨1, .arr false false 1 [[.int .i64 (plc f (lst f.code).length)]]⟩ D0 o7 o8 (slotO gc D0 (trimG f (lst f.code).length)) hr38 _ 0 0 D0 D0 (Nat.zero_add _)
    have r0 : trimR f 0 = [] := rfl
    have g0 : trimG f 0 = [] := rfl
    have p0 : plc f 0 = 0 := rfl
    have q0 : plcP f 0 = [] := rfl
    simp only [Int.ofNat_zero, r0, g0, p0, q0, slotV_nil, slotO_nil] at h23 h10 h2
    have h10' : q82_19 (.lp 0 1 0 0) (.lp 1 1 0 0) (KR f) (PV f (gp + 1)) (.lp 6 1 0 0) _ = _ := h10
    have h2' : q82_7 (.lp 0 1 0 0) (.lp 1 1 0 0) (KR f) (PV f (gp + 1)) (.lp 6 1 0 0) _ = _ := h2
    have h23' : q82_28 (.lp 0 1 0 0) (.lp 1 1 0 0) (KR f) .nils (.int .i64 0) _ = _ := h23
    have la : ∀ t : Heap, evLd false 1 (.lp 0 1 0 0) (AB f :: t) = some (slA f.regs) := fun t => by simp
    have lb : ∀ t : Heap, evLd false 1 (.lp 0 1 0 1) (AB f :: t) = some (slA f.params) := fun t => by simp
    have ld : ∀ t : Heap, evLd false 1 (.lp 0 1 0 2) (AB f :: t) = some (.int .i64 f.ret) := fun t => by simp
    have bg : evBuild [.nils, .nils, .int .i64 0, .nils, .nils] [(0, 1, slA f.regs), (1, 1, slA f.params), (2, 1, .int .i64 f.ret)] = some (.agg [slA f.regs, slA f.params, .int .i64 f.ret, .nils, .nils]) := by
      have k1 : known (slA f.regs) = true := by cases f.regs <;> rfl
      have k2 : known (slA f.params) = true := by cases f.params <;> rfl
      have k3 : known (.int .i64 f.ret) = true := rfl
      simp [evBuild, fillParts, k1, k2, k3, spliceAt]
    have bs4 : buildSC 0 (some 4) 1 1 [.int .i64 0] [(0, .int .i64 (plc f (lst f.code).length))] [AB f, ⟨1, .arr true false 5 [[.nils, .nils, .int .i64 0, .nils, .nils]]⟩, o2, AI gp (plcP f (lst f.code).length), D0, D0, D0, D0, D0, D0, D0, D0, D0] =
        some (.ls 4 1 1 0 1, [AB f, ⟨1, .arr true false 5 [[.nils, .nils, .int .i64 0, .nils, .nils]]⟩, o2, AI gp (plcP f (lst f.code).length), ⟨1, .arr false false 1 [[.int .i64 (plc f (lst f.code).length)]]⟩, D0, D0, D0, D0, D0, D0, D0, D0]) := by
      simp [buildSC, fillRows]
    have n5 : newC 0 (some 6) [.nils, .nils, .int .i64 0, .nils, .nils] [AB f, ⟨1, .arr true false 5 [[.nils, .nils, .int .i64 0, .nils, .nils]]⟩, o2, PO f (gp + 1), ⟨1, .arr false false 1 [[.int .i64 (plc f (lst f.code).length)]]⟩, D0, D0, D0, D0, D0, D0, D0, D0] =
        some (.lp 6 1 0 0, [AB f, ⟨1, .arr true false 5 [[.nils, .nils, .int .i64 0, .nils, .nils]]⟩, o2, PO f (gp + 1), ⟨1, .arr false false 1 [[.int .i64 (plc f (lst f.code).length)]]⟩, D0, ⟨1, .arr true false 5 [[.nils, .nils, .int .i64 0, .nils, .nils]]⟩, D0, D0, D0, D0, D0, D0]) := by simp
    have s5 : evSt 5 (.lp 6 1 0 0) (.agg [slA f.regs, slA f.params, .int .i64 f.ret, .nils, .nils]) [AB f, ⟨1, .arr true false 5 [[.nils, .nils, .int .i64 0, .nils, .nils]]⟩, o2, PO f (gp + 1), ⟨1, .arr false false 1 [[.int .i64 (plc f (lst f.code).length)]]⟩, D0, ⟨1, .arr true false 5 [[.nils, .nils, .int .i64 0, .nils, .nils]]⟩, D0, D0, D0, D0, D0, D0] =
        some (.tup [], [AB f, ⟨1, .arr true false 5 [[.nils, .nils, .int .i64 0, .nils, .nils]]⟩, o2, PO f (gp + 1), ⟨1, .arr false false 1 [[.int .i64 (plc f (lst f.code).length)]]⟩, D0, AG2 f [] 0 [] 0, D0, D0, D0, D0, D0, D0]) := by simp [evSt_lp, spliceAt]
    have e33 : q82_33 (.lp 0 1 0 0) (.lp 1 1 0 0) [AB f, ⟨1, .arr true false 5 [[.nils, .nils, .int .i64 0, .nils, .nils]]⟩, D0, D0, D0, D0, D0, D0, D0, D0, D0, D0, D0] = q82_7 (.lp 0 1 0 0) (.lp 1 1 0 0) (KR f) (PV f (gp + 1)) (.lp 6 1 0 0) [AB f, ⟨1, .arr true false 5 [[.nils, .nils, .int .i64 0, .nils, .nils]]⟩, o2, PO f (gp + 1), ⟨1, .arr false false 1 [[.int .i64 (plc f (lst f.code).length)]]⟩, D0, AG2 f (trimG f (lst f.code).length) gc [] 0, o7, o8, slotO gc D0 (trimG f (lst f.code).length), D0, D0, D0] := by
      simp only [q82_33, l0, ob_some, c2, oh_some, if_true, evBin_neq, show decide ((0 : Int) ≠ 0) = false from rfl, cnd_f, q82_32, cR, q82_31, q82_30, h23', q82_22, bs4, a1, q82_21, evFa_lp, Nat.zero_add, la, lb, ld, bg, n5, s5]
      exact h10'
    rw [e33, h2']
    have l5 : ∀ (a b c d e g i : AO) (L : List Ins) (R : List Row) (gc gr : Nat), evLd true 5 (.lp 6 1 0 0) [a, b, c, d, e, g, AG2 f L gc R gr, o7, o8, i, o10, o11, slotO gr D0 R] = some (.agg [slA f.regs, slA f.params, .int .i64 f.ret, slotV Ins 9 gc L, slotV Row 12 gr R]) := fun a b c d e g i L R gc gr => by simp [aggOr]
    have s1 : ∀ (a : AO) (t : Heap) (V W : AV) (hV : leaf1 V = true) (hW : leaf1 W = true), evSt 5 (.lp 1 1 0 0) (.agg [slA f.regs, slA f.params, .int .i64 f.ret, V, W]) (a :: ⟨1, .arr true false 5 [[.nils, .nils, .int .i64 0, .nils, .nils]]⟩ :: t) = some (.tup [], a :: ⟨1, .arr true false 5 [[slA f.regs, slA f.params, .int .i64 f.ret, V, W]]⟩ :: t) := fun a t V W hV hW => by simp [evSt_lp, spliceAt, hV, hW]
    have l1 : ∀ (a : AO) (t : Heap) (V W : AV), evLd true 5 (.lp 1 1 0 0) (a :: ⟨1, .arr true false 5 [[slA f.regs, slA f.params, .int .i64 f.ret, V, W]]⟩ :: t) = some (.agg [slA f.regs, slA f.params, .int .i64 f.ret, V, W]) := fun a t V W => by simp [aggOr]
    simp only [q82_1, l5, ob_some, s1 _ _ _ _ (leaf1_slot _ _ _) (leaf1_slot _ _ _), oh_some, l1]
    exact Rtrim_reads f (trimM f) rfl rfl (by rw [trimM, hw]; rfl)
end Go.Vm
namespace Go.Vm
open Cel
attribute [local simp] callAny callP heapOf_nil
theorem Ints_loop (a b : Option (List Int)) (hn : (lst a).length = (lst b).length) (hl : (lst a).length ≤ 9223372036854775807) (h : Heap) : ∀ (d i : Nat), i + d = (lst a).length →
    q63_L2 (slA a) (slA b) (.int .i64 i) h = some ⟨.bool (decide ((lst a).drop i = (lst b).drop i)), [], true, [], []⟩ := by
  intro d
  induction d with
  | zero =>
    intro i hi
    have e1 : (lst a).drop i = [] := List.drop_eq_nil_of_le (by omega)
    have e2 : (lst b).drop i = [] := List.drop_eq_nil_of_le (by omega)
    rw [q63_L2_go, e1, e2]
    have : ¬ ((i : Int) < ((lst a).length : Int)) := by omega
    simp [q63_1, q63_3, q63_4, q63_5, q63_7, q63_9, q63_10, this]
  | succ d ih =>
    intro i hi
    have h1 : i < (lst a).length := by omega
    have h2 : i < (lst b).length := by omega
    have hc : ((i : Int) < ((lst a).length : Int)) := by omega
    have k1 := ixs_int (o := a) (i := i) (List.getElem?_eq_getElem h1) .i64
    have k2 := ixs_int (o := b) (i := i) (List.getElem?_eq_getElem h2) .i64
    rw [q63_L2_go, drop_dec h1 h2]
    by_cases he : (lst a)[i] = (lst b)[i]
    · have := ih (i + 1) (by omega)
      push_cast at this
      simp [q63_1, q63_3, q63_4, q63_5, q63_7, q63_9, q63_10, hc, k1, k2, he, wrap_up h1 hl, this]
    · simp [q63_1, q63_3, q63_4, q63_5, q63_7, q63_9, q63_10, hc, k1, k2, he]
@[simp] theorem s_Ints (a b : Option (List Int)) (hl : (lst a).length ≤ 9223372036854775807) : (callW E).p 11 [slA a, slA b] = some ⟨.bool (decide (lst a = lst b)), [], true, [], []⟩ := by
  rw [x_q63]
  by_cases hn : (lst a).length = (lst b).length
  · have := Ints_loop a b hn hl [] (lst a).length 0 (by omega)
    simp only [Int.ofNat_zero, List.drop_zero] at this
    have hn' : ((lst a).length : Int) = ((lst b).length : Int) := by omega
    simp [q63_1, q63_3, q63_4, q63_5, q63_7, q63_9, q63_10, hn', show q63_L2 (slA a) (slA b) (.int .i64 0) [] = _ from this]
  · have hn' : ¬ ((lst a).length : Int) = ((lst b).length : Int) := by omega
    have : ¬ lst a = lst b := fun h => hn (by rw [h])
    simp [q63_1, q63_3, q63_4, q63_5, q63_7, q63_9, q63_10, hn', this]
end Go.Vm
namespace Go.Vm
open Cel
attribute [local simp] callAny callP heapOf_nil
def sameIns (x y : Ins) : Bool := decide (x.op = y.op) && decide (x.d = y.d) && decide (x.a = y.a) && decide (x.b = y.b) && decide (x.c = y.c) && decide (x.n = y.n) && decide (x.t = y.t) && decide (x.s = y.s) && decide (lst x.args = lst y.args)
set_option maxHeartbeats 1000000 in
@[simp] theorem s_SameIns (x y : Ins) (hl : (lst x.args).length ≤ 9223372036854775807) : (callW E).p 28 [.agg (enc x), .agg (enc y)] = some ⟨.bool (sameIns x y), [], true, [], []⟩ := by
  rw [x_q66]
  have hi := s_Ints x.args y.args hl
  by_cases h1 : x.op = y.op
  · by_cases h2 : x.d = y.d
    · by_cases h3 : x.a = y.a
      · by_cases h4 : x.b = y.b
        · by_cases h5 : x.c = y.c
          · by_cases h6 : x.n = y.n
            · by_cases h7 : x.t = y.t
              · by_cases h8 : x.s = y.s
                · simp [q66_1, sameIns, h1, h2, h3, h4, h5, h6, h7, h8, hi]
                · simp [q66_1, sameIns, h1, h2, h3, h4, h5, h6, h7, h8]
              · simp [q66_1, sameIns, h1, h2, h3, h4, h5, h6, h7]
            · simp [q66_1, sameIns, h1, h2, h3, h4, h5, h6]
          · simp [q66_1, sameIns, h1, h2, h3, h4, h5]
        · simp [q66_1, sameIns, h1, h2, h3, h4]
      · simp [q66_1, sameIns, h1, h2, h3]
    · simp [q66_1, sameIns, h1, h2]
  · simp [q66_1, sameIns, h1]
end Go.Vm
namespace Go.Vm
open Cel
attribute [local simp] callAny callP heapOf_nil
def sameCode : List Ins → List Ins → Bool
  | [], [] => true
  | x :: xs, y :: ys => sameIns x y && sameCode xs ys
  | _, _ => false
def sameFn (a b : Fn) : Bool := decide (lst a.regs = lst b.regs) && decide (lst a.params = lst b.params) && decide (a.ret = b.ret) && sameCode (lst a.code) (lst b.code) && decide (lst a.rows = lst b.rows)
theorem sameCode_len : ∀ {a b : List Ins}, sameCode a b = true → a.length = b.length
  | [], [], _ => rfl
  | x :: a, y :: b, h => by
    simp only [sameCode, Bool.and_eq_true] at h
    simp [sameCode_len h.2]
  | [], _ :: _, h => by cases h
  | _ :: _, [], h => by cases h
theorem sameCode_refl : ∀ (a : List Ins), sameCode a a = true
  | [] => rfl
  | x :: a => by simp [sameCode, sameCode_refl a, sameIns]
theorem sameFn_refl (f : Fn) : sameFn f f = true := by simp [sameFn, sameCode_refl]
theorem row_eqa (r s : Row) : evEqa true [0, 0, 0, 2] (.agg (enc r)) (.agg (enc s)) = some (.bool (decide (¬ r = s))) := by
  obtain ⟨a, b, c, d⟩ := r
  obtain ⟨a', b', c', d'⟩ := s
  simp [evEqa, enc_row, leavesEq, leafEq]
  by_cases h1 : a = a' <;> by_cases h2 : b = b' <;> by_cases h3 : c = c' <;> by_cases h4 : d = d' <;> simp [h1, h2, h3, h4]
abbrev HS2 (a b : Fn) : Heap := [⟨1, .arr true false 5 [enc a]⟩, ⟨1, .arr true false 5 [enc b]⟩]
theorem Same_rows (a b : Fn) (hn : (lst a.rows).length = (lst b.rows).length) (hl : (lst a.rows).length ≤ 9223372036854775807) : ∀ (d i : Nat), i + d = (lst a.rows).length →
    q65_L2 (.lp 0 1 0 0) (.lp 1 1 0 0) (.int .i64 i) (HS2 a b) = some ⟨.bool (decide ((lst a.rows).drop i = (lst b.rows).drop i)), [], true, [], []⟩ := by
  intro d
  induction d with
  | zero =>
    intro i hi
    have e1 : (lst a.rows).drop i = [] := List.drop_eq_nil_of_le (by omega)
    have e2 : (lst b.rows).drop i = [] := List.drop_eq_nil_of_le (by omega)
    have hc : ¬ ((i : Int) < ((lst a.rows).length : Int)) := by omega
    rw [q65_L2_go, e1, e2]
    simp [q65_5, q65_1, hc]
  | succ d ih =>
    intro i hi
    have h1 : i < (lst a.rows).length := by omega
    have h2 : i < (lst b.rows).length := by omega
    have hc : ((i : Int) < ((lst a.rows).length : Int)) := by omega
    have k1 := ixs_row (o := a.rows) (i := i) (List.getElem?_eq_getElem h1) .i64
    have k2 := ixs_row (o := b.rows) (i := i) (List.getElem?_eq_getElem h2) .i64
    rw [q65_L2_go, drop_dec h1 h2]
    generalize (lst a.rows)[i] = r at *
    generalize (lst b.rows)[i] = s at *
    have q := row_eqa r s
    have ih := ih (i + 1) (by omega)
    push_cast at ih
    by_cases he : r = s
    · simp [q65_5, q65_4, q65_3, hc, k1, k2, he, wrap_up h1 hl, ih, row_eqa]
    · simp [q65_5, q65_4, q65_3, hc, k1, k2, he, q]
theorem Same_code (a b : Fn) (hn : (lst a.code).length = (lst b.code).length) (hl : (lst a.code).length ≤ 9223372036854775807) (ha : ∀ x ∈ lst a.code, (lst x.args).length ≤ 9223372036854775807) (R : Bool)
    (hR : q65_7 (.lp 0 1 0 0) (.lp 1 1 0 0) (HS2 a b) = some ⟨.bool R, [], true, [], []⟩) : ∀ (d i : Nat), i + d = (lst a.code).length →
    q65_L9 (.lp 0 1 0 0) (.lp 1 1 0 0) (.int .i64 i) (HS2 a b) = some ⟨.bool (sameCode ((lst a.code).drop i) ((lst b.code).drop i) && R), [], true, [], []⟩ := by
  intro d
  induction d with
  | zero =>
    intro i hi
    have e1 : (lst a.code).drop i = [] := List.drop_eq_nil_of_le (by omega)
    have e2 : (lst b.code).drop i = [] := List.drop_eq_nil_of_le (by omega)
    have hc : ¬ ((i : Int) < ((lst a.code).length : Int)) := by omega
    rw [q65_L9_go, e1, e2]
    simp [q65_12, hR, hc, sameCode]
  | succ d ih =>
    intro i hi
    have h1 : i < (lst a.code).length := by omega
    have h2 : i < (lst b.code).length := by omega
    have hc : ((i : Int) < ((lst a.code).length : Int)) := by omega
    have k1 := ixs_ins (o := a.code) (i := i) (List.getElem?_eq_getElem h1) .i64
    have k2 := ixs_ins (o := b.code) (i := i) (List.getElem?_eq_getElem h2) .i64
    have hx := ha _ (List.getElem_mem h1)
    rw [q65_L9_go, List.drop_eq_getElem_cons h1, List.drop_eq_getElem_cons h2, sameCode]
    generalize (lst a.code)[i] = x at *
    generalize (lst b.code)[i] = y at *
    have q := s_SameIns x y hx
    have ih := ih (i + 1) (by omega)
    push_cast at ih
    cases hs : sameIns x y with
    | true =>
      rw [hs] at q
      simp [q65_12, q65_11, q65_10, hc, k1, k2, q, wrap_up h1 hl, ih]
    | false =>
      rw [hs] at q
      simp [q65_12, q65_11, hc, k1, k2, q]
structure FnLen (f : Fn) : Prop where
  regs : (lst f.regs).length ≤ 9223372036854775807
  params : (lst f.params).length ≤ 9223372036854775807
  code : (lst f.code).length ≤ 9223372036854775807
  rows : (lst f.rows).length ≤ 9223372036854775807
  args : ∀ x ∈ lst f.code, (lst x.args).length ≤ 9223372036854775807
set_option maxHeartbeats 1000000 in
theorem s_Same (a b : Fn) (hl : FnLen a) : (callW E).p 14 [.agg (enc a), .agg (enc b)] = some ⟨.bool (sameFn a b), [], true, [], []⟩ := by
  rw [x_q65]
  have i1 := s_Ints a.regs b.regs hl.regs
  have i2 := s_Ints a.params b.params hl.params
  unfold sameFn
  by_cases h1 : lst a.regs = lst b.regs
  rotate_left
  · simp [q65_17, q65_16, h1, i1]
  by_cases h2 : lst a.params = lst b.params
  rotate_left
  · simp [q65_17, q65_16, h1, i1, h2, i2]
  by_cases h3 : a.ret = b.ret
  rotate_left
  · simp [q65_17, q65_16, h1, i1, h2, i2, h3]
  by_cases h4 : (lst a.code).length = (lst b.code).length
  rotate_left
  · have h4' : ¬ ((lst a.code).length : Int) = ((lst b.code).length : Int) := by omega
    have hs : sameCode (lst a.code) (lst b.code) = false := by
      cases hs : sameCode (lst a.code) (lst b.code) with
      | false => rfl
      | true => exact (h4 (sameCode_len hs)).elim
    simp [q65_17, q65_16, h1, i1, h2, i2, h3, h4', hs]
  have h4' : ((lst a.code).length : Int) = ((lst b.code).length : Int) := by omega
  by_cases h5 : (lst a.rows).length = (lst b.rows).length
  rotate_left
  · have h5' : ¬ ((lst a.rows).length : Int) = ((lst b.rows).length : Int) := by omega
    have hs : ¬ lst a.rows = lst b.rows := fun h => h5 (by rw [h])
    simp [q65_17, q65_16, h1, i1, h2, i2, h3, h4', h5', hs]
  have h5' : ((lst a.rows).length : Int) = ((lst b.rows).length : Int) := by omega
  have r := Same_rows a b h5 hl.rows _ 0 (Nat.zero_add _)
  simp only [List.drop_zero, Int.ofNat_zero] at r
  have c := Same_code a b h4 hl.code hl.args _ r _ 0 (Nat.zero_add _)
  simp only [List.drop_zero, Int.ofNat_zero] at c
  have c' : q65_14 (.lp 0 1 0 0) (.lp 1 1 0 0) (HS2 a b) = _ := c
  simp [q65_17, q65_16, h1, i1, h2, i2, h3, h4', h5', c']
end Go.Vm
namespace Go.Vm
open Cel
attribute [local simp] callAny callP heapOf_nil
@[simp] theorem holds11 : (callW E).p 97 [] = some ⟨.bool true, [], true, [], []⟩ := lift_p 60 (by kernel_rfl)
theorem s_light (f : Fn) : (callW E).p 98 [.agg (enc f)] = some ⟨.bool (decide ((lst f.code).length ≤ 400) && decide ((lst f.regs).length ≤ 100) && decide ((lst f.rows).length ≤ 100)), [], true, [], []⟩ := by
  rw [x_q51]
  by_cases h1 : (lst f.code).length ≤ 400
  · by_cases h2 : (lst f.regs).length ≤ 100
    · have h1' : ((lst f.code).length : Int) ≤ 400 := by omega
      have h2' : ((lst f.regs).length : Int) ≤ 100 := by omega
      by_cases h3 : (lst f.rows).length ≤ 100
      · have h3' : ((lst f.rows).length : Int) ≤ 100 := by omega
        simp [q51_1, h1, h2, h3, h1', h2', h3']
      · have h3' : ¬ ((lst f.rows).length : Int) ≤ 100 := by omega
        simp [q51_1, h1, h2, h3, h1', h2', h3']
    · have h1' : ((lst f.code).length : Int) ≤ 400 := by omega
      have h2' : ¬ ((lst f.regs).length : Int) ≤ 100 := by omega
      simp [q51_1, h1, h2, h1', h2']
  · have h1' : ¬ ((lst f.code).length : Int) ≤ 400 := by omega
    simp [q51_1, h1, h1']
end Go.Vm
namespace Go.Vm
theorem FnIn.fit3 {f : Fn} (h : FnIn f) : FnFit f := by
  have e : reachBytes = 140737488351232 := rfl
  refine ⟨fun x hx => ?_, ?_, ?_, ?_, ?_⟩
  · have k := h.insI x hx
    refine ⟨⟨k.n.1, ?_⟩, ?_, ?_⟩
    · have := k.n.2; omega
    · have := k.s; omega
    · have := k.len; omega
  · have := h.code; omega
  · have := h.regs; omega
  · have := h.params; omega
  · have := h.rows; omega
end Go.Vm
namespace Go.Vm
theorem FnIn.fit2 {f : Fn} (h : FnIn f) : FnFit f := h.fit3
theorem FnIn.rd {f : Fn} (h : FnIn f) (h1 : (lst f.code).length ≤ 400) (h3 : (lst f.rows).length ≤ 100) : FnRd f := by
  have e : reachBytes = 140737488351232 := rfl
  have e38 : (2:Nat)^38 = 274877906944 := by decide
  refine ⟨h.fit2, ?_, ?_, ?_, ?_, fun x hx => ?_⟩
  · have := h.regs; omega
  · have := h.params; omega
  · omega
  · omega
  · have := (h.insI x hx).len; omega
end Go.Vm
namespace Go.Vm
open Cel
theorem trim_len {f : Fn} (hf : FnRd f) : FnLen (trimM f) := by
  have e38 : (2:Nat)^38 = 274877906944 := by decide
  have h1 := hf.sm.regs
  have h2 := hf.sm.params
  have h3 := hf.sm.code
  have h4 := hf.sm.rows
  unfold trimM
  split
  · refine ⟨by simp only; omega, by simp only; omega, ?_, ?_, fun x hx => ?_⟩
    · have := trimG_len f (lst f.code).length
      have := plc_le f (lst f.code).length
      simp only [lst_nz]; omega
    · have := trimR_len f (lst f.rows).length
      simp only [lst_nz]; omega
    · simp only [lst_nz] at hx
      have key : ∀ k, k ≤ (lst f.code).length → x ∈ trimG f k → ∃ y ∈ lst f.code, x.args = y.args := by
        intro k
        induction k with
        | zero => intro _ h; cases h
        | succ k ih =>
          intro hk h
          rw [trimG, List.mem_append] at h
          rcases h with h | h
          · exact ih (by omega) h
          · split at h
            · rw [List.mem_singleton] at h
              subst h
              exact ⟨insAt f k, List.mem_of_getElem? (insAt_lt (by omega)), rfl⟩
            · cases h
      obtain ⟨y, hy, e⟩ := key _ (Nat.le_refl _) hx
      have := hf.sm.args y hy
      rw [e]; omega
  · exact ⟨by omega, by omega, by omega, by omega, fun x hx => by have := hf.sm.args x hx; omega⟩
theorem FlowTrims_all (f : Fn) (hf : FnIn f) : (callW E).p 108 [.agg (enc f)] = some ⟨.bool true, [], true, [], []⟩ := by
  rw [x_q49]
  have hl := s_light f
  have n0 : newC 0 (some 0) (cellsOf (.agg (enc f))) [D0] = some (.lp 0 1 0 0, [AB f]) := by simp
  have l0 : ∀ t : Heap, evLd true 5 (.lp 0 1 0 0) (AB f :: t) = some (.agg (enc f)) := fun t => by simp
  have ha : ∀ H : Heap, fzList (fz H fuelF) [.agg (enc f)] = some ⟨[.agg (enc f)], scal f && true, []⟩ := fun H => by
    rw [fzList_cons, fz_enc, fzList_nil]; rfl
  have ch : ∀ H : Heap, callAny E (callW E) 0 none true 97 [] H = some (.bool true, H) := fun H => call_reads (fa := ⟨[], true, []⟩) rfl rfl rfl holds11 ⟨_, rfl, rfl⟩
  have cl : ∀ H : Heap, callAny E (callW E) 0 none true 98 [.agg (enc f)] H = some (.bool _, H) := fun H => call_reads rfl (ha H) rfl hl ⟨_, rfl, rfl⟩
  have fl : ∀ H : Heap, fpCall E (callW E) 0 none true 98 [.agg (enc f)] H = some ([], []) := fun H => fp_reads rfl (ha H) rfl hl
  by_cases hg : (lst f.code).length ≤ 400 ∧ (lst f.regs).length ≤ 100 ∧ (lst f.rows).length ≤ 100
  · simp only [hg, decide_true, Bool.and_self] at cl
    have hrd : FnRd f := hf.rd hg.1 hg.2.2
    obtain ⟨r1, t1, t2⟩ := s_Trim f hrd (by omega)
    obtain ⟨r2, t3, t4⟩ := s_RTrim f hrd (by omega)
    have c1 : ∀ H : Heap, callAny E (callW E) 0 none true 100 [.agg (enc f)] H = some (.agg (enc (trimM f)), H) := fun H => call_reads rfl (ha H) rfl t1 t2
    have f1 : ∀ H : Heap, fpCall E (callW E) 0 none true 100 [.agg (enc f)] H = some ([], []) := fun H => fp_reads rfl (ha H) rfl t1
    have c2 : ∀ H : Heap, callAny E (callW E) 0 none true 103 [.agg (enc f)] H = some (.agg (enc (trimM f)), H) := fun H => call_reads rfl (ha H) rfl t3 t4
    have f2 : ∀ H : Heap, fpCall E (callW E) 0 none true 103 [.agg (enc f)] H = some ([], []) := fun H => fp_reads rfl (ha H) rfl t3
    have hs := s_Same (trimM f) (trimM f) (trim_len hrd)
    rw [sameFn_refl] at hs
    have ha2 : ∀ H : Heap, fzList (fz H fuelF) [.agg (enc (trimM f)), .agg (enc (trimM f))] = some ⟨[.agg (enc (trimM f)), .agg (enc (trimM f))], scal (trimM f) && (scal (trimM f) && true), []⟩ := fun H => by
      rw [fzList_cons, fzList_cons, fz_enc, fzList_nil]; rfl
    have c3 : ∀ H : Heap, callAny E (callW E) 0 none true 14 [.agg (enc (trimM f)), .agg (enc (trimM f))] H = some (.bool true, H) := fun H => call_reads rfl (ha2 H) rfl hs ⟨_, rfl, rfl⟩
    have f3 : ∀ H : Heap, fpCall E (callW E) 0 none true 14 [.agg (enc (trimM f)), .agg (enc (trimM f))] H = some ([], []) := fun H => fp_reads rfl (ha2 H) rfl hs
    have hpo : pairsOk [(ids1 (.lp 0 1 0 0), []), ([], []), ([], []), ([], []), (ids1 (.lp 0 1 0 0), []), ([], []), (ids1 (.lp 0 1 0 0), []), ([], []), ([], []), ([], []), ([], [])] [(5, 6)] = true := rfl
    simp only [q49_3, n0, oh_some, q49_2, ch, ob_some, evUn_not, Bool.not_true, cnd_f, q49_1, l0, fl, ofp_some, cl, fgd_ff, gb_ff, gh_ff, f1, c1, f2, c2, f3, c3, evPick_f, hpo, okK_t]
    rfl
  · have hb : (decide ((lst f.code).length ≤ 400) && decide ((lst f.regs).length ≤ 100) && decide ((lst f.rows).length ≤ 100)) = false := by
      rw [← Bool.not_eq_true, Bool.and_eq_true, Bool.and_eq_true, decide_eq_true_eq, decide_eq_true_eq, decide_eq_true_eq]
      exact fun h => hg ⟨h.1.1, h.1.2, h.2⟩
    rw [hb] at cl
    have hpo : pairsOk [(ids1 (.lp 0 1 0 0), []), ([], []), ([], []), ([], []), ([], []), ([], []), ([], []), ([], []), ([], []), ([], []), ([], [])] [(5, 6)] = true := rfl
    simp only [q49_3, n0, oh_some, q49_2, ch, ob_some, evUn_not, Bool.not_true, cnd_f, q49_1, l0, fl, ofp_some, cl, Bool.not_false, fgd_tf, gb_tf, gh_tf, evPick_t, hpo, okK_t]
    rfl
end Go.Vm
