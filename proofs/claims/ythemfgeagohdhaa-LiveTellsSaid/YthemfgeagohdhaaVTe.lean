/- The document's answer whether an instruction is well formed. The document's answer whether an instruction is well formed, whole. The document's answer for an instruction is the program's. The document's answer whether a function is well formed: the program's own. What a function that is handed in is fit for, for a check. Chapter 13's anchor. LiveTells: what is live is told as the document has it. -/
import Derived.Test.YthemfgeagohdhaaVX
import Derived.Test.YthemfgeagohdhaaVTd
set_option linter.unusedSimpArgs false
set_option linter.unusedVariables false
set_option linter.unusedSectionVars false
namespace Go.Vm
open Cel
attribute [local simp] callAny callP heapOf_nil fpCall
def switchM (f : Fn) (x : Ins) : Bool :=
  match x.op with
  | 1 => decide (regK (lst f.regs) x.d = 2) || (decide (-2147483648 ≤ x.n) && decide (x.n < 2147483648))
  | 4 => decide (regK (lst f.regs) x.d = regK (lst f.regs) x.a)
  | 5 => decide (0 < (numK x.n).2.1) && decide (regK (lst f.regs) x.d = (numK x.n).2.2) && decide (regK (lst f.regs) x.a = (numK x.n).1) && decide (regK (lst f.regs) x.b = (numK x.n).2.1)
  | 6 => decide (0 < (numK x.n).1) && decide ((numK x.n).2.1 = 0) && decide (regK (lst f.regs) x.d = (numK x.n).2.2) && decide (regK (lst f.regs) x.a = (numK x.n).1)
  | 12 => typeOk x.s
  | 21 => typeOk x.s
  | 22 => typeOk x.s
  | 16 => decide (0 ≤ x.n)
  | 17 => decide (0 ≤ x.n)
  | 23 => callM (lst f.regs) x
  | 24 => callM (lst f.regs) x
  | 25 => callM (lst f.regs) x
  | 26 => callM (lst f.regs) x
  | 27 => placeOk (lst f.code).length x.t
  | 28 => decide (0 ≤ x.n) && decide (x.n ≤ 5) && placeOk (lst f.code).length x.t
  | 29 => (decide (x.n = 0) || decide (x.n = 1)) && (decide (x.b = -1) || decide (regK (lst f.regs) x.b = 3)) && placeOk (lst f.code).length x.t
  | 30 => if f.ret = 0 then decide (x.a = -1) else !decide (x.a = -1) && decide (regK (lst f.regs) x.a = f.ret)
  | _ => true
def oneM (f : Fn) (x : Ins) : Bool :=
  decide (1 ≤ x.op) && decide (x.op ≤ 33) && (wantM (regK (lst f.regs) x.d) ((rowM x.op).getD 0 0) && (wantM (regK (lst f.regs) x.a) ((rowM x.op).getD 1 0) && (wantM (regK (lst f.regs) x.b) ((rowM x.op).getD 2 0) && (wantM (regK (lst f.regs) x.c) ((rowM x.op).getD 3 0) && switchM f x))))
set_option maxHeartbeats 8000000 in
theorem one_25 (f : Fn) (x : Ins) (hs : x.s.length ≤ 9223372036854775807) (hl : (lst x.args).length ≤ 9223372036854775807) (v55 : AV) (hv : v55 = .int .i64 x.op) :
    q72_25 Q0 Q1 (.int .i64 (numK x.n).1) (.int .i64 (numK x.n).2.1) (.int .i64 (numK x.n).2.2) v55 (H3 f x) = some ⟨.bool (switchM f x), [], true, [], []⟩ := by
  subst hv
  have hkd := s_kind f x.d
  have hka := s_kind f x.a
  have hkb := s_kind f x.b
  have hty := s_RType x.s hs
  have hcl := s_call f x hl
  have hpl := s_place f x.t
  unfold switchM
  generalize regK (lst f.regs) x.d = kd at *
  generalize regK (lst f.regs) x.a = ka at *
  generalize regK (lst f.regs) x.b = kb at *
  generalize typeOk x.s = ty at *
  generalize callM (lst f.regs) x = cl at *
  generalize placeOk (lst f.code).length x.t = pl at *
  generalize numK x.n = k at *
  obtain ⟨a, b, d⟩ := k
  simp only
  by_cases o1 : x.op = 1
  · by_cases h2 : kd = 2
    · simp [o1, q72_25, q72_24, hkd, h2, pairsOk, fpApart, meets]
    · by_cases h3 : -2147483648 ≤ x.n <;> simp [o1, q72_25, q72_24, hkd, h2, h3, pairsOk, fpApart, meets]
  by_cases o4 : x.op = 4
  · simp [o4, q72_25, q72_24, q72_23, q72_22, hkd, hka, pairsOk, fpApart, meets]
  by_cases o5 : x.op = 5
  · by_cases h1 : 0 < b
    · by_cases h2 : kd = d
      · by_cases h3 : ka = a
        · simp [o5, h1, h2, h3, hkd, hka, hkb, q72_25, q72_24, q72_23, q72_22, q72_21, q72_20, q72_19, q72_18, q72_17, q72_16, q72_15, q72_14, q72_13, q72_12, q72_11, q72_10, q72_9, q72_8, q72_7, q72_6, q72_5, q72_4, q72_3, q72_2, q72_1, pairsOk, fpApart, meets]
        · simp [o5, h1, h2, h3, hkd, hka, hkb, q72_25, q72_24, q72_23, q72_22, q72_21, q72_20, q72_19, q72_18, q72_17, q72_16, q72_15, q72_14, q72_13, q72_12, q72_11, q72_10, q72_9, q72_8, q72_7, q72_6, q72_5, q72_4, q72_3, q72_2, q72_1, pairsOk, fpApart, meets]
      · simp [o5, h1, h2, hkd, hka, hkb, q72_25, q72_24, q72_23, q72_22, q72_21, q72_20, q72_19, q72_18, q72_17, q72_16, q72_15, q72_14, q72_13, q72_12, q72_11, q72_10, q72_9, q72_8, q72_7, q72_6, q72_5, q72_4, q72_3, q72_2, q72_1, pairsOk, fpApart, meets]
    · simp [o5, h1, q72_25, q72_24, q72_23, q72_22, q72_21, q72_20, q72_19, q72_18, q72_17, q72_16, q72_15, q72_14, q72_13, q72_12, q72_11, q72_10, q72_9, q72_8, q72_7, q72_6, q72_5, q72_4, q72_3, q72_2, q72_1, pairsOk, fpApart, meets]
  by_cases o6 : x.op = 6
  · by_cases h1 : 0 < a
    · by_cases h2 : b = 0
      · by_cases h3 : kd = d
        · simp [o6, h1, h2, h3, hkd, hka, q72_25, q72_24, q72_23, q72_22, q72_21, q72_20, q72_19, q72_18, q72_17, q72_16, q72_15, q72_14, q72_13, q72_12, q72_11, q72_10, q72_9, q72_8, q72_7, q72_6, q72_5, q72_4, q72_3, q72_2, q72_1, pairsOk, fpApart, meets]
        · simp [o6, h1, h2, h3, hkd, hka, q72_25, q72_24, q72_23, q72_22, q72_21, q72_20, q72_19, q72_18, q72_17, q72_16, q72_15, q72_14, q72_13, q72_12, q72_11, q72_10, q72_9, q72_8, q72_7, q72_6, q72_5, q72_4, q72_3, q72_2, q72_1, pairsOk, fpApart, meets]
      · simp [o6, h1, h2, q72_25, q72_24, q72_23, q72_22, q72_21, q72_20, q72_19, q72_18, q72_17, q72_16, q72_15, q72_14, q72_13, q72_12, q72_11, q72_10, q72_9, q72_8, q72_7, q72_6, q72_5, q72_4, q72_3, q72_2, q72_1, pairsOk, fpApart, meets]
    · simp [o6, h1, q72_25, q72_24, q72_23, q72_22, q72_21, q72_20, q72_19, q72_18, q72_17, q72_16, q72_15, q72_14, q72_13, q72_12, q72_11, q72_10, q72_9, q72_8, q72_7, q72_6, q72_5, q72_4, q72_3, q72_2, q72_1, pairsOk, fpApart, meets]
  by_cases o12 : x.op = 12
  · simp [o12, hty, q72_25, q72_24, q72_23, q72_22, q72_21, q72_20, q72_19, q72_18, q72_17, q72_16, q72_15, q72_14, q72_13, q72_12, q72_11, q72_10, q72_9, q72_8, q72_7, q72_6, q72_5, q72_4, q72_3, q72_2, q72_1, pairsOk, fpApart, meets]
  by_cases o21 : x.op = 21
  · simp [o21, hty, q72_25, q72_24, q72_23, q72_22, q72_21, q72_20, q72_19, q72_18, q72_17, q72_16, q72_15, q72_14, q72_13, q72_12, q72_11, q72_10, q72_9, q72_8, q72_7, q72_6, q72_5, q72_4, q72_3, q72_2, q72_1, pairsOk, fpApart, meets]
  by_cases o22 : x.op = 22
  · simp [o22, hty, q72_25, q72_24, q72_23, q72_22, q72_21, q72_20, q72_19, q72_18, q72_17, q72_16, q72_15, q72_14, q72_13, q72_12, q72_11, q72_10, q72_9, q72_8, q72_7, q72_6, q72_5, q72_4, q72_3, q72_2, q72_1, pairsOk, fpApart, meets]
  by_cases o16 : x.op = 16
  · simp [o16, q72_25, q72_24, q72_23, q72_22, q72_21, q72_20, q72_19, q72_18, q72_17, q72_16, q72_15, q72_14, q72_13, q72_12, q72_11, q72_10, q72_9, q72_8, q72_7, q72_6, q72_5, q72_4, q72_3, q72_2, q72_1, pairsOk, fpApart, meets]
  by_cases o17 : x.op = 17
  · simp [o17, q72_25, q72_24, q72_23, q72_22, q72_21, q72_20, q72_19, q72_18, q72_17, q72_16, q72_15, q72_14, q72_13, q72_12, q72_11, q72_10, q72_9, q72_8, q72_7, q72_6, q72_5, q72_4, q72_3, q72_2, q72_1, pairsOk, fpApart, meets]
  by_cases o23 : x.op = 23
  · simp [o23, hcl, q72_25, q72_24, q72_23, q72_22, q72_21, q72_20, q72_19, q72_18, q72_17, q72_16, q72_15, q72_14, q72_13, q72_12, q72_11, q72_10, q72_9, q72_8, q72_7, q72_6, q72_5, q72_4, q72_3, q72_2, q72_1, pairsOk, fpApart, meets]
  by_cases o24 : x.op = 24
  · simp [o24, hcl, q72_25, q72_24, q72_23, q72_22, q72_21, q72_20, q72_19, q72_18, q72_17, q72_16, q72_15, q72_14, q72_13, q72_12, q72_11, q72_10, q72_9, q72_8, q72_7, q72_6, q72_5, q72_4, q72_3, q72_2, q72_1, pairsOk, fpApart, meets]
  by_cases o25 : x.op = 25
  · simp [o25, hcl, q72_25, q72_24, q72_23, q72_22, q72_21, q72_20, q72_19, q72_18, q72_17, q72_16, q72_15, q72_14, q72_13, q72_12, q72_11, q72_10, q72_9, q72_8, q72_7, q72_6, q72_5, q72_4, q72_3, q72_2, q72_1, pairsOk, fpApart, meets]
  by_cases o26 : x.op = 26
  · simp [o26, hcl, q72_25, q72_24, q72_23, q72_22, q72_21, q72_20, q72_19, q72_18, q72_17, q72_16, q72_15, q72_14, q72_13, q72_12, q72_11, q72_10, q72_9, q72_8, q72_7, q72_6, q72_5, q72_4, q72_3, q72_2, q72_1, pairsOk, fpApart, meets]
  by_cases o28 : x.op = 28
  · by_cases h1 : 0 ≤ x.n
    · by_cases h2 : x.n ≤ 5 <;> simp [o28, h1, h2, hpl, q72_25, q72_24, q72_23, q72_22, q72_21, q72_20, q72_19, q72_18, q72_17, q72_16, q72_15, q72_14, q72_13, q72_12, q72_11, q72_10, q72_9, q72_8, q72_7, q72_6, q72_5, q72_4, q72_3, q72_2, q72_1, pairsOk, fpApart, meets]
    · simp [o28, h1, q72_25, q72_24, q72_23, q72_22, q72_21, q72_20, q72_19, q72_18, q72_17, q72_16, q72_15, q72_14, q72_13, q72_12, q72_11, q72_10, q72_9, q72_8, q72_7, q72_6, q72_5, q72_4, q72_3, q72_2, q72_1, pairsOk, fpApart, meets]
  by_cases o27 : x.op = 27
  · simp [o27, hpl, q72_25, q72_24, q72_23, q72_22, q72_21, q72_20, q72_19, q72_18, q72_17, q72_16, q72_15, q72_14, q72_13, q72_12, q72_11, q72_10, q72_9, q72_8, q72_7, q72_6, q72_5, q72_4, q72_3, q72_2, q72_1, pairsOk, fpApart, meets]
  by_cases o29 : x.op = 29
  · by_cases h1 : x.n = 0
    · by_cases h2 : x.b = -1
      · simp [o29, h1, h2, hpl, q72_25, q72_24, q72_23, q72_22, q72_21, q72_20, q72_19, q72_18, q72_17, q72_16, q72_15, q72_14, q72_13, q72_12, q72_11, q72_10, q72_9, q72_8, q72_7, q72_6, q72_5, q72_4, q72_3, q72_2, q72_1, pairsOk, fpApart, meets]
      · by_cases h3 : kb = 3 <;> simp [o29, h1, h2, h3, hpl, hkb, q72_25, q72_24, q72_23, q72_22, q72_21, q72_20, q72_19, q72_18, q72_17, q72_16, q72_15, q72_14, q72_13, q72_12, q72_11, q72_10, q72_9, q72_8, q72_7, q72_6, q72_5, q72_4, q72_3, q72_2, q72_1, pairsOk, fpApart, meets]
    · by_cases h1' : x.n = 1
      · by_cases h2 : x.b = -1
        · simp [o29, h1', h2, hpl, q72_25, q72_24, q72_23, q72_22, q72_21, q72_20, q72_19, q72_18, q72_17, q72_16, q72_15, q72_14, q72_13, q72_12, q72_11, q72_10, q72_9, q72_8, q72_7, q72_6, q72_5, q72_4, q72_3, q72_2, q72_1, pairsOk, fpApart, meets]
        · by_cases h3 : kb = 3 <;> simp [o29, h1', h2, h3, hpl, hkb, q72_25, q72_24, q72_23, q72_22, q72_21, q72_20, q72_19, q72_18, q72_17, q72_16, q72_15, q72_14, q72_13, q72_12, q72_11, q72_10, q72_9, q72_8, q72_7, q72_6, q72_5, q72_4, q72_3, q72_2, q72_1, pairsOk, fpApart, meets]
      · simp [o29, h1, h1', q72_25, q72_24, q72_23, q72_22, q72_21, q72_20, q72_19, q72_18, q72_17, q72_16, q72_15, q72_14, q72_13, q72_12, q72_11, q72_10, q72_9, q72_8, q72_7, q72_6, q72_5, q72_4, q72_3, q72_2, q72_1, pairsOk, fpApart, meets]
  by_cases o30 : x.op = 30
  · by_cases h1 : f.ret = 0
    · simp [o30, h1, q72_25, q72_24, q72_23, q72_22, q72_21, q72_20, q72_19, q72_18, q72_17, q72_16, q72_15, q72_14, q72_13, q72_12, q72_11, q72_10, q72_9, q72_8, q72_7, q72_6, q72_5, q72_4, q72_3, q72_2, q72_1, pairsOk, fpApart, meets]
    · by_cases h2 : x.a = -1 <;> simp [o30, h1, h2, hka, q72_25, q72_24, q72_23, q72_22, q72_21, q72_20, q72_19, q72_18, q72_17, q72_16, q72_15, q72_14, q72_13, q72_12, q72_11, q72_10, q72_9, q72_8, q72_7, q72_6, q72_5, q72_4, q72_3, q72_2, q72_1, pairsOk, fpApart, meets]
  · have e : (match x.op with
      | 1 => decide (kd = 2) || (decide (-2147483648 ≤ x.n) && decide (x.n < 2147483648))
      | 4 => decide (kd = ka)
      | 5 => decide (0 < b) && decide (kd = d) && decide (ka = a) && decide (kb = b)
      | 6 => decide (0 < a) && decide (b = 0) && decide (kd = d) && decide (ka = a)
      | 12 => ty
      | 21 => ty
      | 22 => ty
      | 16 => decide (0 ≤ x.n)
      | 17 => decide (0 ≤ x.n)
      | 23 => cl
      | 24 => cl
      | 25 => cl
      | 26 => cl
      | 27 => pl
      | 28 => decide (0 ≤ x.n) && decide (x.n ≤ 5) && pl
      | 29 => (decide (x.n = 0) || decide (x.n = 1)) && (decide (x.b = -1) || decide (kb = 3)) && pl
      | 30 => if f.ret = 0 then decide (x.a = -1) else !decide (x.a = -1) && decide (ka = f.ret)
      | _ => true) = true := by
      split <;> first | rfl | contradiction
    rw [show _ = true from e]
    simp [o1, o4, o5, o6, o12, o21, o22, o16, o17, o23, o24, o25, o26, o27, o28, o29, o30, q72_25, q72_24, q72_23, q72_22, q72_21, q72_20, q72_19, q72_18, q72_17, q72_16, q72_15, q72_14, q72_13, q72_12, q72_11, q72_10, q72_9, q72_8, q72_7, q72_6, q72_5, q72_4, q72_3, q72_2, q72_1, pairsOk, fpApart, meets]
end Go.Vm
namespace Go.Vm
open Cel
attribute [local simp] callAny callP heapOf_nil fpCall
def signB (c : UInt8) : Bool := decide (c = 45) || decide (c = 63) || decide (c = 42) || decide (c = 61) || decide (c = 110) || decide (c = 49) || decide (c = 50) || decide (c = 51)
theorem signB_or {c : UInt8} (h : signB c = true) : c = 45 ∨ c = 63 ∨ c = 42 ∨ c = 61 ∨ c = 110 ∨ c = 49 ∨ c = 50 ∨ c = 51 := by
  simp only [signB, Bool.or_eq_true, decide_eq_true_eq] at h
  simp only [or_assoc] at h
  exact h
@[simp] theorem fz_tup3' (h : Heap) (a b c : Int) : fz h fuelF (.tup [.int .i64 a, .int .i64 b, .int .i64 c]) = some ⟨.tup [.int .i64 a, .int .i64 b, .int .i64 c], true, []⟩ := rfl
theorem row_signs : ((List.range 33).all fun i => decide ((rowM (1 + i)).length = 4) && (rowM (1 + i)).all signB) = true := by kernel_rfl
theorem row_ok {op : Int} (h1 : 1 ≤ op) (h2 : op ≤ 33) : (rowM op).length = 4 ∧ (rowM op).all signB = true := by
  have := range_all row_signs (op - 1).toNat (by omega)
  have e : (1 + ((op - 1).toNat : Int)) = op := by omega
  simp only [e, Bool.and_eq_true, decide_eq_true_eq] at this
  exact this
theorem one_field (f : Fn) (x : Ins) (w : List UInt8) (i : Nat) (r : Int) (c : UInt8) (hi : i < 4) (hw : w[i]? = some c) (hc : signB c = true) (hr : [x.d, x.a, x.b, x.c][i]? = some r) :
    q72_L31 Q0 Q1 (.str w) (.ls 2 1 1 0 4) (.int .i64 i) (H3 f x) = if wantM (regK (lst f.regs) r) c then q72_L31 Q0 Q1 (.str w) (.ls 2 1 1 0 4) (.int .i64 (i + 1 : Nat)) (H3 f x) else some ⟨.bool false, [], true, [], []⟩ := by
  have hn : ((i : Int) < (4 : Int)) := by omega
  have hw2 : IntKind.wrap .i64 ((i : Int) + 1) = ((i + 1 : Nat) : Int) := by rw [wrap_i64] <;> omega
  have hs := s_wanted f r c (signB_or hc)
  have k1 : evIxs 1 (.ls 2 1 1 0 4) (.int .i64 i) = some (.lp 2 1 i 0) := by simp [evIxs, hi, hn]
  have k2 : evLd false 1 (.lp 2 1 i 0) (H3 f x) = some (.int .i64 r) := by
    match i, hi, hr with
    | 0, _, hr => simp at hr; simp [hr]
    | 1, _, hr => simp at hr; simp [hr]
    | 2, _, hr => simp at hr; simp [hr]
    | 3, _, hr => simp at hr; simp [hr]
  have k3 := ixstr hw
  rw [q72_L31_go]
  generalize wantM (regK (lst f.regs) r) c = T at *
  simp only [q72_34, evBin_lss, ob_some, hn, decide_true, cnd_t]
  generalize hZ : q72_L31 Q0 Q1 (.str w) (.ls 2 1 1 0 4) (.int .i64 (i + 1 : Nat)) (H3 f x) = Z
  have e32 : q72_32 Q0 Q1 (.str w) (.ls 2 1 1 0 4) (.int .i64 i) (H3 f x) = Z := by
    rw [← hZ]; simp only [q72_32, evBin_add, ob_some, hw2]
  have e5 : evLd true 5 Q0 (H3 f x) = some (.agg (enc f)) := by simp
  simp only [q72_33, k1, k2, k3, e5, ob_some]
  cases T with
  | true => simp [hs, e32, pairsOk]
  | false => simp [hs, pairsOk]
set_option maxHeartbeats 1000000 in
theorem s_one (f : Fn) (x : Ins) (hn : -9223372036854775808 ≤ x.n ∧ x.n < 9223372036854775808) (hs : x.s.length ≤ 9223372036854775807) (hl : (lst x.args).length ≤ 9223372036854775807) :
    (callW E).p 64 [.agg (enc f), .agg (enc x)] = some ⟨.bool (oneM f x), [], true, [], []⟩ := by
  rw [x_q72]
  have hrow := s_row x.op
  by_cases h1 : 1 ≤ x.op
  · by_cases h2 : x.op ≤ 33
    · obtain ⟨hlen, hsg⟩ := row_ok h1 h2
      rw [oneM]
      simp only [h1, h2, decide_true, Bool.true_and]
      generalize rowM x.op = w at *
      match w, hlen, hsg with
      | [c0, c1, c2, c3], _, hsg =>
        simp only [List.all_cons, List.all_nil, Bool.and_true, Bool.and_eq_true] at hsg
        have e0 : q72_41 (.agg (enc f)) (.agg (enc x)) [⟨0, .dead⟩, ⟨0, .dead⟩, ⟨0, .dead⟩] = q72_L31 Q0 Q1 (.str [c0, c1, c2, c3]) (.ls 2 1 1 0 4) (.int .i64 0) (H3 f x) := by
          simp [q72_41, q72_40, q72_39, q72_38, q72_36, hrow, buildSC, fillRows]
        have s0 := one_field f x [c0, c1, c2, c3] 0 x.d c0 (by omega) rfl hsg.1 rfl
        have s1 := one_field f x [c0, c1, c2, c3] 1 x.a c1 (by omega) rfl hsg.2.1 rfl
        have s2 := one_field f x [c0, c1, c2, c3] 2 x.b c2 (by omega) rfl hsg.2.2.1 rfl
        have s3 := one_field f x [c0, c1, c2, c3] 3 x.c c3 (by omega) rfl hsg.2.2.2 rfl
        simp only [Int.ofNat_zero] at s0
        have e4 : q72_L31 Q0 Q1 (.str [c0, c1, c2, c3]) (.ls 2 1 1 0 4) (.int .i64 (3 + 1 : Nat)) (H3 f x) = some ⟨.bool (switchM f x), [], true, [], []⟩ := by
          have h25 := one_25 f x hs hl (.int .i64 x.op) rfl
          show q72_L31 Q0 Q1 (.str [c0, c1, c2, c3]) (.ls 2 1 1 0 4) (.int .i64 4) (H3 f x) = _
          rw [q72_L31_go]
          by_cases hk0 : 0 ≤ x.n
          · by_cases hk1 : x.n < 1000
            · have hK := s_RKinds x.n hk0 hk1
              simp [q72_34, q72_30, q72_29, hk0, hk1, hK, q72_27]
              exact h25
            · have : numK x.n = (0, 0, 0) := numK_out (by omega)
              rw [this] at h25
              simp [q72_34, q72_30, q72_29, hk0, hk1, q72_27]
              exact h25
          · have : numK x.n = (0, 0, 0) := numK_out (by omega)
            rw [this] at h25
            simp [q72_34, q72_30, q72_29, hk0, q72_27]
            exact h25
        rw [e0, s0]
        simp only [List.getD_cons_zero, List.getD_cons_succ]
        cases wantM (regK (lst f.regs) x.d) c0 with
        | false => simp
        | true =>
          rw [if_pos rfl, s1]
          cases wantM (regK (lst f.regs) x.a) c1 with
          | false => simp
          | true =>
            rw [if_pos rfl, s2]
            cases wantM (regK (lst f.regs) x.b) c2 with
            | false => simp
            | true =>
              rw [if_pos rfl, s3]
              cases wantM (regK (lst f.regs) x.c) c3 with
              | false => simp
              | true => rw [if_pos rfl, e4]; simp
    · have : rowM x.op = [] := by rw [rowM, if_pos (by omega)]
      rw [this] at hrow
      simp [q72_41, q72_40, q72_39, hrow, oneM, h2]
  · have : rowM x.op = [] := by rw [rowM, if_pos (by omega)]
    rw [this] at hrow
    simp [q72_41, q72_40, q72_39, hrow, oneM, h1]
end Go.Vm
namespace Go.Vm
theorem numK_ge (n : Int) : 0 ≤ (numK n).1 ∧ 0 ≤ (numK n).2.1 ∧ 0 ≤ (numK n).2.2 ∧ (numK n).1 ≤ 2 ∧ (numK n).2.1 ≤ 2 ∧ (numK n).2.2 ≤ 2 ∧ (¬ (numK n).1 = 0 → ¬ (numK n).2.2 = 0) ∧ (¬ (numK n).2.1 = 0 → ¬ (numK n).1 = 0 ∧ ¬ (numK n).2.2 = 0) := by
  unfold numK
  repeat' split
  all_goals decide
theorem regK_range {R : List Int} (hR : R.all (fun k => decide (1 ≤ k) && decide (k ≤ 3)) = true) (r : Int) : (inR R r = true ∧ (regK R r = 1 ∨ regK R r = 2 ∨ regK R r = 3)) ∨ (inR R r = false ∧ regK R r = 0) := by
  cases h : inR R r with
  | true =>
    obtain ⟨_, h1, h2⟩ := inR_get h
    rw [List.all_eq_true] at hR
    have := hR (regK R r) (List.mem_of_getElem? h2)
    simp only [Bool.and_eq_true, decide_eq_true_eq] at this
    refine .inl ⟨rfl, ?_⟩
    omega
  | false =>
    refine .inr ⟨rfl, ?_⟩
    simp only [inR, Bool.and_eq_false_iff, decide_eq_false_iff_not] at h
    unfold regK
    split
    · rfl
    · rw [List.getD_eq_getElem?_getD, List.getElem?_eq_none (by omega)]; rfl
theorem wrap32 {n : Int} : n = IntKind.wrap .i64 (IntKind.wrap .i32 n) ↔ -2147483648 ≤ n ∧ n < 2147483648 := by
  have h : -2147483648 ≤ IntKind.wrap .i32 n ∧ IntKind.wrap .i32 n < 2147483648 := by
    simp only [IntKind.wrap, IntKind.bits, IntKind.signed]
    simp
    omega
  rw [wrap_i64 (n := IntKind.wrap .i32 n) (by omega) (by omega)]
  constructor
  · intro e; rw [e]; exact h
  · intro e
    simp only [IntKind.wrap, IntKind.bits, IntKind.signed]
    simp
    omega
theorem field_m {R : List Int} {r : Int} : fieldOk R (-1) r = true := by simp [fieldOk]
theorem field_0 {R : List Int} (hR : R.all (fun k => decide (1 ≤ k) && decide (k ≤ 3)) = true) (r : Int) : fieldOk R 0 r = decide (0 < regK R r) := by
  rcases regK_range hR r with ⟨h1, h2⟩ | ⟨h1, h2⟩
  · simp [fieldOk, h1]; omega
  · simp [fieldOk, h1, h2]
theorem field_k {R : List Int} (hR : R.all (fun k => decide (1 ≤ k) && decide (k ≤ 3)) = true) (r k : Int) (hk : 0 < k) : fieldOk R k r = decide (regK R r = k) := by
  have a1 : ¬ k < 0 := by omega
  have a2 : ¬ k ≤ 0 := by omega
  rcases regK_range hR r with ⟨h1, h2⟩ | ⟨h1, h2⟩
  · simp [fieldOk, h1, a1, a2]
  · have : ¬ 0 = k := by omega
    simp [fieldOk, h1, h2, a1, a2, this]
theorem all_in {R : List Int} (hR : R.all (fun k => decide (1 ≤ k) && decide (k ≤ 3)) = true) (l : List Int) : (l.all fun r => !decide (regK R r = 0)) = l.all (inR R) := by
  congr 1
  funext r
  rcases regK_range hR r with ⟨h1, h2⟩ | ⟨h1, h2⟩
  · rw [h1]; simp; omega
  · rw [h1, h2]; rfl
theorem one_5 (f : Fn) (x : Ins) (hR : (lst f.regs).all (fun k => decide (1 ≤ k) && decide (k ≤ 3)) = true) (h : x.op = 5) : oneM f x = rightM f x := by
  have hk := numK_ge x.n
  have Fm := fun r => field_m (R := lst f.regs) (r := r)
  simp only [oneM, rightM, h, kindsM, rowM, rowT, wantM, argsOk, calls, tailOk, leads, switchM, Fm]
  generalize numK x.n = k at *
  obtain ⟨a, b, d⟩ := k
  simp only at hk ⊢
  by_cases hb : b = 0
  · subst hb; simp
  · rw [field_k hR x.d d (by omega), field_k hR x.a a (by omega), field_k hR x.b b (by omega)]
    rw [Bool.eq_iff_iff]
    simp
    omega
theorem one_6 (f : Fn) (x : Ins) (hR : (lst f.regs).all (fun k => decide (1 ≤ k) && decide (k ≤ 3)) = true) (h : x.op = 6) : oneM f x = rightM f x := by
  have hk := numK_ge x.n
  have Fm := fun r => field_m (R := lst f.regs) (r := r)
  simp only [oneM, rightM, h, kindsM, rowM, rowT, wantM, argsOk, calls, tailOk, leads, switchM, Fm]
  generalize numK x.n = k at *
  obtain ⟨a, b, d⟩ := k
  simp only at hk ⊢
  by_cases ha : a = 0
  · subst ha; simp
  · rw [field_k hR x.d d (by omega), field_k hR x.a a (by omega)]
    rw [Bool.eq_iff_iff]
    simp
    omega
theorem one_c (f : Fn) (x : Ins) (hR : (lst f.regs).all (fun k => decide (1 ≤ k) && decide (k ≤ 3)) = true) (h : x.op = 23 ∨ x.op = 24 ∨ x.op = 25 ∨ x.op = 26) : oneM f x = rightM f x := by
  have F0 := field_0 hR
  have Fm := fun r => field_m (R := lst f.regs) (r := r)
  have hA := all_in hR (lst x.args)
  have kd := regK_range hR x.d
  have hc : callM (lst f.regs) x = (!((decide (x.n < 0) && !decide (x.op = 25)) || decide (21 < (lst x.args).length) || (!decide (x.d = -1) && decide (regK (lst f.regs) x.d = 0))) && ((lst x.args).all (inR (lst f.regs)) && lastM (lst f.regs) x)) := by rw [callM, hA]
  cases ha : lst x.args with
  | nil =>
    by_cases hd : x.d = -1 <;> rcases h with h|h|h|h <;> (rw [Bool.eq_iff_iff]; simp [oneM, rightM, h, kindsM, rowM, rowT, wantM, argsOk, calls, tailOk, leads, switchM, hc, lastM, firstOk, ha, hd, F0, Fm]; try omega)
  | cons r t =>
    rw [ha] at hc
    generalize hg : (r :: t).all (inR (lst f.regs)) = A at *
    generalize hl : (r :: t).length = n at *
    by_cases hd : x.d = -1 <;> rcases h with h|h|h|h <;> (rw [Bool.eq_iff_iff]; simp [oneM, rightM, h, kindsM, rowM, rowT, wantM, argsOk, calls, tailOk, leads, switchM, hc, lastM, firstOk, ha, hd, F0, Fm]; first | (simp at hl hg; omega) | (simp at hl hg; grind) | skip)
theorem one_out (f : Fn) (x : Ins) (h : x.op < 1 ∨ 33 < x.op) : oneM f x = rightM f x := by
  rw [oneM, rightM, kindsM_out h]
  rcases h with h | h
  · have : ¬ 1 ≤ x.op := by omega
    simp [this]
  · have : ¬ x.op ≤ 33 := by omega
    simp [this]
set_option maxHeartbeats 4000000 in
theorem one_right (f : Fn) (x : Ins) (hR : (lst f.regs).all (fun k => decide (1 ≤ k) && decide (k ≤ 3)) = true) : oneM f x = rightM f x := by
  have F0 := field_0 hR
  have F1 := fun r => field_k hR r 1 (by omega)
  have F3 := fun r => field_k hR r 3 (by omega)
  have Fm := fun r => field_m (R := lst f.regs) (r := r)
  have hA := all_in hR (lst x.args)
  have kd := regK_range hR x.d
  have ka := regK_range hR x.a
  have hd : 0 < regK (lst f.regs) x.d ↔ ¬ regK (lst f.regs) x.d = 0 := by rcases kd with ⟨_, h⟩ | ⟨_, h⟩ <;> omega
  have hw := @wrap32 x.n
  rcases op_cases x.op with h|h|h|h|h|h|h|h|h|h|h|h|h|h|h|h|h|h|h|h|h|h|h|h|h|h|h|h|h|h|h|h|h|h|h
  all_goals first
    | (simp [oneM, rightM, h, kindsM, rowM, rowT, wantM, argsOk, calls, tailOk, leads, switchM, F0, F1, F3, Fm, placeOk, Bool.and_assoc]; done)
    | skip
  all_goals first
    | exact one_5 f x hR h
    | exact one_6 f x hR h
    | exact one_out f x (.inl h)
    | exact one_out f x (.inr h)
    | exact one_c f x hR (.inl h)
    | exact one_c f x hR (.inr (.inl h))
    | exact one_c f x hR (.inr (.inr (.inl h)))
    | exact one_c f x hR (.inr (.inr (.inr h)))
    | (rw [Bool.eq_iff_iff]; simp [oneM, rightM, h, kindsM, rowM, rowT, wantM, argsOk, calls, tailOk, leads, switchM, F0, F1, F3, Fm, placeOk]; omega)
    | (rw [Bool.eq_iff_iff]; simp [oneM, rightM, h, kindsM, rowM, rowT, wantM, argsOk, calls, tailOk, leads, switchM, F0, F1, F3, Fm, placeOk]; grind)
    | exact one_5 f x hR h
    | exact one_6 f x hR h
    | exact one_out f x (.inl h)
    | exact one_out f x (.inr h)
    | exact one_c f x hR (.inl h)
    | exact one_c f x hR (.inr (.inl h))
    | exact one_c f x hR (.inr (.inr (.inl h)))
    | exact one_c f x hR (.inr (.inr (.inr h)))
end Go.Vm
namespace Go.Vm
open Cel
attribute [local simp] callAny callP heapOf_nil fpCall
theorem RC_rows (f : Fn) (o1 : AO) (n : Int) (hn : n = (lst f.code).length) (hl : (lst f.rows).length ≤ 9223372036854775807) : ∀ (d i : Nat) (o2 : AO), i + d = (lst f.rows).length →
    q60_L2 P0 (.int .i64 n) (.int .i64 i) (HC f o1 o2) = if ((lst f.rows).drop i).all (rowOk (lst f.code)) then E0 else E80 := by
  intro d
  induction d with
  | zero =>
    intro i o2 hi
    have e1 : (lst f.rows).drop i = [] := List.drop_eq_nil_of_le (by omega)
    have hn : ¬ ((i : Int) < ((lst f.rows).length : Int)) := by omega
    rw [q60_L2_go, e1]
    simp [q60_5, q60_1, hn]
  | succ d ih =>
    intro i o2 hi
    have hlt : i < (lst f.rows).length := by omega
    have hc : ((i : Int) < ((lst f.rows).length : Int)) := by omega
    have k1 := ixs_row (o := f.rows) (i := i) (List.getElem?_eq_getElem hlt) .i64
    rw [q60_L2_go]
    have e1 : ((lst f.rows).drop i).all (rowOk (lst f.code)) = (rowOk (lst f.code) (lst f.rows)[i] && ((lst f.rows).drop (i + 1)).all (rowOk (lst f.code))) := by rw [List.drop_eq_getElem_cons hlt, List.all_cons]
    rw [e1]
    generalize hr : (lst f.rows)[i] = r at *
    have ih := fun o2 => ih (i + 1) o2 (by omega)
    push_cast at ih
    subst hn
    by_cases h1 : r.f < 0
    · simp [q60_5, hc, q60_4, k1, rowOk, h1]
    by_cases h2 : r.t ≤ r.f
    · simp [q60_5, hc, q60_4, k1, rowOk, h1, h2]
    by_cases h3 : ((lst f.code).length : Int) < r.t
    · simp [q60_5, hc, q60_4, k1, rowOk, h1, h2, h3]
    by_cases h4 : r.at_ < 0
    · have : ¬ 0 ≤ r.at_ := by omega
      simp [q60_5, hc, q60_4, k1, rowOk, h1, h2, h3, h4, placeOk, this]
    by_cases h5 : ((lst f.code).length : Int) ≤ r.at_
    · have : ¬ r.at_ < ((lst f.code).length : Int) := by omega
      simp [q60_5, hc, q60_4, k1, rowOk, h1, h2, h3, h4, h5, placeOk, this]
    · have hx : r.at_.toNat < (lst f.code).length := by omega
      have a1 : 0 ≤ r.at_ := by omega
      have a2 : r.at_ < ((lst f.code).length : Int) := by omega
      have k2 := ixs_insI (o := f.code) (n := r.at_) (by omega) (List.getElem?_eq_getElem hx) .i64
      by_cases h6 : ((lst f.code)[r.at_.toNat]).op = 32
      · simp [q60_5, hc, q60_4, k1, rowOk, h1, h2, h3, h4, h5, placeOk, a1, a2, k2, h6, hx, q60_3, wrap_up hlt hl, ih]
      · simp [q60_5, hc, q60_4, k1, rowOk, h1, h2, h3, h4, h5, placeOk, a1, a2, k2, h6, hx]
theorem RC_regs (f : Fn) (o1 o2 : AO) (n : Int) (hl : (lst f.regs).length ≤ 9223372036854775807) : ∀ (d i : Nat), i + d = (lst f.regs).length →
    q60_L23 P0 (.int .i64 n) (.int .i64 i) (HC f o1 o2) = if ((lst f.regs).drop i).all (fun k => decide (1 ≤ k) && decide (k ≤ 3)) then q60_21 P0 (.int .i64 n) (HC f o1 o2) else E80 := by
  intro d
  induction d with
  | zero =>
    intro i hi
    have e1 : (lst f.regs).drop i = [] := List.drop_eq_nil_of_le (by omega)
    have hn : ¬ ((i : Int) < ((lst f.regs).length : Int)) := by omega
    rw [q60_L23_go, e1]
    simp [q60_26, hn]
  | succ d ih =>
    intro i hi
    have hlt : i < (lst f.regs).length := by omega
    have hc : ((i : Int) < ((lst f.regs).length : Int)) := by omega
    have k1 := ixs_int (o := f.regs) (i := i) (List.getElem?_eq_getElem hlt) .i64
    have e1 : ((lst f.regs).drop i).all (fun k => decide (1 ≤ k) && decide (k ≤ 3)) = ((decide (1 ≤ (lst f.regs)[i]) && decide ((lst f.regs)[i] ≤ 3)) && ((lst f.regs).drop (i + 1)).all (fun k => decide (1 ≤ k) && decide (k ≤ 3))) := by
      rw [List.drop_eq_getElem_cons hlt, List.all_cons]
    rw [q60_L23_go, e1]
    generalize hr : (lst f.regs)[i] = r at *
    have ih := ih (i + 1) (by omega)
    push_cast at ih
    by_cases h1 : r < 1
    · have : ¬ 1 ≤ r := by omega
      simp [q60_26, hc, q60_25, k1, h1, this]
    by_cases h2 : 3 < r
    · have : ¬ r ≤ 3 := by omega
      simp [q60_26, hc, q60_25, k1, h1, h2, this]
    · have a1 : 1 ≤ r := by omega
      have a2 : r ≤ 3 := by omega
      simp [q60_26, hc, q60_25, k1, h1, h2, a1, a2, q60_24, wrap_up hlt hl, ih]
def parR (R : List Int) : List Int → List Int → Bool
  | _, [] => true
  | seen, p :: r => (inR R p && !seen.contains p) && parR R (seen ++ [p]) r
theorem RC_params (f : Fn) (o1 o2 : AO) (n : Int) (hR : (lst f.regs).all (fun k => decide (1 ≤ k) && decide (k ≤ 3)) = true) (hl : (lst f.params).length ≤ 9223372036854775807) : ∀ (d i : Nat), i + d = (lst f.params).length →
    q60_L16 P0 (.int .i64 n) (.int .i64 i) (HC f o1 o2) = if parR (lst f.regs) ((lst f.params).take i) ((lst f.params).drop i) then q60_14 P0 (.int .i64 n) (HC f o1 o2) else E80 := by
  intro d
  induction d with
  | zero =>
    intro i hi
    have e1 : (lst f.params).drop i = [] := List.drop_eq_nil_of_le (by omega)
    have hn : ¬ ((i : Int) < ((lst f.params).length : Int)) := by omega
    rw [q60_L16_go, e1]
    simp [q60_19, hn, parR]
  | succ d ih =>
    intro i hi
    have hlt : i < (lst f.params).length := by omega
    have hc : ((i : Int) < ((lst f.params).length : Int)) := by omega
    have k1 := ixs_int (o := f.params) (i := i) (List.getElem?_eq_getElem hlt) .i64
    have ks := slc_to (α := Int) f.params i (by omega) .i64
    simp only [es_int] at ks
    have hlm : lst (f.params.map (List.take i)) = (lst f.params).take i := by cases f.params <;> simp
    have e1 : parR (lst f.regs) ((lst f.params).take i) ((lst f.params).drop i) = ((inR (lst f.regs) (lst f.params)[i] && !((lst f.params).take i).contains (lst f.params)[i]) && parR (lst f.regs) ((lst f.params).take (i + 1)) ((lst f.params).drop (i + 1))) := by
      rw [List.drop_eq_getElem_cons hlt, parR, List.take_append_getElem]
    rw [q60_L16_go, e1]
    have hct : (callW E).p 42 [.int .i64 (lst f.params)[i], slA (f.params.map (List.take i))] = some ⟨.bool (((lst f.params).take i).contains (lst f.params)[i]), [], true, [], []⟩ := by
      rw [s_in _ _ (by rw [hlm, List.length_take]; omega), hlm, List.contains_eq_mem]
    generalize hr : (lst f.params)[i] = r at *
    generalize ((lst f.params).take i).contains r = B at *
    have ih := ih (i + 1) (by omega)
    push_cast at ih
    have hs := s_kind f r
    rcases regK_range hR r with ⟨a1, a2⟩ | ⟨a1, a2⟩
    · have hz : ¬ regK (lst f.regs) r = 0 := by omega
      rw [a1]
      generalize regK (lst f.regs) r = k at *
      cases B with
      | true => simp [q60_19, hc, q60_18, k1, hs, hz, ks, hct, pairsOk]
      | false =>
        simp [q60_19, hc, q60_18, k1, hs, hz, ks, hct, pairsOk, q60_17, wrap_up hlt hl]
        exact ih
    · rw [a2] at hs
      simp [q60_19, hc, q60_18, k1, hs, a1, pairsOk]
theorem RC_one (f : Fn) (o2 : AO) (n : Int) (x : Ins) (i g : Nat) (hR : (lst f.regs).all (fun k => decide (1 ≤ k) && decide (k ≤ 3)) = true) (fit : InsFit x) (hi : i < (lst f.code).length) (hl : (lst f.code).length ≤ 9223372036854775807) (hx : (lst f.code)[i]? = some x) (oc : OC) :
    q60_11 P0 (.int .i64 n) (.int .i64 i) (HC f ⟨g, oc⟩ o2) =
      if rightM f x && spotOk (lst f.code) i x then q60_10 P0 (.int .i64 n) (.int .i64 i) (HC f ⟨g + 1, .arr true false 9 [enc x]⟩ o2) else E80 := by
  have k0 := ixs_ins (o := f.code) (i := i) hx .i64
  have h1 := s_one f x fit.n fit.s fit.a
  rw [one_right f x hR] at h1
  cases hok : rightM f x with
  | false =>
    rw [hok] at h1
    simp [q60_11, k0, h1]
  | true =>
    have ht := right_leads (f := f) (x := x) hok
    rw [hok] at h1
    by_cases h32 : x.op = 32
    · have hld : leads 32 = false := by simp [leads]
      by_cases h0 : i = 0
      · subst h0
        simp only [Int.ofNat_zero] at k0
        simp [q60_11, k0, h1, h32, spotOk]
      · have h0' : ¬ ((i : Int) = 0) := by omega
        have hp : i - 1 < (lst f.code).length := by omega
        have k1 := ixs_ins (o := f.code) (i := i - 1) (List.getElem?_eq_getElem hp) .i64
        have hw : IntKind.wrap .i64 ((i : Int) - 1) = ((i - 1 : Nat) : Int) := by rw [wrap_i64] <;> omega
        cases he : ends ((lst f.code)[i - 1]).op with
        | true => simp [q60_11, k0, h1, h32, spotOk, h0, h0', hw, k1, hp, he, hld]
        | false => simp [q60_11, k0, h1, h32, spotOk, h0, h0', hw, k1, hp, he]
    · cases hld : leads x.op with
      | false => simp [q60_11, k0, h1, h32, spotOk, hld]
      | true =>
        obtain ⟨t0, t1⟩ := ht hld
        have hxt : x.t.toNat < (lst f.code).length := by omega
        have k2 := ixs_insI (o := f.code) (n := x.t) t0 (List.getElem?_eq_getElem hxt) .i64
        by_cases h6 : ((lst f.code)[x.t.toNat]).op = 32
        · simp [q60_11, k0, h1, h32, spotOk, hld, k2, h6, hxt]
        · simp [q60_11, k0, h1, h32, spotOk, hld, k2, h6, hxt]
theorem RC_code (f : Fn) (o2 : AO) (n : Int) (hn : n = (lst f.code).length) (hR : (lst f.regs).all (fun k => decide (1 ≤ k) && decide (k ≤ 3)) = true) (hfit : ∀ x ∈ lst f.code, InsFit x) (hl : (lst f.code).length ≤ 9223372036854775807) : ∀ (d i : Nat) (o1 : AO), i + d = (lst f.code).length →
    ∃ o1', q60_L9 P0 (.int .i64 n) (.int .i64 i) (HC f o1 o2) = if codeOk f (lst f.code) i ((lst f.code).drop i) then q60_7 P0 (.int .i64 n) (HC f o1' o2) else E80 := by
  intro d
  induction d with
  | zero =>
    intro i o1 hi
    have e1 : (lst f.code).drop i = [] := List.drop_eq_nil_of_le (by omega)
    have hnl : ¬ ((i : Int) < n) := by omega
    rw [q60_L9_go, e1]
    exact ⟨o1, by simp [q60_12, hnl, codeOk]⟩
  | succ d ih =>
    intro i o1 hi
    have hlt : i < (lst f.code).length := by omega
    have hc : ((i : Int) < n) := by omega
    have e1 : codeOk f (lst f.code) i ((lst f.code).drop i) = (rightM f (lst f.code)[i] && spotOk (lst f.code) i (lst f.code)[i] && codeOk f (lst f.code) (i + 1) ((lst f.code).drop (i + 1))) := by
      rw [List.drop_eq_getElem_cons hlt, codeOk]
    have fit := hfit _ (List.getElem_mem hlt)
    have hone := RC_one f o2 n _ i o1.gen hR fit hlt hl (List.getElem?_eq_getElem hlt) o1.c
    rw [q60_L9_go, e1]
    generalize (lst f.code)[i] = x at *
    generalize (rightM f x && spotOk (lst f.code) i x) = G at *
    simp only [q60_12, evBin_lss, ob_some, hc, decide_true, cnd_t, hone]
    cases G with
    | false => exact ⟨o1, by simp⟩
    | true =>
      obtain ⟨o1', ih⟩ := ih (i + 1) ⟨o1.gen + 1, .arr true false 9 [enc x]⟩ (by omega)
      push_cast at ih
      exact ⟨o1', by simp [q60_10, wrap_up hlt hl, ih]⟩
theorem par_same (R : List Int) : ∀ (l : List Int) (i : Nat) (seen : List Int), i + l.length ≤ 21 → parOk R i seen l = parR R seen l
  | [], _, _, _ => rfl
  | p :: r, i, seen, h => by
    simp only [List.length_cons] at h
    have : i ≤ 20 := by omega
    rw [parOk, parR, par_same R r (i + 1) (seen ++ [p]) (by omega)]
    simp [this]
theorem par_long (R : List Int) : ∀ (l : List Int) (i : Nat) (seen : List Int), 21 < i + l.length → i ≤ 21 → parOk R i seen l = false
  | [], i, _, h, h2 => by simp at h; omega
  | p :: r, i, seen, h, h2 => by
    simp only [List.length_cons] at h
    rw [parOk]
    by_cases hi : i ≤ 20
    · rw [par_long R r (i + 1) (seen ++ [p]) (by omega) (by omega)]; simp
    · simp [hi]
set_option maxRecDepth 100000 in
set_option maxHeartbeats 1000000 in
theorem s_RCheck (f : Fn) (hf : FnFit f) : (callW E).p 29 [.agg (enc f)] = some ⟨.int .i64 (if wf f then 0 else 80), [], true, [], []⟩ := by
  rw [x_q60]
  by_cases h0 : (lst f.code).length = 0
  · have h0' : ((lst f.code).length : Int) = 0 := by omega
    have : ¬ 1 ≤ (lst f.code).length := by omega
    simp [q60_32, q60_31, q60_30, h0', wf, this]
  have h0' : ¬ ((lst f.code).length : Int) = 0 := by omega
  have hne : ¬ lst f.code = [] := fun h => h0 (by rw [h]; rfl)
  have g1 : 1 ≤ (lst f.code).length := by omega
  by_cases h2 : 20000 < (lst f.code).length
  · have h2' : (20000 : Int) < ((lst f.code).length : Int) := by omega
    have : ¬ (lst f.code).length ≤ 20000 := by omega
    simp [q60_32, q60_31, q60_30, h0', hne, h2', wf, this]
  have h2' : ¬ (20000 : Int) < ((lst f.code).length : Int) := by omega
  have g2 : (lst f.code).length ≤ 20000 := by omega
  by_cases h3 : 20000 < (lst f.regs).length
  · have h3' : (20000 : Int) < ((lst f.regs).length : Int) := by omega
    have : ¬ (lst f.regs).length ≤ 20000 := by omega
    simp [q60_32, q60_31, q60_30, h0', hne, h2', h3', wf, this]
  have h3' : ¬ (20000 : Int) < ((lst f.regs).length : Int) := by omega
  have g3 : (lst f.regs).length ≤ 20000 := by omega
  by_cases hp : 21 < (lst f.params).length
  · have hp' : (21 : Int) < ((lst f.params).length : Int) := by omega
    have := par_long (lst f.regs) (lst f.params) 0 [] (by omega) (by omega)
    simp [q60_32, q60_31, q60_30, h0', hne, h2', h3', hp', wf, this]
  have hp' : ¬ (21 : Int) < ((lst f.params).length : Int) := by omega
  by_cases h4 : f.ret < 0
  · have : ¬ 0 ≤ f.ret := by omega
    simp [q60_32, q60_31, q60_30, h0', hne, h2', h3', hp', h4, wf, this]
  have g4 : 0 ≤ f.ret := by omega
  by_cases h5 : 3 < f.ret
  · have : ¬ f.ret ≤ 3 := by omega
    simp [q60_32, q60_31, q60_30, h0', hne, h2', h3', hp', h4, h5, wf, this]
  have g5 : f.ret ≤ 3 := by omega
  have hpl : (lst f.code).length - 1 < (lst f.code).length := by omega
  have k1 := ixs_ins (o := f.code) (i := (lst f.code).length - 1) (List.getElem?_eq_getElem hpl) .i64
  have hw : IntKind.wrap .i64 (((lst f.code).length : Int) - 1) = (((lst f.code).length - 1 : Nat) : Int) := by rw [wrap_i64] <;> omega
  have hg : (lst f.code).getD ((lst f.code).length - 1) default = (lst f.code)[(lst f.code).length - 1] := by rw [List.getD_eq_getElem?_getD, List.getElem?_eq_getElem hpl]; rfl
  cases he : ends ((lst f.code)[(lst f.code).length - 1]).op with
  | false =>
    have hwf : wf f = false := by rw [wf, hg, he]; simp
    rw [hwf]
    simp [q60_32, q60_31, q60_30, h0', hne, h2', h3', hp', h4, h5, hw, k1, he]
  | true =>
    have hps := par_same (lst f.regs) (lst f.params) 0 [] (by omega)
    have hwf : wf f = ((lst f.regs).all (fun k => decide (1 ≤ k) && decide (k ≤ 3)) && parR (lst f.regs) [] (lst f.params) && codeOk f (lst f.code) 0 (lst f.code) && (lst f.rows).all (rowOk (lst f.code))) := by
      rw [wf, hg, he, hps]
      simp only [g1, g2, g3, g4, g5, decide_true, Bool.true_and]
    have e : q60_32 (.agg (enc f)) [⟨0, .dead⟩, ⟨0, .dead⟩, ⟨0, .dead⟩] = q60_L23 P0 (.int .i64 (lst f.code).length) (.int .i64 0) (HC f ⟨0, .dead⟩ ⟨0, .dead⟩) := by
      simp [q60_32, q60_31, q60_30, h0', hne, h2', h3', hp', h4, h5, hw, k1, he, q60_1, q60_3, q60_4, q60_5, q60_7, q60_10, q60_11, q60_12, q60_14, q60_17, q60_18, q60_19, q60_21, q60_24, q60_25, q60_26, q60_28, q60_30, q60_31, q60_32]
    have a1 := RC_regs f ⟨0, .dead⟩ ⟨0, .dead⟩ (lst f.code).length hf.regs _ 0 (Nat.zero_add _)
    simp only [Int.ofNat_zero, List.drop_zero] at a1
    rw [e, a1, hwf]
    cases hR : (lst f.regs).all (fun k => decide (1 ≤ k) && decide (k ≤ 3)) with
    | false => simp
    | true =>
      have a2 := RC_params f ⟨0, .dead⟩ ⟨0, .dead⟩ (lst f.code).length hR hf.params _ 0 (Nat.zero_add _)
      obtain ⟨o1', a3⟩ := RC_code f ⟨0, .dead⟩ _ rfl hR hf.ins hf.code _ 0 ⟨0, .dead⟩ (Nat.zero_add _)
      have a4 := RC_rows f o1' _ rfl hf.rows _ 0 ⟨0, .dead⟩ (Nat.zero_add _)
      simp only [Int.ofNat_zero, List.drop_zero, List.take_zero] at a2 a3 a4
      have e2 : q60_21 P0 (.int .i64 (lst f.code).length) (HC f ⟨0, .dead⟩ ⟨0, .dead⟩) = q60_L16 P0 (.int .i64 (lst f.code).length) (.int .i64 0) (HC f ⟨0, .dead⟩ ⟨0, .dead⟩) := by simp [q60_1, q60_3, q60_4, q60_5, q60_7, q60_10, q60_11, q60_12, q60_14, q60_17, q60_18, q60_19, q60_21, q60_24, q60_25, q60_26, q60_28, q60_30, q60_31, q60_32]
      have e3 : q60_14 P0 (.int .i64 (lst f.code).length) (HC f ⟨0, .dead⟩ ⟨0, .dead⟩) = q60_L9 P0 (.int .i64 (lst f.code).length) (.int .i64 0) (HC f ⟨0, .dead⟩ ⟨0, .dead⟩) := by simp [q60_1, q60_3, q60_4, q60_5, q60_7, q60_10, q60_11, q60_12, q60_14, q60_17, q60_18, q60_19, q60_21, q60_24, q60_25, q60_26, q60_28, q60_30, q60_31, q60_32]
      have e4 : q60_7 P0 (.int .i64 (lst f.code).length) (HC f o1' ⟨0, .dead⟩) = q60_L2 P0 (.int .i64 (lst f.code).length) (.int .i64 0) (HC f o1' ⟨0, .dead⟩) := by simp [q60_1, q60_3, q60_4, q60_5, q60_7, q60_10, q60_11, q60_12, q60_14, q60_17, q60_18, q60_19, q60_21, q60_24, q60_25, q60_26, q60_28, q60_30, q60_31, q60_32]
      rw [e2, a2, e3, a3, e4, a4]
      generalize parR (lst f.regs) [] (lst f.params) = b2
      generalize codeOk f (lst f.code) 0 (lst f.code) = b3
      generalize (lst f.rows).all (rowOk (lst f.code)) = b4
      cases b2 <;> cases b3 <;> cases b4 <;> rfl
end Go.Vm
namespace Go.Vm
theorem FnIn.fit3 {f : Fn} (h : FnIn f) : FnFit f := by
  have e : reachBytes = 140737488351232 := rfl
  refine ⟨fun x hx => ?_, ?_, ?_, ?_, ?_⟩
  · have k := h.insI x hx
    refine ⟨⟨k.n.1, ?_⟩, ?_, ?_⟩
    · have := k.n.2; omega
    · have := k.s; omega
    · have := k.len; omega
  · have := h.code; omega
  · have := h.regs; omega
  · have := h.params; omega
  · have := h.rows; omega
end Go.Vm
namespace Go.Vm
@[simp] theorem holds13 : (callW E).p 74 [] = some ⟨.bool true, [], true, [], []⟩ := lift_p 60 (by kernel_rfl)
end Go.Vm
namespace Go.Vm
open Cel
section
variable {f : Fn} (w : Wf f) (hs : ArgsSm f) (hr : (lst f.rows).length ≤ 10000000000000) {t : Tb} (ok : TbOk (lst f.code).length ((lst f.regs).length / 64 + 1) t) (S : LvSnd f t) (C : ∀ i, i < (lst f.code).length → Cl f t i)
include w hs hr ok S C
theorem tells_r (i : Int) : ∀ (d : Nat) (r : Int), r + d = (lst f.regs).length + 1 → -1 ≤ r → q54_L4 (.lp 0 1 0 0) (tv t (lst f.regs).length) (.int .i64 i) (.int .i64 r) [AB f] = q54_3 (.lp 0 1 0 0) (tv t (lst f.regs).length) (.int .i64 i) [AB f] := by
  have hR := w.regs
  have l0 : ∀ t : Heap, evLd true 5 (.lp 0 1 0 0) (AB f :: t) = some (.agg (enc f)) := fun t => by simp
  have lr : ∀ t : Heap, evLd false 1 (.lp 0 1 0 0) (AB f :: t) = some (slA f.regs) := fun t => by simp
  intro d
  induction d with
  | zero =>
    intro r hd h1
    have hc : ¬ r ≤ ((lst f.regs).length : Int) := by omega
    rw [q54_L4_go]
    simp only [q54_7, evFa_lp, Nat.zero_add, ob_some, lr, evLen_sl, evBin_leq, hc, decide_false, cnd_f]
  | succ d ih =>
    intro r hd h1
    have hc : r ≤ ((lst f.regs).length : Int) := by omega
    have hw : IntKind.wrap .i64 (r + 1) = r + 1 := by rw [wrap_i64] <;> omega
    have q1 := s_Before t (R := (lst f.regs).length) (by omega) (fun i hi => ok.bw i (by rw [← ok.b]; exact hi)) i r
    have q2 := s_After t (R := (lst f.regs).length) (by omega) (fun i hi => ok.aw i (by rw [← ok.a]; exact hi)) i r
    have q3 := s_Across f t (by omega) ok i r
    rw [bef_eq w ok S C] at q1
    rw [aft_eq w ok S C] at q2
    rw [acr_eq w ok S C] at q3
    have p1 := s_RBefore f w hs hr i r
    have p2 := s_RAfter f w hs hr i r
    have p3 := s_RAcross f w hs hr i r
    have c1 : ∀ H, callAny E (callW E) 0 none true 76 [tv t (lst f.regs).length, .int .i64 i, .int .i64 r] H = some (.bool (befR f i r), H) := fun H => call_reads rfl (fz_tir _ _ i r H) rfl q1 ⟨_, rfl, rfl⟩
    have f1 : ∀ H, fpCall E (callW E) 0 none true 76 [tv t (lst f.regs).length, .int .i64 i, .int .i64 r] H = some ([], []) := fun H => fp_reads rfl (fz_tir _ _ i r H) rfl q1
    have c2 : ∀ H, callAny E (callW E) 0 none true 87 [tv t (lst f.regs).length, .int .i64 i, .int .i64 r] H = some (.bool (aftR f i r), H) := fun H => call_reads rfl (fz_tir _ _ i r H) rfl q2 ⟨_, rfl, rfl⟩
    have f2 : ∀ H, fpCall E (callW E) 0 none true 87 [tv t (lst f.regs).length, .int .i64 i, .int .i64 r] H = some ([], []) := fun H => fp_reads rfl (fz_tir _ _ i r H) rfl q2
    have c3 : ∀ H, callAny E (callW E) 0 none true 88 [tv t (lst f.regs).length, .agg (enc f), .int .i64 i, .int .i64 r] H = some (.bool (acrR f i r), H) := fun H => call_reads rfl (fz_tfir _ _ f i r H) rfl q3 ⟨_, rfl, rfl⟩
    have f3 : ∀ H, fpCall E (callW E) 0 none true 88 [tv t (lst f.regs).length, .agg (enc f), .int .i64 i, .int .i64 r] H = some ([], []) := fun H => fp_reads rfl (fz_tfir _ _ f i r H) rfl q3
    have d1 : ∀ H, callAny E (callW E) 0 none true 89 [.agg (enc f), .int .i64 i, .int .i64 r] H = some (.bool (befR f i r), H) := fun H => call_reads rfl (fz_fir f i r H) rfl p1 ⟨_, rfl, rfl⟩
    have g1 : ∀ H, fpCall E (callW E) 0 none true 89 [.agg (enc f), .int .i64 i, .int .i64 r] H = some ([], []) := fun H => fp_reads rfl (fz_fir f i r H) rfl p1
    have d2 : ∀ H, callAny E (callW E) 0 none true 90 [.agg (enc f), .int .i64 i, .int .i64 r] H = some (.bool (aftR f i r), H) := fun H => call_reads rfl (fz_fir f i r H) rfl p2 ⟨_, rfl, rfl⟩
    have g2 : ∀ H, fpCall E (callW E) 0 none true 90 [.agg (enc f), .int .i64 i, .int .i64 r] H = some ([], []) := fun H => fp_reads rfl (fz_fir f i r H) rfl p2
    have d3 : ∀ H, callAny E (callW E) 0 none true 91 [.agg (enc f), .int .i64 i, .int .i64 r] H = some (.bool (acrR f i r), H) := fun H => call_reads rfl (fz_fir f i r H) rfl p3 ⟨_, rfl, rfl⟩
    have g3 : ∀ H, fpCall E (callW E) 0 none true 91 [.agg (enc f), .int .i64 i, .int .i64 r] H = some ([], []) := fun H => fp_reads rfl (fz_fir f i r H) rfl p3
    have hee : ∀ b : Bool, evEqb true (.bool b) (.bool b) = some (.bool false) := fun b => by cases b <;> rfl
    rw [q54_L4_go]
    refine Eq.trans ?_ (ih (r + 1) (by omega) (by omega))
    simp only [q54_7, evFa_lp, Nat.zero_add, ob_some, lr, evLen_sl, evBin_leq, hc, decide_true, cnd_t, q54_6, f1, ofp_some, c1, oh_some, l0, g1, d1, hee, fgd_ff, gb_ff, gh_ff, f2, c2, g2, d2, evPick_f, f3, c3, g3, d3, cnd_f, q54_5, evBin_add, hw]
    exact okK_of rfl _
theorem tells_i : ∀ (d : Nat) (i : Int), i + d = (lst f.code).length + 1 → -1 ≤ i → q54_L2 (.lp 0 1 0 0) (tv t (lst f.regs).length) (.int .i64 i) [AB f] = some ⟨.bool true, [], true, [], []⟩ := by
  have hn := w.n2
  have l3 : ∀ t : Heap, evLd false 1 (.lp 0 1 0 3) (AB f :: t) = some (slA f.code) := fun t => by simp
  intro d
  induction d with
  | zero =>
    intro i hd h1
    have hc : ¬ i ≤ ((lst f.code).length : Int) := by omega
    rw [q54_L2_go]
    simp only [q54_12, evFa_lp, Nat.zero_add, ob_some, l3, evLen_sl, evBin_leq, hc, decide_false, gb_ft, evPick_f, cnd_f, q54_1, expo1_bool']
  | succ d ih =>
    intro i hd h1
    have hc : i ≤ ((lst f.code).length : Int) := by omega
    have hw : IntKind.wrap .i64 (i + 1) = i + 1 := by rw [wrap_i64] <;> omega
    have hE : evEqnB 0 true (tv t (lst f.regs).length) .nilp = some (.bool true) := rfl
    have hin := tells_r w hs hr ok S C i ((lst f.regs).length + 2) (-1) (by omega) (by omega)
    rw [q54_L2_go]
    refine Eq.trans ?_ (ih (i + 1) (by omega) (by omega))
    have e9 : q54_9 (.lp 0 1 0 0) (tv t (lst f.regs).length) (.int .i64 i) [AB f] = q54_L4 (.lp 0 1 0 0) (tv t (lst f.regs).length) (.int .i64 i) (.int .i64 (-1)) [AB f] := rfl
    simp only [q54_12, evFa_lp, Nat.zero_add, ob_some, l3, evLen_sl, evBin_leq, hc, decide_true, gb_tt, hE, evPick_t, cnd_t, e9, hin, q54_3, evBin_add, hw]
end
theorem LiveTells_all (f : Fn) (hf : FnIn f) : (callW E).p 111 [.agg (enc f)] = some ⟨.bool true, [], true, [], []⟩ := by
  rw [x_q54]
  have n0 : newC 0 (some 0) (cellsOf (.agg (enc f))) [D0] = some (.lp 0 1 0 0, [AB f]) := by simp
  have l0 : ∀ t : Heap, evLd true 5 (.lp 0 1 0 0) (AB f :: t) = some (.agg (enc f)) := fun t => by simp
  have l3 : ∀ t : Heap, evLd false 1 (.lp 0 1 0 3) (AB f :: t) = some (slA f.code) := fun t => by simp
  have lr : ∀ t : Heap, evLd false 1 (.lp 0 1 0 0) (AB f :: t) = some (slA f.regs) := fun t => by simp
  have lw : ∀ t : Heap, evLd false 1 (.lp 0 1 0 4) (AB f :: t) = some (slA f.rows) := fun t => by simp
  have ha : ∀ H : Heap, fzList (fz H fuelF) [.agg (enc f)] = some ⟨[.agg (enc f)], scal f && true, []⟩ := fun H => by
    rw [fzList_cons, fz_enc, fzList_nil]; rfl
  have ch : ∀ H : Heap, callAny E (callW E) 0 none true 74 [] H = some (.bool true, H) := fun H => call_reads (fa := ⟨[], true, []⟩) rfl rfl rfl holds13 ⟨_, rfl, rfl⟩
  by_cases h1 : (80 : Int) < ((lst f.code).length : Int)
  · simp only [q54_20, n0, oh_some, q54_19, ch, evUn_not, Bool.not_true, ob_some, cnd_f, q54_18, evFa_lp, Nat.zero_add, l3, evLen_sl, evBin_gtr, h1, decide_true, gb_tf, evPick_t, cnd_t, expo1_bool']
  by_cases h2 : (16 : Int) < ((lst f.regs).length : Int)
  · simp only [q54_20, n0, oh_some, q54_19, ch, evUn_not, Bool.not_true, ob_some, cnd_f, q54_18, evFa_lp, Nat.zero_add, l3, lr, evLen_sl, evBin_gtr, h1, h2, decide_true, decide_false, gb_ff, gb_tf, evPick_f, evPick_t, cnd_t, expo1_bool']
  by_cases h3 : (10 : Int) < ((lst f.rows).length : Int)
  · simp only [q54_20, n0, oh_some, q54_19, ch, evUn_not, Bool.not_true, ob_some, cnd_f, q54_18, evFa_lp, Nat.zero_add, l3, lr, lw, evLen_sl, evBin_gtr, h1, h2, h3, decide_true, decide_false, gb_ff, evPick_f, evPick_t, cnd_t, expo1_bool']
  have e0 : q54_20 (.agg (enc f)) [D0] = q54_17 (.lp 0 1 0 0) [AB f] := by
    simp only [q54_20, n0, oh_some, q54_19, ch, evUn_not, Bool.not_true, ob_some, cnd_f, q54_18, evFa_lp, Nat.zero_add, l3, lr, lw, evLen_sl, evBin_gtr, h1, h2, h3, decide_false, gb_ff, evPick_f]
  have e0' : q54_20 (.agg (enc f)) [⟨0, .dead⟩] = q54_17 (.lp 0 1 0 0) [AB f] := e0
  rw [e0']
  have hck := s_RCheck f hf.fit3
  have c29 : ∀ H, callAny E (callW E) 0 none true 29 [.agg (enc f)] H = some (.int .i64 (if wf f then 0 else 80), H) := fun H => call_reads rfl (ha H) rfl hck ⟨_, rfl, rfl⟩
  have e38 : (2:Nat)^38 = 274877906944 := by decide
  have hi := hf.insI
  have hx : ∀ x ∈ lst f.code, (lst x.args).length ≤ 17592186043904 := fun x hx => by
    have := (hi x hx).len; have e : reachBytes = 140737488351232 := rfl; omega
  cases hw : wf f with
  | false =>
    rw [hw] at c29
    have hO := s_OfNo f hf.fit3 hw
    have cO : ∀ H, callAny E (callW E) 0 none true 75 [.agg (enc f)] H = some (.nilp, H) := fun H => call_reads rfl (ha H) rfl hO ⟨_, rfl, rfl⟩
    have hE : evEqnB 0 false .nilp .nilp = some (.bool true) := rfl
    have hE2 : evEqnB 0 true .nilp .nilp = some (.bool false) := rfl
    have hc : (-1 : Int) ≤ ((lst f.code).length : Int) := by omega
    have e14 : q54_14 (.lp 0 1 0 0) .nilp [AB f] = q54_L2 (.lp 0 1 0 0) .nilp (.int .i64 (-1)) [AB f] := rfl
    simp only [q54_17, l0, ob_some, cO, oh_some, q54_16, hE, c29, Bool.false_eq_true, if_false, evBin_neq, show decide ((80 : Int) ≠ 0) = true from rfl, show evEqb true (.bool true) (.bool true) = some (.bool false) from rfl, cnd_f, e14]
    rw [q54_L2_go]
    simp only [q54_12, evFa_lp, Nat.zero_add, ob_some, l3, evLen_sl, evBin_leq, hc, decide_true, gb_tt, hE2, evPick_t, cnd_f, q54_1, expo1_bool']
  | true =>
    rw [hw] at c29
    have w := wf_of hw
    obtain ⟨q, t, hO, hR, ok, S, C⟩ := s_Of f hf.fit3 (by omega) hx hw
    have cO : ∀ H, callAny E (callW E) 0 none true 75 [.agg (enc f)] H = some (tv t (lst f.regs).length, H) := fun H => call_reads rfl (ha H) rfl hO hR
    have hE : evEqnB 0 false (tv t (lst f.regs).length) .nilp = some (.bool false) := rfl
    have e14 : q54_14 (.lp 0 1 0 0) (tv t (lst f.regs).length) [AB f] = q54_L2 (.lp 0 1 0 0) (tv t (lst f.regs).length) (.int .i64 (-1)) [AB f] := rfl
    have hl := tells_i w hx (by omega) ok S C ((lst f.code).length + 2) (-1) (by omega) (by omega)
    simp only [q54_17, l0, ob_some, cO, oh_some, q54_16, hE, c29, if_true, evBin_neq, show decide ((0 : Int) ≠ 0) = false from rfl, show evEqb true (.bool false) (.bool false) = some (.bool false) from rfl, cnd_f, e14, hl]
end Go.Vm
