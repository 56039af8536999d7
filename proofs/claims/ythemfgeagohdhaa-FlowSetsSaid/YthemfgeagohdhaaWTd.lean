/- The document's answer whether a call, an instruction is well formed. The document's answer whether an instruction is well formed. The document's answer whether an instruction is well formed, whole. The document's answer for an instruction is the program's. The document's answer whether a function is well formed: the program's own. The document's Set: for each register a way is looked for on which it is read unwritten. flow.Set: its end, its beginning, and what it says. Short functions, of chapter 11. What a function that is handed in is fit for, for a check. A function trimmed, in plain words. -/
import Derived.Test.YthemfgeagohdhaaWX
import Derived.Test.YthemfgeagohdhaaWTc
set_option linter.unusedSimpArgs false
set_option linter.unusedVariables false
set_option linter.unusedSectionVars false
namespace Go.Vm
open Cel
attribute [local simp] callAny callP heapOf_nil fpCall
abbrev H2 (f : Fn) (x : Ins) : Heap := [⟨1, .arr true false 5 [enc f]⟩, ⟨1, .arr true false 9 [enc x]⟩]
abbrev H3 (f : Fn) (x : Ins) : Heap := [⟨1, .arr true false 5 [enc f]⟩, ⟨1, .arr true false 9 [enc x]⟩, ⟨1, .arr false false 1 [[.int .i64 x.d], [.int .i64 x.a], [.int .i64 x.b], [.int .i64 x.c]]⟩]
abbrev Q0 : AV := .lp 0 1 0 0
abbrev Q1 : AV := .lp 1 1 0 0
def lastM (R : List Int) (x : Ins) : Bool :=
  (!decide (x.op = 24) && !decide (x.op = 25)) || (match lst x.args with
    | [] => false
    | r :: _ => decide (regK R r = 3))
def callM (R : List Int) (x : Ins) : Bool :=
  !((decide (x.n < 0) && !decide (x.op = 25)) || decide (21 < (lst x.args).length) || (!decide (x.d = -1) && decide (regK R x.d = 0))) && ((lst x.args).all (fun r => !decide (regK R r = 0)) && lastM R x)
theorem call_last (f : Fn) (x : Ins) : q69_1 Q0 Q1 (H2 f x) = some ⟨.bool (lastM (lst f.regs) x), [], true, [], []⟩ := by
  by_cases o1 : x.op = 24
  · cases ha : lst x.args with
    | nil => simp [q69_1, o1, lastM, ha, pairsOk]
    | cons r t =>
      have k1 := ixs_int (o := x.args) (i := 0) (x := r) (by rw [ha]; rfl) .i64
      simp only [Int.ofNat_zero] at k1
      simp [q69_1, o1, lastM, ha, k1, pairsOk]
  · by_cases o2 : x.op = 25
    · cases ha : lst x.args with
      | nil => simp [q69_1, o2, lastM, ha, pairsOk]
      | cons r t =>
        have k1 := ixs_int (o := x.args) (i := 0) (x := r) (by rw [ha]; rfl) .i64
        simp only [Int.ofNat_zero] at k1
        simp [q69_1, o2, lastM, ha, k1, pairsOk]
    · simp [q69_1, o1, o2, lastM, pairsOk]
theorem call_loop (f : Fn) (x : Ins) (hl : (lst x.args).length ≤ 9223372036854775807) : ∀ (d i : Nat), i + d = (lst x.args).length →
    q69_L2 Q0 Q1 (.int .i64 i) (H2 f x) = some ⟨.bool (((lst x.args).drop i).all (fun r => !decide (regK (lst f.regs) r = 0)) && lastM (lst f.regs) x), [], true, [], []⟩ := by
  intro d
  induction d with
  | zero =>
    intro i hi
    have e1 : (lst x.args).drop i = [] := List.drop_eq_nil_of_le (by omega)
    have hn : ¬ ((i : Int) < ((lst x.args).length : Int)) := by omega
    rw [q69_L2_go, e1]
    simp [q69_5, hn, call_last]
  | succ d ih =>
    intro i hi
    have hlt : i < (lst x.args).length := by omega
    have hn : ((i : Int) < ((lst x.args).length : Int)) := by omega
    have k1 := ixs_int (o := x.args) (i := i) (List.getElem?_eq_getElem hlt) .i64
    have e1 : ((lst x.args).drop i).all (fun r => !decide (regK (lst f.regs) r = 0)) = ((!decide (regK (lst f.regs) (lst x.args)[i] = 0)) && ((lst x.args).drop (i + 1)).all (fun r => !decide (regK (lst f.regs) r = 0))) := by
      rw [List.drop_eq_getElem_cons hlt, List.all_cons]
    have ih := ih (i + 1) (by omega)
    push_cast at ih
    rw [q69_L2_go, e1]
    generalize (lst x.args)[i] = r at *
    have hs := s_kind f r
    by_cases hz : regK (lst f.regs) r = 0
    · rw [hz] at hs
      simp [q69_5, hn, q69_4, k1, hs, hz, pairsOk]
    · generalize regK (lst f.regs) r = k at *
      simp [q69_5, hn, q69_4, k1, hs, hz, pairsOk, q69_3, wrap_up hlt hl]
      exact ih
theorem s_call (f : Fn) (x : Ins) (hl : (lst x.args).length ≤ 9223372036854775807) : (callW E).p 68 [.agg (enc f), .agg (enc x)] = some ⟨.bool (callM (lst f.regs) x), [], true, [], []⟩ := by
  rw [x_q69]
  have h0 := call_loop f x hl _ 0 (Nat.zero_add _)
  simp only [Int.ofNat_zero, List.drop_zero] at h0
  have hs := s_kind f x.d
  have e21 : ((21 : Int) < ((lst x.args).length : Int)) ↔ 21 < (lst x.args).length := by omega
  unfold callM
  generalize ((lst x.args).all (fun r => !decide (regK (lst f.regs) r = 0)) && lastM (lst f.regs) x) = T at *
  generalize regK (lst f.regs) x.d = kd at *
  by_cases h21 : 21 < (lst x.args).length
  · have h21' := e21.2 h21
    by_cases hn : x.n < 0
    · by_cases o5 : x.op = 25 <;> simp [q69_1, q69_3, q69_4, q69_5, q69_7, q69_9, q69_10, hn, o5, h21, h21', pairsOk, fpApart, meets]
    · simp [q69_1, q69_3, q69_4, q69_5, q69_7, q69_9, q69_10, hn, h21, h21', pairsOk, fpApart, meets]
  · have h21' : ¬ ((21 : Int) < ((lst x.args).length : Int)) := by omega
    by_cases hn : x.n < 0
    · by_cases o5 : x.op = 25
      · by_cases hd : x.d = -1
        · simp [q69_1, q69_3, q69_4, q69_5, q69_7, q69_9, q69_10, hn, o5, h21, h21', hd, h0, pairsOk, fpApart, meets]
        · by_cases hk : kd = 0
          · simp [q69_1, q69_3, q69_4, q69_5, q69_7, q69_9, q69_10, hn, o5, h21, h21', hd, hs, hk, h0, pairsOk, fpApart, meets]
          · simp [q69_1, q69_3, q69_4, q69_5, q69_7, q69_9, q69_10, hn, o5, h21, h21', hd, hs, hk, h0, pairsOk, fpApart, meets]
      · simp [q69_1, q69_3, q69_4, q69_5, q69_7, q69_9, q69_10, hn, o5, h21, h21', pairsOk, fpApart, meets]
    · by_cases hd : x.d = -1
      · simp [q69_1, q69_3, q69_4, q69_5, q69_7, q69_9, q69_10, hn, h21, h21', hd, h0, pairsOk, fpApart, meets]
      · by_cases hk : kd = 0
        · simp [q69_1, q69_3, q69_4, q69_5, q69_7, q69_9, q69_10, hn, h21, h21', hd, hs, hk, h0, pairsOk, fpApart, meets]
        · simp [q69_1, q69_3, q69_4, q69_5, q69_7, q69_9, q69_10, hn, h21, h21', hd, hs, hk, h0, pairsOk, fpApart, meets]
end Go.Vm
namespace Go.Vm
open Cel
attribute [local simp] callAny callP heapOf_nil fpCall
def switchM (f : Fn) (x : Ins) : Bool :=
  match x.op with
  | 1 => decide (regK (lst f.regs) x.d = 2) || (decide (-2147483648 ≤ x.n) && decide (x.n < 2147483648))
  | 4 => decide (regK (lst f.regs) x.d = regK (lst f.regs) x.a)
  | 5 => decide (0 < (numK x.n).2.1) && decide (regK (lst f.regs) x.d = (numK x.n).2.2) && decide (regK (lst f.regs) x.a = (numK x.n).1) && decide (regK (lst f.regs) x.b = (numK x.n).2.1)
  | 6 => decide (0 < (numK x.n).1) && decide ((numK x.n).2.1 = 0) && decide (regK (lst f.regs) x.d = (numK x.n).2.2) && decide (regK (lst f.regs) x.a = (numK x.n).1)
  | 12 => typeOk x.s
  | 21 => typeOk x.s
  | 22 => typeOk x.s
  | 16 => decide (0 ≤ x.n)
  | 17 => decide (0 ≤ x.n)
  | 23 => callM (lst f.regs) x
  | 24 => callM (lst f.regs) x
  | 25 => callM (lst f.regs) x
  | 26 => callM (lst f.regs) x
  | 27 => placeOk (lst f.code).length x.t
  | 28 => decide (0 ≤ x.n) && decide (x.n ≤ 5) && placeOk (lst f.code).length x.t
  | 29 => (decide (x.n = 0) || decide (x.n = 1)) && (decide (x.b = -1) || decide (regK (lst f.regs) x.b = 3)) && placeOk (lst f.code).length x.t
  | 30 => if f.ret = 0 then decide (x.a = -1) else !decide (x.a = -1) && decide (regK (lst f.regs) x.a = f.ret)
  | _ => true
def oneM (f : Fn) (x : Ins) : Bool :=
  decide (1 ≤ x.op) && decide (x.op ≤ 33) && (wantM (regK (lst f.regs) x.d) ((rowM x.op).getD 0 0) && (wantM (regK (lst f.regs) x.a) ((rowM x.op).getD 1 0) && (wantM (regK (lst f.regs) x.b) ((rowM x.op).getD 2 0) && (wantM (regK (lst f.regs) x.c) ((rowM x.op).getD 3 0) && switchM f x))))
set_option maxHeartbeats 8000000 in
theorem one_25 (f : Fn) (x : Ins) (hs : x.s.length ≤ 9223372036854775807) (hl : (lst x.args).length ≤ 9223372036854775807) (v55 : AV) (hv : v55 = .int .i64 x.op) :
    q72_25 Q0 Q1 (.int .i64 (numK x.n).1) (.int .i64 (numK x.n).2.1) (.int .i64 (numK x.n).2.2) v55 (H3 f x) = some ⟨.bool (switchM f x), [], true, [], []⟩ := by
  subst hv
  have hkd := s_kind f x.d
  have hka := s_kind f x.a
  have hkb := s_kind f x.b
  have hty := s_RType x.s hs
  have hcl := s_call f x hl
  have hpl := s_place f x.t
  unfold switchM
  generalize regK (lst f.regs) x.d = kd at *
  generalize regK (lst f.regs) x.a = ka at *
  generalize regK (lst f.regs) x.b = kb at *
  generalize typeOk x.s = ty at *
  generalize callM (lst f.regs) x = cl at *
  generalize placeOk (lst f.code).length x.t = pl at *
  generalize numK x.n = k at *
  obtain ⟨a, b, d⟩ := k
  simp only
  by_cases o1 : x.op = 1
  · by_cases h2 : kd = 2
    · simp [o1, q72_25, q72_24, hkd, h2, pairsOk, fpApart, meets]
    · by_cases h3 : -2147483648 ≤ x.n <;> simp [o1, q72_25, q72_24, hkd, h2, h3, pairsOk, fpApart, meets]
  by_cases o4 : x.op = 4
  · simp [o4, q72_25, q72_24, q72_23, q72_22, hkd, hka, pairsOk, fpApart, meets]
  by_cases o5 : x.op = 5
  · by_cases h1 : 0 < b
    · by_cases h2 : kd = d
      · by_cases h3 : ka = a
        · simp [o5, h1, h2, h3, hkd, hka, hkb, q72_25, q72_24, q72_23, q72_22, q72_21, q72_20, q72_19, q72_18, q72_17, q72_16, q72_15, q72_14, q72_13, q72_12, q72_11, q72_10, q72_9, q72_8, q72_7, q72_6, q72_5, q72_4, q72_3, q72_2, q72_1, pairsOk, fpApart, meets]
        · simp [o5, h1, h2, h3, hkd, hka, hkb, q72_25, q72_24, q72_23, q72_22, q72_21, q72_20, q72_19, q72_18, q72_17, q72_16, q72_15, q72_14, q72_13, q72_12, q72_11, q72_10, q72_9, q72_8, q72_7, q72_6, q72_5, q72_4, q72_3, q72_2, q72_1, pairsOk, fpApart, meets]
      · simp [o5, h1, h2, hkd, hka, hkb, q72_25, q72_24, q72_23, q72_22, q72_21, q72_20, q72_19, q72_18, q72_17, q72_16, q72_15, q72_14, q72_13, q72_12, q72_11, q72_10, q72_9, q72_8, q72_7, q72_6, q72_5, q72_4, q72_3, q72_2, q72_1, pairsOk, fpApart, meets]
    · simp [o5, h1, q72_25, q72_24, q72_23, q72_22, q72_21, q72_20, q72_19, q72_18, q72_17, q72_16, q72_15, q72_14, q72_13, q72_12, q72_11, q72_10, q72_9, q72_8, q72_7, q72_6, q72_5, q72_4, q72_3, q72_2, q72_1, pairsOk, fpApart, meets]
  by_cases o6 : x.op = 6
  · by_cases h1 : 0 < a
    · by_cases h2 : b = 0
      · by_cases h3 : kd = d
        · simp [o6, h1, h2, h3, hkd, hka, q72_25, q72_24, q72_23, q72_22, q72_21, q72_20, q72_19, q72_18, q72_17, q72_16, q72_15, q72_14, q72_13, q72_12, q72_11, q72_10, q72_9, q72_8, q72_7, q72_6, q72_5, q72_4, q72_3, q72_2, q72_1, pairsOk, fpApart, meets]
        · simp [o6, h1, h2, h3, hkd, hka, q72_25, q72_24, q72_23, q72_22, q72_21, q72_20, q72_19, q72_18, q72_17, q72_16, q72_15, q72_14, q72_13, q72_12, q72_11, q72_10, q72_9, q72_8, q72_7, q72_6, q72_5, q72_4, q72_3, q72_2, q72_1, pairsOk, fpApart, meets]
      · simp [o6, h1, h2, q72_25, q72_24, q72_23, q72_22, q72_21, q72_20, q72_19, q72_18, q72_17, q72_16, q72_15, q72_14, q72_13, q72_12, q72_11, q72_10, q72_9, q72_8, q72_7, q72_6, q72_5, q72_4, q72_3, q72_2, q72_1, pairsOk, fpApart, meets]
    · simp [o6, h1, q72_25, q72_24, q72_23, q72_22, q72_21, q72_20, q72_19, q72_18, q72_17, q72_16, q72_15, q72_14, q72_13, q72_12, q72_11, q72_10, q72_9, q72_8, q72_7, q72_6, q72_5, q72_4, q72_3, q72_2, q72_1, pairsOk, fpApart, meets]
  by_cases o12 : x.op = 12
  · simp [o12, hty, q72_25, q72_24, q72_23, q72_22, q72_21, q72_20, q72_19, q72_18, q72_17, q72_16, q72_15, q72_14, q72_13, q72_12, q72_11, q72_10, q72_9, q72_8, q72_7, q72_6, q72_5, q72_4, q72_3, q72_2, q72_1, pairsOk, fpApart, meets]
  by_cases o21 : x.op = 21
  · simp [o21, hty, q72_25, q72_24, q72_23, q72_22, q72_21, q72_20, q72_19, q72_18, q72_17, q72_16, q72_15, q72_14, q72_13, q72_12, q72_11, q72_10, q72_9, q72_8, q72_7, q72_6, q72_5, q72_4, q72_3, q72_2, q72_1, pairsOk, fpApart, meets]
  by_cases o22 : x.op = 22
  · simp [o22, hty, q72_25, q72_24, q72_23, q72_22, q72_21, q72_20, q72_19, q72_18, q72_17, q72_16, q72_15, q72_14, q72_13, q72_12, q72_11, q72_10, q72_9, q72_8, q72_7, q72_6, q72_5, q72_4, q72_3, q72_2, q72_1, pairsOk, fpApart, meets]
  by_cases o16 : x.op = 16
  · simp [o16, q72_25, q72_24, q72_23, q72_22, q72_21, q72_20, q72_19, q72_18, q72_17, q72_16, q72_15, q72_14, q72_13, q72_12, q72_11, q72_10, q72_9, q72_8, q72_7, q72_6, q72_5, q72_4, q72_3, q72_2, q72_1, pairsOk, fpApart, meets]
  by_cases o17 : x.op = 17
  · simp [o17, q72_25, q72_24, q72_23, q72_22, q72_21, q72_20, q72_19, q72_18, q72_17, q72_16, q72_15, q72_14, q72_13, q72_12, q72_11, q72_10, q72_9, q72_8, q72_7, q72_6, q72_5, q72_4, q72_3, q72_2, q72_1, pairsOk, fpApart, meets]
  by_cases o23 : x.op = 23
  · simp [o23, hcl, q72_25, q72_24, q72_23, q72_22, q72_21, q72_20, q72_19, q72_18, q72_17, q72_16, q72_15, q72_14, q72_13, q72_12, q72_11, q72_10, q72_9, q72_8, q72_7, q72_6, q72_5, q72_4, q72_3, q72_2, q72_1, pairsOk, fpApart, meets]
  by_cases o24 : x.op = 24
  · simp [o24, hcl, q72_25, q72_24, q72_23, q72_22, q72_21, q72_20, q72_19, q72_18, q72_17, q72_16, q72_15, q72_14, q72_13, q72_12, q72_11, q72_10, q72_9, q72_8, q72_7, q72_6, q72_5, q72_4, q72_3, q72_2, q72_1, pairsOk, fpApart, meets]
  by_cases o25 : x.op = 25
  · simp [o25, hcl, q72_25, q72_24, q72_23, q72_22, q72_21, q72_20, q72_19, q72_18, q72_17, q72_16, q72_15, q72_14, q72_13, q72_12, q72_11, q72_10, q72_9, q72_8, q72_7, q72_6, q72_5, q72_4, q72_3, q72_2, q72_1, pairsOk, fpApart, meets]
  by_cases o26 : x.op = 26
  · simp [o26, hcl, q72_25, q72_24, q72_23, q72_22, q72_21, q72_20, q72_19, q72_18, q72_17, q72_16, q72_15, q72_14, q72_13, q72_12, q72_11, q72_10, q72_9, q72_8, q72_7, q72_6, q72_5, q72_4, q72_3, q72_2, q72_1, pairsOk, fpApart, meets]
  by_cases o28 : x.op = 28
  · by_cases h1 : 0 ≤ x.n
    · by_cases h2 : x.n ≤ 5 <;> simp [o28, h1, h2, hpl, q72_25, q72_24, q72_23, q72_22, q72_21, q72_20, q72_19, q72_18, q72_17, q72_16, q72_15, q72_14, q72_13, q72_12, q72_11, q72_10, q72_9, q72_8, q72_7, q72_6, q72_5, q72_4, q72_3, q72_2, q72_1, pairsOk, fpApart, meets]
    · simp [o28, h1, q72_25, q72_24, q72_23, q72_22, q72_21, q72_20, q72_19, q72_18, q72_17, q72_16, q72_15, q72_14, q72_13, q72_12, q72_11, q72_10, q72_9, q72_8, q72_7, q72_6, q72_5, q72_4, q72_3, q72_2, q72_1, pairsOk, fpApart, meets]
  by_cases o27 : x.op = 27
  · simp [o27, hpl, q72_25, q72_24, q72_23, q72_22, q72_21, q72_20, q72_19, q72_18, q72_17, q72_16, q72_15, q72_14, q72_13, q72_12, q72_11, q72_10, q72_9, q72_8, q72_7, q72_6, q72_5, q72_4, q72_3, q72_2, q72_1, pairsOk, fpApart, meets]
  by_cases o29 : x.op = 29
  · by_cases h1 : x.n = 0
    · by_cases h2 : x.b = -1
      · simp [o29, h1, h2, hpl, q72_25, q72_24, q72_23, q72_22, q72_21, q72_20, q72_19, q72_18, q72_17, q72_16, q72_15, q72_14, q72_13, q72_12, q72_11, q72_10, q72_9, q72_8, q72_7, q72_6, q72_5, q72_4, q72_3, q72_2, q72_1, pairsOk, fpApart, meets]
      · by_cases h3 : kb = 3 <;> simp [o29, h1, h2, h3, hpl, hkb, q72_25, q72_24, q72_23, q72_22, q72_21, q72_20, q72_19, q72_18, q72_17, q72_16, q72_15, q72_14, q72_13, q72_12, q72_11, q72_10, q72_9, q72_8, q72_7, q72_6, q72_5, q72_4, q72_3, q72_2, q72_1, pairsOk, fpApart, meets]
    · by_cases h1' : x.n = 1
      · by_cases h2 : x.b = -1
        · simp [o29, h1', h2, hpl, q72_25, q72_24, q72_23, q72_22, q72_21, q72_20, q72_19, q72_18, q72_17, q72_16, q72_15, q72_14, q72_13, q72_12, q72_11, q72_10, q72_9, q72_8, q72_7, q72_6, q72_5, q72_4, q72_3, q72_2, q72_1, pairsOk, fpApart, meets]
        · by_cases h3 : kb = 3 <;> simp [o29, h1', h2, h3, hpl, hkb, q72_25, q72_24, q72_23, q72_22, q72_21, q72_20, q72_19, q72_18, q72_17, q72_16, q72_15, q72_14, q72_13, q72_12, q72_11, q72_10, q72_9, q72_8, q72_7, q72_6, q72_5, q72_4, q72_3, q72_2, q72_1, pairsOk, fpApart, meets]
      · simp [o29, h1, h1', q72_25, q72_24, q72_23, q72_22, q72_21, q72_20, q72_19, q72_18, q72_17, q72_16, q72_15, q72_14, q72_13, q72_12, q72_11, q72_10, q72_9, q72_8, q72_7, q72_6, q72_5, q72_4, q72_3, q72_2, q72_1, pairsOk, fpApart, meets]
  by_cases o30 : x.op = 30
  · by_cases h1 : f.ret = 0
    · simp [o30, h1, q72_25, q72_24, q72_23, q72_22, q72_21, q72_20, q72_19, q72_18, q72_17, q72_16, q72_15, q72_14, q72_13, q72_12, q72_11, q72_10, q72_9, q72_8, q72_7, q72_6, q72_5, q72_4, q72_3, q72_2, q72_1, pairsOk, fpApart, meets]
    · by_cases h2 : x.a = -1 <;> simp [o30, h1, h2, hka, q72_25, q72_24, q72_23, q72_22, q72_21, q72_20, q72_19, q72_18, q72_17, q72_16, q72_15, q72_14, q72_13, q72_12, q72_11, q72_10, q72_9, q72_8, q72_7, q72_6, q72_5, q72_4, q72_3, q72_2, q72_1, pairsOk, fpApart, meets]
  · have e : (match x.op with
      | 1 => decide (kd = 2) || (decide (-2147483648 ≤ x.n) && decide (x.n < 2147483648))
      | 4 => decide (kd = ka)
      | 5 => decide (0 < b) && decide (kd = d) && decide (ka = a) && decide (kb = b)
      | 6 => decide (0 < a) && decide (b = 0) && decide (kd = d) && decide (ka = a)
      | 12 => ty
      | 21 => ty
      | 22 => ty
      | 16 => decide (0 ≤ x.n)
      | 17 => decide (0 ≤ x.n)
      | 23 => cl
      | 24 => cl
      | 25 => cl
      | 26 => cl
      | 27 => pl
      | 28 => decide (0 ≤ x.n) && decide (x.n ≤ 5) && pl
      | 29 => (decide (x.n = 0) || decide (x.n = 1)) && (decide (x.b = -1) || decide (kb = 3)) && pl
      | 30 => if f.ret = 0 then decide (x.a = -1) else !decide (x.a = -1) && decide (ka = f.ret)
      | _ => true) = true := by
      split <;> first | rfl | contradiction
    rw [show _ = true from e]
    simp [o1, o4, o5, o6, o12, o21, o22, o16, o17, o23, o24, o25, o26, o27, o28, o29, o30, q72_25, q72_24, q72_23, q72_22, q72_21, q72_20, q72_19, q72_18, q72_17, q72_16, q72_15, q72_14, q72_13, q72_12, q72_11, q72_10, q72_9, q72_8, q72_7, q72_6, q72_5, q72_4, q72_3, q72_2, q72_1, pairsOk, fpApart, meets]
end Go.Vm
namespace Go.Vm
open Cel
attribute [local simp] callAny callP heapOf_nil fpCall
def signB (c : UInt8) : Bool := decide (c = 45) || decide (c = 63) || decide (c = 42) || decide (c = 61) || decide (c = 110) || decide (c = 49) || decide (c = 50) || decide (c = 51)
theorem signB_or {c : UInt8} (h : signB c = true) : c = 45 ∨ c = 63 ∨ c = 42 ∨ c = 61 ∨ c = 110 ∨ c = 49 ∨ c = 50 ∨ c = 51 := by
  simp only [signB, Bool.or_eq_true, decide_eq_true_eq] at h
  simp only [or_assoc] at h
  exact h
@[simp] theorem fz_tup3' (h : Heap) (a b c : Int) : fz h fuelF (.tup [.int .i64 a, .int .i64 b, .int .i64 c]) = some ⟨.tup [.int .i64 a, .int .i64 b, .int .i64 c], true, []⟩ := rfl
theorem row_signs : ((List.range 33).all fun i => decide ((rowM (1 + i)).length = 4) && (rowM (1 + i)).all signB) = true := by kernel_rfl
theorem row_ok {op : Int} (h1 : 1 ≤ op) (h2 : op ≤ 33) : (rowM op).length = 4 ∧ (rowM op).all signB = true := by
  have := range_all row_signs (op - 1).toNat (by omega)
  have e : (1 + ((op - 1).toNat : Int)) = op := by omega
  simp only [e, Bool.and_eq_true, decide_eq_true_eq] at this
  exact this
theorem one_field (f : Fn) (x : Ins) (w : List UInt8) (i : Nat) (r : Int) (c : UInt8) (hi : i < 4) (hw : w[i]? = some c) (hc : signB c = true) (hr : [x.d, x.a, x.b, x.c][i]? = some r) :
    q72_L31 Q0 Q1 (.str w) (.ls 2 1 1 0 4) (.int .i64 i) (H3 f x) = if wantM (regK (lst f.regs) r) c then q72_L31 Q0 Q1 (.str w) (.ls 2 1 1 0 4) (.int .i64 (i + 1 : Nat)) (H3 f x) else some ⟨.bool false, [], true, [], []⟩ := by
  have hn : ((i : Int) < (4 : Int)) := by omega
  have hw2 : IntKind.wrap .i64 ((i : Int) + 1) = ((i + 1 : Nat) : Int) := by rw [wrap_i64] <;> omega
  have hs := s_wanted f r c (signB_or hc)
  have k1 : evIxs 1 (.ls 2 1 1 0 4) (.int .i64 i) = some (.lp 2 1 i 0) := by simp [evIxs, hi, hn]
  have k2 : evLd false 1 (.lp 2 1 i 0) (H3 f x) = some (.int .i64 r) := by
    match i, hi, hr with
    | 0, _, hr => simp at hr; simp [hr]
    | 1, _, hr => simp at hr; simp [hr]
    | 2, _, hr => simp at hr; simp [hr]
    | 3, _, hr => simp at hr; simp [hr]
  have k3 := ixstr hw
  rw [q72_L31_go]
  generalize wantM (regK (lst f.regs) r) c = T at *
  simp only [q72_34, evBin_lss, ob_some, hn, decide_true, cnd_t]
  generalize hZ : q72_L31 Q0 Q1 (.str w) (.ls 2 1 1 0 4) (.int .i64 (i + 1 : Nat)) (H3 f x) = Z
  have e32 : q72_32 Q0 Q1 (.str w) (.ls 2 1 1 0 4) (.int .i64 i) (H3 f x) = Z := by
    rw [← hZ]; simp only [q72_32, evBin_add, ob_some, hw2]
  have e5 : evLd true 5 Q0 (H3 f x) = some (.agg (enc f)) := by simp
  simp only [q72_33, k1, k2, k3, e5, ob_some]
  cases T with
  | true => simp [hs, e32, pairsOk]
  | false => simp [hs, pairsOk]
set_option maxHeartbeats 1000000 in
theorem s_one (f : Fn) (x : Ins) (hn : -9223372036854775808 ≤ x.n ∧ x.n < 9223372036854775808) (hs : x.s.length ≤ 9223372036854775807) (hl : (lst x.args).length ≤ 9223372036854775807) :
    (callW E).p 64 [.agg (enc f), .agg (enc x)] = some ⟨.bool (oneM f x), [], true, [], []⟩ := by
  rw [x_q72]
  have hrow := s_row x.op
  by_cases h1 : 1 ≤ x.op
  · by_cases h2 : x.op ≤ 33
    · obtain ⟨hlen, hsg⟩ := row_ok h1 h2
      rw [oneM]
      simp only [h1, h2, decide_true, Bool.true_and]
      generalize rowM x.op = w at *
      match w, hlen, hsg with
      | [c0, c1, c2, c3], _, hsg =>
        simp only [List.all_cons, List.all_nil, Bool.and_true, Bool.and_eq_true] at hsg
        have e0 : q72_41 (.agg (enc f)) (.agg (enc x)) [⟨0, .dead⟩, ⟨0, .dead⟩, ⟨0, .dead⟩] = q72_L31 Q0 Q1 (.str [c0, c1, c2, c3]) (.ls 2 1 1 0 4) (.int .i64 0) (H3 f x) := by
          simp [q72_41, q72_40, q72_39, q72_38, q72_36, hrow, buildSC, fillRows]
        have s0 := one_field f x [c0, c1, c2, c3] 0 x.d c0 (by omega) rfl hsg.1 rfl
        have s1 := one_field f x [c0, c1, c2, c3] 1 x.a c1 (by omega) rfl hsg.2.1 rfl
        have s2 := one_field f x [c0, c1, c2, c3] 2 x.b c2 (by omega) rfl hsg.2.2.1 rfl
        have s3 := one_field f x [c0, c1, c2, c3] 3 x.c c3 (by omega) rfl hsg.2.2.2 rfl
        simp only [Int.ofNat_zero] at s0
        have e4 : q72_L31 Q0 Q1 (.str [c0, c1, c2, c3]) (.ls 2 1 1 0 4) (.int .i64 (3 + 1 : Nat)) (H3 f x) = some ⟨.bool (switchM f x), [], true, [], []⟩ := by
          have h25 := one_25 f x hs hl (.int .i64 x.op) rfl
          show q72_L31 Q0 Q1 (.str [c0, c1, c2, c3]) (.ls 2 1 1 0 4) (.int .i64 4) (H3 f x) = _
          rw [q72_L31_go]
          by_cases hk0 : 0 ≤ x.n
          · by_cases hk1 : x.n < 1000
            · have hK := s_RKinds x.n hk0 hk1
              simp [q72_34, q72_30, q72_29, hk0, hk1, hK, q72_27]
              exact h25
            · have : numK x.n = (0, 0, 0) := numK_out (by omega)
              rw [this] at h25
              simp [q72_34, q72_30, q72_29, hk0, hk1, q72_27]
              exact h25
          · have : numK x.n = (0, 0, 0) := numK_out (by omega)
            rw [this] at h25
            simp [q72_34, q72_30, q72_29, hk0, q72_27]
            exact h25
        rw [e0, s0]
        simp only [List.getD_cons_zero, List.getD_cons_succ]
        cases wantM (regK (lst f.regs) x.d) c0 with
        | false => simp
        | true =>
          rw [if_pos rfl, s1]
          cases wantM (regK (lst f.regs) x.a) c1 with
          | false => simp
          | true =>
            rw [if_pos rfl, s2]
            cases wantM (regK (lst f.regs) x.b) c2 with
            | false => simp
            | true =>
              rw [if_pos rfl, s3]
              cases wantM (regK (lst f.regs) x.c) c3 with
              | false => simp
              | true => rw [if_pos rfl, e4]; simp
    · have : rowM x.op = [] := by rw [rowM, if_pos (by omega)]
      rw [this] at hrow
      simp [q72_41, q72_40, q72_39, hrow, oneM, h2]
  · have : rowM x.op = [] := by rw [rowM, if_pos (by omega)]
    rw [this] at hrow
    simp [q72_41, q72_40, q72_39, hrow, oneM, h1]
end Go.Vm
namespace Go.Vm
theorem numK_ge (n : Int) : 0 ≤ (numK n).1 ∧ 0 ≤ (numK n).2.1 ∧ 0 ≤ (numK n).2.2 ∧ (numK n).1 ≤ 2 ∧ (numK n).2.1 ≤ 2 ∧ (numK n).2.2 ≤ 2 ∧ (¬ (numK n).1 = 0 → ¬ (numK n).2.2 = 0) ∧ (¬ (numK n).2.1 = 0 → ¬ (numK n).1 = 0 ∧ ¬ (numK n).2.2 = 0) := by
  unfold numK
  repeat' split
  all_goals decide
theorem regK_range {R : List Int} (hR : R.all (fun k => decide (1 ≤ k) && decide (k ≤ 3)) = true) (r : Int) : (inR R r = true ∧ (regK R r = 1 ∨ regK R r = 2 ∨ regK R r = 3)) ∨ (inR R r = false ∧ regK R r = 0) := by
  cases h : inR R r with
  | true =>
    obtain ⟨_, h1, h2⟩ := inR_get h
    rw [List.all_eq_true] at hR
    have := hR (regK R r) (List.mem_of_getElem? h2)
    simp only [Bool.and_eq_true, decide_eq_true_eq] at this
    refine .inl ⟨rfl, ?_⟩
    omega
  | false =>
    refine .inr ⟨rfl, ?_⟩
    simp only [inR, Bool.and_eq_false_iff, decide_eq_false_iff_not] at h
    unfold regK
    split
    · rfl
    · rw [List.getD_eq_getElem?_getD, List.getElem?_eq_none (by omega)]; rfl
theorem wrap32 {n : Int} : n = IntKind.wrap .i64 (IntKind.wrap .i32 n) ↔ -2147483648 ≤ n ∧ n < 2147483648 := by
  have h : -2147483648 ≤ IntKind.wrap .i32 n ∧ IntKind.wrap .i32 n < 2147483648 := by
    simp only [IntKind.wrap, IntKind.bits, IntKind.signed]
    simp
    omega
  rw [wrap_i64 (n := IntKind.wrap .i32 n) (by omega) (by omega)]
  constructor
  · intro e; rw [e]; exact h
  · intro e
    simp only [IntKind.wrap, IntKind.bits, IntKind.signed]
    simp
    omega
theorem field_m {R : List Int} {r : Int} : fieldOk R (-1) r = true := by simp [fieldOk]
theorem field_0 {R : List Int} (hR : R.all (fun k => decide (1 ≤ k) && decide (k ≤ 3)) = true) (r : Int) : fieldOk R 0 r = decide (0 < regK R r) := by
  rcases regK_range hR r with ⟨h1, h2⟩ | ⟨h1, h2⟩
  · simp [fieldOk, h1]; omega
  · simp [fieldOk, h1, h2]
theorem field_k {R : List Int} (hR : R.all (fun k => decide (1 ≤ k) && decide (k ≤ 3)) = true) (r k : Int) (hk : 0 < k) : fieldOk R k r = decide (regK R r = k) := by
  have a1 : ¬ k < 0 := by omega
  have a2 : ¬ k ≤ 0 := by omega
  rcases regK_range hR r with ⟨h1, h2⟩ | ⟨h1, h2⟩
  · simp [fieldOk, h1, a1, a2]
  · have : ¬ 0 = k := by omega
    simp [fieldOk, h1, h2, a1, a2, this]
theorem all_in {R : List Int} (hR : R.all (fun k => decide (1 ≤ k) && decide (k ≤ 3)) = true) (l : List Int) : (l.all fun r => !decide (regK R r = 0)) = l.all (inR R) := by
  congr 1
  funext r
  rcases regK_range hR r with ⟨h1, h2⟩ | ⟨h1, h2⟩
  · rw [h1]; simp; omega
  · rw [h1, h2]; rfl
theorem one_5 (f : Fn) (x : Ins) (hR : (lst f.regs).all (fun k => decide (1 ≤ k) && decide (k ≤ 3)) = true) (h : x.op = 5) : oneM f x = rightM f x := by
  have hk := numK_ge x.n
  have Fm := fun r => field_m (R := lst f.regs) (r := r)
  simp only [oneM, rightM, h, kindsM, rowM, rowT, wantM, argsOk, calls, tailOk, leads, switchM, Fm]
  generalize numK x.n = k at *
  obtain ⟨a, b, d⟩ := k
  simp only at hk ⊢
  by_cases hb : b = 0
  · subst hb; simp
  · rw [field_k hR x.d d (by omega), field_k hR x.a a (by omega), field_k hR x.b b (by omega)]
    rw [Bool.eq_iff_iff]
    simp
    omega
theorem one_6 (f : Fn) (x : Ins) (hR : (lst f.regs).all (fun k => decide (1 ≤ k) && decide (k ≤ 3)) = true) (h : x.op = 6) : oneM f x = rightM f x := by
  have hk := numK_ge x.n
  have Fm := fun r => field_m (R := lst f.regs) (r := r)
  simp only [oneM, rightM, h, kindsM, rowM, rowT, wantM, argsOk, calls, tailOk, leads, switchM, Fm]
  generalize numK x.n = k at *
  obtain ⟨a, b, d⟩ := k
  simp only at hk ⊢
  by_cases ha : a = 0
  · subst ha; simp
  · rw [field_k hR x.d d (by omega), field_k hR x.a a (by omega)]
    rw [Bool.eq_iff_iff]
    simp
    omega
theorem one_c (f : Fn) (x : Ins) (hR : (lst f.regs).all (fun k => decide (1 ≤ k) && decide (k ≤ 3)) = true) (h : x.op = 23 ∨ x.op = 24 ∨ x.op = 25 ∨ x.op = 26) : oneM f x = rightM f x := by
  have F0 := field_0 hR
  have Fm := fun r => field_m (R := lst f.regs) (r := r)
  have hA := all_in hR (lst x.args)
  have kd := regK_range hR x.d
  have hc : callM (lst f.regs) x = (!((decide (x.n < 0) && !decide (x.op = 25)) || decide (21 < (lst x.args).length) || (!decide (x.d = -1) && decide (regK (lst f.regs) x.d = 0))) && ((lst x.args).all (inR (lst f.regs)) && lastM (lst f.regs) x)) := by rw [callM, hA]
  cases ha : lst x.args with
  | nil =>
    by_cases hd : x.d = -1 <;> rcases h with h|h|h|h <;> (rw [Bool.eq_iff_iff]; simp [oneM, rightM, h, kindsM, rowM, rowT, wantM, argsOk, calls, tailOk, leads, switchM, hc, lastM, firstOk, ha, hd, F0, Fm]; try omega)
  | cons r t =>
    rw [ha] at hc
    generalize hg : (r :: t).all (inR (lst f.regs)) = A at *
    generalize hl : (r :: t).length = n at *
    by_cases hd : x.d = -1 <;> rcases h with h|h|h|h <;> (rw [Bool.eq_iff_iff]; simp [oneM, rightM, h, kindsM, rowM, rowT, wantM, argsOk, calls, tailOk, leads, switchM, hc, lastM, firstOk, ha, hd, F0, Fm]; first | (simp at hl hg; omega) | (simp at hl hg; grind) | skip)
theorem one_out (f : Fn) (x : Ins) (h : x.op < 1 ∨ 33 < x.op) : oneM f x = rightM f x := by
  rw [oneM, rightM, kindsM_out h]
  rcases h with h | h
  · have : ¬ 1 ≤ x.op := by omega
    simp [this]
  · have : ¬ x.op ≤ 33 := by omega
    simp [this]
set_option maxHeartbeats 4000000 in
theorem one_right (f : Fn) (x : Ins) (hR : (lst f.regs).all (fun k => decide (1 ≤ k) && decide (k ≤ 3)) = true) : oneM f x = rightM f x := by
  have F0 := field_0 hR
  have F1 := fun r => field_k hR r 1 (by omega)
  have F3 := fun r => field_k hR r 3 (by omega)
  have Fm := fun r => field_m (R := lst f.regs) (r := r)
  have hA := all_in hR (lst x.args)
  have kd := regK_range hR x.d
  have ka := regK_range hR x.a
  have hd : 0 < regK (lst f.regs) x.d ↔ ¬ regK (lst f.regs) x.d = 0 := by rcases kd with ⟨_, h⟩ | ⟨_, h⟩ <;> omega
  have hw := @wrap32 x.n
  rcases op_cases x.op with h|h|h|h|h|h|h|h|h|h|h|h|h|h|h|h|h|h|h|h|h|h|h|h|h|h|h|h|h|h|h|h|h|h|h
  all_goals first
    | (simp [oneM, rightM, h, kindsM, rowM, rowT, wantM, argsOk, calls, tailOk, leads, switchM, F0, F1, F3, Fm, placeOk, Bool.and_assoc]; done)
    | skip
  all_goals first
    | exact one_5 f x hR h
    | exact one_6 f x hR h
    | exact one_out f x (.inl h)
    | exact one_out f x (.inr h)
    | exact one_c f x hR (.inl h)
    | exact one_c f x hR (.inr (.inl h))
    | exact one_c f x hR (.inr (.inr (.inl h)))
    | exact one_c f x hR (.inr (.inr (.inr h)))
    | (rw [Bool.eq_iff_iff]; simp [oneM, rightM, h, kindsM, rowM, rowT, wantM, argsOk, calls, tailOk, leads, switchM, F0, F1, F3, Fm, placeOk]; omega)
    | (rw [Bool.eq_iff_iff]; simp [oneM, rightM, h, kindsM, rowM, rowT, wantM, argsOk, calls, tailOk, leads, switchM, F0, F1, F3, Fm, placeOk]; grind)
    | exact one_5 f x hR h
    | exact one_6 f x hR h
    | exact one_out f x (.inl h)
    | exact one_out f x (.inr h)
    | exact one_c f x hR (.inl h)
    | exact one_c f x hR (.inr (.inl h))
    | exact one_c f x hR (.inr (.inr (.inl h)))
    | exact one_c f x hR (.inr (.inr (.inr h)))
end Go.Vm
namespace Go.Vm
open Cel
attribute [local simp] callAny callP heapOf_nil fpCall
theorem RC_rows (f : Fn) (o1 : AO) (n : Int) (hn : n = (lst f.code).length) (hl : (lst f.rows).length ≤ 9223372036854775807) : ∀ (d i : Nat) (o2 : AO), i + d = (lst f.rows).length →
    q60_L2 P0 (.int .i64 n) (.int .i64 i) (HC f o1 o2) = if ((lst f.rows).drop i).all (rowOk (lst f.code)) then E0 else E80 := by
  intro d
  induction d with
  | zero =>
    intro i o2 hi
    have e1 : (lst f.rows).drop i = [] := List.drop_eq_nil_of_le (by omega)
    have hn : ¬ ((i : Int) < ((lst f.rows).length : Int)) := by omega
    rw [q60_L2_go, e1]
    simp [q60_5, q60_1, hn]
  | succ d ih =>
    intro i o2 hi
    have hlt : i < (lst f.rows).length := by omega
    have hc : ((i : Int) < ((lst f.rows).length : Int)) := by omega
    have k1 := ixs_row (o := f.rows) (i := i) (List.getElem?_eq_getElem hlt) .i64
    rw [q60_L2_go]
    have e1 : ((lst f.rows).drop i).all (rowOk (lst f.code)) = (rowOk (lst f.code) (lst f.rows)[i] && ((lst f.rows).drop (i + 1)).all (rowOk (lst f.code))) := by rw [List.drop_eq_getElem_cons hlt, List.all_cons]
    rw [e1]
    generalize hr : (lst f.rows)[i] = r at *
    have ih := fun o2 => ih (i + 1) o2 (by omega)
    push_cast at ih
    subst hn
    by_cases h1 : r.f < 0
    · simp [q60_5, hc, q60_4, k1, rowOk, h1]
    by_cases h2 : r.t ≤ r.f
    · simp [q60_5, hc, q60_4, k1, rowOk, h1, h2]
    by_cases h3 : ((lst f.code).length : Int) < r.t
    · simp [q60_5, hc, q60_4, k1, rowOk, h1, h2, h3]
    by_cases h4 : r.at_ < 0
    · have : ¬ 0 ≤ r.at_ := by omega
      simp [q60_5, hc, q60_4, k1, rowOk, h1, h2, h3, h4, placeOk, this]
    by_cases h5 : ((lst f.code).length : Int) ≤ r.at_
    · have : ¬ r.at_ < ((lst f.code).length : Int) := by omega
      simp [q60_5, hc, q60_4, k1, rowOk, h1, h2, h3, h4, h5, placeOk, this]
    · have hx : r.at_.toNat < (lst f.code).length := by omega
      have a1 : 0 ≤ r.at_ := by omega
      have a2 : r.at_ < ((lst f.code).length : Int) := by omega
      have k2 := ixs_insI (o := f.code) (n := r.at_) (by omega) (List.getElem?_eq_getElem hx) .i64
      by_cases h6 : ((lst f.code)[r.at_.toNat]).op = 32
      · simp [q60_5, hc, q60_4, k1, rowOk, h1, h2, h3, h4, h5, placeOk, a1, a2, k2, h6, hx, q60_3, wrap_up hlt hl, ih]
      · simp [q60_5, hc, q60_4, k1, rowOk, h1, h2, h3, h4, h5, placeOk, a1, a2, k2, h6, hx]
theorem RC_regs (f : Fn) (o1 o2 : AO) (n : Int) (hl : (lst f.regs).length ≤ 9223372036854775807) : ∀ (d i : Nat), i + d = (lst f.regs).length →
    q60_L23 P0 (.int .i64 n) (.int .i64 i) (HC f o1 o2) = if ((lst f.regs).drop i).all (fun k => decide (1 ≤ k) && decide (k ≤ 3)) then q60_21 P0 (.int .i64 n) (HC f o1 o2) else E80 := by
  intro d
  induction d with
  | zero =>
    intro i hi
    have e1 : (lst f.regs).drop i = [] := List.drop_eq_nil_of_le (by omega)
    have hn : ¬ ((i : Int) < ((lst f.regs).length : Int)) := by omega
    rw [q60_L23_go, e1]
    simp [q60_26, hn]
  | succ d ih =>
    intro i hi
    have hlt : i < (lst f.regs).length := by omega
    have hc : ((i : Int) < ((lst f.regs).length : Int)) := by omega
    have k1 := ixs_int (o := f.regs) (i := i) (List.getElem?_eq_getElem hlt) .i64
    have e1 : ((lst f.regs).drop i).all (fun k => decide (1 ≤ k) && decide (k ≤ 3)) = ((decide (1 ≤ (lst f.regs)[i]) && decide ((lst f.regs)[i] ≤ 3)) && ((lst f.regs).drop (i + 1)).all (fun k => decide (1 ≤ k) && decide (k ≤ 3))) := by
      rw [List.drop_eq_getElem_cons hlt, List.all_cons]
    rw [q60_L23_go, e1]
    generalize hr : (lst f.regs)[i] = r at *
    have ih := ih (i + 1) (by omega)
    push_cast at ih
    by_cases h1 : r < 1
    · have : ¬ 1 ≤ r := by omega
      simp [q60_26, hc, q60_25, k1, h1, this]
    by_cases h2 : 3 < r
    · have : ¬ r ≤ 3 := by omega
      simp [q60_26, hc, q60_25, k1, h1, h2, this]
    · have a1 : 1 ≤ r := by omega
      have a2 : r ≤ 3 := by omega
      simp [q60_26, hc, q60_25, k1, h1, h2, a1, a2, q60_24, wrap_up hlt hl, ih]
def parR (R : List Int) : List Int → List Int → Bool
  | _, [] => true
  | seen, p :: r => (inR R p && !seen.contains p) && parR R (seen ++ [p]) r
theorem RC_params (f : Fn) (o1 o2 : AO) (n : Int) (hR : (lst f.regs).all (fun k => decide (1 ≤ k) && decide (k ≤ 3)) = true) (hl : (lst f.params).length ≤ 9223372036854775807) : ∀ (d i : Nat), i + d = (lst f.params).length →
    q60_L16 P0 (.int .i64 n) (.int .i64 i) (HC f o1 o2) = if parR (lst f.regs) ((lst f.params).take i) ((lst f.params).drop i) then q60_14 P0 (.int .i64 n) (HC f o1 o2) else E80 := by
  intro d
  induction d with
  | zero =>
    intro i hi
    have e1 : (lst f.params).drop i = [] := List.drop_eq_nil_of_le (by omega)
    have hn : ¬ ((i : Int) < ((lst f.params).length : Int)) := by omega
    rw [q60_L16_go, e1]
    simp [q60_19, hn, parR]
  | succ d ih =>
    intro i hi
    have hlt : i < (lst f.params).length := by omega
    have hc : ((i : Int) < ((lst f.params).length : Int)) := by omega
    have k1 := ixs_int (o := f.params) (i := i) (List.getElem?_eq_getElem hlt) .i64
    have ks := slc_to (α := Int) f.params i (by omega) .i64
    simp only [es_int] at ks
    have hlm : lst (f.params.map (List.take i)) = (lst f.params).take i := by cases f.params <;> simp
    have e1 : parR (lst f.regs) ((lst f.params).take i) ((lst f.params).drop i) = ((inR (lst f.regs) (lst f.params)[i] && !((lst f.params).take i).contains (lst f.params)[i]) && parR (lst f.regs) ((lst f.params).take (i + 1)) ((lst f.params).drop (i + 1))) := by
      rw [List.drop_eq_getElem_cons hlt, parR, List.take_append_getElem]
    rw [q60_L16_go, e1]
    have hct : (callW E).p 42 [.int .i64 (lst f.params)[i], slA (f.params.map (List.take i))] = some ⟨.bool (((lst f.params).take i).contains (lst f.params)[i]), [], true, [], []⟩ := by
      rw [s_in _ _ (by rw [hlm, List.length_take]; omega), hlm, List.contains_eq_mem]
    generalize hr : (lst f.params)[i] = r at *
    generalize ((lst f.params).take i).contains r = B at *
    have ih := ih (i + 1) (by omega)
    push_cast at ih
    have hs := s_kind f r
    rcases regK_range hR r with ⟨a1, a2⟩ | ⟨a1, a2⟩
    · have hz : ¬ regK (lst f.regs) r = 0 := by omega
      rw [a1]
      generalize regK (lst f.regs) r = k at *
      cases B with
      | true => simp [q60_19, hc, q60_18, k1, hs, hz, ks, hct, pairsOk]
      | false =>
        simp [q60_19, hc, q60_18, k1, hs, hz, ks, hct, pairsOk, q60_17, wrap_up hlt hl]
        exact ih
    · rw [a2] at hs
      simp [q60_19, hc, q60_18, k1, hs, a1, pairsOk]
theorem RC_one (f : Fn) (o2 : AO) (n : Int) (x : Ins) (i g : Nat) (hR : (lst f.regs).all (fun k => decide (1 ≤ k) && decide (k ≤ 3)) = true) (fit : InsFit x) (hi : i < (lst f.code).length) (hl : (lst f.code).length ≤ 9223372036854775807) (hx : (lst f.code)[i]? = some x) (oc : OC) :
    q60_11 P0 (.int .i64 n) (.int .i64 i) (HC f ⟨g, oc⟩ o2) =
      if rightM f x && spotOk (lst f.code) i x then q60_10 P0 (.int .i64 n) (.int .i64 i) (HC f ⟨g + 1, .arr true false 9 [enc x]⟩ o2) else E80 := by
  have k0 := ixs_ins (o := f.code) (i := i) hx .i64
  have h1 := s_one f x fit.n fit.s fit.a
  rw [one_right f x hR] at h1
  cases hok : rightM f x with
  | false =>
    rw [hok] at h1
    simp [q60_11, k0, h1]
  | true =>
    have ht := right_leads (f := f) (x := x) hok
    rw [hok] at h1
    by_cases h32 : x.op = 32
    · have hld : leads 32 = false := by simp [leads]
      by_cases h0 : i = 0
      · subst h0
        simp only [Int.ofNat_zero] at k0
        simp [q60_11, k0, h1, h32, spotOk]
      · have h0' : ¬ ((i : Int) = 0) := by omega
        have hp : i - 1 < (lst f.code).length := by omega
        have k1 := ixs_ins (o := f.code) (i := i - 1) (List.getElem?_eq_getElem hp) .i64
        have hw : IntKind.wrap .i64 ((i : Int) - 1) = ((i - 1 : Nat) : Int) := by rw [wrap_i64] <;> omega
        cases he : ends ((lst f.code)[i - 1]).op with
        | true => simp [q60_11, k0, h1, h32, spotOk, h0, h0', hw, k1, hp, he, hld]
        | false => simp [q60_11, k0, h1, h32, spotOk, h0, h0', hw, k1, hp, he]
    · cases hld : leads x.op with
      | false => simp [q60_11, k0, h1, h32, spotOk, hld]
      | true =>
        obtain ⟨t0, t1⟩ := ht hld
        have hxt : x.t.toNat < (lst f.code).length := by omega
        have k2 := ixs_insI (o := f.code) (n := x.t) t0 (List.getElem?_eq_getElem hxt) .i64
        by_cases h6 : ((lst f.code)[x.t.toNat]).op = 32
        · simp [q60_11, k0, h1, h32, spotOk, hld, k2, h6, hxt]
        · simp [q60_11, k0, h1, h32, spotOk, hld, k2, h6, hxt]
theorem RC_code (f : Fn) (o2 : AO) (n : Int) (hn : n = (lst f.code).length) (hR : (lst f.regs).all (fun k => decide (1 ≤ k) && decide (k ≤ 3)) = true) (hfit : ∀ x ∈ lst f.code, InsFit x) (hl : (lst f.code).length ≤ 9223372036854775807) : ∀ (d i : Nat) (o1 : AO), i + d = (lst f.code).length →
    ∃ o1', q60_L9 P0 (.int .i64 n) (.int .i64 i) (HC f o1 o2) = if codeOk f (lst f.code) i ((lst f.code).drop i) then q60_7 P0 (.int .i64 n) (HC f o1' o2) else E80 := by
  intro d
  induction d with
  | zero =>
    intro i o1 hi
    have e1 : (lst f.code).drop i = [] := List.drop_eq_nil_of_le (by omega)
    have hnl : ¬ ((i : Int) < n) := by omega
    rw [q60_L9_go, e1]
    exact ⟨o1, by simp [q60_12, hnl, codeOk]⟩
  | succ d ih =>
    intro i o1 hi
    have hlt : i < (lst f.code).length := by omega
    have hc : ((i : Int) < n) := by omega
    have e1 : codeOk f (lst f.code) i ((lst f.code).drop i) = (rightM f (lst f.code)[i] && spotOk (lst f.code) i (lst f.code)[i] && codeOk f (lst f.code) (i + 1) ((lst f.code).drop (i + 1))) := by
      rw [List.drop_eq_getElem_cons hlt, codeOk]
    have fit := hfit _ (List.getElem_mem hlt)
    have hone := RC_one f o2 n _ i o1.gen hR fit hlt hl (List.getElem?_eq_getElem hlt) o1.c
    rw [q60_L9_go, e1]
    generalize (lst f.code)[i] = x at *
    generalize (rightM f x && spotOk (lst f.code) i x) = G at *
    simp only [q60_12, evBin_lss, ob_some, hc, decide_true, cnd_t, hone]
    cases G with
    | false => exact ⟨o1, by simp⟩
    | true =>
      obtain ⟨o1', ih⟩ := ih (i + 1) ⟨o1.gen + 1, .arr true false 9 [enc x]⟩ (by omega)
      push_cast at ih
      exact ⟨o1', by simp [q60_10, wrap_up hlt hl, ih]⟩
theorem par_same (R : List Int) : ∀ (l : List Int) (i : Nat) (seen : List Int), i + l.length ≤ 21 → parOk R i seen l = parR R seen l
  | [], _, _, _ => rfl
  | p :: r, i, seen, h => by
    simp only [List.length_cons] at h
    have : i ≤ 20 := by omega
    rw [parOk, parR, par_same R r (i + 1) (seen ++ [p]) (by omega)]
    simp [this]
theorem par_long (R : List Int) : ∀ (l : List Int) (i : Nat) (seen : List Int), 21 < i + l.length → i ≤ 21 → parOk R i seen l = false
  | [], i, _, h, h2 => by simp at h; omega
  | p :: r, i, seen, h, h2 => by
    simp only [List.length_cons] at h
    rw [parOk]
    by_cases hi : i ≤ 20
    · rw [par_long R r (i + 1) (seen ++ [p]) (by omega) (by omega)]; simp
    · simp [hi]
set_option maxRecDepth 100000 in
set_option maxHeartbeats 1000000 in
theorem s_RCheck (f : Fn) (hf : FnFit f) : (callW E).p 29 [.agg (enc f)] = some ⟨.int .i64 (if wf f then 0 else 80), [], true, [], []⟩ := by
  rw [x_q60]
  by_cases h0 : (lst f.code).length = 0
  · have h0' : ((lst f.code).length : Int) = 0 := by omega
    have : ¬ 1 ≤ (lst f.code).length := by omega
    simp [q60_32, q60_31, q60_30, h0', wf, this]
  have h0' : ¬ ((lst f.code).length : Int) = 0 := by omega
  have hne : ¬ lst f.code = [] := fun h => h0 (by rw [h]; rfl)
  have g1 : 1 ≤ (lst f.code).length := by omega
  by_cases h2 : 20000 < (lst f.code).length
  · have h2' : (20000 : Int) < ((lst f.code).length : Int) := by omega
    have : ¬ (lst f.code).length ≤ 20000 := by omega
    simp [q60_32, q60_31, q60_30, h0', hne, h2', wf, this]
  have h2' : ¬ (20000 : Int) < ((lst f.code).length : Int) := by omega
  have g2 : (lst f.code).length ≤ 20000 := by omega
  by_cases h3 : 20000 < (lst f.regs).length
  · have h3' : (20000 : Int) < ((lst f.regs).length : Int) := by omega
    have : ¬ (lst f.regs).length ≤ 20000 := by omega
    simp [q60_32, q60_31, q60_30, h0', hne, h2', h3', wf, this]
  have h3' : ¬ (20000 : Int) < ((lst f.regs).length : Int) := by omega
  have g3 : (lst f.regs).length ≤ 20000 := by omega
  by_cases hp : 21 < (lst f.params).length
  · have hp' : (21 : Int) < ((lst f.params).length : Int) := by omega
    have := par_long (lst f.regs) (lst f.params) 0 [] (by omega) (by omega)
    simp [q60_32, q60_31, q60_30, h0', hne, h2', h3', hp', wf, this]
  have hp' : ¬ (21 : Int) < ((lst f.params).length : Int) := by omega
  by_cases h4 : f.ret < 0
  · have : ¬ 0 ≤ f.ret := by omega
    simp [q60_32, q60_31, q60_30, h0', hne, h2', h3', hp', h4, wf, this]
  have g4 : 0 ≤ f.ret := by omega
  by_cases h5 : 3 < f.ret
  · have : ¬ f.ret ≤ 3 := by omega
    simp [q60_32, q60_31, q60_30, h0', hne, h2', h3', hp', h4, h5, wf, this]
  have g5 : f.ret ≤ 3 := by omega
  have hpl : (lst f.code).length - 1 < (lst f.code).length := by omega
  have k1 := ixs_ins (o := f.code) (i := (lst f.code).length - 1) (List.getElem?_eq_getElem hpl) .i64
  have hw : IntKind.wrap .i64 (((lst f.code).length : Int) - 1) = (((lst f.code).length - 1 : Nat) : Int) := by rw [wrap_i64] <;> omega
  have hg : (lst f.code).getD ((lst f.code).length - 1) default = (lst f.code)[(lst f.code).length - 1] := by rw [List.getD_eq_getElem?_getD, List.getElem?_eq_getElem hpl]; rfl
  cases he : ends ((lst f.code)[(lst f.code).length - 1]).op with
  | false =>
    have hwf : wf f = false := by rw [wf, hg, he]; simp
    rw [hwf]
    simp [q60_32, q60_31, q60_30, h0', hne, h2', h3', hp', h4, h5, hw, k1, he]
  | true =>
    have hps := par_same (lst f.regs) (lst f.params) 0 [] (by omega)
    have hwf : wf f = ((lst f.regs).all (fun k => decide (1 ≤ k) && decide (k ≤ 3)) && parR (lst f.regs) [] (lst f.params) && codeOk f (lst f.code) 0 (lst f.code) && (lst f.rows).all (rowOk (lst f.code))) := by
      rw [wf, hg, he, hps]
      simp only [g1, g2, g3, g4, g5, decide_true, Bool.true_and]
    have e : q60_32 (.agg (enc f)) [⟨0, .dead⟩, ⟨0, .dead⟩, ⟨0, .dead⟩] = q60_L23 P0 (.int .i64 (lst f.code).length) (.int .i64 0) (HC f ⟨0, .dead⟩ ⟨0, .dead⟩) := by
      simp [q60_32, q60_31, q60_30, h0', hne, h2', h3', hp', h4, h5, hw, k1, he, q60_1, q60_3, q60_4, q60_5, q60_7, q60_10, q60_11, q60_12, q60_14, q60_17, q60_18, q60_19, q60_21, q60_24, q60_25, q60_26, q60_28, q60_30, q60_31, q60_32]
    have a1 := RC_regs f ⟨0, .dead⟩ ⟨0, .dead⟩ (lst f.code).length hf.regs _ 0 (Nat.zero_add _)
    simp only [Int.ofNat_zero, List.drop_zero] at a1
    rw [e, a1, hwf]
    cases hR : (lst f.regs).all (fun k => decide (1 ≤ k) && decide (k ≤ 3)) with
    | false => simp
    | true =>
      have a2 := RC_params f ⟨0, .dead⟩ ⟨0, .dead⟩ (lst f.code).length hR hf.params _ 0 (Nat.zero_add _)
      obtain ⟨o1', a3⟩ := RC_code f ⟨0, .dead⟩ _ rfl hR hf.ins hf.code _ 0 ⟨0, .dead⟩ (Nat.zero_add _)
      have a4 := RC_rows f o1' _ rfl hf.rows _ 0 ⟨0, .dead⟩ (Nat.zero_add _)
      simp only [Int.ofNat_zero, List.drop_zero, List.take_zero] at a2 a3 a4
      have e2 : q60_21 P0 (.int .i64 (lst f.code).length) (HC f ⟨0, .dead⟩ ⟨0, .dead⟩) = q60_L16 P0 (.int .i64 (lst f.code).length) (.int .i64 0) (HC f ⟨0, .dead⟩ ⟨0, .dead⟩) := by simp [q60_1, q60_3, q60_4, q60_5, q60_7, q60_10, q60_11, q60_12, q60_14, q60_17, q60_18, q60_19, q60_21, q60_24, q60_25, q60_26, q60_28, q60_30, q60_31, q60_32]
      have e3 : q60_14 P0 (.int .i64 (lst f.code).length) (HC f ⟨0, .dead⟩ ⟨0, .dead⟩) = q60_L9 P0 (.int .i64 (lst f.code).length) (.int .i64 0) (HC f ⟨0, .dead⟩ ⟨0, .dead⟩) := by simp [q60_1, q60_3, q60_4, q60_5, q60_7, q60_10, q60_11, q60_12, q60_14, q60_17, q60_18, q60_19, q60_21, q60_24, q60_25, q60_26, q60_28, q60_30, q60_31, q60_32]
      have e4 : q60_7 P0 (.int .i64 (lst f.code).length) (HC f o1' ⟨0, .dead⟩) = q60_L2 P0 (.int .i64 (lst f.code).length) (.int .i64 0) (HC f o1' ⟨0, .dead⟩) := by simp [q60_1, q60_3, q60_4, q60_5, q60_7, q60_10, q60_11, q60_12, q60_14, q60_17, q60_18, q60_19, q60_21, q60_24, q60_25, q60_26, q60_28, q60_30, q60_31, q60_32]
      rw [e2, a2, e3, a3, e4, a4]
      generalize parR (lst f.regs) [] (lst f.params) = b2
      generalize codeOk f (lst f.code) 0 (lst f.code) = b3
      generalize (lst f.rows).all (rowOk (lst f.code)) = b4
      cases b2 <;> cases b3 <;> cases b4 <;> rfl
end Go.Vm
namespace Go.Vm
open Cel
theorem succR_len (f : Fn) (r : Int) (i : Nat) : (succR f r i).length ≤ (lst f.rows).length + 2 := by
  have h1 := nextL_len f i
  have h2 := caughtL_len f i
  unfold succR
  rw [List.length_append]
  split <;> simp <;> omega
def hitR_ (f : Fn) (r : Int) (i : Nat) : Bool := (usesAt f i).contains r
theorem hitR_def (f : Fn) (r : Int) (i : Nat) : hitR_ f r i = (lst (uses (insAt f i))).contains r := by rw [hitR_, usesAt]
theorem uses_small (x : Ins) (h : (lst x.args).length ≤ 17592186043904) : (lst (uses x)).length ≤ 17592186043904 := by
  by_cases hc : calls x.op = true
  · simpa [uses, hc] using h
  · have := uses_le3 (x := x) (by simpa using hc)
    omega
section
variable (f : Fn) (w : Wf f) (hs : FnSm f) (hr : (lst f.rows).length ≤ 100000)
include w hs hr
theorem RSet_dfs (r : Int) (g1 : Nat) (o3 o4 : AO) : ∀ (k : Nat) (seen : List Bool) (op T : List Int) (g : Nat) (res : Bool), seen.length = (lst f.code).length → (∀ j ∈ op, 0 ≤ j ∧ j < (lst f.code).length) →
    unseen seen * ((lst f.rows).length + 3) + op.length ≤ 137438953472 → dfsF (lst f.code).length (succR f r) (hitR_ f r) k seen op = some res →
    ∃ o1' o2', q81_L4 (.lp 0 1 0 0) (.int .i64 r) (.ls 1 g1 1 0 (lst f.code).length) (.ls 2 g 1 0 op.length) [AB f, AL g1 seen, AI g (op ++ T), o3, o4] =
      if res then some ⟨.bool false, [], true, [], []⟩ else q81_3 (.lp 0 1 0 0) (.int .i64 r) [AB f, o1', o2', o3, o4] := by
  have hn := w.n2
  intro k
  induction k with
  | zero => intro seen op T g res _ _ _ h; cases h
  | succ k ih =>
    intro seen op T g res hl hrange hm h
    rw [dfsF] at h
    rw [q81_L4_go]
    cases hop : op.getLast? with
    | none =>
      rw [hop] at h
      injection h with h
      subst h
      rw [List.getLast?_eq_none_iff] at hop
      subst hop
      refine ⟨AL g1 seen, AI g ([] ++ T), ?_⟩
      simp only [q81_12, List.length_nil, evLen_ls, ob_some, evBin_gtr, show ¬ (0 : Int) < ((0 : Nat) : Int) by omega, decide_false, cnd_f, Bool.false_eq_true, if_false]
    | some i =>
      rw [hop] at h
      simp only at h
      have e := getLast_split hop
      generalize op.dropLast = L at *
      subst e
      obtain ⟨g0, g1'⟩ := hrange i (by simp)
      have hrL : ∀ j ∈ L, 0 ≤ j ∧ j < (lst f.code).length := fun j hj => hrange j (by simp [hj])
      simp only [List.length_append, List.length_singleton] at hm
      have hp : (0 : Int) < (L.length : Int) + 1 := by omega
      have hw : IntKind.wrap .i64 ((L.length : Int) + 1 - 1) = (L.length : Int) := by rw [wrap_i64] <;> omega
      have s1 := stk_ix 2 g L.length
      have s2 := stk_slc 2 g L.length
      have s3 : evLd false 1 (.lp 2 g L.length 0) [AB f, AL g1 seen, AI g (L ++ [i] ++ T), o3, o4] = some (.int .i64 i) := stk_ld (T := T) (by simp)
      have h1 : ¬ ((lst f.code).length : Int) ≤ i := by omega
      have e12 : q81_12 (.lp 0 1 0 0) (.int .i64 r) (.ls 1 g1 1 0 (lst f.code).length) (.ls 2 g 1 0 (L ++ [i]).length) [AB f, AL g1 seen, AI g (L ++ [i] ++ T), o3, o4] =
          q81_8 (.lp 0 1 0 0) (.int .i64 r) (.ls 1 g1 1 0 (lst f.code).length) (.ls 2 g 1 0 L.length) (.int .i64 i) [AB f, AL g1 seen, AI g (L ++ (i :: T)), o3, o4] := by
        have q1 : ((L ++ [i]).length : Int) = (L.length : Int) + 1 := by simp
        have q2 : (L ++ [i]).length = L.length + 1 := by simp
        rw [q81_12, evLen_ls, ob_some, q1, evBin_gtr, ob_some, decide_eq_true hp, cnd_t, q81_10, evLen_ls, ob_some, q1, evBin_sub, ob_some, hw, q2, s1, ob_some, s3, ob_some, q81_9, evLen_ls, ob_some, ← q2, q1, evBin_sub, ob_some, hw, q2, s2, ob_some, List.append_assoc]
        rfl
      rw [e12]
      have hi : i.toNat < seen.length := by omega
      have r1 := ixAt' (n := (lst f.code).length) g0 g1' 1 g1 .i64
      cases hsn : seen[i.toNat] with
      | true =>
        have hsg : seen.getD i.toNat true = true := by rw [List.getD_eq_getElem?_getD, List.getElem?_eq_getElem hi, hsn]; rfl
        rw [if_pos (.inr (.inr hsg))] at h
        obtain ⟨o1', o2', q⟩ := ih seen L (i :: T) g res hl hrL (by omega) h
        refine ⟨o1', o2', ?_⟩
        have lS := ld_at (α := Bool) (H := [AB f, AL g1 seen, AI g (L ++ (i :: T)), o3, o4]) (id := 1) (g := g1) (v := .bool true) rfl (by rw [List.getElem?_eq_getElem hi, hsn]) rfl
        simp only [q81_8, evLen_ls, ob_some, evBin_geq, h1, decide_false, gb_ff, r1, lS, evPick_f, cnd_t, q]
      | false =>
        have hsg : ¬ (i < 0 ∨ ((lst f.code).length : Int) ≤ i ∨ seen.getD i.toNat true = true) := by
          rw [List.getD_eq_getElem?_getD, List.getElem?_eq_getElem hi, hsn]
          simp; omega
        rw [if_neg hsg] at h
        have lS := ld_at (α := Bool) (H := [AB f, AL g1 seen, AI g (L ++ (i :: T)), o3, o4]) (id := 1) (g := g1) (v := .bool false) rfl (by rw [List.getElem?_eq_getElem hi, hsn]) rfl
        have st := evSt_at (α := Bool) (H := [AB f, AL g1 seen, AI g (L ++ (i :: T)), o3, o4]) (id := 1) (g := g1) (i := i.toNat) (L := seen) (v := .bool true) (y := true) rfl hi rfl
        simp only [es_bool, List.set_cons_zero, List.set_cons_succ] at st
        have hlt : i.toNat < (lst f.code).length := by omega
        have ei : ((i.toNat : Nat) : Int) = i := by omega
        have hx := insAt_lt hlt
        have k9 := ixs_insI (o := f.code) g0 hx .i64
        have hxa := hs.args _ (List.mem_of_getElem? hx)
        have hU := s_RUses (insAt f i.toNat) hxa
        have hD := s_RDef (insAt f i.toNat)
        have hus := uses_small _ hxa
        have hIn := s_in11 r (nz (lst (uses (insAt f i.toNat)))) (by rw [lst_nz]; omega)
        rw [lst_nz, ← hitR_def] at hIn
        have hC := s_RCaught f i (by omega)
        have hN := s_RNext f i (by omega)
        have ax : ∀ H : Heap, fzList (fz H fuelF) [.agg (enc (insAt f i.toNat))] = some ⟨[.agg (enc (insAt f i.toNat))], scal (insAt f i.toNat) && true, []⟩ := fun H => by
          rw [fzList_cons, fz_enc, fzList_nil]; rfl
        have af : ∀ H : Heap, fzList (fz H fuelF) [.agg (enc f), .int .i64 i] = some ⟨[.agg (enc f), .int .i64 i], scal f && (true && true), []⟩ := fun H => by
          rw [fzList_cons, fzList_cons, fz_enc, fz_int', fzList_nil]; rfl
        have au : ∀ H : Heap, fzList (fz H fuelF) [slA (nz (lst (uses (insAt f i.toNat)))), .int .i64 r] = some ⟨[slA (nz (lst (uses (insAt f i.toNat)))), .int .i64 r], (lst (nz (lst (uses (insAt f i.toNat))))).isEmpty && (true && true), []⟩ := fun H => by
          rw [fzList_cons, fzList_cons, fz_sl, fz_int', fzList_nil]; rfl
        have cU : ∀ H, callAny E (callW E) 0 none true 15 [.agg (enc (insAt f i.toNat))] H = some (slA (nz (lst (uses (insAt f i.toNat)))), H) := fun H => call_reads rfl (ax H) rfl hU ⟨_, exO_fz _, rfl⟩
        have cD : ∀ H, callAny E (callW E) 0 none true 16 [.agg (enc (insAt f i.toNat))] H = some (.int .i64 (defr (insAt f i.toNat)), H) := fun H => call_reads rfl (ax H) rfl hD ⟨_, rfl, rfl⟩
        have cI : ∀ H, callAny E (callW E) 0 none true 96 [slA (nz (lst (uses (insAt f i.toNat)))), .int .i64 r] H = some (.bool (hitR_ f r i.toNat), H) := fun H => call_reads rfl (au H) rfl hIn ⟨_, rfl, rfl⟩
        have cC : ∀ H, callAny E (callW E) 0 none true 92 [.agg (enc f), .int .i64 i] H = some (slA (nz (caughtL f i)), H) := fun H => call_reads rfl (af H) rfl hC ⟨_, exO_fz _, rfl⟩
        have cN : ∀ H, callAny E (callW E) 0 none true 95 [.agg (enc f), .int .i64 i] H = some (slA (nz (nextL f i)), H) := fun H => call_reads rfl (af H) rfl hN ⟨_, exO_fz _, rfl⟩
        have l0 : ∀ t : Heap, evLd true 5 (.lp 0 1 0 0) (AB f :: t) = some (.agg (enc f)) := fun t => by simp
        have l3 : ∀ t : Heap, evLd false 1 (.lp 0 1 0 3) (AB f :: t) = some (slA f.code) := fun t => by simp
        have lx : ∀ t : Heap, evLd true 9 (.rp (enc (insAt f i.toNat))) t = some (.agg (enc (insAt f i.toNat))) := fun t => by simp
        cases hh : hitR_ f r i.toNat with
        | true =>
          rw [hh] at h cI
          injection h with h
          subst h
          refine ⟨o3, o3, ?_⟩
          simp only [q81_8, evLen_ls, ob_some, evBin_geq, h1, decide_false, gb_ff, r1, lS, evPick_f, cnd_f, q81_7, st, oh_some, q81_6, evFa_lp, Nat.zero_add, l3, k9, lx, cU, cI, cnd_t, if_true, expo1_bool']
        | false =>
          rw [hh] at h cI
          simp only [Bool.false_eq_true, if_false] at h
          have hu := unseen_set hi hsn
          have hS := succR_len f r i.toNat
          have hn2 := nextL_len f i
          have hc2 := caughtL_len f i
          have hSe : succR f r i.toNat = caughtL f i ++ if defr (insAt f i.toNat) = r then [] else nextL f i := by rw [succR, ei]
          rw [hSe] at h hS
          rw [← hu, Nat.add_mul] at hm
          have b1 := app_bound (a := L.length) (b := (caughtL f i).length) (by omega)
          have a1 := app_stk (α := Int) (H := [AB f, AL g1 (seen.set i.toNat true), AI g (L ++ (i :: T)), o3, o4]) (fb := 0) (sl := some 3) (id := 2) (g := g) (y := slA (nz (caughtL f i))) (L := L) (M := caughtL f i) (T := i :: T) (by simp) rfl b1
          simp only [es_int, List.set_cons_succ, List.set_cons_zero] at a1
          have e8 : q81_8 (.lp 0 1 0 0) (.int .i64 r) (.ls 1 g1 1 0 (lst f.code).length) (.ls 2 g 1 0 L.length) (.int .i64 i) [AB f, AL g1 seen, AI g (L ++ (i :: T)), o3, o4] =
              cnd (.bool (decide (defr (insAt f i.toNat) ≠ r)))
                (oh (evApp 0 (some 4) 1 8 (.ls 2 (g + 1) 1 0 (L ++ caughtL f i).length) (slA (nz (nextL f i))) [AB f, AL g1 (seen.set i.toNat true), AI (g + 1) (L ++ caughtL f i), o3, o4]) fun v78 h5 => q81_L4 (.lp 0 1 0 0) (.int .i64 r) (.ls 1 g1 1 0 (lst f.code).length) v78 h5)
                (q81_L4 (.lp 0 1 0 0) (.int .i64 r) (.ls 1 g1 1 0 (lst f.code).length) (.ls 2 (g + 1) 1 0 (L ++ caughtL f i).length) [AB f, AL g1 (seen.set i.toNat true), AI (g + 1) (L ++ caughtL f i), o3, o4]) := by
            simp only [q81_8, evLen_ls, ob_some, evBin_geq, h1, decide_false, gb_ff, r1, lS, evPick_f, cnd_f, q81_7, st, oh_some, q81_6, evFa_lp, Nat.zero_add, l3, k9, lx, cU, cI, q81_5, l0, cC, a1, cD, evBin_neq, cN]
          rw [e8]
          by_cases hd : defr (insAt f i.toNat) = r
          · rw [if_pos hd, List.append_nil] at h hS
            have := ih (seen.set i.toNat true) (L ++ caughtL f i) [] (g + 1) res (by simpa using hl) (fun j hj => by
              rcases List.mem_append.1 hj with hj | hj
              · exact hrL j hj
              · exact w.caught hj) (by rw [List.length_append]; omega) h
            rw [List.append_nil] at this
            have hdd : decide (defr (insAt f i.toNat) ≠ r) = false := by simp [hd]
            rw [hdd, cnd_f]
            exact this
          · rw [if_neg hd] at h hS
            rw [List.length_append] at hS
            have b2 := app_bound (a := (L ++ caughtL f i).length) (b := (nextL f i).length) (by rw [List.length_append]; omega)
            have a2 := app_stk (α := Int) (H := [AB f, AL g1 (seen.set i.toNat true), AI (g + 1) (L ++ caughtL f i), o3, o4]) (fb := 0) (sl := some 4) (id := 2) (g := g + 1) (y := slA (nz (nextL f i))) (L := L ++ caughtL f i) (M := nextL f i) (T := []) (by simp) (by simp) b2
            simp only [es_int, List.set_cons_succ, List.set_cons_zero] at a2
            have := ih (seen.set i.toNat true) (L ++ caughtL f i ++ nextL f i) [] (g + 1 + 1) res (by simpa using hl) (fun j hj => by
              rcases List.mem_append.1 hj with hj | hj
              · rcases List.mem_append.1 hj with hj | hj
                · exact hrL j hj
                · exact w.caught hj
              · rw [← ei] at hj
                exact w.next hlt hj) (by simp only [List.length_append]; omega) (by rw [List.append_assoc]; exact h)
            rw [List.append_nil] at this
            have hdd : decide (defr (insAt f i.toNat) ≠ r) = true := by simp [hd]
            rw [hdd, cnd_t, a2, oh_some]
            exact this
open Classical in
theorem RSet_regs (o3 o4 : AO) : ∀ (d r : Nat) (o1 o2 : AO), r + d = (lst f.regs).length →
    q81_L2 (.lp 0 1 0 0) (.int .i64 r) [AB f, o1, o2, o3, o4] = some ⟨.bool (decide (∀ q : Int, (r : Int) ≤ q → q < (lst f.regs).length → q ∉ lst f.params → ¬ badR f q)), [], true, [], []⟩ := by
  have hn := w.n2
  have hn1 := w.n1
  have hR := w.regs
  intro d
  induction d with
  | zero =>
    intro r o1 o2 hr2
    have hc : ¬ ((r : Int) < ((lst f.regs).length : Int)) := by omega
    have l0 : ∀ t : Heap, evLd false 1 (.lp 0 1 0 0) (AB f :: t) = some (slA f.regs) := fun t => by simp
    have ht : decide (∀ q : Int, (r : Int) ≤ q → q < (lst f.regs).length → q ∉ lst f.params → ¬ badR f q) = true := by
      rw [decide_eq_true_iff]
      intro q q1 q2
      omega
    rw [q81_L2_go, ht]
    simp only [q81_19, evFa_lp, Nat.zero_add, ob_some, l0, evLen_sl, evBin_lss, hc, decide_false, cnd_f, q81_1, expo1_bool']
  | succ d ih =>
    intro r o1 o2 hr2
    have hc : ((r : Int) < ((lst f.regs).length : Int)) := by omega
    have hw : IntKind.wrap .i64 ((r : Int) + 1) = ((r + 1 : Nat) : Int) := by rw [wrap_i64] <;> omega
    have l0 : ∀ t : Heap, evLd false 1 (.lp 0 1 0 0) (AB f :: t) = some (slA f.regs) := fun t => by simp
    have l1 : ∀ t : Heap, evLd false 1 (.lp 0 1 0 1) (AB f :: t) = some (slA f.params) := fun t => by simp
    have l3 : ∀ t : Heap, evLd false 1 (.lp 0 1 0 3) (AB f :: t) = some (slA f.code) := fun t => by simp
    have hin := s_in11 (r : Int) f.params (by have := hs.params; omega)
    have ap : ∀ H : Heap, fzList (fz H fuelF) [slA f.params, .int .i64 (r : Int)] = some ⟨[slA f.params, .int .i64 (r : Int)], (lst f.params).isEmpty && (true && true), []⟩ := fun H => by
      rw [fzList_cons, fzList_cons, fz_sl, fz_int', fzList_nil]; rfl
    have cI : ∀ H, callAny E (callW E) 0 none true 96 [slA f.params, .int .i64 (r : Int)] H = some (.bool ((lst f.params).contains (r : Int)), H) := fun H => call_reads rfl (ap H) rfl hin ⟨_, rfl, rfl⟩
    have step : ∀ b : Bool, (b = true ↔ ((r : Int) ∉ lst f.params → ¬ badR f r)) → decide (∀ q : Int, (r : Int) ≤ q → q < (lst f.regs).length → q ∉ lst f.params → ¬ badR f q) = (b && decide (∀ q : Int, ((r + 1 : Nat) : Int) ≤ q → q < (lst f.regs).length → q ∉ lst f.params → ¬ badR f q)) := by
      intro b hb
      rw [Bool.eq_iff_iff, Bool.and_eq_true, decide_eq_true_iff, decide_eq_true_iff, hb]
      constructor
      · exact fun h => ⟨h r (by omega) hc, fun q q1 => h q (by omega)⟩
      · intro ⟨h1, h2⟩ q q1 q2
        by_cases e : q = r
        · rw [e]; exact h1
        · exact h2 q (by omega) q2
    rw [q81_L2_go]
    cases hm : (lst f.params).contains (r : Int) with
    | true =>
      rw [hm] at cI
      have hmem : (r : Int) ∈ lst f.params := by simpa using hm
      rw [step true (by simp [hmem]), Bool.true_and, ← ih (r + 1) o1 o2 (by omega)]
      simp only [q81_19, evFa_lp, Nat.zero_add, ob_some, l0, evLen_sl, evBin_lss, hc, decide_true, cnd_t, q81_16, l1, cI, oh_some, q81_3, evBin_add, hw]
    | false =>
      rw [hm] at cI
      have hmem : (r : Int) ∉ lst f.params := by simpa using hm
      have hmes : unseen (List.replicate (lst f.code).length false) * ((lst f.rows).length + 3) + [(0 : Int)].length < 20000 * 100003 + 2 := by
        have h1 : unseen (List.replicate (lst f.code).length false) ≤ 20000 := by
          unfold unseen
          exact Nat.le_trans List.countP_le_length (by simpa using hn)
        have := Nat.mul_le_mul h1 (show (lst f.rows).length + 3 ≤ 100003 by omega)
        simp only [List.length_singleton]
        omega
      obtain ⟨res, hres⟩ := dfsF_ends (n := (lst f.code).length) (S := succR f r) (hit := hitR_ f r) (B := (lst f.rows).length + 2) (fun i _ => succR_len f r i) _ (List.replicate (lst f.code).length false) [0] (by simp) hmes
      have hspec := dfsF_spec _ _ _ res DfsI.start (fun i hi => by rw [List.getElem?_replicate] at hi; split at hi <;> cases hi) hres
      have hbad : res = true ↔ badR f r := by
        rw [hspec]
        unfold badR hitR_
        simp only [List.contains_iff_mem]
      obtain ⟨o1', o2', hd⟩ := RSet_dfs f w hs hr (r : Int) (o1.gen + 1) o3 o4 _ (List.replicate (lst f.code).length false) [0] [] (o2.gen + 1) res (by simp) (fun j hj => by rw [List.mem_singleton] at hj; subst hj; omega) (by omega) hres
      simp only [List.append_nil, List.length_singleton] at hd
      have b1 : ((lst f.code).length : Int) ≤ 140737488355328 := by omega
      have b2 : ((lst f.code).length : Int) ≤ 4611686018427387904 := by omega
      have mk : mkSC 0 (some 1) 1 1 [.bool false] (.int .i64 (lst f.code).length) (.int .i64 (lst f.code).length) [AB f, o1, o2, o3, o4] = some (.ls 1 (o1.gen + 1) 1 0 (lst f.code).length, [AB f, AL (o1.gen + 1) (List.replicate (lst f.code).length false), o2, o3, o4]) := by
        simp [mkSC, b1, b2]
      have bs : buildSC 0 (some 2) 1 1 [.int .i64 0] [(0, .int .i64 0)] [AB f, AL (o1.gen + 1) (List.replicate (lst f.code).length false), o2, o3, o4] = some (.ls 2 (o2.gen + 1) 1 0 1, [AB f, AL (o1.gen + 1) (List.replicate (lst f.code).length false), AI (o2.gen + 1) [0], o3, o4]) := by
        simp [buildSC, fillRows]
      rw [step (!res) (by
        cases res with
        | true => simp [hmem, hbad.1 rfl]
        | false =>
          have : ¬ badR f r := fun h => by have := hbad.2 h; cases this
          simp [this])]
      have e : q81_19 (.lp 0 1 0 0) (.int .i64 r) [AB f, o1, o2, o3, o4] = if res then some ⟨.bool false, [], true, [], []⟩ else q81_3 (.lp 0 1 0 0) (.int .i64 r) [AB f, o1', o2', o3, o4] := by
        rw [← hd]
        simp only [q81_19, evFa_lp, Nat.zero_add, ob_some, l0, evLen_sl, evBin_lss, hc, decide_true, cnd_t, q81_16, l1, cI, oh_some, cnd_f, q81_15, l3, mk, q81_14, bs]
      rw [e]
      cases res with
      | true => rfl
      | false =>
        simp only [Bool.false_eq_true, if_false, Bool.not_false, Bool.true_and, q81_3, evBin_add, ob_some, hw]
        exact ih (r + 1) o1' o2' (by omega)
end
theorem s_RSet (f : Fn) (hf : FnFit f) (hs : FnSm f) (hr : (lst f.rows).length ≤ 100000) : (callW E).p 99 [.agg (enc f)] = some ⟨.bool (setM f), [], true, [], []⟩ := by
  rw [x_q81]
  have hck := s_RCheck f hf
  have ha : ∀ H : Heap, fzList (fz H fuelF) [.agg (enc f)] = some ⟨[.agg (enc f)], scal f && true, []⟩ := fun H => by
    rw [fzList_cons, fz_enc, fzList_nil]; rfl
  have c2 : ∀ H, callAny E (callW E) 0 none true 29 [.agg (enc f)] H = some (.int .i64 (if wf f then 0 else 80), H) := fun H => call_reads rfl (ha H) rfl hck ⟨_, rfl, rfl⟩
  have l0 : ∀ t : Heap, evLd true 5 (.lp 0 1 0 0) (AB f :: t) = some (.agg (enc f)) := fun t => by simp
  have n0 : newC 0 (some 0) (cellsOf (.agg (enc f))) [D0, D0, D0, D0, D0] = some (.lp 0 1 0 0, [AB f, D0, D0, D0, D0]) := by simp
  cases hw : wf f with
  | false =>
    rw [hw] at c2
    have hm : setM f = false := by rw [setM, hw]; rfl
    rw [hm]
    simp only [q81_24, n0, oh_some, q81_23, l0, ob_some, c2, Bool.false_eq_true, if_false, evBin_neq, show decide ((80 : Int) ≠ 0) = true from rfl, cnd_t, expo1_bool']
  | true =>
    rw [hw] at c2
    have h := RSet_regs f (wf_of hw) hs hr D0 D0 _ 0 D0 D0 (Nat.zero_add _)
    have h' : q81_21 (.lp 0 1 0 0) [AB f, D0, D0, D0, D0] = _ := h
    have hm : setM f = @decide (∀ q : Int, ((0 : Nat) : Int) ≤ q → q < (lst f.regs).length → q ∉ lst f.params → ¬ badR f q) (Classical.propDecidable _) := by
      rw [setM, hw, Bool.true_and]
      rfl
    simp only [q81_24, n0, oh_some, q81_23, l0, ob_some, c2, if_true, evBin_neq, show decide ((0 : Int) ≠ 0) = false from rfl, cnd_f, h']
    rw [hm]
end Go.Vm
namespace Go.Vm
open Cel
def okIn : Option (Option (List Bool)) → List Int → Bool
  | some (some s), us => us.all fun u => s.getD u.toNat false
  | _, _ => true
theorem okIn_some (s : List Bool) (us : List Int) : okIn (some (some s)) us = us.all fun u => s.getD u.toNat false := rfl
theorem okIn_none (us : List Int) : okIn (some none) us = true := rfl
theorem okIn_nil (x : Option (Option (List Bool))) : okIn x [] = true := by
  match x with
  | none => rfl
  | some none => rfl
  | some (some s) => rfl
theorem okIn_cons (s : List Bool) (u : Int) (us : List Int) : okIn (some (some s)) (u :: us) = (s.getD u.toNat false && okIn (some (some s)) us) := rfl
def goodAt (f : Fn) (r : Tab) (i : Nat) : Bool := okIn r[i]? (usesAt f i)
def goodFrom (f : Fn) (r : Tab) : Nat → Nat → Bool
  | _, 0 => true
  | i, d + 1 => goodAt f r i && goodFrom f r (i + 1) d
theorem goodFrom_iff (f : Fn) (r : Tab) : ∀ (d i : Nat), goodFrom f r i d = true ↔ ∀ j, i ≤ j → j < i + d → goodAt f r j = true
  | 0, i => by simp [goodFrom]; omega
  | d + 1, i => by
    rw [goodFrom, Bool.and_eq_true, goodFrom_iff f r d (i + 1)]
    constructor
    · rintro ⟨h1, h2⟩ j a b
      by_cases e : j = i
      · rw [e]; exact h1
      · exact h2 j (by omega) (by omega)
    · intro h
      exact ⟨h i (by omega) (by omega), fun j a b => h j (by omega) (by omega)⟩
theorem goodAt_iff {f : Fn} (w : Wf f) {r : Tab} (ok : TblOk (lst f.code).length (lst f.regs).length r) {i : Nat} (hi : i < (lst f.code).length) : goodAt f r i = true ↔ ∀ u ∈ usesAt f i, ∀ s, r[i]? = some (some s) → s[u.toNat]? = some true := by
  unfold goodAt
  have hlt : i < r.length := by rw [ok.len]; exact hi
  obtain ⟨x, hx⟩ : ∃ x, r[i]? = some x := ⟨_, List.getElem?_eq_getElem hlt⟩
  rw [hx]
  cases x with
  | none => simp [okIn_none]
  | some s =>
    have hl := ok.rows _ _ hx
    rw [okIn_some]
    simp only [List.all_eq_true]
    have key : ∀ u ∈ usesAt f i, (s.getD u.toNat false = true ↔ s[u.toNat]? = some true) := fun u hu => by
      obtain ⟨u0, u1⟩ := w.uses hi hu
      have hlt : u.toNat < s.length := by omega
      rw [List.getD_eq_getElem?_getD, List.getElem?_eq_getElem hlt]
      simp
    constructor
    · intro h u hu s' e
      injection e with e; injection e with e; subst e
      exact (key u hu).1 (h u hu)
    · intro h u hu
      exact (key u hu).2 (h u hu s rfl)
section
variable {f : Fn} (w : Wf f) (hs : FnSm f)
include w
theorem Set_uses {r : Tab} {P : Nat → Nat × Nat} (ok : TblOk (lst f.code).length (lst f.regs).length r) {i : Nat} (hi : i < (lst f.code).length) (hU : (lst (uses (insAt f i))).length ≤ 9223372036854775807) {H : Heap} (Rp : SRep f H r P) : ∀ (d k : Nat), k + d = (lst (uses (insAt f i))).length →
    q8_L4 (.ls 1 1 1 0 (lst f.code).length) (.int .i64 (i : Int)) (slA f.code) (.int .i64 (lst f.code).length) (.int .i64 (i : Int)) (slA (uses (insAt f i))) (.int .i64 (lst (uses (insAt f i))).length) (.int .i64 (k : Int)) H =
      if okIn r[i]? ((lst (uses (insAt f i))).drop k) then q8_3 (.ls 1 1 1 0 (lst f.code).length) (slA f.code) (.int .i64 (lst f.code).length) (.int .i64 (i : Int)) H else some ⟨.bool false, [], true, [], []⟩ := by
  have hlt : i < r.length := by rw [ok.len]; exact hi
  obtain ⟨x, hx⟩ : ∃ x, r[i]? = some x := ⟨_, List.getElem?_eq_getElem hlt⟩
  have ixI := ixAt' (n := (lst f.code).length) (p := (i : Int)) (by omega) (by omega) 1 1 .i64
  rw [show ((i : Int)).toNat = i by omega] at ixI
  intro d
  induction d with
  | zero =>
    intro k hk
    have e : (lst (uses (insAt f i))).drop k = [] := List.drop_eq_nil_of_le (by omega)
    have hc : ¬ ((k : Int) < ((lst (uses (insAt f i))).length : Int)) := by omega
    rw [e, okIn_nil, q8_L4_go]
    simp only [q8_8, evBin_lss, ob_some, hc, decide_false, q8_7, cnd_f, if_true]
  | succ d ih =>
    intro k hk
    have hlt2 : k < (lst (uses (insAt f i))).length := by omega
    have hc : ((k : Int) < ((lst (uses (insAt f i))).length : Int)) := by omega
    have hw := wrap_up hlt2 (by omega)
    have hmem := List.getElem_mem hlt2
    have kx := ixs_int (List.getElem?_eq_getElem hlt2) .i64
    have ih1 := ih (k + 1) (by omega)
    push_cast at ih1
    rw [List.drop_eq_getElem_cons hlt2, q8_L4_go]
    have hur := w.uses hi hmem
    generalize (lst (uses (insAt f i)))[k] = u at *
    have lx : ∀ t : Heap, evLd false 1 (.rp [.int .i64 u]) t = some (.int .i64 u) := fun t => by simp
    rw [hx] at ih1 ⊢
    cases x with
    | none =>
      rw [okIn_none] at ih1 ⊢
      have lI := ld_row Rp.tab (tabRows_get (P := P) hx)
      have hE : evEqnB 1 true .nils .nils = some (.bool false) := rfl
      simp only [q8_8, evBin_lss, ob_some, hc, decide_true, q8_7, cnd_t, q8_6, kx, lx, ixI, lI, hE, gb_ft, evPick_f, cnd_f, q8_5, evBin_add, hw, ih1]
    | some s =>
      have hl := ok.rows _ _ hx
      have lI := ld_row Rp.tab (tabRows_get (P := P) hx)
      have hE : ∀ a b n, evEqnB 1 true (.ls a b 1 0 n) .nils = some (.bool true) := fun _ _ _ => rfl
      have ixU := ixAt' (n := s.length) hur.1 (by omega) (P i).1 (P i).2 .i64
      have hut : u.toNat < s.length := by omega
      have lU := ld_at (α := Bool) (H := H) (id := (P i).1) (g := (P i).2) (i := u.toNat) (v := .bool (s.getD u.toNat false)) (Rp.obj _ _ hx) (by rw [List.getD_eq_getElem?_getD, List.getElem?_eq_getElem hut]; rfl) rfl
      rw [okIn_cons]
      cases hb : s.getD u.toNat false with
      | true =>
        rw [hb] at lU
        rw [Bool.true_and]
        simp only [q8_8, evBin_lss, ob_some, hc, decide_true, q8_7, cnd_t, q8_6, kx, lx, ixI, lI, hE, gb_tt, ixU, lU, evUn_not, Bool.not_true, evPick_t, cnd_f, q8_5, evBin_add, hw, ih1]
      | false =>
        rw [hb] at lU
        rw [Bool.false_and]
        simp only [q8_8, evBin_lss, ob_some, hc, decide_true, q8_7, cnd_t, q8_6, kx, lx, ixI, lI, hE, gb_tt, ixU, lU, evUn_not, Bool.not_false, evPick_t, expo1_bool', Bool.false_eq_true, if_false]
include hs
theorem Set_check {r : Tab} {P : Nat → Nat × Nat} (ok : TblOk (lst f.code).length (lst f.regs).length r) : ∀ (d i : Nat) (H : Heap), i + d = (lst f.code).length → SRep f H r P → 6 ≤ H.length →
    q8_L2 (.ls 1 1 1 0 (lst f.code).length) (slA f.code) (.int .i64 (lst f.code).length) (.int .i64 (i : Int)) H = some ⟨.bool (goodFrom f r i d), [], true, [], []⟩ := by
  have hn := w.n2
  intro d
  induction d with
  | zero =>
    intro i H hk Rp h6
    have hc : ¬ ((i : Int) < ((lst f.code).length : Int)) := by omega
    rw [q8_L2_go]
    simp only [q8_15, evBin_lss, ob_some, hc, decide_false, q8_14, cnd_f, q8_1, expo1_bool', goodFrom]
  | succ d ih =>
    intro i H hk Rp h6
    have hlt : i < (lst f.code).length := by omega
    have hc : ((i : Int) < ((lst f.code).length : Int)) := by omega
    have hw := wrap_up hlt (by omega)
    have hx := insAt_lt hlt
    have kx := ixs_ins (o := f.code) hx .i64
    have hxa := hs.args _ (List.mem_of_getElem? hx)
    have lx : ∀ t : Heap, evLd true 9 (.rp (enc (insAt f i))) t = some (.agg (enc (insAt f i))) := fun t => by simp
    obtain ⟨o5, d5⟩ : ∃ o, H[0 + 5]? = some o := ⟨_, List.getElem?_eq_getElem (by omega)⟩
    have n5 : newC 0 (some 5) [.int .i64 0, .int .i64 0, .int .i64 0, .int .i64 0, .int .i64 0, .int .i64 0, .int .i64 0, .str [], .nils] H = some (.lp 5 (o5.gen + 1) 0 0, H.set 5 ⟨o5.gen + 1, .arr true false 9 [[.int .i64 0, .int .i64 0, .int .i64 0, .int .i64 0, .int .i64 0, .int .i64 0, .int .i64 0, .str [], .nils]]⟩) := by
      simp only [Nat.zero_add] at d5
      simp [newC, newBox, place, d5]
    have hl5 : 5 < H.length := by omega
    have st5 : evSt 9 (.lp 5 (o5.gen + 1) 0 0) (.agg (enc (insAt f i))) (H.set 5 ⟨o5.gen + 1, .arr true false 9 [[.int .i64 0, .int .i64 0, .int .i64 0, .int .i64 0, .int .i64 0, .int .i64 0, .int .i64 0, .str [], .nils]]⟩) =
        some (.tup [], H.set 5 ⟨o5.gen + 1, .arr true false 9 [enc (insAt f i)]⟩) := by
      have hr : rowsAt (H.set 5 ⟨o5.gen + 1, .arr true false 9 [[.int .i64 0, .int .i64 0, .int .i64 0, .int .i64 0, .int .i64 0, .int .i64 0, .int .i64 0, .str [], .nils]]⟩) 5 (o5.gen + 1) = some (false, 9, [[.int .i64 0, .int .i64 0, .int .i64 0, .int .i64 0, .int .i64 0, .int .i64 0, .int .i64 0, .str [], .nils]]) := by simp [rowsAt, objAt, hl5]
      simp [evSt_lp, hr, setRows, hl5, spliceAt]
    have ld5 : evLd true 9 (.lp 5 (o5.gen + 1) 0 0) (H.set 5 ⟨o5.gen + 1, .arr true false 9 [enc (insAt f i)]⟩) = some (.agg (enc (insAt f i))) := by
      have hr : rowsAt (H.set 5 ⟨o5.gen + 1, .arr true false 9 [enc (insAt f i)]⟩) 5 (o5.gen + 1) = some (false, 9, [enc (insAt f i)]) := by simp [rowsAt, objAt, hl5]
      simp [evLd_lp, hr]
    have R5 := Rp.other (a := 5) (x := ⟨o5.gen + 1, .arr true false 9 [enc (insAt f i)]⟩) (.inr (.inr (.inl rfl)))
    have x6 : 6 ≤ (H.set 5 ⟨o5.gen + 1, .arr true false 9 [enc (insAt f i)]⟩).length := by rw [List.length_set]; exact h6
    have us := uses_small _ hxa
    have cU : ∀ H, callAny E (callW E) 0 none true 10 [.agg (enc (insAt f i))] H = some (slA (uses (insAt f i)), H) := fun H => call_reads rfl (fz_x _ H) rfl (s_Uses _ hxa) ⟨_, exO_fz _, rfl⟩
    generalize H.set 5 ⟨o5.gen + 1, .arr true false 9 [enc (insAt f i)]⟩ = H1 at *
    have lp := Set_uses w ok hlt (by omega) R5 _ 0 (Nat.zero_add _)
    have ih1 := ih (i + 1) H1 (by omega) R5 x6
    push_cast at ih1
    have h3 : q8_3 (.ls 1 1 1 0 (lst f.code).length) (slA f.code) (.int .i64 (lst f.code).length) (.int .i64 (i : Int)) H1 = some ⟨.bool (goodFrom f r (i + 1) d), [], true, [], []⟩ := by
      simp only [q8_3, evBin_add, hw, ob_some, ih1]
    have hg : okIn r[i]? ((lst (uses (insAt f i))).drop 0) = goodAt f r i := rfl
    rw [h3, hg] at lp
    simp only [Int.ofNat_zero] at lp
    rw [q8_L2_go, goodFrom]
    simp only [q8_15, evBin_lss, ob_some, hc, decide_true, q8_14, cnd_t, q8_11, kx, lx, n5, oh_some, st5, q8_10, ld5, cU, evLen_sl, lp]
    cases goodAt f r i <;> simp
end
def parB (f : Fn) (k : Nat) : List Bool := (List.range (lst f.regs).length).map fun (r : Nat) => decide (((r : Nat) : Int) ∈ (lst f.params).take k)
theorem parB_len (f : Fn) (k : Nat) : (parB f k).length = (lst f.regs).length := by simp [parB]
theorem parB_0 (f : Fn) : parB f 0 = List.replicate (lst f.regs).length false := by
  refine List.ext_getElem (by simp [parB]) fun i h1 h2 => ?_
  simp [parB]
theorem parB_all (f : Fn) : parB f (lst f.params).length = beginB f := by simp [parB, beginB]
theorem parB_set {f : Fn} {k : Nat} (hk : k < (lst f.params).length) (h0 : 0 ≤ (lst f.params)[k]) : (parB f k).set ((lst f.params)[k]).toNat true = parB f (k + 1) := by
  unfold parB
  rw [List.take_succ_eq_append_getElem hk]
  refine range_set' ?_ fun j hj => ?_
  · rw [decide_eq_true_eq, List.mem_append, List.mem_singleton]
    right; omega
  · have : ¬ ((j : Int) = (lst f.params)[k]) := by omega
    simp only [List.mem_append, List.mem_singleton, this, or_false]
theorem Set_pars {f : Fn} (w : Wf f) (hp : (lst f.params).length ≤ 9223372036854775807) (x1 o3 o4 o5 : AO) : ∀ (d k : Nat), k + d = (lst f.params).length →
    q8_L45 (.lp 0 1 0 0) (.ls 1 1 1 0 (lst f.code).length) (.ls 2 1 1 0 (lst f.regs).length) (slA f.params) (.int .i64 (lst f.params).length) (.int .i64 (k : Int)) [AB f, x1, AL 1 (parB f k), o3, o4, o5] =
      q8_44 (.lp 0 1 0 0) (.ls 1 1 1 0 (lst f.code).length) (.ls 2 1 1 0 (lst f.regs).length) [AB f, x1, AL 1 (beginB f), o3, o4, o5] := by
  intro d
  induction d with
  | zero =>
    intro k hk
    have hk' : k = (lst f.params).length := by omega
    have hc : ¬ (((lst f.params).length : Int) < ((lst f.params).length : Int)) := by omega
    rw [hk', parB_all, q8_L45_go]
    simp only [q8_49, evBin_lss, ob_some, hc, decide_false, q8_48, cnd_f]
  | succ d ih =>
    intro k hk
    have hlt : k < (lst f.params).length := by omega
    have hc : ((k : Int) < ((lst f.params).length : Int)) := by omega
    have hw := wrap_up hlt (by omega)
    have kx := ixs_int (o := f.params) (List.getElem?_eq_getElem hlt) .i64
    have hr := parOk_in w.pars (List.getElem_mem hlt)
    have hset := parB_set hlt hr.1
    have ih1 := ih (k + 1) (by omega)
    push_cast at ih1
    rw [q8_L45_go]
    generalize (lst f.params)[k] = p at *
    have lx : ∀ t : Heap, evLd false 1 (.rp [.int .i64 p]) t = some (.int .i64 p) := fun t => by simp
    have ixP := ixAt' (n := (lst f.regs).length) hr.1 hr.2 2 1 .i64
    have st := evSt_at (α := Bool) (H := [AB f, x1, AL 1 (parB f k), o3, o4, o5]) (id := 2) (g := 1) (i := p.toNat) (L := parB f k) (v := .bool true) (y := true) rfl (by rw [parB_len]; omega) rfl
    rw [hset] at st
    simp only [es_bool, List.set_cons_succ, List.set_cons_zero] at st
    simp only [q8_49, evBin_lss, ob_some, hc, decide_true, q8_48, cnd_t, q8_47, kx, lx, ixP, st, oh_some, q8_46, evBin_add, hw, ih1]
theorem mk_bools (H : Heap) {j : Nat} {o : AO} (h : H[j]? = some o) (n : Nat) (hn : n ≤ 1000000) : mkSC 0 (some j) 1 1 [.bool false] (.int .i64 n) (.int .i64 n) H = some (.ls j (o.gen + 1) 1 0 n, H.set j (AL (o.gen + 1) (List.replicate n false))) := by
  simp [mkSC, newArr, place, h]
  refine ⟨by omega, ?_⟩
  show H.set j ⟨_, .arr false false 1 _⟩ = H.set j ⟨_, .arr false false 1 ((List.replicate n false).map enc)⟩
  rw [List.map_replicate]
  rfl
theorem mk_nils (H : Heap) {j : Nat} {o : AO} (h : H[j]? = some o) (n : Nat) (hn : n ≤ 1000000) : mkSC 0 (some j) 1 24 [.nils] (.int .i64 n) (.int .i64 n) H = some (.ls j (o.gen + 1) 1 0 n, H.set j ⟨o.gen + 1, .arr false false 1 (List.replicate n [.nils])⟩) := by
  simp [mkSC, newArr, place, h]
  omega
theorem tab_start (f : Fn) (hn : 1 ≤ (lst f.code).length) : (List.replicate (lst f.code).length [AV.nils]).set 0 [.ls 2 1 1 0 (lst f.regs).length] = tabRows (fun _ => (2, 1)) (tab0 f) := by
  have e : List.replicate (lst f.code).length [AV.nils] = tabRows (fun _ => (2, 1)) (List.replicate (lst f.code).length none) := by
    refine List.ext_getElem (by simp [tabRows]) fun i h1 h2 => ?_
    simp only [List.length_replicate] at h1
    simp [tabRows, inRow, h1]
  rw [e, tab0, ← tabRows_set (P := fun _ => (2, 1)) (by rw [List.length_replicate]; omega) (fun _ _ => rfl)]
  simp only [inRow, beginB_len]
theorem pot_start (f : Fn) (w : Wf f) : 2 * pot (lst f.regs).length (tab0 f) + 1 ≤ 137438953471 := by
  have key : ∀ (R : Nat) (l : Tab), (∀ s, some s ∈ l → s.length = R) → pot R l ≤ l.length * (R + 1) := by
    intro R l
    induction l with
    | nil => intro _; simp [pot]
    | cons a l ih =>
      intro h
      have := ih fun s hs => h s (by simp [hs])
      have h1 : wt R a ≤ R + 1 := by
        cases a with
        | none => exact Nat.le_refl _
        | some s =>
          have := h s (by simp)
          have hc : s.countP id ≤ s.length := List.countP_le_length
          simp only [wt]; omega
      simp only [pot, List.map_cons, List.sum_cons, List.length_cons, Nat.add_mul] at this ⊢
      omega
  have h := key (lst f.regs).length (tab0 f) fun s hs => by
    obtain ⟨i, hi⟩ := List.getElem?_of_mem hs
    exact (SInv.start w).ok.rows i s hi
  have hl : (tab0 f).length = (lst f.code).length := by simp [tab0]
  rw [hl] at h
  have h2 : (lst f.code).length * ((lst f.regs).length + 1) ≤ 20000 * 20001 := Nat.mul_le_mul w.n2 (by have := w.regs; omega)
  omega
theorem s_Set (f : Fn) (hf : FnFit f) (hs : FnSm f) (hr : (lst f.rows).length ≤ 100000) (hp : (lst f.params).length ≤ 9223372036854775807) : (callW E).p 77 [.agg (enc f)] = some ⟨.bool (setM f), [], true, [], []⟩ := by
  rw [x_q8]
  have hck := s_Check f hf
  have ha : ∀ H : Heap, fzList (fz H fuelF) [.agg (enc f)] = some ⟨[.agg (enc f)], scal f && true, []⟩ := fun H => by
    rw [fzList_cons, fz_enc, fzList_nil]; rfl
  have c8 : ∀ H, callAny E (callW E) 0 none true 8 [.agg (enc f)] H = some (.int .i64 (if wf f then 0 else 80), H) := fun H => call_reads rfl (ha H) rfl hck ⟨_, rfl, rfl⟩
  have l0 : ∀ t : Heap, evLd true 5 (.lp 0 1 0 0) (AB f :: t) = some (.agg (enc f)) := fun t => by simp
  have n0 : newC 0 (some 0) (cellsOf (.agg (enc f))) [D0, D0, D0, D0, D0, D0] = some (.lp 0 1 0 0, [AB f, D0, D0, D0, D0, D0]) := by simp
  cases hw : wf f with
  | false =>
    rw [hw] at c8
    have hm : setM f = false := by rw [setM, hw]; rfl
    rw [hm]
    simp only [q8_56, n0, oh_some, q8_55, l0, ob_some, c8, Bool.false_eq_true, if_false, evBin_neq, show decide ((80 : Int) ≠ 0) = true from rfl, cnd_t, expo1_bool']
  | true =>
    rw [hw] at c8
    have w := wf_of hw
    have hn1 := w.n1
    have hn2 := w.n2
    have hR := w.regs
    have l3 : ∀ t : Heap, evLd false 1 (.lp 0 1 0 3) (AB f :: t) = some (slA f.code) := fun t => by simp
    have l1 : ∀ t : Heap, evLd false 1 (.lp 0 1 0 1) (AB f :: t) = some (slA f.params) := fun t => by simp
    have lr : ∀ t : Heap, evLd false 1 (.lp 0 1 0 0) (AB f :: t) = some (slA f.regs) := fun t => by simp
    have m1 := mk_nils [AB f, D0, D0, D0, D0, D0] (j := 1) (o := D0) rfl (lst f.code).length (by omega)
    simp only [List.set_cons_succ, List.set_cons_zero] at m1
    have m2 := mk_bools [AB f, ⟨D0.gen + 1, .arr false false 1 (List.replicate (lst f.code).length [.nils])⟩, D0, D0, D0, D0] (j := 2) (o := D0) rfl (lst f.regs).length (by omega)
    simp only [List.set_cons_succ, List.set_cons_zero] at m2
    rw [← parB_0] at m2
    have lp := Set_pars w hp ⟨D0.gen + 1, .arr false false 1 (List.replicate (lst f.code).length [.nils])⟩ D0 D0 D0 _ 0 (Nat.zero_add _)
    simp only [Int.ofNat_zero] at lp
    have b3 := bs_one (H := [AB f, ⟨D0.gen + 1, .arr false false 1 (List.replicate (lst f.code).length [.nils])⟩, AL 1 (beginB f), D0, D0, D0]) (fb := 0) (j := 3) (o := D0) 0 rfl
    simp only [Nat.zero_add, List.set_cons_succ, List.set_cons_zero] at b3
    have ix0 := ixAt' (n := (lst f.code).length) (p := 0) (by omega) (by omega) 1 1 .i64
    rw [show (0 : Int).toNat = 0 from rfl] at ix0
    have st := st_row (H := [AB f, ⟨1, .arr false false 1 (List.replicate (lst f.code).length [.nils])⟩, AL 1 (beginB f), AI 1 [0], D0, D0]) (id := 1) (g := 1) (i := 0) (rows := List.replicate (lst f.code).length [.nils]) (v := .ls 2 1 1 0 (lst f.regs).length) (w := .nils) rfl (by rw [List.getElem?_replicate, if_pos (by omega)]) rfl rfl
    rw [tab_start f hn1] at st
    simp only [List.set_cons_succ, List.set_cons_zero] at st
    have R0 : SRep f [AB f, ⟨1, .arr false false 1 (tabRows (fun _ => (2, 1)) (tab0 f))⟩, AL 1 (beginB f), AI 1 [0], D0, D0] (tab0 f) (fun _ => (2, 1)) := by
      have hx : ∀ (i : Nat) t, (tab0 f)[i]? = some (some t) → i = 0 ∧ t = beginB f := by
        intro i t ht
        rcases set_at ht with ⟨e, e2⟩ | ⟨_, h⟩
        · injection e2 with e2; exact ⟨e, e2⟩
        · rw [List.getElem?_replicate] at h
          split at h <;> cases h
      refine ⟨rfl, rfl, fun i s hs => by rw [(hx i s hs).2]; rfl, fun i j s t h1 h2 hij => ?_, fun i s hs => .inl rfl⟩
      have a := (hx i s h1).1
      have b := (hx j t h2).1
      omega
    obtain ⟨r, hr1, hr2⟩ := setLoop_ends w (2 * pot (lst f.regs).length (tab0 f) + 1 + 1) _ _ (SInv.start w) (by simp)
    obtain ⟨H', P', e1, R1, h6⟩ := Set_work w hr _ _ _ [0] [] _ 1 r (SInv.start w) R0 rfl (by simp) (pot_start f w) hr1
    have ck := Set_check w hs hr2.ok _ 0 H' (Nat.zero_add _) R1 h6
    simp only [Int.ofNat_zero] at ck
    have hm : setM f = goodFrom f r 0 (lst f.code).length := by
      rw [setM, hw, Bool.true_and, Bool.eq_iff_iff, @decide_eq_true_eq (setP f) (Classical.propDecidable _), goodFrom_iff, ← hr2.tells w]
      constructor
      · intro h j _ hj
        have hj : j < (lst f.code).length := by omega
        exact (goodAt_iff w hr2.ok hj).2 (h j hj)
      · intro h i hi
        exact (goodAt_iff w hr2.ok hi).1 (h i (by omega) (by omega))
    rw [hm, ← ck]
    have e17 : q8_17 (.lp 0 1 0 0) (.ls 1 1 1 0 (lst f.code).length) H' = q8_L2 (.ls 1 1 1 0 (lst f.code).length) (slA f.code) (.int .i64 (lst f.code).length) (.int .i64 0) H' := by
      simp only [q8_17, evFa_lp, Nat.zero_add, ob_some, ld_code R1.box, evLen_sl]
    rw [← e17, ← e1]
    simp only [q8_56, n0, oh_some, q8_55, l0, ob_some, c8, if_true, evBin_neq, show decide ((0 : Int) ≠ 0) = false from rfl, cnd_f, q8_54, evFa_lp, Nat.zero_add, l3, evLen_sl, m1, q8_53, lr, m2, q8_51, l1, lp, q8_44, b3, q8_43, ix0, st]
    rfl
end Go.Vm
namespace Go.Vm
open Cel
attribute [local simp] callAny callP heapOf_nil
@[simp] theorem holds11 : (callW E).p 97 [] = some ⟨.bool true, [], true, [], []⟩ := lift_p 60 (by kernel_rfl)
theorem s_light (f : Fn) : (callW E).p 98 [.agg (enc f)] = some ⟨.bool (decide ((lst f.code).length ≤ 400) && decide ((lst f.regs).length ≤ 100) && decide ((lst f.rows).length ≤ 100)), [], true, [], []⟩ := by
  rw [x_q51]
  by_cases h1 : (lst f.code).length ≤ 400
  · by_cases h2 : (lst f.regs).length ≤ 100
    · have h1' : ((lst f.code).length : Int) ≤ 400 := by omega
      have h2' : ((lst f.regs).length : Int) ≤ 100 := by omega
      by_cases h3 : (lst f.rows).length ≤ 100
      · have h3' : ((lst f.rows).length : Int) ≤ 100 := by omega
        simp [q51_1, h1, h2, h3, h1', h2', h3']
      · have h3' : ¬ ((lst f.rows).length : Int) ≤ 100 := by omega
        simp [q51_1, h1, h2, h3, h1', h2', h3']
    · have h1' : ((lst f.code).length : Int) ≤ 400 := by omega
      have h2' : ¬ ((lst f.regs).length : Int) ≤ 100 := by omega
      simp [q51_1, h1, h2, h1', h2']
  · have h1' : ¬ ((lst f.code).length : Int) ≤ 400 := by omega
    simp [q51_1, h1, h1']
end Go.Vm
namespace Go.Vm
theorem FnIn.fit3 {f : Fn} (h : FnIn f) : FnFit f := by
  have e : reachBytes = 140737488351232 := rfl
  refine ⟨fun x hx => ?_, ?_, ?_, ?_, ?_⟩
  · have k := h.insI x hx
    refine ⟨⟨k.n.1, ?_⟩, ?_, ?_⟩
    · have := k.n.2; omega
    · have := k.s; omega
    · have := k.len; omega
  · have := h.code; omega
  · have := h.regs; omega
  · have := h.params; omega
  · have := h.rows; omega
end Go.Vm
namespace Go.Vm
noncomputable def keepB (f : Fn) (i : Nat) : Bool := (reachL f).getD i false && !decide ((insAt f i).op = 33)
noncomputable def plc (f : Fn) : Nat → Nat
  | 0 => 0
  | k + 1 => plc f k + if keepB f k then 1 else 0
noncomputable def trimI (f : Fn) (x : Ins) : Ins := { x with t := if leads x.op then (plc f x.t.toNat : Int) else 0 }
noncomputable def trimG (f : Fn) : Nat → List Ins
  | 0 => []
  | k + 1 => trimG f k ++ if keepB f k then [trimI f (insAt f k)] else []
noncomputable def trimW (f : Fn) (r : Row) : List Row :=
  if keepB f r.at_.toNat && decide (plc f r.f.toNat < plc f r.t.toNat) then [⟨plc f r.f.toNat, plc f r.t.toNat, plc f r.at_.toNat, r.c⟩] else []
noncomputable def trimR (f : Fn) (k : Nat) : List Row := ((lst f.rows).take k).flatMap (trimW f)
noncomputable def trimM (f : Fn) : Fn :=
  if wf f then { regs := f.regs, params := f.params, ret := f.ret, code := nz (trimG f (lst f.code).length), rows := nz (trimR f (lst f.rows).length) } else f
theorem plc_le (f : Fn) : ∀ k, plc f k ≤ k
  | 0 => Nat.le_refl _
  | k + 1 => by
    have := plc_le f k
    rw [plc]
    split <;> omega
theorem trimG_len (f : Fn) : ∀ k, (trimG f k).length = plc f k
  | 0 => rfl
  | k + 1 => by
    rw [trimG, plc, List.length_append, trimG_len f k]
    split <;> rfl
theorem trimR_len (f : Fn) (k : Nat) : (trimR f k).length ≤ k := by
  have : ∀ (l : List Row), (l.flatMap (trimW f)).length ≤ l.length := by
    intro l
    induction l with
    | nil => simp
    | cons r l ih =>
      rw [List.flatMap_cons, List.length_append, List.length_cons]
      have : (trimW f r).length ≤ 1 := by unfold trimW; split <;> simp
      omega
  have h := this ((lst f.rows).take k)
  rw [List.length_take] at h
  unfold trimR
  omega
theorem trimR_succ {f : Fn} {k : Nat} {r : Row} (h : (lst f.rows)[k]? = some r) : trimR f (k + 1) = trimR f k ++ trimW f r := by
  unfold trimR
  have hk := (List.getElem?_eq_some_iff.1 h).1
  have e : (lst f.rows).take (k + 1) = (lst f.rows).take k ++ [r] := by
    rw [← List.take_append_getElem hk]
    rw [List.getElem?_eq_getElem hk] at h
    injection h with h
    rw [h]
  rw [e, List.flatMap_append]
  simp
noncomputable def kpL (f : Fn) (k : Nat) : List Bool := (List.range (lst f.code).length).map fun j => if j < k then keepB f j else (reachL f).getD j false
theorem kpL_0 (f : Fn) : kpL f 0 = reachL f := by
  refine List.ext_getElem (by simp [kpL, reachL_len]) fun i h1 h2 => ?_
  simp [kpL, h2]
theorem kpL_len (f : Fn) (k : Nat) : (kpL f k).length = (lst f.code).length := by simp [kpL]
theorem kpL_nop {f : Fn} {k : Nat} (h : (insAt f k).op = 33) : (kpL f k).set k false = kpL f (k + 1) := by
  refine range_set ?_ fun j hj => ?_
  · simp [keepB, h]
  · by_cases h1 : j < k
    · simp [h1, show j < k + 1 by omega]
    · simp [h1, show ¬ j < k + 1 by omega]
theorem kpL_op {f : Fn} {k : Nat} (h : ¬ (insAt f k).op = 33) : kpL f (k + 1) = kpL f k := by
  refine List.map_congr_left fun j _ => ?_
  by_cases e : j = k
  · subst e; simp [keepB, h]
  · by_cases h1 : j < k
    · simp [h1, show j < k + 1 by omega]
    · simp [h1, show ¬ j < k + 1 by omega]
theorem kpL_get {f : Fn} {j : Nat} (h : j < (lst f.code).length) : (kpL f (lst f.code).length)[j]? = some (keepB f j) := by
  simp [kpL, h]
noncomputable def plcL (f : Fn) (k : Nat) : List Int := (List.range ((lst f.code).length + 1)).map fun j => if j < k then (plc f j : Int) else 0
theorem plcL_len (f : Fn) (k : Nat) : (plcL f k).length = (lst f.code).length + 1 := by simp [plcL]
theorem plcL_0 (f : Fn) : plcL f 0 = List.replicate ((lst f.code).length + 1) 0 := by
  refine List.ext_getElem (by simp [plcL]) fun i h1 h2 => ?_
  simp [plcL]
theorem plcL_set (f : Fn) (k : Nat) : (plcL f k).set k (plc f k : Int) = plcL f (k + 1) := by
  refine range_set ?_ fun j hj => ?_
  · simp
  · by_cases h1 : j < k
    · simp [h1, show j < k + 1 by omega]
    · simp [h1, show ¬ j < k + 1 by omega]
theorem plcL_get {f : Fn} {j : Nat} (h : j ≤ (lst f.code).length) : (plcL f ((lst f.code).length + 1))[j]? = some (plc f j : Int) := by
  have : j < (lst f.code).length + 1 := by omega
  simp [plcL, this]
end Go.Vm
