/- The document's answer whether an instruction is well formed, whole. -/
import Derived.Test.YtfmmcafccijnhaaCRefP
namespace Go.Vm
open Cel
attribute [local simp] callAny callP heapOf_nil fpCall

def signB (c : UInt8) : Bool := decide (c = 45) || decide (c = 63) || decide (c = 42) || decide (c = 61) || decide (c = 110) || decide (c = 49) || decide (c = 50) || decide (c = 51)
theorem signB_or {c : UInt8} (h : signB c = true) : c = 45 ∨ c = 63 ∨ c = 42 ∨ c = 61 ∨ c = 110 ∨ c = 49 ∨ c = 50 ∨ c = 51 := by
  simp only [signB, Bool.or_eq_true, decide_eq_true_eq] at h
  simp only [or_assoc] at h
  exact h
@[simp] theorem fz_tup3' (h : Heap) (a b c : Int) : fz h fuelF (.tup [.int .i64 a, .int .i64 b, .int .i64 c]) = some ⟨.tup [.int .i64 a, .int .i64 b, .int .i64 c], true, []⟩ := rfl
theorem row_signs : ((List.range 33).all fun i => decide ((rowM (1 + i)).length = 4) && (rowM (1 + i)).all signB) = true := by kernel_rfl
theorem row_ok {op : Int} (h1 : 1 ≤ op) (h2 : op ≤ 33) : (rowM op).length = 4 ∧ (rowM op).all signB = true := by
  have := range_all row_signs (op - 1).toNat (by omega)
  have e : (1 + ((op - 1).toNat : Int)) = op := by omega
  simp only [e, Bool.and_eq_true, decide_eq_true_eq] at this
  exact this

theorem one_field (f : Fn) (x : Ins) (w : List UInt8) (i : Nat) (r : Int) (c : UInt8) (hi : i < 4) (hw : w[i]? = some c) (hc : signB c = true) (hr : [x.d, x.a, x.b, x.c][i]? = some r) :
    regletref10_one_L31 Q0 Q1 (.str w) (.ls 2 1 1 0 4) (.int .i64 i) (H3 f x) = if wantM (regK (lst f.regs) r) c then regletref10_one_L31 Q0 Q1 (.str w) (.ls 2 1 1 0 4) (.int .i64 (i + 1 : Nat)) (H3 f x) else some ⟨.bool false, [], true, [], []⟩ := by
  have hn : ((i : Int) < (4 : Int)) := by omega
  have hw2 : IntKind.wrap .i64 ((i : Int) + 1) = ((i + 1 : Nat) : Int) := by rw [wrap_i64] <;> omega
  have hs := s_wanted f r c (signB_or hc)
  have k1 : evIxs 1 (.ls 2 1 1 0 4) (.int .i64 i) = some (.lp 2 1 i 0) := by simp [evIxs, hi, hn]
  have k2 : evLd false 1 (.lp 2 1 i 0) (H3 f x) = some (.int .i64 r) := by
    match i, hi, hr with
    | 0, _, hr => simp at hr; simp [hr]
    | 1, _, hr => simp at hr; simp [hr]
    | 2, _, hr => simp at hr; simp [hr]
    | 3, _, hr => simp at hr; simp [hr]
  have k3 := ixstr hw
  rw [regletref10_one_L31_go]
  generalize wantM (regK (lst f.regs) r) c = T at *
  simp only [regletref10_one_34, evBin_lss, ob_some, hn, decide_true, cnd_t]
  generalize hZ : regletref10_one_L31 Q0 Q1 (.str w) (.ls 2 1 1 0 4) (.int .i64 (i + 1 : Nat)) (H3 f x) = Z
  have e32 : regletref10_one_32 Q0 Q1 (.str w) (.ls 2 1 1 0 4) (.int .i64 i) (H3 f x) = Z := by
    rw [← hZ]; simp only [regletref10_one_32, evBin_add, ob_some, hw2]
  have e5 : evLd true 5 Q0 (H3 f x) = some (.agg (enc f)) := by simp
  simp only [regletref10_one_33, k1, k2, k3, e5, ob_some]
  cases T with
  | true => simp [hs, e32, pairsOk]
  | false => simp [hs, pairsOk]

set_option maxHeartbeats 1000000 in
theorem s_one (f : Fn) (x : Ins) (hn : -9223372036854775808 ≤ x.n ∧ x.n < 9223372036854775808) (hs : x.s.length ≤ 9223372036854775807) (hl : (lst x.args).length ≤ 9223372036854775807) :
    (callW E).p 64 [.agg (enc f), .agg (enc x)] = some ⟨.bool (oneM f x), [], true, [], []⟩ := by
  rw [x_regletref10_one]
  have hrow := s_row x.op
  by_cases h1 : 1 ≤ x.op
  · by_cases h2 : x.op ≤ 33
    · obtain ⟨hlen, hsg⟩ := row_ok h1 h2
      rw [oneM]
      simp only [h1, h2, decide_true, Bool.true_and]
      generalize rowM x.op = w at *
      match w, hlen, hsg with
      | [c0, c1, c2, c3], _, hsg =>
        simp only [List.all_cons, List.all_nil, Bool.and_true, Bool.and_eq_true] at hsg
        have e0 : regletref10_one_41 (.agg (enc f)) (.agg (enc x)) [⟨0, .dead⟩, ⟨0, .dead⟩, ⟨0, .dead⟩] = regletref10_one_L31 Q0 Q1 (.str [c0, c1, c2, c3]) (.ls 2 1 1 0 4) (.int .i64 0) (H3 f x) := by
          simp [regletref10_one_41, regletref10_one_40, regletref10_one_39, regletref10_one_38, regletref10_one_36, hrow, buildSC, fillRows]
        have s0 := one_field f x [c0, c1, c2, c3] 0 x.d c0 (by omega) rfl hsg.1 rfl
        have s1 := one_field f x [c0, c1, c2, c3] 1 x.a c1 (by omega) rfl hsg.2.1 rfl
        have s2 := one_field f x [c0, c1, c2, c3] 2 x.b c2 (by omega) rfl hsg.2.2.1 rfl
        have s3 := one_field f x [c0, c1, c2, c3] 3 x.c c3 (by omega) rfl hsg.2.2.2 rfl
        simp only [Int.ofNat_zero] at s0
        have e4 : regletref10_one_L31 Q0 Q1 (.str [c0, c1, c2, c3]) (.ls 2 1 1 0 4) (.int .i64 (3 + 1 : Nat)) (H3 f x) = some ⟨.bool (switchM f x), [], true, [], []⟩ := by
          have h25 := one_25 f x hs hl (.int .i64 x.op) rfl
          show regletref10_one_L31 Q0 Q1 (.str [c0, c1, c2, c3]) (.ls 2 1 1 0 4) (.int .i64 4) (H3 f x) = _
          rw [regletref10_one_L31_go]
          by_cases hk0 : 0 ≤ x.n
          · by_cases hk1 : x.n < 1000
            · have hK := s_RKinds x.n hk0 hk1
              simp [regletref10_one_34, regletref10_one_30, regletref10_one_29, hk0, hk1, hK, regletref10_one_27]
              exact h25
            · have : numK x.n = (0, 0, 0) := numK_out (by omega)
              rw [this] at h25
              simp [regletref10_one_34, regletref10_one_30, regletref10_one_29, hk0, hk1, regletref10_one_27]
              exact h25
          · have : numK x.n = (0, 0, 0) := numK_out (by omega)
            rw [this] at h25
            simp [regletref10_one_34, regletref10_one_30, regletref10_one_29, hk0, regletref10_one_27]
            exact h25
        rw [e0, s0]
        simp only [List.getD_cons_zero, List.getD_cons_succ]
        cases wantM (regK (lst f.regs) x.d) c0 with
        | false => simp
        | true =>
          rw [if_pos rfl, s1]
          cases wantM (regK (lst f.regs) x.a) c1 with
          | false => simp
          | true =>
            rw [if_pos rfl, s2]
            cases wantM (regK (lst f.regs) x.b) c2 with
            | false => simp
            | true =>
              rw [if_pos rfl, s3]
              cases wantM (regK (lst f.regs) x.c) c3 with
              | false => simp
              | true => rw [if_pos rfl, e4]; simp
    · have : rowM x.op = [] := by rw [rowM, if_pos (by omega)]
      rw [this] at hrow
      simp [regletref10_one_41, regletref10_one_40, regletref10_one_39, hrow, oneM, h2]
  · have : rowM x.op = [] := by rw [rowM, if_pos (by omega)]
    rw [this] at hrow
    simp [regletref10_one_41, regletref10_one_40, regletref10_one_39, hrow, oneM, h1]
end Go.Vm
