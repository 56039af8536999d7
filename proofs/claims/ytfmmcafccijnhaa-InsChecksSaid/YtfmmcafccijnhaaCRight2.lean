/- 'right', whole. -/
import Derived.Test.YtfmmcafccijnhaaCRight
namespace Go.Vm
open Cel
attribute [local simp] callAny callP heapOf_nil

theorem right_arg (f : Fn) (x : Ins) (a b c d : Int) (i : Nat) (r : Int) (v63 v64 : AV) :
    ins_right_5 P0 P1 (.int .i64 i) (.int .i64 r) v63 v64 (.int .i64 i) (HR f x a b c d) =
      if inR (lst f.regs) r && (!decide (i = 0) || !(decide (x.op = 24) || decide (x.op = 25)) || decide (regK (lst f.regs) r = 3)) then ins_right_4 P0 P1 v63 v64 (.int .i64 i) (HR f x a b c d) else some ⟨.bool false, [], true, [], []⟩ := by
  by_cases h0 : r < 0
  · have : ¬ 0 ≤ r := by omega
    simp [ins_right_5, h0, inR, this]
  by_cases h1 : r < ((lst f.regs).length : Int)
  · have h0' : 0 ≤ r := by omega
    have h1' : ¬ ((lst f.regs).length : Int) ≤ r := by omega
    have hin : inR (lst f.regs) r = true := by simp [inR, h0', h1]
    have hr := regs_at hin
    by_cases hi : i = 0
    · subst hi
      by_cases o1 : x.op = 24
      · by_cases h3 : regK (lst f.regs) r = 3
        · simp [ins_right_5, h0, h1', hin, hr, o1, h3]
        · simp [ins_right_5, h0, h1', hin, hr, o1, h3]
      · by_cases o2 : x.op = 25
        · by_cases h3 : regK (lst f.regs) r = 3
          · simp [ins_right_5, h0, h1', hin, hr, o2, h3]
          · simp [ins_right_5, h0, h1', hin, hr, o2, h3]
        · simp [ins_right_5, h0, h1', hin, o1, o2]
    · have hi' : ¬ ((i : Int) = 0) := by omega
      simp [ins_right_5, h0, h1', hin, hi, hi']
  · have h1' : ((lst f.regs).length : Int) ≤ r := by omega
    simp [ins_right_5, h0, h1', h1, inR]

theorem right_loop (f : Fn) (x : Ins) (a b c d : Int) (T : Bool) (hc : calls x.op = true) (hl : (lst x.args).length ≤ 9223372036854775807) (hT : ins_right_2 P0 P1 (HR f x a b c d) = some ⟨.bool T, [], true, [], []⟩) :
    ∀ (k i : Nat), i + k = (lst x.args).length → 0 < i →
    ins_right_L3 P0 P1 (slA x.args) (.int .i64 (lst x.args).length) (.int .i64 i) (HR f x a b c d) = some ⟨.bool (((lst x.args).drop i).all (inR (lst f.regs)) && T), [], true, [], []⟩ := by
  intro k
  induction k with
  | zero =>
    intro i hi _
    have e1 : (lst x.args).drop i = [] := List.drop_eq_nil_of_le (by omega)
    have hn : ¬ ((i : Int) < ((lst x.args).length : Int)) := by omega
    rw [ins_right_L3_go, e1]
    simp [ins_right_11, ins_right_10, hn, hT]
  | succ k ih =>
    intro i hi h0
    have hlt : i < (lst x.args).length := by omega
    have hn : ((i : Int) < ((lst x.args).length : Int)) := by omega
    have e1 : ((lst x.args).drop i).all (inR (lst f.regs)) = (inR (lst f.regs) (lst x.args)[i] && ((lst x.args).drop (i + 1)).all (inR (lst f.regs))) := by rw [List.drop_eq_getElem_cons hlt, List.all_cons]
    have ih := ih (i + 1) (by omega) (by omega)
    push_cast at ih
    have k1 := ixs_int (o := x.args) (i := i) (List.getElem?_eq_getElem hlt) .i64
    have hz : ¬ i = 0 := by omega
    rw [ins_right_L3_go, e1]
    simp only [ins_right_11, ins_right_10, evBin_lss, ob_some, hn, decide_true, cnd_t]
    simp only [ins_right_7, k1, ob_some, evLd_rp, aggOr_f, List.head?_cons]
    simp only [ins_right_6]
    simp only [evLd_lp]
    simp only [rowsAt_s, rowsAt_0]
    simp only [List.getElem?_cons_zero, List.drop_zero, agg_ins, ob_some]
    simp only [callAny, pure_17, if_true, callP, fzList_cons, fz_enc, fzList_nil, s_Calls, heapOf_nil, fz_bool', oh_some, Bool.true_or]
    simp only [evUn_not, ob_some, hc, Bool.not_true, cnd_f, right_arg]
    cases inR (lst f.regs) (lst x.args)[i]
    · simp
    · simp [hz, ins_right_4, wrap_up hlt hl, ih]

theorem right_args (f : Fn) (x : Ins) (a b c d : Int) (T : Bool) (hl : (lst x.args).length ≤ 9223372036854775807) (hT : ins_right_2 P0 P1 (HR f x a b c d) = some ⟨.bool T, [], true, [], []⟩) :
    ins_right_13 P0 P1 (HR f x a b c d) = some ⟨.bool (argsOk (lst f.regs) x && T), [], true, [], []⟩ := by
  have e0 : ins_right_13 P0 P1 (HR f x a b c d) = ins_right_L3 P0 P1 (slA x.args) (.int .i64 (lst x.args).length) (.int .i64 0) (HR f x a b c d) := by simp [ins_right_13]
  rw [e0, ins_right_L3_go]
  cases ha : lst x.args with
  | nil => simp [ins_right_11, ins_right_10, hT, argsOk, firstOk, ha]
  | cons r rest =>
    have k1 := ixs_int (o := x.args) (i := 0) (x := r) (by rw [ha]; rfl) .i64
    have k1 : evIxs 1 (slA x.args) (.int .i64 0) = some (.rp [.int .i64 r]) := k1
    have hn : ((0 : Int) < ((lst x.args).length : Int)) := by rw [ha]; simp
    have hra := right_arg f x a b c d 0 r (slA x.args) (.int .i64 (lst x.args).length)
    simp only [Int.ofNat_zero, decide_true, Bool.not_true, Bool.false_or] at hra
    rw [← ha]
    cases hc : calls x.op with
    | false =>
      simp only [ins_right_11, ins_right_10, evBin_lss, ob_some, hn, decide_true, cnd_t]
      simp only [ins_right_7, k1, ob_some, evLd_rp, aggOr_f, List.head?_cons]
      simp only [ins_right_6]
      simp only [evLd_lp]
      simp only [rowsAt_s, rowsAt_0]
      simp only [List.getElem?_cons_zero, List.drop_zero, agg_ins, ob_some]
      simp only [callAny, pure_17, if_true, callP, fzList_cons, fz_enc, fzList_nil, s_Calls, heapOf_nil, fz_bool', oh_some, Bool.true_or]
      simp only [evUn_not, ob_some, hc, Bool.not_false, cnd_t, hT, argsOk, Bool.true_or, Bool.true_and]
    | true =>
      have hlp := right_loop f x a b c d T hc hl hT rest.length 1 (by rw [ha]; simp; omega) (by omega)
      have hd : (lst x.args).drop 1 = rest := by rw [ha]; rfl
      rw [hd] at hlp
      have hlp : ins_right_L3 P0 P1 (slA x.args) (.int .i64 (lst x.args).length) (.int .i64 1) (HR f x a b c d) = _ := hlp
      simp only [ins_right_11, ins_right_10, evBin_lss, ob_some, hn, decide_true, cnd_t]
      simp only [ins_right_7, k1, ob_some, evLd_rp, aggOr_f, List.head?_cons]
      simp only [ins_right_6]
      simp only [evLd_lp]
      simp only [rowsAt_s, rowsAt_0]
      simp only [List.getElem?_cons_zero, List.drop_zero, agg_ins, ob_some]
      simp only [callAny, pure_17, if_true, callP, fzList_cons, fz_enc, fzList_nil, s_Calls, heapOf_nil, fz_bool', oh_some, Bool.true_or]
      simp only [evUn_not, ob_some, hc, Bool.not_true, cnd_f, hra]
      simp only [argsOk, firstOk, ha, List.all_cons]
      have hw : IntKind.wrap .i64 ((0 : Int) + 1) = 1 := wrap_i64 (n := 1) (by omega) (by omega)
      generalize (!(decide (x.op = 24) || decide (x.op = 25)) || decide (regK (lst f.regs) r = 3)) = B
      have hw2 : IntKind.wrap .i64 (1 : Int) = 1 := wrap_i64 (n := 1) (by omega) (by omega)
      cases inR (lst f.regs) r with
      | false => cases B <;> simp [hc]
      | true =>
        cases B with
        | false => simp [hc]
        | true =>
          simp only [Bool.and_self, if_true, ins_right_4, evBin_add, ob_some]
          rw [show IntKind.wrap .i64 ((0 : Int) + 1) = 1 from hw]
          rw [← ha, hlp]
          simp [hc]

theorem kinds_any (x : Ins) : (x.op = 1 → (kindsM x).1 = 0) ∧ (x.op = 4 → (kindsM x).1 = 0 ∧ (kindsM x).2.1 = 0) ∧ (x.op = 7 → (kindsM x).2.1 = 0) ∧ (x.op = 30 → x.a = -1 ∨ (kindsM x).2.1 = 0) := by
  refine ⟨fun h => ?_, fun h => ?_, fun h => ?_, fun h => ?_⟩ <;> simp [kindsM, h]
  by_cases ha : x.a = -1 <;> simp [ha]
theorem field_in {R : List Int} {w r : Int} (h : fieldOk R w r = true) (hw : w = 0) : inR R r = true := by
  subst hw
  simpa [fieldOk] using h

set_option maxHeartbeats 1000000 in
theorem s_right (f : Fn) (x : Ins) (hn : -9223372036854775808 ≤ x.n ∧ x.n < 9223372036854775808) (hs : x.s.length ≤ 9223372036854775807) (hl : (lst x.args).length ≤ 9223372036854775807) :
    (callW E).p 63 [.agg (enc f), .agg (enc x)] = some ⟨.bool (rightM f x), [], true, [], []⟩ := by
  have hk := s_kinds x hn hs
  obtain ⟨q1, q4, q7, q30⟩ := kinds_any x
  rw [x_ins_right]
  have red : ∀ X : Option (Ex AV), rightM f x = rightM f x → True := fun _ _ => trivial
  have e0 : ins_right_29 (.agg (enc f)) (.agg (enc x)) [⟨0, .dead⟩, ⟨0, .dead⟩, ⟨0, .dead⟩] =
      if (kindsM x).2.2.2.2 = true then ins_right_L15 P0 P1 P2 (.agg [.int .i64 x.d, .int .i64 x.a, .int .i64 x.b, .int .i64 x.c]) (.int .i64 0) (HR f x (kindsM x).1 (kindsM x).2.1 (kindsM x).2.2.1 (kindsM x).2.2.2.1) else some ⟨.bool false, [], true, [], []⟩ := by
    unfold exK at hk
    generalize kindsM x = k at *
    obtain ⟨a, b, c, d, o⟩ := k
    simp only at hk ⊢
    cases o with
    | true => simp [ins_right_29, ins_right_28, ins_right_27, ins_right_25, hk]
    | false => simp [ins_right_29, ins_right_28, ins_right_27, hk]
  rw [e0, rightM]
  cases hok : (kindsM x).2.2.2.2 with
  | false => simp
  | true =>
    simp only [if_true, Bool.true_and]
    have step : ∀ (i : Nat) (w r : Int), i < 4 → [(kindsM x).1, (kindsM x).2.1, (kindsM x).2.2.1, (kindsM x).2.2.2.1][i]? = some w → [x.d, x.a, x.b, x.c][i]? = some r →
        ins_right_L15 P0 P1 P2 (.agg [.int .i64 x.d, .int .i64 x.a, .int .i64 x.b, .int .i64 x.c]) (.int .i64 i) (HR f x (kindsM x).1 (kindsM x).2.1 (kindsM x).2.2.1 (kindsM x).2.2.2.1) =
        if fieldOk (lst f.regs) w r then ins_right_L15 P0 P1 P2 (.agg [.int .i64 x.d, .int .i64 x.a, .int .i64 x.b, .int .i64 x.c]) (.int .i64 (i + 1 : Nat)) (HR f x (kindsM x).1 (kindsM x).2.1 (kindsM x).2.2.1 (kindsM x).2.2.2.1) else some ⟨.bool false, [], true, [], []⟩ := by
      intro i w r hi hw hr
      have hc : ((i : Int) < (4 : Int)) := by omega
      have hv : evIxv false 4 1 (.agg [.int .i64 x.d, .int .i64 x.a, .int .i64 x.b, .int .i64 x.c]) (.int .i64 i) = some (.int .i64 r) := by
        match i, hi, hr with
        | 0, _, hr => simp at hr; simp [evIxv, hr]
        | 1, _, hr => simp at hr; simp [evIxv, hr]
        | 2, _, hr => simp at hr; simp [evIxv, hr]
        | 3, _, hr => simp at hr; simp [evIxv, hr]
      have hw2 : IntKind.wrap .i64 ((i : Int) + 1) = ((i + 1 : Nat) : Int) := by rw [wrap_i64] <;> omega
      rw [ins_right_L15_go]
      simp only [ins_right_23, ins_right_22, evBin_lss, ob_some, hc, decide_true, cnd_t]
      simp only [ins_right_19, hv, ob_some]
      rw [right_field f x _ _ _ _ i w r _ hi hw]
      simp only [ins_right_16, evBin_add, ob_some, hw2]
    have s0 := step 0 _ _ (by omega) rfl rfl
    have s1 := step 1 _ _ (by omega) rfl rfl
    have s2 := step 2 _ _ (by omega) rfl rfl
    have s3 := step 3 _ _ (by omega) rfl rfl
    simp only [Int.ofNat_zero] at s0
    rw [s0]
    cases f0 : fieldOk (lst f.regs) (kindsM x).1 x.d with
    | false => simp
    | true =>
      simp only [if_true, Bool.true_and]
      rw [s1]
      cases f1 : fieldOk (lst f.regs) (kindsM x).2.1 x.a with
      | false => simp
      | true =>
        simp only [if_true, Bool.true_and]
        rw [s2]
        cases f2 : fieldOk (lst f.regs) (kindsM x).2.2.1 x.b with
        | false => simp
        | true =>
          simp only [if_true, Bool.true_and]
          rw [s3]
          cases f3 : fieldOk (lst f.regs) (kindsM x).2.2.2.1 x.c with
          | false => simp
          | true =>
            simp only [if_true, Bool.true_and]
            have ht := right_tail f x (kindsM x).1 (kindsM x).2.1 (kindsM x).2.2.1 (kindsM x).2.2.2.1 (fun h => field_in f0 (q1 h)) (fun h => ⟨field_in f0 (q4 h).1, field_in f1 (q4 h).2⟩) (fun h => field_in f1 (q7 h)) (fun h => (q30 h).imp id fun h => field_in f1 h)
            rw [← right_args f x _ _ _ _ _ hl ht]
            rw [ins_right_L15_go]
            simp [ins_right_23, ins_right_22]
end Go.Vm
