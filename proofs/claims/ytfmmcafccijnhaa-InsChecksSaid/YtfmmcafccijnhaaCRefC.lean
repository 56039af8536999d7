/- The document's answer whether a function is well formed: the program's own. -/
import Derived.Test.YtfmmcafccijnhaaCRefS
import Derived.Test.YtfmmcafccijnhaaCChk
namespace Go.Vm
open Cel
attribute [local simp] callAny callP heapOf_nil fpCall

theorem RC_rows (f : Fn) (o1 : AO) (n : Int) (hn : n = (lst f.code).length) (hl : (lst f.rows).length ≤ 9223372036854775807) : ∀ (d i : Nat) (o2 : AO), i + d = (lst f.rows).length →
    regletref10_Check_L2 P0 (.int .i64 n) (.int .i64 i) (HC f o1 o2) = if ((lst f.rows).drop i).all (rowOk (lst f.code)) then E0 else E80 := by
  intro d
  induction d with
  | zero =>
    intro i o2 hi
    have e1 : (lst f.rows).drop i = [] := List.drop_eq_nil_of_le (by omega)
    have hn : ¬ ((i : Int) < ((lst f.rows).length : Int)) := by omega
    rw [regletref10_Check_L2_go, e1]
    simp [regletref10_Check_5, regletref10_Check_1, hn]
  | succ d ih =>
    intro i o2 hi
    have hlt : i < (lst f.rows).length := by omega
    have hc : ((i : Int) < ((lst f.rows).length : Int)) := by omega
    have k1 := ixs_row (o := f.rows) (i := i) (List.getElem?_eq_getElem hlt) .i64
    rw [regletref10_Check_L2_go]
    have e1 : ((lst f.rows).drop i).all (rowOk (lst f.code)) = (rowOk (lst f.code) (lst f.rows)[i] && ((lst f.rows).drop (i + 1)).all (rowOk (lst f.code))) := by rw [List.drop_eq_getElem_cons hlt, List.all_cons]
    rw [e1]
    generalize hr : (lst f.rows)[i] = r at *
    have ih := fun o2 => ih (i + 1) o2 (by omega)
    push_cast at ih
    subst hn
    by_cases h1 : r.f < 0
    · simp [regletref10_Check_5, hc, regletref10_Check_4, k1, rowOk, h1]
    by_cases h2 : r.t ≤ r.f
    · simp [regletref10_Check_5, hc, regletref10_Check_4, k1, rowOk, h1, h2]
    by_cases h3 : ((lst f.code).length : Int) < r.t
    · simp [regletref10_Check_5, hc, regletref10_Check_4, k1, rowOk, h1, h2, h3]
    by_cases h4 : r.at_ < 0
    · have : ¬ 0 ≤ r.at_ := by omega
      simp [regletref10_Check_5, hc, regletref10_Check_4, k1, rowOk, h1, h2, h3, h4, placeOk, this]
    by_cases h5 : ((lst f.code).length : Int) ≤ r.at_
    · have : ¬ r.at_ < ((lst f.code).length : Int) := by omega
      simp [regletref10_Check_5, hc, regletref10_Check_4, k1, rowOk, h1, h2, h3, h4, h5, placeOk, this]
    · have hx : r.at_.toNat < (lst f.code).length := by omega
      have a1 : 0 ≤ r.at_ := by omega
      have a2 : r.at_ < ((lst f.code).length : Int) := by omega
      have k2 := ixs_insI (o := f.code) (n := r.at_) (by omega) (List.getElem?_eq_getElem hx) .i64
      by_cases h6 : ((lst f.code)[r.at_.toNat]).op = 32
      · simp [regletref10_Check_5, hc, regletref10_Check_4, k1, rowOk, h1, h2, h3, h4, h5, placeOk, a1, a2, k2, h6, hx, regletref10_Check_3, wrap_up hlt hl, ih]
      · simp [regletref10_Check_5, hc, regletref10_Check_4, k1, rowOk, h1, h2, h3, h4, h5, placeOk, a1, a2, k2, h6, hx]

theorem RC_regs (f : Fn) (o1 o2 : AO) (n : Int) (hl : (lst f.regs).length ≤ 9223372036854775807) : ∀ (d i : Nat), i + d = (lst f.regs).length →
    regletref10_Check_L23 P0 (.int .i64 n) (.int .i64 i) (HC f o1 o2) = if ((lst f.regs).drop i).all (fun k => decide (1 ≤ k) && decide (k ≤ 3)) then regletref10_Check_21 P0 (.int .i64 n) (HC f o1 o2) else E80 := by
  intro d
  induction d with
  | zero =>
    intro i hi
    have e1 : (lst f.regs).drop i = [] := List.drop_eq_nil_of_le (by omega)
    have hn : ¬ ((i : Int) < ((lst f.regs).length : Int)) := by omega
    rw [regletref10_Check_L23_go, e1]
    simp [regletref10_Check_26, hn]
  | succ d ih =>
    intro i hi
    have hlt : i < (lst f.regs).length := by omega
    have hc : ((i : Int) < ((lst f.regs).length : Int)) := by omega
    have k1 := ixs_int (o := f.regs) (i := i) (List.getElem?_eq_getElem hlt) .i64
    have e1 : ((lst f.regs).drop i).all (fun k => decide (1 ≤ k) && decide (k ≤ 3)) = ((decide (1 ≤ (lst f.regs)[i]) && decide ((lst f.regs)[i] ≤ 3)) && ((lst f.regs).drop (i + 1)).all (fun k => decide (1 ≤ k) && decide (k ≤ 3))) := by
      rw [List.drop_eq_getElem_cons hlt, List.all_cons]
    rw [regletref10_Check_L23_go, e1]
    generalize hr : (lst f.regs)[i] = r at *
    have ih := ih (i + 1) (by omega)
    push_cast at ih
    by_cases h1 : r < 1
    · have : ¬ 1 ≤ r := by omega
      simp [regletref10_Check_26, hc, regletref10_Check_25, k1, h1, this]
    by_cases h2 : 3 < r
    · have : ¬ r ≤ 3 := by omega
      simp [regletref10_Check_26, hc, regletref10_Check_25, k1, h1, h2, this]
    · have a1 : 1 ≤ r := by omega
      have a2 : r ≤ 3 := by omega
      simp [regletref10_Check_26, hc, regletref10_Check_25, k1, h1, h2, a1, a2, regletref10_Check_24, wrap_up hlt hl, ih]

/-- The same of the parameters, without their number. -/
def parR (R : List Int) : List Int → List Int → Bool
  | _, [] => true
  | seen, p :: r => (inR R p && !seen.contains p) && parR R (seen ++ [p]) r

theorem RC_params (f : Fn) (o1 o2 : AO) (n : Int) (hR : (lst f.regs).all (fun k => decide (1 ≤ k) && decide (k ≤ 3)) = true) (hl : (lst f.params).length ≤ 9223372036854775807) : ∀ (d i : Nat), i + d = (lst f.params).length →
    regletref10_Check_L16 P0 (.int .i64 n) (.int .i64 i) (HC f o1 o2) = if parR (lst f.regs) ((lst f.params).take i) ((lst f.params).drop i) then regletref10_Check_14 P0 (.int .i64 n) (HC f o1 o2) else E80 := by
  intro d
  induction d with
  | zero =>
    intro i hi
    have e1 : (lst f.params).drop i = [] := List.drop_eq_nil_of_le (by omega)
    have hn : ¬ ((i : Int) < ((lst f.params).length : Int)) := by omega
    rw [regletref10_Check_L16_go, e1]
    simp [regletref10_Check_19, hn, parR]
  | succ d ih =>
    intro i hi
    have hlt : i < (lst f.params).length := by omega
    have hc : ((i : Int) < ((lst f.params).length : Int)) := by omega
    have k1 := ixs_int (o := f.params) (i := i) (List.getElem?_eq_getElem hlt) .i64
    have ks := slc_to (α := Int) f.params i (by omega) .i64
    simp only [es_int] at ks
    have hlm : lst (f.params.map (List.take i)) = (lst f.params).take i := by cases f.params <;> simp
    have e1 : parR (lst f.regs) ((lst f.params).take i) ((lst f.params).drop i) = ((inR (lst f.regs) (lst f.params)[i] && !((lst f.params).take i).contains (lst f.params)[i]) && parR (lst f.regs) ((lst f.params).take (i + 1)) ((lst f.params).drop (i + 1))) := by
      rw [List.drop_eq_getElem_cons hlt, parR, List.take_append_getElem]
    rw [regletref10_Check_L16_go, e1]
    have hct : (callW E).p 42 [.int .i64 (lst f.params)[i], slA (f.params.map (List.take i))] = some ⟨.bool (((lst f.params).take i).contains (lst f.params)[i]), [], true, [], []⟩ := by
      rw [s_in _ _ (by rw [hlm, List.length_take]; omega), hlm, List.contains_eq_mem]
    generalize hr : (lst f.params)[i] = r at *
    generalize ((lst f.params).take i).contains r = B at *
    have ih := ih (i + 1) (by omega)
    push_cast at ih
    have hs := s_kind f r
    rcases regK_range hR r with ⟨a1, a2⟩ | ⟨a1, a2⟩
    · have hz : ¬ regK (lst f.regs) r = 0 := by omega
      rw [a1]
      generalize regK (lst f.regs) r = k at *
      cases B with
      | true => simp [regletref10_Check_19, hc, regletref10_Check_18, k1, hs, hz, ks, hct, pairsOk]
      | false =>
        simp [regletref10_Check_19, hc, regletref10_Check_18, k1, hs, hz, ks, hct, pairsOk, regletref10_Check_17, wrap_up hlt hl]
        exact ih
    · rw [a2] at hs
      simp [regletref10_Check_19, hc, regletref10_Check_18, k1, hs, a1, pairsOk]

theorem RC_one (f : Fn) (o2 : AO) (n : Int) (x : Ins) (i g : Nat) (hR : (lst f.regs).all (fun k => decide (1 ≤ k) && decide (k ≤ 3)) = true) (fit : InsFit x) (hi : i < (lst f.code).length) (hl : (lst f.code).length ≤ 9223372036854775807) (hx : (lst f.code)[i]? = some x) (oc : OC) :
    regletref10_Check_11 P0 (.int .i64 n) (.int .i64 i) (HC f ⟨g, oc⟩ o2) =
      if rightM f x && spotOk (lst f.code) i x then regletref10_Check_10 P0 (.int .i64 n) (.int .i64 i) (HC f ⟨g + 1, .arr true false 9 [enc x]⟩ o2) else E80 := by
  have k0 := ixs_ins (o := f.code) (i := i) hx .i64
  have h1 := s_one f x fit.n fit.s fit.a
  rw [one_right f x hR] at h1
  cases hok : rightM f x with
  | false =>
    rw [hok] at h1
    simp [regletref10_Check_11, k0, h1]
  | true =>
    have ht := right_leads (f := f) (x := x) hok
    rw [hok] at h1
    by_cases h32 : x.op = 32
    · have hld : leads 32 = false := by simp [leads]
      by_cases h0 : i = 0
      · subst h0
        simp only [Int.ofNat_zero] at k0
        simp [regletref10_Check_11, k0, h1, h32, spotOk]
      · have h0' : ¬ ((i : Int) = 0) := by omega
        have hp : i - 1 < (lst f.code).length := by omega
        have k1 := ixs_ins (o := f.code) (i := i - 1) (List.getElem?_eq_getElem hp) .i64
        have hw : IntKind.wrap .i64 ((i : Int) - 1) = ((i - 1 : Nat) : Int) := by rw [wrap_i64] <;> omega
        cases he : ends ((lst f.code)[i - 1]).op with
        | true => simp [regletref10_Check_11, k0, h1, h32, spotOk, h0, h0', hw, k1, hp, he, hld]
        | false => simp [regletref10_Check_11, k0, h1, h32, spotOk, h0, h0', hw, k1, hp, he]
    · cases hld : leads x.op with
      | false => simp [regletref10_Check_11, k0, h1, h32, spotOk, hld]
      | true =>
        obtain ⟨t0, t1⟩ := ht hld
        have hxt : x.t.toNat < (lst f.code).length := by omega
        have k2 := ixs_insI (o := f.code) (n := x.t) t0 (List.getElem?_eq_getElem hxt) .i64
        by_cases h6 : ((lst f.code)[x.t.toNat]).op = 32
        · simp [regletref10_Check_11, k0, h1, h32, spotOk, hld, k2, h6, hxt]
        · simp [regletref10_Check_11, k0, h1, h32, spotOk, hld, k2, h6, hxt]

theorem RC_code (f : Fn) (o2 : AO) (n : Int) (hn : n = (lst f.code).length) (hR : (lst f.regs).all (fun k => decide (1 ≤ k) && decide (k ≤ 3)) = true) (hfit : ∀ x ∈ lst f.code, InsFit x) (hl : (lst f.code).length ≤ 9223372036854775807) : ∀ (d i : Nat) (o1 : AO), i + d = (lst f.code).length →
    ∃ o1', regletref10_Check_L9 P0 (.int .i64 n) (.int .i64 i) (HC f o1 o2) = if codeOk f (lst f.code) i ((lst f.code).drop i) then regletref10_Check_7 P0 (.int .i64 n) (HC f o1' o2) else E80 := by
  intro d
  induction d with
  | zero =>
    intro i o1 hi
    have e1 : (lst f.code).drop i = [] := List.drop_eq_nil_of_le (by omega)
    have hnl : ¬ ((i : Int) < n) := by omega
    rw [regletref10_Check_L9_go, e1]
    exact ⟨o1, by simp [regletref10_Check_12, hnl, codeOk]⟩
  | succ d ih =>
    intro i o1 hi
    have hlt : i < (lst f.code).length := by omega
    have hc : ((i : Int) < n) := by omega
    have e1 : codeOk f (lst f.code) i ((lst f.code).drop i) = (rightM f (lst f.code)[i] && spotOk (lst f.code) i (lst f.code)[i] && codeOk f (lst f.code) (i + 1) ((lst f.code).drop (i + 1))) := by
      rw [List.drop_eq_getElem_cons hlt, codeOk]
    have fit := hfit _ (List.getElem_mem hlt)
    have hone := RC_one f o2 n _ i o1.gen hR fit hlt hl (List.getElem?_eq_getElem hlt) o1.c
    rw [regletref10_Check_L9_go, e1]
    generalize (lst f.code)[i] = x at *
    generalize (rightM f x && spotOk (lst f.code) i x) = G at *
    simp only [regletref10_Check_12, evBin_lss, ob_some, hc, decide_true, cnd_t, hone]
    cases G with
    | false => exact ⟨o1, by simp⟩
    | true =>
      obtain ⟨o1', ih⟩ := ih (i + 1) ⟨o1.gen + 1, .arr true false 9 [enc x]⟩ (by omega)
      push_cast at ih
      exact ⟨o1', by simp [regletref10_Check_10, wrap_up hlt hl, ih]⟩

theorem par_same (R : List Int) : ∀ (l : List Int) (i : Nat) (seen : List Int), i + l.length ≤ 21 → parOk R i seen l = parR R seen l
  | [], _, _, _ => rfl
  | p :: r, i, seen, h => by
    simp only [List.length_cons] at h
    have : i ≤ 20 := by omega
    rw [parOk, parR, par_same R r (i + 1) (seen ++ [p]) (by omega)]
    simp [this]
theorem par_long (R : List Int) : ∀ (l : List Int) (i : Nat) (seen : List Int), 21 < i + l.length → i ≤ 21 → parOk R i seen l = false
  | [], i, _, h, h2 => by simp at h; omega
  | p :: r, i, seen, h, h2 => by
    simp only [List.length_cons] at h
    rw [parOk]
    by_cases hi : i ≤ 20
    · rw [par_long R r (i + 1) (seen ++ [p]) (by omega) (by omega)]; simp
    · simp [hi]

set_option maxRecDepth 100000 in
set_option maxHeartbeats 1000000 in
theorem s_RCheck (f : Fn) (hf : FnFit f) : (callW E).p 29 [.agg (enc f)] = some ⟨.int .i64 (if wf f then 0 else 80), [], true, [], []⟩ := by
  rw [x_regletref10_Check]
  by_cases h0 : (lst f.code).length = 0
  · have h0' : ((lst f.code).length : Int) = 0 := by omega
    have : ¬ 1 ≤ (lst f.code).length := by omega
    simp [regletref10_Check_32, regletref10_Check_31, regletref10_Check_30, h0', wf, this]
  have h0' : ¬ ((lst f.code).length : Int) = 0 := by omega
  have hne : ¬ lst f.code = [] := fun h => h0 (by rw [h]; rfl)
  have g1 : 1 ≤ (lst f.code).length := by omega
  by_cases h2 : 20000 < (lst f.code).length
  · have h2' : (20000 : Int) < ((lst f.code).length : Int) := by omega
    have : ¬ (lst f.code).length ≤ 20000 := by omega
    simp [regletref10_Check_32, regletref10_Check_31, regletref10_Check_30, h0', hne, h2', wf, this]
  have h2' : ¬ (20000 : Int) < ((lst f.code).length : Int) := by omega
  have g2 : (lst f.code).length ≤ 20000 := by omega
  by_cases h3 : 20000 < (lst f.regs).length
  · have h3' : (20000 : Int) < ((lst f.regs).length : Int) := by omega
    have : ¬ (lst f.regs).length ≤ 20000 := by omega
    simp [regletref10_Check_32, regletref10_Check_31, regletref10_Check_30, h0', hne, h2', h3', wf, this]
  have h3' : ¬ (20000 : Int) < ((lst f.regs).length : Int) := by omega
  have g3 : (lst f.regs).length ≤ 20000 := by omega
  by_cases hp : 21 < (lst f.params).length
  · have hp' : (21 : Int) < ((lst f.params).length : Int) := by omega
    have := par_long (lst f.regs) (lst f.params) 0 [] (by omega) (by omega)
    simp [regletref10_Check_32, regletref10_Check_31, regletref10_Check_30, h0', hne, h2', h3', hp', wf, this]
  have hp' : ¬ (21 : Int) < ((lst f.params).length : Int) := by omega
  by_cases h4 : f.ret < 0
  · have : ¬ 0 ≤ f.ret := by omega
    simp [regletref10_Check_32, regletref10_Check_31, regletref10_Check_30, h0', hne, h2', h3', hp', h4, wf, this]
  have g4 : 0 ≤ f.ret := by omega
  by_cases h5 : 3 < f.ret
  · have : ¬ f.ret ≤ 3 := by omega
    simp [regletref10_Check_32, regletref10_Check_31, regletref10_Check_30, h0', hne, h2', h3', hp', h4, h5, wf, this]
  have g5 : f.ret ≤ 3 := by omega
  have hpl : (lst f.code).length - 1 < (lst f.code).length := by omega
  have k1 := ixs_ins (o := f.code) (i := (lst f.code).length - 1) (List.getElem?_eq_getElem hpl) .i64
  have hw : IntKind.wrap .i64 (((lst f.code).length : Int) - 1) = (((lst f.code).length - 1 : Nat) : Int) := by rw [wrap_i64] <;> omega
  have hg : (lst f.code).getD ((lst f.code).length - 1) default = (lst f.code)[(lst f.code).length - 1] := by rw [List.getD_eq_getElem?_getD, List.getElem?_eq_getElem hpl]; rfl
  cases he : ends ((lst f.code)[(lst f.code).length - 1]).op with
  | false =>
    have hwf : wf f = false := by rw [wf, hg, he]; simp
    rw [hwf]
    simp [regletref10_Check_32, regletref10_Check_31, regletref10_Check_30, h0', hne, h2', h3', hp', h4, h5, hw, k1, he]
  | true =>
    have hps := par_same (lst f.regs) (lst f.params) 0 [] (by omega)
    have hwf : wf f = ((lst f.regs).all (fun k => decide (1 ≤ k) && decide (k ≤ 3)) && parR (lst f.regs) [] (lst f.params) && codeOk f (lst f.code) 0 (lst f.code) && (lst f.rows).all (rowOk (lst f.code))) := by
      rw [wf, hg, he, hps]
      simp only [g1, g2, g3, g4, g5, decide_true, Bool.true_and]
    have e : regletref10_Check_32 (.agg (enc f)) [⟨0, .dead⟩, ⟨0, .dead⟩, ⟨0, .dead⟩] = regletref10_Check_L23 P0 (.int .i64 (lst f.code).length) (.int .i64 0) (HC f ⟨0, .dead⟩ ⟨0, .dead⟩) := by
      simp [regletref10_Check_32, regletref10_Check_31, regletref10_Check_30, h0', hne, h2', h3', hp', h4, h5, hw, k1, he, regletref10_Check_1, regletref10_Check_3, regletref10_Check_4, regletref10_Check_5, regletref10_Check_7, regletref10_Check_10, regletref10_Check_11, regletref10_Check_12, regletref10_Check_14, regletref10_Check_17, regletref10_Check_18, regletref10_Check_19, regletref10_Check_21, regletref10_Check_24, regletref10_Check_25, regletref10_Check_26, regletref10_Check_28, regletref10_Check_30, regletref10_Check_31, regletref10_Check_32]
    have a1 := RC_regs f ⟨0, .dead⟩ ⟨0, .dead⟩ (lst f.code).length hf.regs _ 0 (Nat.zero_add _)
    simp only [Int.ofNat_zero, List.drop_zero] at a1
    rw [e, a1, hwf]
    cases hR : (lst f.regs).all (fun k => decide (1 ≤ k) && decide (k ≤ 3)) with
    | false => simp
    | true =>
      have a2 := RC_params f ⟨0, .dead⟩ ⟨0, .dead⟩ (lst f.code).length hR hf.params _ 0 (Nat.zero_add _)
      obtain ⟨o1', a3⟩ := RC_code f ⟨0, .dead⟩ _ rfl hR hf.ins hf.code _ 0 ⟨0, .dead⟩ (Nat.zero_add _)
      have a4 := RC_rows f o1' _ rfl hf.rows _ 0 ⟨0, .dead⟩ (Nat.zero_add _)
      simp only [Int.ofNat_zero, List.drop_zero, List.take_zero] at a2 a3 a4
      have e2 : regletref10_Check_21 P0 (.int .i64 (lst f.code).length) (HC f ⟨0, .dead⟩ ⟨0, .dead⟩) = regletref10_Check_L16 P0 (.int .i64 (lst f.code).length) (.int .i64 0) (HC f ⟨0, .dead⟩ ⟨0, .dead⟩) := by simp [regletref10_Check_1, regletref10_Check_3, regletref10_Check_4, regletref10_Check_5, regletref10_Check_7, regletref10_Check_10, regletref10_Check_11, regletref10_Check_12, regletref10_Check_14, regletref10_Check_17, regletref10_Check_18, regletref10_Check_19, regletref10_Check_21, regletref10_Check_24, regletref10_Check_25, regletref10_Check_26, regletref10_Check_28, regletref10_Check_30, regletref10_Check_31, regletref10_Check_32]
      have e3 : regletref10_Check_14 P0 (.int .i64 (lst f.code).length) (HC f ⟨0, .dead⟩ ⟨0, .dead⟩) = regletref10_Check_L9 P0 (.int .i64 (lst f.code).length) (.int .i64 0) (HC f ⟨0, .dead⟩ ⟨0, .dead⟩) := by simp [regletref10_Check_1, regletref10_Check_3, regletref10_Check_4, regletref10_Check_5, regletref10_Check_7, regletref10_Check_10, regletref10_Check_11, regletref10_Check_12, regletref10_Check_14, regletref10_Check_17, regletref10_Check_18, regletref10_Check_19, regletref10_Check_21, regletref10_Check_24, regletref10_Check_25, regletref10_Check_26, regletref10_Check_28, regletref10_Check_30, regletref10_Check_31, regletref10_Check_32]
      have e4 : regletref10_Check_7 P0 (.int .i64 (lst f.code).length) (HC f o1' ⟨0, .dead⟩) = regletref10_Check_L2 P0 (.int .i64 (lst f.code).length) (.int .i64 0) (HC f o1' ⟨0, .dead⟩) := by simp [regletref10_Check_1, regletref10_Check_3, regletref10_Check_4, regletref10_Check_5, regletref10_Check_7, regletref10_Check_10, regletref10_Check_11, regletref10_Check_12, regletref10_Check_14, regletref10_Check_17, regletref10_Check_18, regletref10_Check_19, regletref10_Check_21, regletref10_Check_24, regletref10_Check_25, regletref10_Check_26, regletref10_Check_28, regletref10_Check_30, regletref10_Check_31, regletref10_Check_32]
      rw [e2, a2, e3, a3, e4, a4]
      generalize parR (lst f.regs) [] (lst f.params) = b2
      generalize codeOk f (lst f.code) 0 (lst f.code) = b3
      generalize (lst f.rows).all (rowOk (lst f.code)) = b4
      cases b2 <;> cases b3 <;> cases b4 <;> rfl
end Go.Vm
