/- Whether a function is well formed: 'Check': its lists of registers, parameters, rows. live.Of: what it answers. What live's table tells is what the document tells. The document's answers for single operations: numbers in a list, ways, ends. The document's table of operations. The document's answers for single operations. The document's answer whether an operation is a call. The document's answer which registers an instruction reads, and which one it writes. The document's Next, Caught. Functions whose lists are not too long. The document's searches: where they go on, what they look for. What the document says that the stack's instructions over numbers take and give. The document's answers for names and types: the program's own. The document's answer whether a call, an instruction is well formed. The document's answer whether an instruction is well formed. The document's answer whether an instruction is well formed, whole. -/
import Derived.Test.YthemfgeagohdhaaPX
import Derived.Test.YthemfgeagohdhaaPTc
set_option linter.unusedSimpArgs false
set_option linter.unusedVariables false
set_option linter.unusedSectionVars false
namespace Go.Vm
open Cel
attribute [local simp] callAny callP heapOf_nil
abbrev HC (f : Fn) (o1 o2 : AO) : Heap := [⟨1, .arr true false 5 [enc f]⟩, o1, o2]
abbrev E80 : Option (Ex AV) := some ⟨.int .i64 80, [], true, [], []⟩
abbrev E0 : Option (Ex AV) := some ⟨.int .i64 0, [], true, [], []⟩
theorem Check_rows (f : Fn) (o1 : AO) (n : Int) (hn : n = (lst f.code).length) (hl : (lst f.rows).length ≤ 9223372036854775807) : ∀ (d i : Nat) (o2 : AO), i + d = (lst f.rows).length →
    q14_L2 P0 (.int .i64 n) (slA f.rows) (.int .i64 (lst f.rows).length) (.int .i64 i) (HC f o1 o2) = if ((lst f.rows).drop i).all (rowOk (lst f.code)) then E0 else E80 := by
  intro d
  induction d with
  | zero =>
    intro i o2 hi
    have e1 : (lst f.rows).drop i = [] := List.drop_eq_nil_of_le (by omega)
    have hn : ¬ ((i : Int) < ((lst f.rows).length : Int)) := by omega
    rw [q14_L2_go, e1]
    simp [q14_6, q14_5, q14_1, hn]
  | succ d ih =>
    intro i o2 hi
    have hlt : i < (lst f.rows).length := by omega
    have hc : ((i : Int) < ((lst f.rows).length : Int)) := by omega
    have k1 := ixs_row (o := f.rows) (i := i) (List.getElem?_eq_getElem hlt) .i64
    rw [q14_L2_go]
    have e1 : ((lst f.rows).drop i).all (rowOk (lst f.code)) = (rowOk (lst f.code) (lst f.rows)[i] && ((lst f.rows).drop (i + 1)).all (rowOk (lst f.code))) := by rw [List.drop_eq_getElem_cons hlt, List.all_cons]
    rw [e1]
    generalize hr : (lst f.rows)[i] = r at *
    have ih := fun o2 => ih (i + 1) o2 (by omega)
    push_cast at ih
    subst hn
    simp only [q14_6, q14_5, evBin_lss, ob_some, hc, decide_true, cnd_t]
    by_cases h1 : r.f < 0
    · simp [q14_4, k1, rowOk, h1]
    by_cases h2 : r.t ≤ r.f
    · simp [q14_4, k1, rowOk, h1, h2]
    by_cases h3 : ((lst f.code).length : Int) < r.t
    · simp [q14_4, k1, rowOk, h1, h2, h3]
    by_cases h4 : r.at_ < 0
    · simp [q14_4, k1, rowOk, h1, h2, h3, h4]
    by_cases h5 : ((lst f.code).length : Int) ≤ r.at_
    · simp [q14_4, k1, rowOk, h1, h2, h3, h4, h5]
    · have hx : r.at_.toNat < (lst f.code).length := by omega
      have k2 := ixs_insI (o := f.code) (n := r.at_) (by omega) (List.getElem?_eq_getElem hx) .i64
      have hg : (lst f.code).getD r.at_.toNat default = (lst f.code)[r.at_.toNat] := by rw [List.getD_eq_getElem?_getD, List.getElem?_eq_getElem hx]; rfl
      by_cases h6 : ((lst f.code)[r.at_.toNat]).op = 32
      · simp [q14_4, k1, rowOk, h1, h2, h3, h4, h5, k2, h6, hx, q14_3, wrap_up hlt hl, ih]
      · simp [q14_4, k1, rowOk, h1, h2, h3, h4, h5, k2, h6, hx]
theorem Check_regs (f : Fn) (o1 o2 : AO) (n : Int) (hl : (lst f.regs).length ≤ 9223372036854775807) : ∀ (d i : Nat), i + d = (lst f.regs).length →
    q14_L30 P0 (.int .i64 n) (slA f.regs) (.int .i64 (lst f.regs).length) (.int .i64 i) (HC f o1 o2) = if ((lst f.regs).drop i).all (fun k => decide (1 ≤ k) && decide (k ≤ 3)) then q14_28 P0 (.int .i64 n) (HC f o1 o2) else E80 := by
  intro d
  induction d with
  | zero =>
    intro i hi
    have e1 : (lst f.regs).drop i = [] := List.drop_eq_nil_of_le (by omega)
    have hn : ¬ ((i : Int) < ((lst f.regs).length : Int)) := by omega
    rw [q14_L30_go, e1]
    simp [q14_34, q14_33, hn]
  | succ d ih =>
    intro i hi
    have hlt : i < (lst f.regs).length := by omega
    have hc : ((i : Int) < ((lst f.regs).length : Int)) := by omega
    have k1 := ixs_int (o := f.regs) (i := i) (List.getElem?_eq_getElem hlt) .i64
    have e1 : ((lst f.regs).drop i).all (fun k => decide (1 ≤ k) && decide (k ≤ 3)) = ((decide (1 ≤ (lst f.regs)[i]) && decide ((lst f.regs)[i] ≤ 3)) && ((lst f.regs).drop (i + 1)).all (fun k => decide (1 ≤ k) && decide (k ≤ 3))) := by
      rw [List.drop_eq_getElem_cons hlt, List.all_cons]
    rw [q14_L30_go, e1]
    generalize hr : (lst f.regs)[i] = r at *
    have ih := ih (i + 1) (by omega)
    push_cast at ih
    simp only [q14_34, q14_33, evBin_lss, ob_some, hc, decide_true, cnd_t]
    by_cases h1 : r < 1
    · have : ¬ 1 ≤ r := by omega
      simp [q14_32, k1, h1, this]
    by_cases h2 : 3 < r
    · have : ¬ r ≤ 3 := by omega
      simp [q14_32, k1, h1, h2, this]
    · have a1 : 1 ≤ r := by omega
      have a2 : r ≤ 3 := by omega
      simp [q14_32, k1, h1, h2, a1, a2, q14_31, wrap_up hlt hl, ih]
theorem Check_params (f : Fn) (o1 o2 : AO) (n : Int) (hl : (lst f.params).length ≤ 9223372036854775807) : ∀ (d i : Nat), i + d = (lst f.params).length →
    q14_L22 P0 (.int .i64 n) (slA f.params) (.int .i64 (lst f.params).length) (.int .i64 i) (HC f o1 o2) = if parOk (lst f.regs) i ((lst f.params).take i) ((lst f.params).drop i) then q14_20 P0 (.int .i64 n) (HC f o1 o2) else E80 := by
  intro d
  induction d with
  | zero =>
    intro i hi
    have e1 : (lst f.params).drop i = [] := List.drop_eq_nil_of_le (by omega)
    have hn : ¬ ((i : Int) < ((lst f.params).length : Int)) := by omega
    rw [q14_L22_go, e1]
    simp [q14_26, q14_25, hn, parOk]
  | succ d ih =>
    intro i hi
    have hlt : i < (lst f.params).length := by omega
    have hc : ((i : Int) < ((lst f.params).length : Int)) := by omega
    have k1 := ixs_int (o := f.params) (i := i) (List.getElem?_eq_getElem hlt) .i64
    have ks := slc_to (α := Int) f.params i (by omega) .i64
    simp only [es_int] at ks
    have hlm : lst (f.params.map (List.take i)) = (lst f.params).take i := by cases f.params <;> simp
    have e1 : parOk (lst f.regs) i ((lst f.params).take i) ((lst f.params).drop i) = ((inR (lst f.regs) (lst f.params)[i] && !((lst f.params).take i).contains (lst f.params)[i] && decide (i ≤ 20)) && parOk (lst f.regs) (i + 1) ((lst f.params).take (i + 1)) ((lst f.params).drop (i + 1))) := by
      rw [List.drop_eq_getElem_cons hlt, parOk, List.take_append_getElem]
    rw [q14_L22_go, e1]
    have hct : (callW E).p 46 [slA (f.params.map (List.take i)), .int .i64 (lst f.params)[i]] = some ⟨.bool (((lst f.params).take i).contains (lst f.params)[i]), [], true, [], []⟩ := by
      rw [s_Contains _ _ (by rw [hlm, List.length_take]; omega), hlm]
    generalize hr : (lst f.params)[i] = r at *
    generalize ((lst f.params).take i).contains r = B at *
    have ih := ih (i + 1) (by omega)
    push_cast at ih
    simp only [q14_26, q14_25, evBin_lss, ob_some, hc, decide_true, cnd_t]
    have e20 : ((20 : Int) < (i : Int)) ↔ ¬ i ≤ 20 := by omega
    by_cases h1 : r < 0
    · have : ¬ 0 ≤ r := by omega
      simp [q14_24, k1, inR, h1, this]
    by_cases h2 : ((lst f.regs).length : Int) ≤ r
    · have : ¬ r < ((lst f.regs).length : Int) := by omega
      simp [q14_24, k1, inR, h1, h2, this]
    · have a1 : 0 ≤ r := by omega
      have a2 : r < ((lst f.regs).length : Int) := by omega
      cases B with
      | true => simp [q14_24, k1, inR, h1, h2, a1, a2, ks, hct]
      | false =>
        by_cases h3 : i ≤ 20
        · have h3' : ¬ ((20 : Int) < (i : Int)) := by omega
          simp [q14_24, k1, inR, h1, h2, a1, a2, ks, hct, h3, h3', q14_23, wrap_up hlt hl, ih]
        · have h3' : ((20 : Int) < (i : Int)) := by omega
          simp [q14_24, k1, inR, h1, h2, a1, a2, ks, hct, h3, h3']
theorem tail_leads {R : List Int} {ret : Int} {n : Nat} {x : Ins} (h : tailOk R ret n x = true) (hl : leads x.op = true) : 0 ≤ x.t ∧ x.t < n := by
  have hne : ¬ x.op = 1 ∧ ¬ x.op = 4 ∧ ¬ x.op = 7 ∧ ¬ x.op = 30 := by
    simp only [leads, Bool.or_eq_true, decide_eq_true_eq] at hl
    omega
  simp only [tailOk, hne, if_false, hl, Bool.not_true, Bool.false_or, Bool.and_eq_true, decide_eq_true_eq] at h
  exact h
theorem right_leads {f : Fn} {x : Ins} (h : rightM f x = true) (hl : leads x.op = true) : 0 ≤ x.t ∧ x.t < (lst f.code).length := by
  simp only [rightM, Bool.and_eq_true] at h
  exact tail_leads h.2 hl
structure InsFit (x : Ins) : Prop where
  n : -9223372036854775808 ≤ x.n ∧ x.n < 9223372036854775808
  s : x.s.length ≤ 9223372036854775807
  a : (lst x.args).length ≤ 9223372036854775807
theorem Check_spot (f : Fn) (o2 : AO) (n : Int) (x : Ins) (i g : Nat) (v92 v93 v94 : AV) (hi : i < (lst f.code).length) (hl : (lst f.code).length ≤ 9223372036854775807) (ht : leads x.op = true → 0 ≤ x.t ∧ x.t < (lst f.code).length) :
    q14_12 P0 (.int .i64 n) (.int .i64 i) (.lp 1 g 0 0) v92 v93 v94 (HC f ⟨g, .arr true false 9 [enc x]⟩ o2) =
      if spotOk (lst f.code) i x then q14_11 P0 (.int .i64 n) v92 v93 v94 (HC f ⟨g, .arr true false 9 [enc x]⟩ o2) else E80 := by
  by_cases h32 : x.op = 32
  · have hld : leads x.op = false := by simp [leads, h32]
    by_cases h0 : i = 0
    · subst h0
      simp [q14_12, h32, spotOk]
    · have h0' : ¬ ((i : Int) = 0) := by omega
      have hp : i - 1 < (lst f.code).length := by omega
      have k1 := ixs_ins (o := f.code) (i := i - 1) (List.getElem?_eq_getElem hp) .i64
      have hw : IntKind.wrap .i64 ((i : Int) - 1) = ((i - 1 : Nat) : Int) := by rw [wrap_i64] <;> omega
      have hg : (lst f.code).getD (i - 1) default = (lst f.code)[i - 1] := by rw [List.getD_eq_getElem?_getD, List.getElem?_eq_getElem hp]; rfl
      have hld32 : leads 32 = false := by simp [leads]
      cases he : ends ((lst f.code)[i - 1]).op with
      | true => simp [q14_12, h32, spotOk, h0, h0', hw, k1, hp, he, hld32]
      | false => simp [q14_12, h32, spotOk, h0, h0', hw, k1, hp, he]
  · cases hld : leads x.op with
    | false => simp [q14_12, h32, spotOk, hld]
    | true =>
      obtain ⟨t0, t1⟩ := ht hld
      have hx : x.t.toNat < (lst f.code).length := by omega
      have k2 := ixs_insI (o := f.code) (n := x.t) t0 (List.getElem?_eq_getElem hx) .i64
      by_cases h6 : ((lst f.code)[x.t.toNat]).op = 32
      · simp [q14_12, h32, spotOk, hld, k2, h6, hx]
      · simp [q14_12, h32, spotOk, hld, k2, h6, hx]
theorem Check_code (f : Fn) (o2 : AO) (n : Int) (hfit : ∀ x ∈ lst f.code, InsFit x) (hl : (lst f.code).length ≤ 9223372036854775807) : ∀ (d i : Nat) (o1 : AO), i + d = (lst f.code).length →
    ∃ o1', q14_L10 P0 (.int .i64 n) (slA f.code) (.int .i64 (lst f.code).length) (.int .i64 i) (HC f o1 o2) = if codeOk f (lst f.code) i ((lst f.code).drop i) then q14_8 P0 (.int .i64 n) (HC f o1' o2) else E80 := by
  intro d
  induction d with
  | zero =>
    intro i o1 hi
    have e1 : (lst f.code).drop i = [] := List.drop_eq_nil_of_le (by omega)
    have hn : ¬ ((i : Int) < ((lst f.code).length : Int)) := by omega
    rw [q14_L10_go, e1]
    exact ⟨o1, by simp [q14_18, q14_17, hn, codeOk]⟩
  | succ d ih =>
    intro i o1 hi
    have hlt : i < (lst f.code).length := by omega
    have hc : ((i : Int) < ((lst f.code).length : Int)) := by omega
    have k1 := ixs_ins (o := f.code) (i := i) (List.getElem?_eq_getElem hlt) .i64
    have e1 : codeOk f (lst f.code) i ((lst f.code).drop i) = (rightM f (lst f.code)[i] && spotOk (lst f.code) i (lst f.code)[i] && codeOk f (lst f.code) (i + 1) ((lst f.code).drop (i + 1))) := by
      rw [List.drop_eq_getElem_cons hlt, codeOk]
    have fit := hfit _ (List.getElem_mem hlt)
    rw [q14_L10_go, e1]
    generalize hx : (lst f.code)[i] = x at *
    have hr := s_right f x fit.n fit.s fit.a
    simp only [q14_18, q14_17, evBin_lss, ob_some, hc, decide_true, cnd_t]
    cases hok : rightM f x with
    | false =>
      rw [hok] at hr
      exact ⟨o1, by simp [q14_14, q14_13, k1, hr]⟩
    | true =>
      rw [hok] at hr
      have e13 : ∀ K : Option (Ex AV), q14_14 P0 (.int .i64 n) (slA f.code) (.int .i64 (lst f.code).length) (.int .i64 i) (HC f o1 o2) = q14_12 P0 (.int .i64 n) (.int .i64 i) (.lp 1 (o1.gen + 1) 0 0) (slA f.code) (.int .i64 (lst f.code).length) (.int .i64 i) (HC f ⟨o1.gen + 1, .arr true false 9 [enc x]⟩ o2) := by
        intro _
        simp [q14_14, q14_13, k1, hr]
      rw [e13 none]
      rw [Check_spot f o2 n x i _ _ _ _ hlt hl (fun h => right_leads hok h)]
      cases hs : spotOk (lst f.code) i x with
      | false => exact ⟨o1, by simp⟩
      | true =>
        obtain ⟨o1', ih⟩ := ih (i + 1) ⟨o1.gen + 1, .arr true false 9 [enc x]⟩ (by omega)
        push_cast at ih
        exact ⟨o1', by simp [q14_11, wrap_up hlt hl, ih]⟩
structure FnFit (f : Fn) : Prop where
  ins : ∀ x ∈ lst f.code, InsFit x
  code : (lst f.code).length ≤ 9223372036854775807
  regs : (lst f.regs).length ≤ 9223372036854775807
  params : (lst f.params).length ≤ 9223372036854775807
  rows : (lst f.rows).length ≤ 9223372036854775807
theorem Check_all (f : Fn) (hf : FnFit f) (o1 o2 : AO) (n : Int) (hn : n = (lst f.code).length) :
    q14_36 P0 (.int .i64 n) (HC f o1 o2) = if (lst f.regs).all (fun k => decide (1 ≤ k) && decide (k ≤ 3)) && parOk (lst f.regs) 0 [] (lst f.params) && codeOk f (lst f.code) 0 (lst f.code) && (lst f.rows).all (rowOk (lst f.code)) then E0 else E80 := by
  have a1 := Check_regs f o1 o2 n hf.regs _ 0 (Nat.zero_add _)
  have a2 := Check_params f o1 o2 n hf.params _ 0 (Nat.zero_add _)
  obtain ⟨o1', a3⟩ := Check_code f o2 n hf.ins hf.code _ 0 o1 (Nat.zero_add _)
  have a4 := Check_rows f o1' n hn hf.rows _ 0 o2 (Nat.zero_add _)
  simp only [Int.ofNat_zero, List.drop_zero, List.take_zero] at a1 a2 a3 a4
  have e1 : q14_36 P0 (.int .i64 n) (HC f o1 o2) = q14_L30 P0 (.int .i64 n) (slA f.regs) (.int .i64 (lst f.regs).length) (.int .i64 0) (HC f o1 o2) := by simp [q14_36]
  have e2 : q14_28 P0 (.int .i64 n) (HC f o1 o2) = q14_L22 P0 (.int .i64 n) (slA f.params) (.int .i64 (lst f.params).length) (.int .i64 0) (HC f o1 o2) := by simp [q14_28]
  have e3 : q14_20 P0 (.int .i64 n) (HC f o1 o2) = q14_L10 P0 (.int .i64 n) (slA f.code) (.int .i64 (lst f.code).length) (.int .i64 0) (HC f o1 o2) := by simp [q14_20]
  have e4 : q14_8 P0 (.int .i64 n) (HC f o1' o2) = q14_L2 P0 (.int .i64 n) (slA f.rows) (.int .i64 (lst f.rows).length) (.int .i64 0) (HC f o1' o2) := by simp [q14_8]
  rw [e1, a1, e2, a2, e3, a3, e4, a4]
  generalize (lst f.regs).all (fun k => decide (1 ≤ k) && decide (k ≤ 3)) = b1
  generalize parOk (lst f.regs) 0 [] (lst f.params) = b2
  generalize codeOk f (lst f.code) 0 (lst f.code) = b3
  generalize (lst f.rows).all (rowOk (lst f.code)) = b4
  cases b1 <;> cases b2 <;> cases b3 <;> cases b4 <;> rfl
set_option maxHeartbeats 1000000 in
theorem s_Check (f : Fn) (hf : FnFit f) : (callW E).p 8 [.agg (enc f)] = some ⟨.int .i64 (if wf f then 0 else 80), [], true, [], []⟩ := by
  rw [x_q14]
  have hall := Check_all f hf ⟨0, .dead⟩ ⟨0, .dead⟩ _ rfl
  by_cases h1 : (lst f.code).length < 1
  · have h1' : ((lst f.code).length : Int) < 1 := by omega
    have : ¬ 1 ≤ (lst f.code).length := by omega
    simp [q14_40, q14_39, q14_38, h1', wf, this]
  have h1' : ¬ ((lst f.code).length : Int) < 1 := by omega
  have g1 : 1 ≤ (lst f.code).length := by omega
  by_cases h2 : 20000 < (lst f.code).length
  · have h2' : (20000 : Int) < ((lst f.code).length : Int) := by omega
    have : ¬ (lst f.code).length ≤ 20000 := by omega
    simp [q14_40, q14_39, q14_38, h1', h2', wf, this]
  have h2' : ¬ (20000 : Int) < ((lst f.code).length : Int) := by omega
  have g2 : (lst f.code).length ≤ 20000 := by omega
  by_cases h3 : 20000 < (lst f.regs).length
  · have h3' : (20000 : Int) < ((lst f.regs).length : Int) := by omega
    have : ¬ (lst f.regs).length ≤ 20000 := by omega
    simp [q14_40, q14_39, q14_38, h1', h2', h3', wf, this]
  have h3' : ¬ (20000 : Int) < ((lst f.regs).length : Int) := by omega
  have g3 : (lst f.regs).length ≤ 20000 := by omega
  by_cases h4 : f.ret < 0
  · have : ¬ 0 ≤ f.ret := by omega
    simp [q14_40, q14_39, q14_38, h1', h2', h3', h4, wf, this]
  have g4 : 0 ≤ f.ret := by omega
  by_cases h5 : 3 < f.ret
  · have : ¬ f.ret ≤ 3 := by omega
    simp [q14_40, q14_39, q14_38, h1', h2', h3', h4, h5, wf, this]
  have g5 : f.ret ≤ 3 := by omega
  have hp : (lst f.code).length - 1 < (lst f.code).length := by omega
  have k1 := ixs_ins (o := f.code) (i := (lst f.code).length - 1) (List.getElem?_eq_getElem hp) .i64
  have hw : IntKind.wrap .i64 (((lst f.code).length : Int) - 1) = (((lst f.code).length - 1 : Nat) : Int) := by rw [wrap_i64] <;> omega
  have hg : (lst f.code).getD ((lst f.code).length - 1) default = (lst f.code)[(lst f.code).length - 1] := by rw [List.getD_eq_getElem?_getD, List.getElem?_eq_getElem hp]; rfl
  cases he : ends ((lst f.code)[(lst f.code).length - 1]).op with
  | false =>
    have hwf : wf f = false := by rw [wf, hg, he]; simp
    rw [hwf]
    simp [q14_40, q14_39, q14_38, h1', h2', h3', h4, h5, hw, k1, he]
  | true =>
    have hwf : wf f = ((lst f.regs).all (fun k => decide (1 ≤ k) && decide (k ≤ 3)) && parOk (lst f.regs) 0 [] (lst f.params) && codeOk f (lst f.code) 0 (lst f.code) && (lst f.rows).all (rowOk (lst f.code))) := by
      rw [wf, hg, he]
      simp only [g1, g2, g3, g4, g5, decide_true, Bool.true_and]
    have e : q14_40 (.agg (enc f)) [⟨0, .dead⟩, ⟨0, .dead⟩, ⟨0, .dead⟩] = q14_36 P0 (.int .i64 (lst f.code).length) (HC f ⟨0, .dead⟩ ⟨0, .dead⟩) := by
      simp [q14_40, q14_39, q14_38, h1', h2', h3', h4, h5, hw, k1, he]
    rw [e, hall, hwf]
    split <;> rfl
end Go.Vm
namespace Go.Vm
open Cel
theorem s_OfNo (f : Fn) (hf : FnFit f) (hw : wf f = false) : (callW E).p 75 [.agg (enc f)] = some ⟨.nilp, [], true, [], []⟩ := by
  rw [x_q35]
  have hck := s_Check f hf
  rw [hw] at hck
  have ha : ∀ H : Heap, fzList (fz H fuelF) [.agg (enc f)] = some ⟨[.agg (enc f)], scal f && true, []⟩ := fun H => by
    rw [fzList_cons, fz_enc, fzList_nil]; rfl
  have c8 : ∀ H, callAny E (callW E) 0 none true 8 [.agg (enc f)] H = some (.int .i64 80, H) := fun H => call_reads rfl (ha H) rfl hck ⟨_, rfl, rfl⟩
  have l0 : ∀ t : Heap, evLd true 5 (.lp 0 1 0 0) (AB f :: t) = some (.agg (enc f)) := fun t => by simp
  have n0 : newC 0 (some 0) (cellsOf (.agg (enc f))) [D0, D0, D0] = some (.lp 0 1 0 0, [AB f, D0, D0]) := by simp
  simp only [q35_55, n0, oh_some, q35_54, l0, ob_some, c8, evBin_neq, show decide ((80 : Int) ≠ 0) = true from rfl, cnd_t]
  rfl
theorem s_Of (f : Fn) (hf : FnFit f) (hr : (lst f.rows).length ≤ 10000000000000) (hx : ∀ x ∈ lst f.code, (lst x.args).length ≤ 17592186043904) (hw : wf f = true) :
    ∃ r t, (callW E).p 75 [.agg (enc f)] = some r ∧ Reads r (.rp [slA (some t.b), slA (some t.a), slA (some t.h), .int .i64 (lst f.regs).length]) ∧ TbOk (lst f.code).length ((lst f.regs).length / 64 + 1) t ∧ LvSnd f t ∧ ∀ i, i < (lst f.code).length → Cl f t i := by
  rw [x_q35]
  have w := wf_of hw
  have hn1 := w.n1
  have hn2 := w.n2
  have hR := w.regs
  have hck := s_Check f hf
  rw [hw] at hck
  have ha : ∀ H : Heap, fzList (fz H fuelF) [.agg (enc f)] = some ⟨[.agg (enc f)], scal f && true, []⟩ := fun H => by
    rw [fzList_cons, fz_enc, fzList_nil]; rfl
  have c8 : ∀ H, callAny E (callW E) 0 none true 8 [.agg (enc f)] H = some (.int .i64 0, H) := fun H => call_reads rfl (ha H) rfl hck ⟨_, rfl, rfl⟩
  have l0 : ∀ t : Heap, evLd true 5 (.lp 0 1 0 0) (AB f :: t) = some (.agg (enc f)) := fun t => by simp
  have l3 : ∀ t : Heap, evLd false 1 (.lp 0 1 0 3) (AB f :: t) = some (slA f.code) := fun t => by simp
  have lr : ∀ t : Heap, evLd false 1 (.lp 0 1 0 0) (AB f :: t) = some (slA f.regs) := fun t => by simp
  have n0 : newC 0 (some 0) (cellsOf (.agg (enc f))) [D0, D0, D0] = some (.lp 0 1 0 0, [AB f, D0, D0]) := by simp
  obtain ⟨q1, _⟩ := quo_rem (r := (lst f.regs).length) (by omega)
  have hwr : IntKind.wrap .i64 ((((lst f.regs).length / 64 : Nat) : Int) + 1) = (((lst f.regs).length / 64 + 1 : Nat) : Int) := by
    rw [wrap_i64] <;> omega
  have bd : evBuild [.nils, .nils, .nils, .int .i64 0] [(3, 1, .int .i64 (lst f.regs).length)] = some (.agg [.nils, .nils, .nils, .int .i64 (lst f.regs).length]) := by rfl
  have n1 : newC 0 (some 1) (cellsOf (.agg [.nils, .nils, .nils, .int .i64 (lst f.regs).length])) [AB f, D0, D0] = some (.lp 1 1 0 0, HB0 f) := by rfl
  obtain ⟨H1, P1, Q1, e1, R1⟩ := make_walk (f := f) hn2 hR ((lst f.code).length - 1) 1 _ _ _ (by omega) (by omega) (rep1 f)
  obtain ⟨t, ht1, ht2, ht3, ht4⟩ := liveLoop_ends w ((lst f.code).length * ((lst f.regs).length + 1) + 1) (tb0 f) tb0_ok tb0_sound (by omega)
  obtain ⟨H2, e2, L2⟩ := loop_walk w hr hx _ (tb0 f) H1 t (R1.done hn1) ht1
  obtain ⟨r, e3, rd⟩ := L2.reads
  refine ⟨r, t, ?_, rd, ht2, ht3, ht4⟩
  rw [← e3, ← e2]
  have hc : (0 : Int) < ((lst f.code).length : Int) := by omega
  have hw1 : IntKind.wrap .i64 ((0 : Int) + 1) = ((1 : Nat) : Int) := by rw [wrap_i64] <;> omega
  have ef := first f (.int .i64 (lst f.code).length) (.int .i64 (lst f.code).length) (.int .i64 0) (W := (lst f.regs).length / 64 + 1) (by omega)
  have e42 : q35_42 (.lp 0 1 0 0) (.int .i64 (lst f.code).length) (.lp 1 1 0 0) H1 = q35_L2 (.lp 0 1 0 0) (.int .i64 (lst f.code).length) (.lp 1 1 0 0) (.bool true) H1 := rfl
  rw [← e42, ← e1]
  simp only [q35_55, n0, oh_some, q35_54, l0, ob_some, c8, evBin_neq, show decide ((0 : Int) ≠ 0) = false from rfl, cnd_f, q35_53, evFa_lp, Nat.zero_add, l3, evLen_sl, lr, q1, evBin_add, hwr, q35_52, bd, n1, q35_50]
  rw [q35_L44_go]
  simp only [q35_48, evBin_lss, ob_some, hc, decide_true, q35_47, cnd_t, ef, q35_45, evBin_add, hw1]
end Go.Vm
namespace Go.Vm
open Cel
open Classical in
theorem at_eq {n R : Nat} {l : List Ws} {P : Prop} {i r : Int} (hl : l.length = n) (h : 0 ≤ i → i < n → 0 ≤ r → (bit (rowW l i.toNat) r.toNat = true ↔ P)) :
    atM R l i r = (decide (0 ≤ i) && (decide (i < (n : Int)) && (decide (0 ≤ r) && (decide (r < (R : Int)) && decide P)))) := by
  unfold atM
  rw [hl]
  by_cases h1 : 0 ≤ i
  · by_cases h2 : i < (n : Int)
    · by_cases h3 : 0 ≤ r
      · have := h h1 h2 h3
        have e : bit (rowW l i.toNat) r.toNat = decide P := by
          cases hb : bit (rowW l i.toNat) r.toNat with
          | true => exact (decide_eq_true (this.1 hb)).symm
          | false => exact (decide_eq_false fun hp => by rw [this.2 hp] at hb; cases hb).symm
        rw [e]
        simp [h1, h2, h3]
      · simp [h3]
    · simp [h2]
  · simp [h1]
section
variable {f : Fn} (w : Wf f) {t : Tb} (ok : TbOk (lst f.code).length ((lst f.regs).length / 64 + 1) t) (S : LvSnd f t) (C : ∀ i, i < (lst f.code).length → Cl f t i)
include w ok S C
theorem bef_eq (i r : Int) : atM (lst f.regs).length t.b i r = befR f i r := by
  refine at_eq ok.b fun h1 h2 h3 => ?_
  have := (live_tells w S C (i := i.toNat) (by omega) r.toNat).1
  rwa [show ((i.toNat : Nat) : Int) = i by omega] at this
theorem aft_eq (i r : Int) : atM (lst f.regs).length t.a i r = aftR f i r := by
  refine at_eq ok.a fun h1 h2 h3 => ?_
  have := (live_tells w S C (i := i.toNat) (by omega) r.toNat).2.1
  rwa [show ((i.toNat : Nat) : Int) = i by omega] at this
theorem acr_eq (i r : Int) : acrM f t i r = acrR f i r := by
  unfold acrM acrR
  rw [aft_eq w ok S C, at_eq (P := fromP f (caughtL f i) r.toNat) ok.h (fun h1 h2 h3 => by
    have := (live_tells w S C (i := i.toNat) (by omega) r.toNat).2.2
    rwa [show ((i.toNat : Nat) : Int) = i by omega] at this)]
  by_cases h1 : 0 ≤ i
  · by_cases h2 : i < ((lst f.code).length : Int)
    · by_cases h3 : 0 ≤ r
      · by_cases h4 : r < ((lst f.regs).length : Int)
        · simp [h1, h2, h3, h4]
        · simp [aftR, h4]
      · simp [aftR, h3]
    · simp [h2]
  · simp [h1]
end
theorem fz_tv (t : Tb) (R : Nat) (H : Heap) : fz H fuelF (tv t R) = some ⟨tv t R, scalar1 (tv t R), []⟩ := fz_p (k := 11) rfl H
theorem fz_tir (t : Tb) (R : Nat) (i r : Int) (H : Heap) : fzList (fz H fuelF) [tv t R, .int .i64 i, .int .i64 r] = some ⟨[tv t R, .int .i64 i, .int .i64 r], scalar1 (tv t R) && (true && (true && true)), []⟩ := by
  rw [fzList_cons, fzList_cons, fzList_cons, fz_tv, fz_int', fz_int', fzList_nil]; rfl
theorem fz_tfir (t : Tb) (R : Nat) (f : Fn) (i r : Int) (H : Heap) : fzList (fz H fuelF) [tv t R, .agg (enc f), .int .i64 i, .int .i64 r] = some ⟨[tv t R, .agg (enc f), .int .i64 i, .int .i64 r], scalar1 (tv t R) && (scal f && (true && (true && true))), []⟩ := by
  rw [fzList_cons, fzList_cons, fzList_cons, fzList_cons, fz_tv, fz_enc, fz_int', fz_int', fzList_nil]; rfl
theorem fz_fir (f : Fn) (i r : Int) (H : Heap) : fzList (fz H fuelF) [.agg (enc f), .int .i64 i, .int .i64 r] = some ⟨[.agg (enc f), .int .i64 i, .int .i64 r], scal f && (true && (true && true)), []⟩ := by
  rw [fzList_cons, fzList_cons, fzList_cons, fz_enc, fz_int', fz_int', fzList_nil]; rfl
end Go.Vm
namespace Go.Vm
open Cel
attribute [local simp] callAny callP heapOf_nil
theorem in_loop (op : Int) (o : Option (List Int)) (hl : (lst o).length ≤ 9223372036854775807) (h : Heap) : ∀ (d i : Nat), i + d = (lst o).length →
    q70_L2 (.int .i64 op) (slA o) (.int .i64 i) h = some ⟨.bool (decide (op ∈ (lst o).drop i)), [], true, [], []⟩ := by
  intro d
  induction d with
  | zero =>
    intro i hi
    have e1 : (lst o).drop i = [] := List.drop_eq_nil_of_le (by omega)
    have hn : ¬ ((i : Int) < ((lst o).length : Int)) := by omega
    rw [q70_L2_go, e1]
    simp [q70_1, q70_3, q70_4, q70_5, q70_7, q70_9, hn]
  | succ d ih =>
    intro i hi
    have hlt : i < (lst o).length := by omega
    have hn : ((i : Int) < ((lst o).length : Int)) := by omega
    have k1 := ixs_int (o := o) (i := i) (List.getElem?_eq_getElem hlt) .i64
    have hm : op ∈ (lst o).drop i ↔ op = (lst o)[i] ∨ op ∈ (lst o).drop (i + 1) := by rw [List.drop_eq_getElem_cons hlt, List.mem_cons]
    rw [q70_L2_go]
    simp only [hm]
    have ih := ih (i + 1) (by omega)
    push_cast at ih
    by_cases he : (lst o)[i] = op
    · simp [q70_1, q70_3, q70_4, q70_5, q70_7, q70_9, hn, k1, he]
    · have he' : ¬ op = (lst o)[i] := fun h => he h.symm
      simp [q70_1, q70_3, q70_4, q70_5, q70_7, q70_9, hn, k1, he, he', wrap_up hlt hl, ih]
theorem s_in (op : Int) (o : Option (List Int)) (hl : (lst o).length ≤ 9223372036854775807) : (callW E).p 42 [.int .i64 op, slA o] = some ⟨.bool (decide (op ∈ lst o)), [], true, [], []⟩ := by
  have := in_loop op o hl [] _ 0 (Nat.zero_add _)
  simp only [Int.ofNat_zero, List.drop_zero] at this
  rw [x_q70, ← this]
  simp [q70_1, q70_3, q70_4, q70_5, q70_7, q70_9]
theorem s_in3 (op a b c : Int) : (callW E).p 42 [.int .i64 op, .rs 1 [[.int .i64 a], [.int .i64 b], [.int .i64 c]]] = some ⟨.bool (decide (op ∈ [a, b, c])), [], true, [], []⟩ :=
  s_in op (some [a, b, c]) (by simp)
theorem freeze3 (g a b c : Nat) (x y z : Int) (t : Heap) : fz (⟨g, .arr false false 1 [[.int .i64 x], [.int .i64 y], [.int .i64 z]]⟩ :: t) fuelF (.ls 0 g 1 0 3) = some ⟨.rs 1 [[.int .i64 x], [.int .i64 y], [.int .i64 z]], true, [0]⟩ := by
  rw [fz_ls, rowsAt_0]; rfl
@[simp] theorem s_RLeads (op : Int) : (callW E).p 23 [.int .i64 op] = some ⟨.bool (leads op), [], true, [], []⟩ := by
  rw [x_q64, q64_1]
  simp [buildSC, fillRows, freeze3 1 0 0 0, s_in3, leads, Bool.or_assoc]
@[simp] theorem s_REnds (op : Int) : (callW E).p 25 [.int .i64 op] = some ⟨.bool (ends op), [], true, [], []⟩ := by
  rw [x_q62, q62_1]
  simp [buildSC, fillRows, freeze3 1 0 0 0, s_in3, ends, Bool.or_assoc]
end Go.Vm
namespace Go.Vm
open Cel
attribute [local simp] callAny callP heapOf_nil
def rowT : List (List UInt8) := [[], [110, 45, 45, 45], [51, 45, 45, 45], [51, 45, 45, 45], [42, 61, 45, 45], [63, 63, 63, 63], [63, 63, 63, 63], [45, 110, 45, 45], [45, 51, 45, 45], [45, 51, 49, 45], [45, 49, 45, 45], [45, 51, 51, 45], [45, 51, 45, 45], [42, 51, 49, 45], [45, 51, 49, 42], [49, 51, 45, 45], [42, 51, 45, 45], [45, 51, 42, 45], [42, 45, 45, 45], [45, 42, 45, 45], [51, 45, 45, 45], [51, 49, 45, 45], [49, 51, 45, 45], [63, 63, 63, 63], [63, 63, 63, 63], [63, 63, 63, 63], [63, 63, 63, 63], [45, 45, 45, 45], [45, 49, 49, 45], [45, 51, 63, 45], [45, 63, 45, 45], [45, 51, 45, 45], [51, 45, 45, 45], [45, 45, 45, 45]]
def rowM (op : Int) : List UInt8 := if op < 1 ∨ 33 < op then [] else rowT.getD op.toNat []
def isStrR (r : Option (Ex AV)) (s : List UInt8) : Bool :=
  match r with
  | some ⟨.str a, [], true, [], []⟩ => a == s
  | _ => false
theorem isStrR_eq {r : Option (Ex AV)} {s : List UInt8} (h : isStrR r s = true) : r = some ⟨.str s, [], true, [], []⟩ := by
  unfold isStrR at h
  split at h
  · rw [eq_of_beq h]
  · cases h
theorem row_in : ((List.range 33).all fun i => isStrR ((both E 30).1.p 38 [.int .i64 (1 + i)]) (rowM (1 + i))) = true := by kernel_rfl
set_option maxHeartbeats 2000000 in
theorem s_row (op : Int) : (callW E).p 38 [.int .i64 op] = some ⟨.str (rowM op), [], true, [], []⟩ := by
  by_cases h : op < 1 ∨ 33 < op
  · rw [rowM, if_pos h, x_q74]
    simp only [q74_1, q74_2, q74_3, q74_4]
    generalize hb : buildSC 0 (some 0) 1 34 _ _ _ = B
    have hB : ∃ v t, B = some (.ls 0 1 1 0 34, ⟨1, .arr false false 1 v⟩ :: t) := by
      rw [← hb]; exact ⟨_, _, rfl⟩
    obtain ⟨v, t, rfl⟩ := hB
    rcases h with h | h
    · simp [h]
    · have h1 : ¬ op < 1 := by omega
      have h2 : 34 ≤ op := by omega
      simp [h1, h2]
  · have := range_all row_in (op - 1).toNat (by omega)
    have e : (1 + ((op - 1).toNat : Int)) = op := by omega
    simp only [e] at this
    exact lift_p 30 (isStrR_eq this)
end Go.Vm
namespace Go.Vm
open Cel
attribute [local simp] callAny callP heapOf_nil
@[simp] theorem s_kind (f : Fn) (r : Int) : (callW E).p 48 [.agg (enc f), .int .i64 r] = some ⟨.int .i64 (regK (lst f.regs) r), [], true, [], []⟩ := by
  rw [x_q71]
  by_cases h0 : r < 0
  · simp [q71_1, q71_2, q71_3, h0, regK]
  by_cases h1 : ((lst f.regs).length : Int) ≤ r
  · have : (lst f.regs)[r.toNat]? = none := List.getElem?_eq_none (by omega)
    simp [q71_1, q71_2, q71_3, h0, h1, regK, this]
  · have hin : inR (lst f.regs) r = true := by
      have a1 : 0 ≤ r := by omega
      have a2 : r < ((lst f.regs).length : Int) := by omega
      simp [inR, a1, a2]
    obtain ⟨a0, a1, a2⟩ := inR_get hin
    have k := ixs_intI (o := f.regs) a0 a2 .i64
    simp [q71_1, q71_2, q71_3, h0, h1, k]
def wantM (k : Int) (c : UInt8) : Bool :=
  if c = 45 ∨ c = 63 then true else if c = 42 ∨ c = 61 then decide (0 < k) else if c = 110 then decide (k = 1) || decide (k = 2) else decide (k = (c.toNat : Int) - 48)
theorem s_wanted (f : Fn) (r : Int) (c : UInt8) (hc : c = 45 ∨ c = 63 ∨ c = 42 ∨ c = 61 ∨ c = 110 ∨ c = 49 ∨ c = 50 ∨ c = 51) :
    (callW E).p 65 [.agg (enc f), .int .i64 r, .int .u8 c.toNat] = some ⟨.bool (wantM (regK (lst f.regs) r) c), [], true, [], []⟩ := by
  rw [x_q75]
  generalize hk : regK (lst f.regs) r = k
  have hk' := s_kind f r
  rw [hk] at hk'
  rcases hc with rfl | rfl | rfl | rfl | rfl | rfl | rfl | rfl
  · simp [q75_1, q75_2, q75_3, q75_4, q75_5, q75_7, q75_9, q75_10, hk', wantM]
  · simp [q75_1, q75_2, q75_3, q75_4, q75_5, q75_7, q75_9, q75_10, hk', wantM]
  · simp [q75_1, q75_2, q75_3, q75_4, q75_5, q75_7, q75_9, q75_10, hk', wantM]
  · simp [q75_1, q75_2, q75_3, q75_4, q75_5, q75_7, q75_9, q75_10, hk', wantM]
  · by_cases h1 : k = 1 <;> simp [q75_1, q75_2, q75_3, q75_4, q75_5, q75_7, q75_9, q75_10, hk', wantM, h1]
  · simp [q75_1, q75_2, q75_3, q75_4, q75_5, q75_7, q75_9, q75_10, hk', wantM, IntKind.wrap, IntKind.bits, IntKind.signed]
  · simp [q75_1, q75_2, q75_3, q75_4, q75_5, q75_7, q75_9, q75_10, hk', wantM, IntKind.wrap, IntKind.bits, IntKind.signed]
  · simp [q75_1, q75_2, q75_3, q75_4, q75_5, q75_7, q75_9, q75_10, hk', wantM, IntKind.wrap, IntKind.bits, IntKind.signed]
@[simp] theorem s_place (f : Fn) (i : Int) : (callW E).p 49 [.agg (enc f), .int .i64 i] = some ⟨.bool (placeOk (lst f.code).length i), [], true, [], []⟩ := by
  rw [x_q73]
  by_cases h0 : 0 ≤ i <;> simp [q73_1, h0, placeOk]
end Go.Vm
namespace Go.Vm
@[simp] theorem s_RCalls (op : Int) : (callW E).p 7 [.int .i64 op] = some ⟨.bool (calls op), [], true, [], []⟩ := by
  rw [x_q59, q59_1]
  by_cases h1 : 23 ≤ op
  · by_cases h2 : op ≤ 26 <;> simp [h1, h2, calls]
  · simp [h1, calls]
end Go.Vm
namespace Go.Vm
open Cel
theorem ixstr_at {s : List UInt8} {i : Nat} {b : UInt8} (h : s[i]? = some b) (k : IntKind) : evIxstr (.str s) (.int k (i : Int)) = some (.int .u8 b.toNat) := by
  simp [evIxstr, h]
def usP (W : List UInt8) (F : List Int) : Nat → List Int
  | 0 => []
  | k + 1 => usP W F k ++ if W.getD (k + 1) 45 = 45 then [] else if W.getD (k + 1) 45 = 63 ∧ F.getD (k + 1) 0 < 0 then [] else [F.getD (k + 1) 0]
theorem usP_len (W : List UInt8) (F : List Int) : ∀ k, (usP W F k).length ≤ k
  | 0 => Nat.le_refl _
  | k + 1 => by
    have := usP_len W F k
    rw [usP, List.length_append]
    split
    · simp; omega
    · split <;> simp <;> omega
theorem u8_ne {a b : UInt8} : decide ((a.toNat : Int) ≠ (b.toNat : Int)) = !decide (a = b) := by
  by_cases h : a = b
  · simp [h]
  · have : ¬ (a.toNat : Int) = (b.toNat : Int) := fun e => h (UInt8.toNat.inj (by omega))
    simp [h, this]
theorem RUses_loop (x : Ins) (W : List UInt8) (F : List Int) (hW : W.length = 4) (hF : F.length = 4) (o1 : AO) : ∀ (d k g : Nat) (o3 : AO), k + d = 3 →
    q68_L2 (slotV Int 4 g (usP W F k)) (.str W) (.ls 2 1 1 0 4) (.int .i64 ((k + 1 : Nat) : Int)) [AX 1 x, o1, AI 1 F, o3, slotO g D0 (usP W F k)] = some (exO (nz (usP W F 3))) := by
  intro d
  induction d with
  | zero =>
    intro k g o3 hk
    have hk' : k = 3 := by omega
    subst hk'
    have hc : ¬ (((3 + 1 : Nat) : Int) < ((W.length : Nat) : Int)) := by omega
    have hx := expo1_slotX (H := [AX 1 x, o1, AI 1 F, o3, slotO g D0 (usP W F 3)]) (j := 4) (g := g) (o := D0) (L := usP W F 3) rfl
    rw [q68_L2_go]
    simp only [q68_5, evLen_str, ob_some, evBin_lss, hc, decide_false, cnd_f, q68_1, hx]
  | succ d ih =>
    intro k g o3 hk
    have hc : (((k + 1 : Nat) : Int) < ((W.length : Nat) : Int)) := by omega
    have hw : IntKind.wrap .i64 (((k + 1 : Nat) : Int) + 1) = ((k + 1 + 1 : Nat) : Int) := by rw [wrap_i64] <;> omega
    obtain ⟨b, hb⟩ : ∃ b, W[k + 1]? = some b := ⟨_, List.getElem?_eq_getElem (by omega)⟩
    obtain ⟨r, hr⟩ : ∃ r, F[k + 1]? = some r := ⟨_, List.getElem?_eq_getElem (by omega)⟩
    have hbd : W.getD (k + 1) 45 = b := by rw [List.getD_eq_getElem?_getD, hb]; rfl
    have hrd : F.getD (k + 1) 0 = r := by rw [List.getD_eq_getElem?_getD, hr]; rfl
    have ks := ixstr_at hb .i64
    have kx : evIxs 1 (.ls 2 1 1 0 4) (.int .i64 ((k + 1 : Nat) : Int)) = some (.lp 2 1 (k + 1) 0) := by
      have := ixAt' (n := 4) (p := ((k + 1 : Nat) : Int)) (by omega) (by omega) 2 1 .i64
      simpa using this
    have lx : ∀ (o3 o4 : AO), evLd false 1 (.lp 2 1 (k + 1) 0) [AX 1 x, o1, AI 1 F, o3, o4] = some (.int .i64 r) := fun o3 o4 => ld_at (α := Int) (id := 2) (g := 1) (v := .int .i64 r) rfl hr rfl
    have hsu : usP W F (k + 1) = usP W F k ++ if b = 45 then [] else if b = 63 ∧ r < 0 then [] else [r] := by rw [usP, hbd, hrd]
    have ih0 : ∀ g o3, q68_L2 (slotV Int 4 g (usP W F k ++ if b = 45 then [] else if b = 63 ∧ r < 0 then [] else [r])) (.str W) (.ls 2 1 1 0 4) (.int .i64 ((k + 1 + 1 : Nat) : Int)) [AX 1 x, o1, AI 1 F, o3, slotO g D0 (usP W F k ++ if b = 45 then [] else if b = 63 ∧ r < 0 then [] else [r])] = some (exO (nz (usP W F 3))) := fun g o3 => by
      have := ih (k + 1) g o3 (by omega)
      rw [hsu] at this
      exact this
    have e45 : ((45 : UInt8).toNat : Int) = 45 := rfl
    have e63 : ((63 : UInt8).toNat : Int) = 63 := rfl
    have n45 := @u8_ne b 45
    have n63 := @u8_ne b 63
    rw [e45] at n45
    rw [e63] at n63
    rw [q68_L2_go]
    by_cases h1 : b = 45
    · have d45 : (!decide (b = 45)) = false := by simp [h1]
      have ih0 := ih0 g o3
      simp only [h1, if_true, List.append_nil] at ih0
      simp only [q68_5, evLen_str, ob_some, evBin_lss, hc, decide_true, cnd_t, q68_4, ks, evBin_neq, n45, d45, gb_ft, gb_tup, evPick_f, cnd_f, q68_3, evBin_add, hw, ih0]
    have d45 : (!decide (b = 45)) = true := by simp [h1]
    simp only [h1, if_false] at ih0
    have fin : ∀ g o3, q68_3 (slotV Int 4 g (usP W F k ++ [r])) (.str W) (.ls 2 1 1 0 4) (.int .i64 ((k + 1 : Nat) : Int)) [AX 1 x, o1, AI 1 F, o3, slotO g D0 (usP W F k ++ [r])] = (if b = 63 ∧ r < 0 then q68_3 (slotV Int 4 g (usP W F k ++ [r])) (.str W) (.ls 2 1 1 0 4) (.int .i64 ((k + 1 : Nat) : Int)) [AX 1 x, o1, AI 1 F, o3, slotO g D0 (usP W F k ++ [r])] else some (exO (nz (usP W F 3)))) := by
      intro g o3
      split
      · rfl
      · rename_i hh
        have ih0 := ih0 g o3
        rw [if_neg hh] at ih0
        simp only [q68_3, evBin_add, ob_some, hw, ih0]
    have hlen := usP_len W F k
    obtain ⟨g', ha⟩ := app_int (H := [AX 1 x, o1, AI 1 F, ⟨o3.gen + 1, .arr false false 1 [[.int .i64 r]]⟩, slotO g D0 (usP W F k)]) (fb := 0) (j := 4) (g := g) (o := D0) (y := .ls 3 (o3.gen + 1) 1 0 1) (L := usP W F k) (n := r) (by simp) rfl (Nat.le_trans (show _ ≤ 3 by omega) (by decide))
    have ha' : evApp 0 (some 4) 1 8 (slotV Int 4 g (usP W F k)) (.ls 3 (o3.gen + 1) 1 0 1) [AX 1 x, o1, AI 1 F, ⟨o3.gen + 1, .arr false false 1 [[.int .i64 r]]⟩, slotO g D0 (usP W F k)] = some (slotV Int 4 g' (usP W F k ++ [r]), [AX 1 x, o1, AI 1 F, ⟨o3.gen + 1, .arr false false 1 [[.int .i64 r]]⟩, slotO g' D0 (usP W F k ++ [r])]) := ha
    have bs : buildSC 0 (some 3) 1 1 [.int .i64 0] [(0, .int .i64 r)] [AX 1 x, o1, AI 1 F, o3, slotO g D0 (usP W F k)] = some (.ls 3 (o3.gen + 1) 1 0 1, [AX 1 x, o1, AI 1 F, ⟨o3.gen + 1, .arr false false 1 [[.int .i64 r]]⟩, slotO g D0 (usP W F k)]) := by
      simp [buildSC, fillRows]
    by_cases h2 : b = 63
    · have d63 : (!decide (b = 63)) = false := by simp [h2]
      by_cases h3 : 0 ≤ r
      · have hh : ¬ (b = 63 ∧ r < 0) := fun h => absurd h.2 (by omega)
        have fin := fin g' ⟨o3.gen + 1, .arr false false 1 [[.int .i64 r]]⟩
        rw [if_neg hh] at fin
        simp only [q68_5, evLen_str, ob_some, evBin_lss, hc, decide_true, cnd_t, q68_4, ks, evBin_neq, n45, d45, gb_tt, n63, d63, gb_ff, kx, lx, evBin_geq, h3, evPick_f, evPick_t, bs, oh_some, ha', fin]
      · have hh : b = 63 ∧ r < 0 := ⟨h2, by omega⟩
        have ih0 := ih0 g o3
        rw [if_pos hh, List.append_nil] at ih0
        simp only [q68_5, evLen_str, ob_some, evBin_lss, hc, decide_true, cnd_t, q68_4, ks, evBin_neq, n45, d45, gb_tt, n63, d63, gb_ff, kx, lx, evBin_geq, h3, decide_false, evPick_f, evPick_t, cnd_f, q68_3, evBin_add, hw, ih0]
    · have d63 : (!decide (b = 63)) = true := by simp [h2]
      have hh : ¬ (b = 63 ∧ r < 0) := fun h => h2 h.1
      have fin := fin g' ⟨o3.gen + 1, .arr false false 1 [[.int .i64 r]]⟩
      rw [if_neg hh] at fin
      simp only [q68_5, evLen_str, ob_some, evBin_lss, hc, decide_true, cnd_t, q68_4, ks, evBin_neq, n45, d45, gb_tt, n63, d63, gb_tf, gb_tup, evPick_t, kx, lx, bs, oh_some, ha', fin]
def wordM (op : Int) : List UInt8 := if op = 5 then [45, 42, 42, 45] else if op = 6 then [45, 42, 45, 45] else rowM op
set_option maxHeartbeats 1000000 in
theorem usP_uses (x : Ins) (hc : calls x.op = false) : usP (wordM x.op) [x.d, x.a, x.b, x.c] 3 = lst (uses x) := by
  have hne : ¬ x.op = 23 ∧ ¬ x.op = 24 ∧ ¬ x.op = 25 ∧ ¬ x.op = 26 := by
    refine ⟨?_, ?_, ?_, ?_⟩ <;> (intro h; simp [calls, h] at hc)
  have ha : (x.a < 0 ∧ ¬ 0 ≤ x.a) ∨ (¬ x.a < 0 ∧ 0 ≤ x.a) := by omega
  have hb : x.b < 0 ∨ ¬ x.b < 0 := by omega
  rcases op_cases x.op with h|h|h|h|h|h|h|h|h|h|h|h|h|h|h|h|h|h|h|h|h|h|h|h|h|h|h|h|h|h|h|h|h|h|h
  all_goals first
    | (exfalso; simp [calls, h] at hc; done)
    | (simp [uses, reads, calls, h, wordM, rowM, rowT, usP]; done)
    | (rcases ha with ⟨h1, h2⟩ | ⟨h1, h2⟩ <;> rcases hb with h3 | h3 <;> simp [uses, reads, calls, h, wordM, rowM, rowT, usP, h1, h2, h3]; done)
    | (have hw : wordM x.op = [] := by
        rw [wordM, if_neg (by omega), if_neg (by omega), rowM, if_pos (by omega)]
       rw [hw]
       simp [uses, reads, calls, lo_f h, usP]; done)
    | (have hw : wordM x.op = [] := by
        rw [wordM, if_neg (by omega), if_neg (by omega), rowM, if_pos (by omega)]
       rw [hw]
       simp [uses, reads, calls, hi_f h, usP]; done)
theorem rowM_len {op : Int} (h : ¬ (op < 1 ∨ 33 < op)) : (rowM op).length = 4 := by
  rcases op_cases op with h1|h1|h1|h1|h1|h1|h1|h1|h1|h1|h1|h1|h1|h1|h1|h1|h1|h1|h1|h1|h1|h1|h1|h1|h1|h1|h1|h1|h1|h1|h1|h1|h1|h1|h1
  all_goals first
    | (subst h1; rfl)
    | (exfalso; omega)
theorem s_RUses (x : Ins) (hl : (lst x.args).length ≤ 17592186043904) : (callW E).p 15 [.agg (enc x)] = some (exO (nz (lst (uses x)))) := by
  rw [x_q68]
  have n0 : newC 0 (some 0) (cellsOf (.agg (enc x))) [D0, D0, D0, D0, D0] = some (.lp 0 1 0 0, [AX 1 x, D0, D0, D0, D0]) := by simp
  have lop : ∀ t : Heap, evLd false 1 (.lp 0 1 0 0) (AX 1 x :: t) = some (.int .i64 x.op) := fun t => by simp
  have la : ∀ t : Heap, evLd false 1 (.lp 0 1 0 8) (AX 1 x :: t) = some (slA x.args) := fun t => by simp
  have cC : ∀ h : Heap, callAny E (callW E) 0 none true 7 [.int .i64 x.op] h = some (.bool (calls x.op), h) := fun h => by simp [callAny, callP, heapOf_nil]
  have cR : ∀ h : Heap, callAny E (callW E) 0 none true 38 [.int .i64 x.op] h = some (.str (rowM x.op), h) := fun h => by simp [callAny, callP, heapOf_nil, s_row]
  cases hc : calls x.op with
  | true =>
    have e : uses x = x.args := by simp [uses, hc]
    rw [e]
    rw [hc] at cC
    obtain ⟨g', a1⟩ := app_slot (α := Int) (H := [AX 1 x, D0, D0, D0, D0]) (fb := 0) (j := 1) (g := 0) (b := 8) (o := D0) (y := slA x.args) (L := []) (M := lst x.args) (by simp) rfl (by
      have : (2 * (0 + (lst x.args).length) + 512) * 8 ≤ 281474976710656 := by omega
      exact this)
    simp only [slotV_nil, es_int, List.set_cons_succ, List.set_cons_zero, Nat.zero_add, List.nil_append] at a1
    have hx := expo1_slotX (H := [AX 1 x, slotO g' D0 (lst x.args), D0, D0, D0]) (j := 1) (g := g') (o := D0) (L := lst x.args) rfl
    simp only [q68_15, n0, oh_some, q68_14, evFa_lp, Nat.zero_add, lop, ob_some, cC, cnd_t, la, a1, hx]
  | false =>
    rw [hc] at cC
    rw [← usP_uses x hc]
    have lf : ∀ (j : Nat) (t : Heap), evLd false 1 (.lp 0 1 0 j) (AX 1 x :: t) = ((enc x).drop j).head? := fun j t => by simp
    have d1 : ((enc x).drop 1).head? = some (.int .i64 x.d) := rfl
    have d2 : ((enc x).drop 2).head? = some (.int .i64 x.a) := rfl
    have d3 : ((enc x).drop 3).head? = some (.int .i64 x.b) := rfl
    have d4 : ((enc x).drop 4).head? = some (.int .i64 x.c) := rfl
    have bs : buildSC 0 (some 2) 1 4 [.int .i64 0] [(0, .int .i64 x.d), (1, .int .i64 x.a), (2, .int .i64 x.b), (3, .int .i64 x.c)] [AX 1 x, D0, D0, D0, D0] = some (.ls 2 1 1 0 4, [AX 1 x, D0, AI 1 [x.d, x.a, x.b, x.c], D0, D0]) := by
      simp [buildSC, fillRows, List.replicate]
    have e9 : ∀ W : List UInt8, (W.length = 4 ∨ W = []) → q68_9 (.lp 0 1 0 0) .nils (.str W) [AX 1 x, D0, D0, D0, D0] = some (exO (nz (usP W [x.d, x.a, x.b, x.c] 3))) := by
      intro W hW
      have e : q68_9 (.lp 0 1 0 0) .nils (.str W) [AX 1 x, D0, D0, D0, D0] = q68_7 .nils (.str W) (.ls 2 1 1 0 4) [AX 1 x, D0, AI 1 [x.d, x.a, x.b, x.c], D0, D0] := by
        simp only [q68_9, evFa_lp, Nat.zero_add, ob_some, lf, d1, d2, d3, d4, bs, oh_some]
      rw [e]
      rcases hW with hW | rfl
      · have := RUses_loop x W [x.d, x.a, x.b, x.c] hW rfl D0 3 0 0 D0 rfl
        exact this
      · show q68_L2 _ _ _ _ _ = _
        rw [q68_L2_go]
        rfl
    have hw : q68_11 (.lp 0 1 0 0) .nils (.str (rowM x.op)) [AX 1 x, D0, D0, D0, D0] = some (exO (nz (usP (wordM x.op) [x.d, x.a, x.b, x.c] 3))) := by
      by_cases h5 : x.op = 5
      · have h6 : ¬ x.op = 6 := by omega
        have := e9 [45, 42, 42, 45] (.inl rfl)
        simp only [q68_11, evFa_lp, Nat.zero_add, ob_some, lop, evBin_eql, h5, decide_true, cnd_t, q68_10, show ¬ (5 : Int) = 6 by omega, decide_false, cnd_f, this, wordM, if_true]
      · by_cases h6 : x.op = 6
        · have := e9 [45, 42, 45, 45] (.inl rfl)
          simp only [q68_11, evFa_lp, Nat.zero_add, ob_some, lop, evBin_eql, h6, show ¬ (6 : Int) = 5 by omega, decide_false, cnd_f, q68_10, decide_true, cnd_t, this, wordM, if_true, if_false]
        · have hr : (rowM x.op).length = 4 ∨ rowM x.op = [] := by
            by_cases h : x.op < 1 ∨ 33 < x.op
            · right; rw [rowM, if_pos h]
            · exact .inl (rowM_len h)
          have := e9 _ hr
          simp only [q68_11, evFa_lp, Nat.zero_add, ob_some, lop, evBin_eql, h5, h6, decide_false, cnd_f, q68_10, this, wordM, if_false]
    simp only [q68_15, n0, oh_some, q68_14, evFa_lp, Nat.zero_add, lop, ob_some, cC, cnd_f, q68_13, q68_12, cR, hw]
set_option maxHeartbeats 1000000 in
theorem s_RDef (x : Ins) : (callW E).p 16 [.agg (enc x)] = some ⟨.int .i64 (defr x), [], true, [], []⟩ := by
  rw [x_q61]
  have n0 : newC 0 (some 0) (cellsOf (.agg (enc x))) [D0] = some (.lp 0 1 0 0, [AX 1 x]) := by simp
  have lop : ∀ t : Heap, evLd false 1 (.lp 0 1 0 0) (AX 1 x :: t) = some (.int .i64 x.op) := fun t => by simp
  have ld : ∀ t : Heap, evLd false 1 (.lp 0 1 0 1) (AX 1 x :: t) = some (.int .i64 x.d) := fun t => by simp
  have cR : ∀ h : Heap, callAny E (callW E) 0 none true 38 [.int .i64 x.op] h = some (.str (rowM x.op), h) := fun h => by simp [callAny, callP, heapOf_nil, s_row]
  have e : q61_4 (.agg (enc x)) [D0] = q61_2 (.lp 0 1 0 0) (.str (rowM x.op)) [AX 1 x] := by
    simp only [q61_4, n0, oh_some, q61_3, evFa_lp, Nat.zero_add, lop, ob_some, cR]
  rw [e]
  rcases op_cases x.op with h|h|h|h|h|h|h|h|h|h|h|h|h|h|h|h|h|h|h|h|h|h|h|h|h|h|h|h|h|h|h|h|h|h|h
  all_goals first
    | (simp [q61_2, q61_1, h, rowM, rowT, evIxstr, defr, writes, calls]; done)
    | (simp [q61_2, q61_1, h, lo_f h, rowM, evIxstr, defr, writes, calls]; done)
    | (simp [q61_2, q61_1, h, hi_f h, rowM, evIxstr, defr, writes, calls]; done)
end Go.Vm
namespace Go.Vm
open Cel
attribute [local simp] callAny callP heapOf_nil
@[simp] theorem s_RThrows (op : Int) : (callW E).p 19 [.int .i64 op] = some ⟨.bool (throws op), [], true, [], []⟩ := by
  rw [x_q67, q67_1]
  by_cases h1 : 7 ≤ op
  · by_cases h2 : op ≤ 12
    · simp [h1, h2, throws]
    · simp [h1, h2, buildSC, fillRows, freeze3 1 0 0 0, s_in3, throws]
      by_cases h3 : op = 20
      · simp [h3]
      by_cases h4 : op = 21
      · simp [h4]
      by_cases h5 : op = 31 <;> simp [h3, h4, h5]
  · have h4 : ¬ op = 20 ∧ ¬ op = 21 ∧ ¬ op = 31 := by omega
    simp [h1, buildSC, fillRows, freeze3 1 0 0 0, s_in3, throws, h4]
theorem in11_loop (n : Int) (o : Option (List Int)) (hl : (lst o).length ≤ 9223372036854775807) (h : Heap) : ∀ (d i : Nat), i + d = (lst o).length →
    q83_L2 (slA o) (.int .i64 n) (.int .i64 i) h = some ⟨.bool (((lst o).drop i).contains n), [], true, [], []⟩ := by
  intro d
  induction d with
  | zero =>
    intro i hi
    have e1 : (lst o).drop i = [] := List.drop_eq_nil_of_le (by omega)
    have hn : ¬ ((i : Int) < ((lst o).length : Int)) := by omega
    rw [q83_L2_go, e1]
    simp [q83_1, q83_3, q83_4, q83_5, q83_7, q83_9, hn]
  | succ d ih =>
    intro i hi
    have hlt : i < (lst o).length := by omega
    have hn : ((i : Int) < ((lst o).length : Int)) := by omega
    have k1 := ixs_int (o := o) (i := i) (List.getElem?_eq_getElem hlt) .i64
    rw [q83_L2_go, List.drop_eq_getElem_cons hlt, List.contains_cons]
    have ih := ih (i + 1) (by omega)
    push_cast at ih
    generalize (lst o)[i] = x at *
    by_cases he : x = n
    · simp [q83_1, q83_3, q83_4, q83_5, q83_7, q83_9, hn, k1, he]
    · have he' : ¬ n = x := fun h => he h.symm
      simp [q83_1, q83_3, q83_4, q83_5, q83_7, q83_9, hn, k1, he, he', wrap_up hlt hl, ih]
theorem s_in11 (n : Int) (o : Option (List Int)) (hl : (lst o).length ≤ 9223372036854775807) : (callW E).p 96 [slA o, .int .i64 n] = some ⟨.bool ((lst o).contains n), [], true, [], []⟩ := by
  have := in11_loop n o hl [] _ 0 (Nat.zero_add _)
  simp only [Int.ofNat_zero, List.drop_zero] at this
  rw [x_q83, ← this]
  simp [q83_1, q83_3, q83_4, q83_5, q83_7, q83_9]
theorem Rcontains1 (a b : Int) : (callW E).p 96 [.rs 1 [[.int .i64 a]], .int .i64 b] = some ⟨.bool ([a].contains b), [], true, [], []⟩ := by
  have := s_in11 b (some [a]) (by simp)
  exact this
theorem s_RNext (f : Fn) (i : Int) (hl : (lst f.code).length ≤ 9223372036854775807) : (callW E).p 95 [.agg (enc f), .int .i64 i] = some (exO (nz (nextL f i))) := by
  rw [x_q79]
  by_cases h0 : i < 0
  · simp [q79_1, q79_2, q79_3, q79_4, q79_5, q79_6, q79_7, h0, nextL, nz]; rfl
  by_cases h1 : ((lst f.code).length : Int) ≤ i
  · simp [q79_1, q79_2, q79_3, q79_4, q79_5, q79_6, q79_7, h0, h1, nextL, nz]; rfl
  have g0 : 0 ≤ i := by omega
  have hx := insAt_lt (f := f) (i := i.toNat) (by omega)
  have k1 := ixs_insI (o := f.code) g0 hx .i64
  have hw := wrap_next g0 (by omega) hl
  have hn : nextL f i = nextI (insAt f i.toNat) i := by rw [nextL, if_neg (by omega)]
  rw [hn]
  generalize insAt f i.toNat = x at *
  have e : q79_7 (.agg (enc f)) (.int .i64 i) [⟨0, .dead⟩, ⟨0, .dead⟩, ⟨0, .dead⟩, ⟨0, .dead⟩, ⟨0, .dead⟩] = q79_3 (.int .i64 i) (.lp 1 1 0 0) .nils [⟨1, .arr true false 5 [enc f]⟩, ⟨1, .arr true false 9 [enc x]⟩, ⟨0, .dead⟩, ⟨0, .dead⟩, ⟨0, .dead⟩] := by
    simp [q79_7, q79_6, q79_5, q79_4, h0, h1, k1]
  rw [e, nextI]
  cases he : ends x.op with
  | true =>
    cases hd : leads x.op with
    | false => simp [q79_3, q79_2, q79_1, he, hd, nz]; rfl
    | true =>
      have := s_in11 x.t none (by simp)
      simp [q79_3, q79_2, q79_1, he, hd, nz, slA] at this ⊢
      simp [this, buildSC, fillRows, evApp, addN]
      exact expo1_int1 (by simp)
  | false =>
    cases hd : leads x.op with
    | false =>
      simp [q79_3, q79_2, q79_1, he, hd, hw, buildSC, fillRows, evApp]
      exact expo1_int1 (by simp)
    | true =>
      have hz : fz [⟨1, .arr true false 5 [enc f]⟩, ⟨1, .arr true false 9 [enc x]⟩, ⟨1, .arr false false 1 [[.int .i64 (i + 1)]]⟩, ⟨0, .dead⟩, ⟨0, .dead⟩] fuelF (.ls 2 1 1 0 1) = some ⟨.rs 1 [[.int .i64 (i + 1)]], true, [2]⟩ := by
        rw [fz_ls]; rfl
      generalize hxt : x.t = t at *
      by_cases hc : i + 1 = t
      · subst hc
        simp [q79_3, q79_2, q79_1, he, hd, hw, buildSC, fillRows, evApp, hz, Rcontains1, addN, hxt]
        exact expo1_int1 (by simp)
      · have hc' : ¬ t = i + 1 := fun h => hc h.symm
        simp [q79_3, q79_2, q79_1, he, hd, hw, buildSC, fillRows, evApp, hz, Rcontains1, hc, hc', addN, hxt]
        exact expo1_int2 (by simp)
theorem RCaught_loop (f : Fn) (i : Int) (hl : (lst f.rows).length ≤ 10000000000000) : ∀ (d k g : Nat) (L : List Int) (o1 o2 : AO), k + d = (lst f.rows).length → L.length ≤ k →
    q77_L2 (.int .i64 i) (.lp 0 1 0 0) (slotV Int 3 g L) (.int .i64 k) [⟨1, .arr true false 5 [enc f]⟩, o1, o2, slotO g D0 L] = some (exO (nz (caughtG i ((lst f.rows).drop k) L))) := by
  intro d
  induction d with
  | zero =>
    intro k g L o1 o2 hk _
    have e1 : (lst f.rows).drop k = [] := List.drop_eq_nil_of_le (by omega)
    have hn : ¬ ((k : Int) < ((lst f.rows).length : Int)) := by omega
    have hx := expo1_slotX (H := [⟨1, .arr true false 5 [enc f]⟩, o1, o2, slotO g D0 L]) (j := 3) (g := g) (o := D0) (L := L) rfl
    rw [q77_L2_go, e1]
    simp [q77_11, q77_1, hn, caughtG, hx]
  | succ d ih =>
    intro k g L o1 o2 hk hL
    have hlt : k < (lst f.rows).length := by omega
    have hc : ((k : Int) < ((lst f.rows).length : Int)) := by omega
    have k1 := ixs_row (o := f.rows) (i := k) (List.getElem?_eq_getElem hlt) .i64
    rw [q77_L2_go, List.drop_eq_getElem_cons hlt]
    generalize hr : (lst f.rows)[k] = r at *
    have ih0 := fun g L o1 o2 hL => ih (k + 1) g L o1 o2 (by omega) hL
    push_cast at ih0
    have hw := wrap_up hlt (by omega)
    have e11 : q77_11 (.int .i64 i) (.lp 0 1 0 0) (slotV Int 3 g L) (.int .i64 k) [⟨1, .arr true false 5 [enc f]⟩, o1, o2, slotO g D0 L] =
        q77_7 (.int .i64 i) (.lp 0 1 0 0) (slotV Int 3 g L) (.int .i64 k) (.lp 1 (o1.gen + 1) 0 0) [⟨1, .arr true false 5 [enc f]⟩, ⟨o1.gen + 1, .arr true false 4 [enc r]⟩, o2, slotO g D0 L] := by
      simp [q77_11, q77_8, hc, k1]
    rw [e11]
    generalize (o1.gen + 1) = g1
    by_cases h1 : r.f ≤ i
    rotate_left
    · have : ¬ (r.f ≤ i ∧ i < r.t) := by omega
      simp [q77_7, q77_6, q77_3, h1, hw, caughtG, ih0 g L _ _ (by omega)]
    by_cases h2 : i < r.t
    rotate_left
    · have : ¬ (r.f ≤ i ∧ i < r.t) := by omega
      simp [q77_7, q77_6, q77_3, h1, h2, hw, caughtG, ih0 g L _ _ (by omega)]
    rw [caughtG, if_pos ⟨h1, h2⟩]
    have hz : ∀ o2, fz [⟨1, .arr true false 5 [enc f]⟩, ⟨g1, .arr true false 4 [enc r]⟩, o2, slotO g D0 L] fuelF (slotV Int 3 g L) = some ⟨slA (nz L), true, ids1 (slotV Int 3 g L)⟩ := fun o2 => fz_slotI rfl
    have hct := s_in11 r.at_ (nz L) (by rw [lst_nz]; omega)
    rw [lst_nz] at hct
    have tail : ∀ g L o2, L.length ≤ k + 1 → q77_4 (.int .i64 i) (.lp 0 1 0 0) (slotV Int 3 g L) (.int .i64 k) (.lp 1 g1 0 0) [⟨1, .arr true false 5 [enc f]⟩, ⟨g1, .arr true false 4 [enc r]⟩, o2, slotO g D0 L] =
        some (exO (nz (if r.c = [] then L else caughtG i ((lst f.rows).drop (k + 1)) L))) := by
      intro g L o2 hL
      have hx := expo1_slotX (H := [⟨1, .arr true false 5 [enc f]⟩, ⟨g1, .arr true false 4 [enc r]⟩, o2, slotO g D0 L]) (j := 3) (g := g) (o := D0) (L := L) rfl
      by_cases hcl : r.c = []
      · simp [q77_4, hcl, hx]
      · simp [q77_4, q77_3, hcl, hw, ih0 g L _ _ hL]
    unfold addN
    cases hb : L.contains r.at_ with
    | true =>
      rw [hb] at hct
      rw [if_pos rfl]
      have := tail g L o2 (by omega)
      simp [q77_7, q77_6, q77_5, h1, h2, hz, hct, this]
    | false =>
      rw [hb] at hct
      rw [if_neg Bool.false_ne_true]
      obtain ⟨g', ha⟩ := app_int (H := [⟨1, .arr true false 5 [enc f]⟩, ⟨g1, .arr true false 4 [enc r]⟩, ⟨o2.gen + 1, .arr false false 1 [[.int .i64 r.at_]]⟩, slotO g D0 L]) (fb := 0) (j := 3) (g := g) (o := D0) (y := .ls 2 (o2.gen + 1) 1 0 1) (L := L) (n := r.at_) (by simp) rfl (by omega)
      have ha' : evApp 0 (some 3) 1 8 (slotV Int 3 g L) (.ls 2 (o2.gen + 1) 1 0 1) [⟨1, .arr true false 5 [enc f]⟩, ⟨g1, .arr true false 4 [enc r]⟩, ⟨o2.gen + 1, .arr false false 1 [[.int .i64 r.at_]]⟩, slotO g D0 L] = some (slotV Int 3 g' (L ++ [r.at_]), [⟨1, .arr true false 5 [enc f]⟩, ⟨g1, .arr true false 4 [enc r]⟩, ⟨o2.gen + 1, .arr false false 1 [[.int .i64 r.at_]]⟩, slotO g' D0 (L ++ [r.at_])]) := ha
      have := tail g' (L ++ [r.at_]) ⟨o2.gen + 1, .arr false false 1 [[.int .i64 r.at_]]⟩ (by simp; omega)
      simp [q77_7, q77_6, q77_5, h1, h2, hz, hct, buildSC, fillRows, ha', this]
theorem s_RCaught (f : Fn) (i : Int) (hl : (lst f.rows).length ≤ 10000000000000) : (callW E).p 92 [.agg (enc f), .int .i64 i] = some (exO (nz (caughtL f i))) := by
  rw [x_q77]
  by_cases h0 : i < 0
  · simp [q77_17, q77_16, q77_15, h0, caughtL, nz]; rfl
  by_cases h1 : ((lst f.code).length : Int) ≤ i
  · simp [q77_17, q77_16, q77_15, h0, h1, caughtL, nz]; rfl
  have g0 : 0 ≤ i := by omega
  have hx := insAt_lt (f := f) (i := i.toNat) (by omega)
  have k1 := ixs_insI (o := f.code) g0 hx .i64
  have hn : caughtL f i = if throws (insAt f i.toNat).op then caughtG i (lst f.rows) [] else [] := by rw [caughtL, if_neg (by omega)]
  rw [hn]
  generalize insAt f i.toNat = x at *
  have lp := RCaught_loop f i hl _ 0 0 [] D0 D0 (Nat.zero_add _) (Nat.zero_le _)
  simp only [slotV_nil, slotO_nil, List.drop_zero, Int.ofNat_zero] at lp
  have lp' : q77_13 (.int .i64 i) (.lp 0 1 0 0) .nils [⟨1, .arr true false 5 [enc f]⟩, D0, D0, D0] = some (exO (nz (caughtG i (lst f.rows) []))) := lp
  cases ht : throws x.op with
  | false => simp [q77_17, q77_16, q77_15, h0, h1, k1, ht, nz]; rfl
  | true => simp [q77_17, q77_16, q77_15, h0, h1, k1, ht, lp']
end Go.Vm
namespace Go.Vm
structure FnSm (f : Fn) : Prop where
  regs : (lst f.regs).length ≤ 17592186043904
  params : (lst f.params).length ≤ 17592186043904
  code : (lst f.code).length ≤ 2 ^ 38
  rows : (lst f.rows).length ≤ 2 ^ 38
  args : ∀ x ∈ lst f.code, (lst x.args).length ≤ 17592186043904
abbrev ArgsSm (f : Fn) : Prop := ∀ x ∈ lst f.code, (lst x.args).length ≤ 17592186043904
end Go.Vm
namespace Go.Vm
open Cel
def nB : Nat := 20002
theorem nB_eq : nB = 20002 := rfl
theorem succR_len {f : Fn} (w : Wf f) (r : Int) (i : Nat) : (succR f r i).length ≤ nB := by
  rw [nB_eq]
  have h1 := nextL_len f i
  have h2 := w.caught_len i
  unfold succR
  rw [List.length_append]
  split <;> simp <;> omega
def hitR_ (f : Fn) (r : Int) (i : Nat) : Bool := (usesAt f i).contains r
theorem hitR_def (f : Fn) (r : Int) (i : Nat) : hitR_ f r i = (lst (uses (insAt f i))).contains r := by rw [hitR_, usesAt]
theorem uses_small (x : Ins) (h : (lst x.args).length ≤ 17592186043904) : (lst (uses x)).length ≤ 17592186043904 := by
  by_cases hc : calls x.op = true
  · simpa [uses, hc] using h
  · have := uses_le3 (x := x) (by simpa using hc)
    omega
end Go.Vm
namespace Go.Vm
open Cel
attribute [local simp] callAny callP heapOf_nil
theorem num_inR : ((List.range 60).all fun i => isTup3 ((both E 30).1.p 66 [.int .i64 (95 + i)]) (numK (95 + i))) = true := by kernel_rfl
theorem s_RKinds (c : Int) (h1 : 0 ≤ c) (h2 : c < 1000) : (callW E).p 66 [.int .i64 c] = some ⟨.tup [.int .i64 (numK c).1, .int .i64 (numK c).2.1, .int .i64 (numK c).2.2], [], true, [], []⟩ := by
  by_cases h : c < 96 ∨ 148 < c
  · rw [numK_out h, x_q56]
    have h2 : ∀ k : Int, 96 ≤ k → k ≤ 148 → ¬ c = k := by omega
    rcases h with h | h
    · have a1 : ¬ 96 ≤ c := by omega
      have a2 : ¬ 120 ≤ c := by omega
      have a3 : ¬ 145 ≤ c := by omega
      simp [q56_1, q56_2, q56_3, q56_4, h2, a1, a2, a3]
      rfl
    · have a1 : 96 ≤ c := by omega
      have a2 : 120 ≤ c := by omega
      have a3 : 145 ≤ c := by omega
      have b1 : ¬ c ≤ 113 := by omega
      have b2 : ¬ c ≤ 131 := by omega
      have b3 : ¬ c ≤ 147 := by omega
      simp [q56_1, q56_2, q56_3, q56_4, h2, a1, a2, a3, b1, b2, b3]
      rfl
  · have := range_all num_inR (c - 95).toNat (by omega)
    have e : (95 + ((c - 95).toNat : Int)) = c := by omega
    simp only [e] at this
    exact lift_p 30 (isTup3_eq this)
end Go.Vm
namespace Go.Vm
open Cel
attribute [local simp] callAny callP heapOf_nil
def mayB : List UInt8 := [97, 98, 99, 100, 101, 102, 103, 104, 105, 106, 107, 108, 109, 110, 111, 112, 113, 114, 115, 116, 117, 118, 119, 120, 121, 122, 65, 66, 67, 68, 69, 70, 71, 72, 73, 74, 75, 76, 77, 78, 79, 80, 81, 82, 83, 84, 85, 86, 87, 88, 89, 90, 48, 49, 50, 51, 52, 53, 54, 55, 56, 57, 95, 36, 47]
theorem may_in : ((List.range 256).all fun n => mayB.contains (UInt8.ofNat n) == okB (UInt8.ofNat n)) = true := by kernel_rfl
theorem may_ok (c : UInt8) : mayB.contains c = okB c := by
  have := range_all may_in c.toNat c.toNat_lt
  rw [UInt8.ofNat_toNat] at this
  exact eq_of_beq this
@[simp] theorem pure_53 : E.pure 53 = true := rfl
theorem s_has (s : List UInt8) (c : UInt8) : (callW E).p 53 [.str s, .str [c]] = some ⟨.bool (s.contains c), [], true, [], []⟩ := by
  rw [callW_p_eq, runPure, show E.fn 53 = none by kernel_rfl]
  rfl
theorem RName_loop (s : List UInt8) (hs : s.length ≤ 9223372036854775807) (h : Heap) : ∀ (d i : Nat), i + d = s.length →
    q57_L2 (.str s) (.str mayB) (.int .i64 i) h = if (s.drop i).all okB then q57_1 (.str s) h else some ⟨.bool false, [], true, [], []⟩ := by
  intro d
  induction d with
  | zero =>
    intro i hi
    have e1 : s.drop i = [] := List.drop_eq_nil_of_le (by omega)
    have hc : ¬ ((i : Int) < (s.length : Int)) := by omega
    rw [q57_L2_go, e1]
    simp [q57_5, hc]
  | succ d ih =>
    intro i hi
    have hlt : i < s.length := by omega
    have hc : ((i : Int) < (s.length : Int)) := by omega
    have ih := ih (i + 1) (by omega)
    push_cast at ih
    have e1 : (s.drop i).all okB = (okB s[i] && (s.drop (i + 1)).all okB) := by rw [List.drop_eq_getElem_cons hlt, List.all_cons]
    have hsl : evSls (.str s) (some (.int .i64 (i : Int))) (some (.int .i64 ((i : Int) + 1))) = some (.str [s[i]]) := by
      have a1 : ((0 : Int) ≤ (i : Int) + 1 ∧ (i : Int) + 1 ≤ (s.length : Int)) := by omega
      have a2 : ((0 : Int) ≤ (i : Int) ∧ (i : Int) ≤ (((i : Int) + 1).toNat : Int)) := by omega
      simp only [evSls, optIxv, asNat, if_pos a1, if_pos a2]
      have e2 : ((i : Int) + 1).toNat = i + 1 := by omega
      rw [e2, Int.toNat_natCast, List.drop_take, show i + 1 - i = 1 by omega, List.drop_eq_getElem_cons hlt]
      rfl
    have hm := s_has mayB s[i]
    rw [may_ok] at hm
    rw [q57_L2_go, e1]
    simp only [q57_5, evLen_str, ob_some, evBin_lss, hc, decide_true, cnd_t]
    cases hb : okB s[i] with
    | true =>
      rw [hb] at hm
      simp [q57_4, wrap_up hlt hs, hsl, hm, q57_3, ih]
    | false =>
      rw [hb] at hm
      simp [q57_4, wrap_up hlt hs, hsl, hm]
@[simp] theorem s_RName (s : List UInt8) (hs : s.length ≤ 9223372036854775807) : (callW E).p 69 [.str s, .bool false] = some ⟨.bool (nameOk s), [], true, [], []⟩ := by
  have h0 := RName_loop s hs [] _ 0 (Nat.zero_add _)
  simp only [Int.ofNat_zero, List.drop_zero] at h0
  rw [x_q57]
  have e : q57_11 (.str s) (.bool false) [] = q57_L2 (.str s) (.str mayB) (.int .i64 0) [] := by simp [q57_1, q57_3, q57_4, q57_5, q57_7, q57_9, q57_10, q57_11]; rfl
  rw [e, h0, nameOk]
  cases hal : s.all okB with
  | false => simp
  | true =>
    by_cases h1 : s = []
    · subst h1; simp [q57_1]
    · have h2 : 1 ≤ s.length := by have := List.length_pos_iff.2 h1; omega
      by_cases h3 : s.length ≤ 60
      · have : ((s.length : Int) ≤ 60) := by omega
        simp [q57_1, h1, h2, h3, this]
      · have : ¬ ((s.length : Int) ≤ 60) := by omega
        simp [q57_1, h1, h2, h3, this]
def refTypeM (s : List UInt8) : Bool :=
  decide (lead s ≤ 8) && (decide (s.drop (lead s) = [73]) || decide (s.drop (lead s) = [74]) ||
    (decide (2 < (s.drop (lead s)).length) && decide ((s.drop (lead s))[0]? = some 76) && decide ((s.drop (lead s))[(s.drop (lead s)).length - 1]? = some 59) && nameOk (((s.drop (lead s)).take ((s.drop (lead s)).length - 1)).drop 1)))
theorem RType_lead (s : List UInt8) (hs : s.length ≤ 9223372036854775807) (h : Heap) : ∀ (d i : Nat), i + d = lead s → q58_L5 (.str s) (.int .i64 i) h = q58_4 (.str s) (.int .i64 (lead s)) h := by
  intro d
  induction d with
  | zero =>
    intro i hi
    obtain rfl : i = lead s := by omega
    rw [q58_L5_go]
    have := lead_le s
    by_cases hc : lead s < s.length
    · have e := List.getElem?_eq_getElem hc
      have hne := lead_at e
      have hc' : ((lead s : Int) < (s.length : Int)) := by omega
      have hb : ¬ ((s[lead s].toNat : Int) = 91) := fun hh => hne ((byte_eq _ 91).1 hh)
      simp [q58_7, hc', ixstr e, hb]
    · have hc' : ¬ ((lead s : Int) < (s.length : Int)) := by omega
      simp [q58_7, hc']
  | succ d ih =>
    intro i hi
    have e := lead_lt (s := s) (i := i) (by omega)
    have := lead_le s
    have hc' : ((i : Int) < (s.length : Int)) := by omega
    have ih := ih (i + 1) (by omega)
    push_cast at ih
    rw [q58_L5_go]
    simp [q58_7, hc', ixstr e, q58_6, wrap_up (show i < s.length by omega) hs, ih]
theorem s_RType0 (s : List UInt8) (hs : s.length ≤ 9223372036854775807) : (callW E).p 67 [.str s] = some ⟨.bool (refTypeM s), [], true, [], []⟩ := by
  have h0 := RType_lead s hs [] _ 0 (Nat.zero_add _)
  simp only [Int.ofNat_zero] at h0
  rw [x_q58]
  have e : q58_11 (.str s) [] = q58_L5 (.str s) (.int .i64 0) [] := by simp [q58_1, q58_2, q58_3, q58_4, q58_6, q58_7, q58_10, q58_11]
  rw [e, h0, refTypeM]
  have hle := lead_le s
  have hsl : evSls (.str s) (some (.int .i64 (lead s))) none = some (.str (s.drop (lead s))) := by
    have a2 : ((0 : Int) ≤ (lead s : Int) ∧ (lead s : Int) ≤ (s.length : Int)) := by omega
    simp only [evSls, optIxv, asNat, if_pos a2]
    simp
  by_cases h8 : 8 < lead s
  · have h8' : ((8 : Int) < (lead s : Int)) := by omega
    have : ¬ lead s ≤ 8 := by omega
    simp [q58_4, hsl, q58_3, h8', this]
  · have h8' : ¬ ((8 : Int) < (lead s : Int)) := by omega
    have h8n : lead s ≤ 8 := by omega
    have hrl : (s.drop (lead s)).length ≤ 9223372036854775807 := by rw [List.length_drop]; omega
    simp only [q58_4, hsl, ob_some, q58_3, evBin_gtr, h8', decide_false, cnd_f, h8n, decide_true, Bool.true_and]
    generalize s.drop (lead s) = r at *
    by_cases c1 : r = [73]
    · simp [q58_2, c1]
    by_cases c2 : r = [74]
    · simp [q58_2, c2]
    by_cases c3 : 2 < r.length
    · have c3' : ((2 : Int) < (r.length : Int)) := by omega
      have k0 := List.getElem?_eq_getElem (l := r) (i := 0) (by omega)
      have k1 := List.getElem?_eq_getElem (l := r) (i := r.length - 1) (by omega)
      have i0 := ixstr k0
      have i1 := ixstr k1
      simp only [Int.ofNat_zero] at i0
      have hw : IntKind.wrap .i64 ((r.length : Int) - 1) = ((r.length - 1 : Nat) : Int) := by rw [wrap_i64] <;> omega
      have hs2 : evSls (.str r) (some (.int .i64 1)) (some (.int .i64 ((r.length - 1 : Nat) : Int))) = some (.str ((r.take (r.length - 1)).drop 1)) := by
        have a1 : ((0 : Int) ≤ ((r.length - 1 : Nat) : Int) ∧ ((r.length - 1 : Nat) : Int) ≤ (r.length : Int)) := by omega
        have a2 : ((0 : Int) ≤ (1 : Int) ∧ (1 : Int) ≤ (((r.length - 1 : Nat) : Int).toNat : Int)) := by omega
        simp only [evSls, optIxv, asNat, if_pos a1, if_pos a2]
        rfl
      have hn := s_RName ((r.take (r.length - 1)).drop 1) (by rw [List.length_drop, List.length_take]; omega)
      rw [k0, k1]
      generalize r[0] = b0 at *
      generalize r[r.length - 1] = b1 at *
      generalize nameOk ((r.take (r.length - 1)).drop 1) = N at *
      have hn' := hn
      simp only [List.drop_one] at hn'
      by_cases d0 : b0 = 76
      · by_cases d1 : b1 = 59
        · simp [q58_2, q58_1, c1, c2, c3, c3', i0, i1, hw, hs2, hn', d0, d1]
        · have d1' : ¬ ((b1.toNat : Int) = 59) := fun hh => d1 ((byte_eq _ 59).1 hh)
          simp [q58_2, q58_1, c1, c2, c3, c3', i0, i1, hw, d0, d1, d1']
      · have d0' : ¬ ((b0.toNat : Int) = 76) := fun hh => d0 ((byte_eq _ 76).1 hh)
        simp [q58_2, q58_1, c1, c2, c3, c3', i0, d0, d0']
    · have c3' : ¬ ((2 : Int) < (r.length : Int)) := by omega
      simp [q58_2, q58_1, c1, c2, c3, c3']
theorem nameOk_59 {l : List UInt8} (h : nameOk l = true) : 59 ∉ l ∧ 1 ≤ l.length := by
  simp only [nameOk, Bool.and_eq_true, decide_eq_true_eq, List.all_eq_true] at h
  refine ⟨fun hm => ?_, h.1.1⟩
  have := h.2 59 hm
  exact absurd this (by decide)
theorem type_same (s : List UInt8) : refTypeM s = typeOk s := by
  rw [Bool.eq_iff_iff]
  simp only [refTypeM, typeOk, Bool.and_eq_true, Bool.or_eq_true, decide_eq_true_eq]
  have hle := lead_le s
  have hdl : (s.drop (lead s)).length = s.length - lead s := List.length_drop
  by_cases hne : s = []
  · subst hne; simp [lead, takeM]
  have hpos : 0 < s.length := List.length_pos_iff.2 hne
  simp only [hne, not_false_eq_true, true_and, ne_eq]
  unfold takeM
  by_cases h8 : 8 < lead s
  · rw [if_pos (.inl h8)]
    constructor
    · rintro ⟨h, _⟩; omega
    · intro h; omega
  by_cases hl : lead s = s.length
  · rw [if_pos (.inr hl)]
    have : s.drop (lead s) = [] := List.drop_eq_nil_of_le (by omega)
    rw [this]
    constructor
    · rintro ⟨_, h⟩; simp at h
    · intro h; omega
  rw [if_neg (by omega)]
  have hlt : lead s < s.length := by omega
  have hd : s.drop (lead s) = s[lead s] :: s.drop (lead s + 1) := List.drop_eq_getElem_cons hlt
  have h8n : lead s ≤ 8 := by omega
  rw [List.getElem?_eq_getElem hlt]
  have hrl : (s.drop (lead s + 1)).length = s.length - (lead s + 1) := List.length_drop
  have htk : ∀ j, (s.take (lead s + 1 + j)).drop (lead s + 1) = (s.drop (lead s + 1)).take j := by
    intro j; rw [List.drop_take]; congr 1; omega
  simp only [htk]
  rw [hd]
  generalize s[lead s] = c at *
  generalize hr : s.drop (lead s + 1) = r at *
  simp only [h8n, true_and, Option.some.injEq, List.cons.injEq, List.length_cons, List.getElem?_cons_zero, Nat.add_sub_cancel]
  by_cases c1 : c = 73
  · subst c1
    simp only [true_or, if_true, true_and]
    have e1 : (s.length = lead s + 1) ↔ r = [] := by rw [← List.length_eq_zero_iff, hrl]; omega
    constructor
    · rintro (h | h)
      · rcases h with h | h
        · exact (e1.2 h).symm
        · exact absurd h.1 (by decide)
      · exact absurd h.1.1.2 (by decide)
    · intro h; exact .inl (.inl (e1.1 h.symm))
  by_cases c2 : c = 74
  · subst c2
    simp only [or_true, if_true, true_and]
    have e1 : (s.length = lead s + 1) ↔ r = [] := by rw [← List.length_eq_zero_iff, hrl]; omega
    constructor
    · rintro (h | h)
      · rcases h with h | h
        · exact absurd h.1 (by decide)
        · exact (e1.2 h).symm
      · exact absurd h.1.1.2 (by decide)
    · intro h; exact .inl (.inr (e1.1 h.symm))
  simp only [c1, c2, or_self, if_false, false_and, false_or]
  by_cases c3 : c = 76
  · subst c3
    simp only [if_true, true_and, and_true]
    have idx : ∀ j, j < r.length → r[j]? = some 59 → 59 ∉ r.take j → r.findIdx (· == 59) = j := by
      intro j hj h1 h2
      rw [List.getElem?_eq_getElem hj] at h1
      rw [List.findIdx_eq hj]
      refine ⟨by simpa using h1, fun k hk => ?_⟩
      have : r[k]'(by omega) ∈ r.take j := List.mem_take_iff_getElem.2 ⟨k, by omega, rfl⟩
      simp only [beq_eq_false_iff_ne, ne_eq]
      intro he
      rw [he] at this
      exact h2 this
    constructor
    · rintro ⟨⟨h1, h2⟩, h3⟩
      have e0 : (76 :: r : List UInt8)[r.length]? = r[r.length - 1]? := by
        rw [show r.length = (r.length - 1) + 1 by omega]; simp
      rw [e0] at h2
      have e1 : ((76 :: r : List UInt8).take r.length).drop 1 = r.take (r.length - 1) := by
        rw [show r.length = (r.length - 1) + 1 by omega]; simp
      rw [e1] at h3
      have := idx (r.length - 1) (by omega) h2 (nameOk_59 h3).1
      rw [this, if_pos ⟨by omega, h3⟩]
      omega
    · intro h
      split at h
      · rename_i hc
        have hj : r.findIdx (· == 59) = r.length - 1 := by omega
        have hn := nameOk_59 hc.2
        have hlen := hn.2
        rw [List.length_take, hj] at hlen
        have h59 : r[r.length - 1]? = some 59 := by
          have := List.findIdx_getElem (w := hc.1)
          rw [List.getElem?_eq_getElem (by omega)]
          simp only [hj] at this
          simpa using this
        rw [hj] at hc
        refine ⟨⟨by omega, ?_⟩, ?_⟩
        · rw [show r.length = (r.length - 1) + 1 by omega]; simpa using h59
        · have e1 : ((76 :: r : List UInt8).take r.length).drop 1 = r.take (r.length - 1) := by
            rw [show r.length = (r.length - 1) + 1 by omega]; simp
          rw [e1]; exact hc.2
      · omega
  · simp only [c3, if_false, and_false, false_and]
    constructor
    · intro h; exact h.elim
    · intro h; omega
theorem s_RType (s : List UInt8) (hs : s.length ≤ 9223372036854775807) : (callW E).p 67 [.str s] = some ⟨.bool (typeOk s), [], true, [], []⟩ := by
  rw [s_RType0 s hs, type_same]
end Go.Vm
namespace Go.Vm
open Cel
attribute [local simp] callAny callP heapOf_nil fpCall
abbrev H2 (f : Fn) (x : Ins) : Heap := [⟨1, .arr true false 5 [enc f]⟩, ⟨1, .arr true false 9 [enc x]⟩]
abbrev H3 (f : Fn) (x : Ins) : Heap := [⟨1, .arr true false 5 [enc f]⟩, ⟨1, .arr true false 9 [enc x]⟩, ⟨1, .arr false false 1 [[.int .i64 x.d], [.int .i64 x.a], [.int .i64 x.b], [.int .i64 x.c]]⟩]
abbrev Q0 : AV := .lp 0 1 0 0
abbrev Q1 : AV := .lp 1 1 0 0
def lastM (R : List Int) (x : Ins) : Bool :=
  (!decide (x.op = 24) && !decide (x.op = 25)) || (match lst x.args with
    | [] => false
    | r :: _ => decide (regK R r = 3))
def callM (R : List Int) (x : Ins) : Bool :=
  !((decide (x.n < 0) && !decide (x.op = 25)) || decide (21 < (lst x.args).length) || (!decide (x.d = -1) && decide (regK R x.d = 0))) && ((lst x.args).all (fun r => !decide (regK R r = 0)) && lastM R x)
theorem call_last (f : Fn) (x : Ins) : q69_1 Q0 Q1 (H2 f x) = some ⟨.bool (lastM (lst f.regs) x), [], true, [], []⟩ := by
  by_cases o1 : x.op = 24
  · cases ha : lst x.args with
    | nil => simp [q69_1, o1, lastM, ha, pairsOk]
    | cons r t =>
      have k1 := ixs_int (o := x.args) (i := 0) (x := r) (by rw [ha]; rfl) .i64
      simp only [Int.ofNat_zero] at k1
      simp [q69_1, o1, lastM, ha, k1, pairsOk]
  · by_cases o2 : x.op = 25
    · cases ha : lst x.args with
      | nil => simp [q69_1, o2, lastM, ha, pairsOk]
      | cons r t =>
        have k1 := ixs_int (o := x.args) (i := 0) (x := r) (by rw [ha]; rfl) .i64
        simp only [Int.ofNat_zero] at k1
        simp [q69_1, o2, lastM, ha, k1, pairsOk]
    · simp [q69_1, o1, o2, lastM, pairsOk]
theorem call_loop (f : Fn) (x : Ins) (hl : (lst x.args).length ≤ 9223372036854775807) : ∀ (d i : Nat), i + d = (lst x.args).length →
    q69_L2 Q0 Q1 (.int .i64 i) (H2 f x) = some ⟨.bool (((lst x.args).drop i).all (fun r => !decide (regK (lst f.regs) r = 0)) && lastM (lst f.regs) x), [], true, [], []⟩ := by
  intro d
  induction d with
  | zero =>
    intro i hi
    have e1 : (lst x.args).drop i = [] := List.drop_eq_nil_of_le (by omega)
    have hn : ¬ ((i : Int) < ((lst x.args).length : Int)) := by omega
    rw [q69_L2_go, e1]
    simp [q69_5, hn, call_last]
  | succ d ih =>
    intro i hi
    have hlt : i < (lst x.args).length := by omega
    have hn : ((i : Int) < ((lst x.args).length : Int)) := by omega
    have k1 := ixs_int (o := x.args) (i := i) (List.getElem?_eq_getElem hlt) .i64
    have e1 : ((lst x.args).drop i).all (fun r => !decide (regK (lst f.regs) r = 0)) = ((!decide (regK (lst f.regs) (lst x.args)[i] = 0)) && ((lst x.args).drop (i + 1)).all (fun r => !decide (regK (lst f.regs) r = 0))) := by
      rw [List.drop_eq_getElem_cons hlt, List.all_cons]
    have ih := ih (i + 1) (by omega)
    push_cast at ih
    rw [q69_L2_go, e1]
    generalize (lst x.args)[i] = r at *
    have hs := s_kind f r
    by_cases hz : regK (lst f.regs) r = 0
    · rw [hz] at hs
      simp [q69_5, hn, q69_4, k1, hs, hz, pairsOk]
    · generalize regK (lst f.regs) r = k at *
      simp [q69_5, hn, q69_4, k1, hs, hz, pairsOk, q69_3, wrap_up hlt hl]
      exact ih
theorem s_call (f : Fn) (x : Ins) (hl : (lst x.args).length ≤ 9223372036854775807) : (callW E).p 68 [.agg (enc f), .agg (enc x)] = some ⟨.bool (callM (lst f.regs) x), [], true, [], []⟩ := by
  rw [x_q69]
  have h0 := call_loop f x hl _ 0 (Nat.zero_add _)
  simp only [Int.ofNat_zero, List.drop_zero] at h0
  have hs := s_kind f x.d
  have e21 : ((21 : Int) < ((lst x.args).length : Int)) ↔ 21 < (lst x.args).length := by omega
  unfold callM
  generalize ((lst x.args).all (fun r => !decide (regK (lst f.regs) r = 0)) && lastM (lst f.regs) x) = T at *
  generalize regK (lst f.regs) x.d = kd at *
  by_cases h21 : 21 < (lst x.args).length
  · have h21' := e21.2 h21
    by_cases hn : x.n < 0
    · by_cases o5 : x.op = 25 <;> simp [q69_1, q69_3, q69_4, q69_5, q69_7, q69_9, q69_10, hn, o5, h21, h21', pairsOk, fpApart, meets]
    · simp [q69_1, q69_3, q69_4, q69_5, q69_7, q69_9, q69_10, hn, h21, h21', pairsOk, fpApart, meets]
  · have h21' : ¬ ((21 : Int) < ((lst x.args).length : Int)) := by omega
    by_cases hn : x.n < 0
    · by_cases o5 : x.op = 25
      · by_cases hd : x.d = -1
        · simp [q69_1, q69_3, q69_4, q69_5, q69_7, q69_9, q69_10, hn, o5, h21, h21', hd, h0, pairsOk, fpApart, meets]
        · by_cases hk : kd = 0
          · simp [q69_1, q69_3, q69_4, q69_5, q69_7, q69_9, q69_10, hn, o5, h21, h21', hd, hs, hk, h0, pairsOk, fpApart, meets]
          · simp [q69_1, q69_3, q69_4, q69_5, q69_7, q69_9, q69_10, hn, o5, h21, h21', hd, hs, hk, h0, pairsOk, fpApart, meets]
      · simp [q69_1, q69_3, q69_4, q69_5, q69_7, q69_9, q69_10, hn, o5, h21, h21', pairsOk, fpApart, meets]
    · by_cases hd : x.d = -1
      · simp [q69_1, q69_3, q69_4, q69_5, q69_7, q69_9, q69_10, hn, h21, h21', hd, h0, pairsOk, fpApart, meets]
      · by_cases hk : kd = 0
        · simp [q69_1, q69_3, q69_4, q69_5, q69_7, q69_9, q69_10, hn, h21, h21', hd, hs, hk, h0, pairsOk, fpApart, meets]
        · simp [q69_1, q69_3, q69_4, q69_5, q69_7, q69_9, q69_10, hn, h21, h21', hd, hs, hk, h0, pairsOk, fpApart, meets]
end Go.Vm
namespace Go.Vm
open Cel
attribute [local simp] callAny callP heapOf_nil fpCall
def switchM (f : Fn) (x : Ins) : Bool :=
  match x.op with
  | 1 => decide (regK (lst f.regs) x.d = 2) || (decide (-2147483648 ≤ x.n) && decide (x.n < 2147483648))
  | 4 => decide (regK (lst f.regs) x.d = regK (lst f.regs) x.a)
  | 5 => decide (0 < (numK x.n).2.1) && decide (regK (lst f.regs) x.d = (numK x.n).2.2) && decide (regK (lst f.regs) x.a = (numK x.n).1) && decide (regK (lst f.regs) x.b = (numK x.n).2.1)
  | 6 => decide (0 < (numK x.n).1) && decide ((numK x.n).2.1 = 0) && decide (regK (lst f.regs) x.d = (numK x.n).2.2) && decide (regK (lst f.regs) x.a = (numK x.n).1)
  | 12 => typeOk x.s
  | 21 => typeOk x.s
  | 22 => typeOk x.s
  | 16 => decide (0 ≤ x.n)
  | 17 => decide (0 ≤ x.n)
  | 23 => callM (lst f.regs) x
  | 24 => callM (lst f.regs) x
  | 25 => callM (lst f.regs) x
  | 26 => callM (lst f.regs) x
  | 27 => placeOk (lst f.code).length x.t
  | 28 => decide (0 ≤ x.n) && decide (x.n ≤ 5) && placeOk (lst f.code).length x.t
  | 29 => (decide (x.n = 0) || decide (x.n = 1)) && (decide (x.b = -1) || decide (regK (lst f.regs) x.b = 3)) && placeOk (lst f.code).length x.t
  | 30 => if f.ret = 0 then decide (x.a = -1) else !decide (x.a = -1) && decide (regK (lst f.regs) x.a = f.ret)
  | _ => true
def oneM (f : Fn) (x : Ins) : Bool :=
  decide (1 ≤ x.op) && decide (x.op ≤ 33) && (wantM (regK (lst f.regs) x.d) ((rowM x.op).getD 0 0) && (wantM (regK (lst f.regs) x.a) ((rowM x.op).getD 1 0) && (wantM (regK (lst f.regs) x.b) ((rowM x.op).getD 2 0) && (wantM (regK (lst f.regs) x.c) ((rowM x.op).getD 3 0) && switchM f x))))
set_option maxHeartbeats 8000000 in
theorem one_25 (f : Fn) (x : Ins) (hs : x.s.length ≤ 9223372036854775807) (hl : (lst x.args).length ≤ 9223372036854775807) (v55 : AV) (hv : v55 = .int .i64 x.op) :
    q72_25 Q0 Q1 (.int .i64 (numK x.n).1) (.int .i64 (numK x.n).2.1) (.int .i64 (numK x.n).2.2) v55 (H3 f x) = some ⟨.bool (switchM f x), [], true, [], []⟩ := by
  subst hv
  have hkd := s_kind f x.d
  have hka := s_kind f x.a
  have hkb := s_kind f x.b
  have hty := s_RType x.s hs
  have hcl := s_call f x hl
  have hpl := s_place f x.t
  unfold switchM
  generalize regK (lst f.regs) x.d = kd at *
  generalize regK (lst f.regs) x.a = ka at *
  generalize regK (lst f.regs) x.b = kb at *
  generalize typeOk x.s = ty at *
  generalize callM (lst f.regs) x = cl at *
  generalize placeOk (lst f.code).length x.t = pl at *
  generalize numK x.n = k at *
  obtain ⟨a, b, d⟩ := k
  simp only
  by_cases o1 : x.op = 1
  · by_cases h2 : kd = 2
    · simp [o1, q72_25, q72_24, hkd, h2, pairsOk, fpApart, meets]
    · by_cases h3 : -2147483648 ≤ x.n <;> simp [o1, q72_25, q72_24, hkd, h2, h3, pairsOk, fpApart, meets]
  by_cases o4 : x.op = 4
  · simp [o4, q72_25, q72_24, q72_23, q72_22, hkd, hka, pairsOk, fpApart, meets]
  by_cases o5 : x.op = 5
  · by_cases h1 : 0 < b
    · by_cases h2 : kd = d
      · by_cases h3 : ka = a
        · simp [o5, h1, h2, h3, hkd, hka, hkb, q72_25, q72_24, q72_23, q72_22, q72_21, q72_20, q72_19, q72_18, q72_17, q72_16, q72_15, q72_14, q72_13, q72_12, q72_11, q72_10, q72_9, q72_8, q72_7, q72_6, q72_5, q72_4, q72_3, q72_2, q72_1, pairsOk, fpApart, meets]
        · simp [o5, h1, h2, h3, hkd, hka, hkb, q72_25, q72_24, q72_23, q72_22, q72_21, q72_20, q72_19, q72_18, q72_17, q72_16, q72_15, q72_14, q72_13, q72_12, q72_11, q72_10, q72_9, q72_8, q72_7, q72_6, q72_5, q72_4, q72_3, q72_2, q72_1, pairsOk, fpApart, meets]
      · simp [o5, h1, h2, hkd, hka, hkb, q72_25, q72_24, q72_23, q72_22, q72_21, q72_20, q72_19, q72_18, q72_17, q72_16, q72_15, q72_14, q72_13, q72_12, q72_11, q72_10, q72_9, q72_8, q72_7, q72_6, q72_5, q72_4, q72_3, q72_2, q72_1, pairsOk, fpApart, meets]
    · simp [o5, h1, q72_25, q72_24, q72_23, q72_22, q72_21, q72_20, q72_19, q72_18, q72_17, q72_16, q72_15, q72_14, q72_13, q72_12, q72_11, q72_10, q72_9, q72_8, q72_7, q72_6, q72_5, q72_4, q72_3, q72_2, q72_1, pairsOk, fpApart, meets]
  by_cases o6 : x.op = 6
  · by_cases h1 : 0 < a
    · by_cases h2 : b = 0
      · by_cases h3 : kd = d
        · simp [o6, h1, h2, h3, hkd, hka, q72_25, q72_24, q72_23, q72_22, q72_21, q72_20, q72_19, q72_18, q72_17, q72_16, q72_15, q72_14, q72_13, q72_12, q72_11, q72_10, q72_9, q72_8, q72_7, q72_6, q72_5, q72_4, q72_3, q72_2, q72_1, pairsOk, fpApart, meets]
        · simp [o6, h1, h2, h3, hkd, hka, q72_25, q72_24, q72_23, q72_22, q72_21, q72_20, q72_19, q72_18, q72_17, q72_16, q72_15, q72_14, q72_13, q72_12, q72_11, q72_10, q72_9, q72_8, q72_7, q72_6, q72_5, q72_4, q72_3, q72_2, q72_1, pairsOk, fpApart, meets]
      · simp [o6, h1, h2, q72_25, q72_24, q72_23, q72_22, q72_21, q72_20, q72_19, q72_18, q72_17, q72_16, q72_15, q72_14, q72_13, q72_12, q72_11, q72_10, q72_9, q72_8, q72_7, q72_6, q72_5, q72_4, q72_3, q72_2, q72_1, pairsOk, fpApart, meets]
    · simp [o6, h1, q72_25, q72_24, q72_23, q72_22, q72_21, q72_20, q72_19, q72_18, q72_17, q72_16, q72_15, q72_14, q72_13, q72_12, q72_11, q72_10, q72_9, q72_8, q72_7, q72_6, q72_5, q72_4, q72_3, q72_2, q72_1, pairsOk, fpApart, meets]
  by_cases o12 : x.op = 12
  · simp [o12, hty, q72_25, q72_24, q72_23, q72_22, q72_21, q72_20, q72_19, q72_18, q72_17, q72_16, q72_15, q72_14, q72_13, q72_12, q72_11, q72_10, q72_9, q72_8, q72_7, q72_6, q72_5, q72_4, q72_3, q72_2, q72_1, pairsOk, fpApart, meets]
  by_cases o21 : x.op = 21
  · simp [o21, hty, q72_25, q72_24, q72_23, q72_22, q72_21, q72_20, q72_19, q72_18, q72_17, q72_16, q72_15, q72_14, q72_13, q72_12, q72_11, q72_10, q72_9, q72_8, q72_7, q72_6, q72_5, q72_4, q72_3, q72_2, q72_1, pairsOk, fpApart, meets]
  by_cases o22 : x.op = 22
  · simp [o22, hty, q72_25, q72_24, q72_23, q72_22, q72_21, q72_20, q72_19, q72_18, q72_17, q72_16, q72_15, q72_14, q72_13, q72_12, q72_11, q72_10, q72_9, q72_8, q72_7, q72_6, q72_5, q72_4, q72_3, q72_2, q72_1, pairsOk, fpApart, meets]
  by_cases o16 : x.op = 16
  · simp [o16, q72_25, q72_24, q72_23, q72_22, q72_21, q72_20, q72_19, q72_18, q72_17, q72_16, q72_15, q72_14, q72_13, q72_12, q72_11, q72_10, q72_9, q72_8, q72_7, q72_6, q72_5, q72_4, q72_3, q72_2, q72_1, pairsOk, fpApart, meets]
  by_cases o17 : x.op = 17
  · simp [o17, q72_25, q72_24, q72_23, q72_22, q72_21, q72_20, q72_19, q72_18, q72_17, q72_16, q72_15, q72_14, q72_13, q72_12, q72_11, q72_10, q72_9, q72_8, q72_7, q72_6, q72_5, q72_4, q72_3, q72_2, q72_1, pairsOk, fpApart, meets]
  by_cases o23 : x.op = 23
  · simp [o23, hcl, q72_25, q72_24, q72_23, q72_22, q72_21, q72_20, q72_19, q72_18, q72_17, q72_16, q72_15, q72_14, q72_13, q72_12, q72_11, q72_10, q72_9, q72_8, q72_7, q72_6, q72_5, q72_4, q72_3, q72_2, q72_1, pairsOk, fpApart, meets]
  by_cases o24 : x.op = 24
  · simp [o24, hcl, q72_25, q72_24, q72_23, q72_22, q72_21, q72_20, q72_19, q72_18, q72_17, q72_16, q72_15, q72_14, q72_13, q72_12, q72_11, q72_10, q72_9, q72_8, q72_7, q72_6, q72_5, q72_4, q72_3, q72_2, q72_1, pairsOk, fpApart, meets]
  by_cases o25 : x.op = 25
  · simp [o25, hcl, q72_25, q72_24, q72_23, q72_22, q72_21, q72_20, q72_19, q72_18, q72_17, q72_16, q72_15, q72_14, q72_13, q72_12, q72_11, q72_10, q72_9, q72_8, q72_7, q72_6, q72_5, q72_4, q72_3, q72_2, q72_1, pairsOk, fpApart, meets]
  by_cases o26 : x.op = 26
  · simp [o26, hcl, q72_25, q72_24, q72_23, q72_22, q72_21, q72_20, q72_19, q72_18, q72_17, q72_16, q72_15, q72_14, q72_13, q72_12, q72_11, q72_10, q72_9, q72_8, q72_7, q72_6, q72_5, q72_4, q72_3, q72_2, q72_1, pairsOk, fpApart, meets]
  by_cases o28 : x.op = 28
  · by_cases h1 : 0 ≤ x.n
    · by_cases h2 : x.n ≤ 5 <;> simp [o28, h1, h2, hpl, q72_25, q72_24, q72_23, q72_22, q72_21, q72_20, q72_19, q72_18, q72_17, q72_16, q72_15, q72_14, q72_13, q72_12, q72_11, q72_10, q72_9, q72_8, q72_7, q72_6, q72_5, q72_4, q72_3, q72_2, q72_1, pairsOk, fpApart, meets]
    · simp [o28, h1, q72_25, q72_24, q72_23, q72_22, q72_21, q72_20, q72_19, q72_18, q72_17, q72_16, q72_15, q72_14, q72_13, q72_12, q72_11, q72_10, q72_9, q72_8, q72_7, q72_6, q72_5, q72_4, q72_3, q72_2, q72_1, pairsOk, fpApart, meets]
  by_cases o27 : x.op = 27
  · simp [o27, hpl, q72_25, q72_24, q72_23, q72_22, q72_21, q72_20, q72_19, q72_18, q72_17, q72_16, q72_15, q72_14, q72_13, q72_12, q72_11, q72_10, q72_9, q72_8, q72_7, q72_6, q72_5, q72_4, q72_3, q72_2, q72_1, pairsOk, fpApart, meets]
  by_cases o29 : x.op = 29
  · by_cases h1 : x.n = 0
    · by_cases h2 : x.b = -1
      · simp [o29, h1, h2, hpl, q72_25, q72_24, q72_23, q72_22, q72_21, q72_20, q72_19, q72_18, q72_17, q72_16, q72_15, q72_14, q72_13, q72_12, q72_11, q72_10, q72_9, q72_8, q72_7, q72_6, q72_5, q72_4, q72_3, q72_2, q72_1, pairsOk, fpApart, meets]
      · by_cases h3 : kb = 3 <;> simp [o29, h1, h2, h3, hpl, hkb, q72_25, q72_24, q72_23, q72_22, q72_21, q72_20, q72_19, q72_18, q72_17, q72_16, q72_15, q72_14, q72_13, q72_12, q72_11, q72_10, q72_9, q72_8, q72_7, q72_6, q72_5, q72_4, q72_3, q72_2, q72_1, pairsOk, fpApart, meets]
    · by_cases h1' : x.n = 1
      · by_cases h2 : x.b = -1
        · simp [o29, h1', h2, hpl, q72_25, q72_24, q72_23, q72_22, q72_21, q72_20, q72_19, q72_18, q72_17, q72_16, q72_15, q72_14, q72_13, q72_12, q72_11, q72_10, q72_9, q72_8, q72_7, q72_6, q72_5, q72_4, q72_3, q72_2, q72_1, pairsOk, fpApart, meets]
        · by_cases h3 : kb = 3 <;> simp [o29, h1', h2, h3, hpl, hkb, q72_25, q72_24, q72_23, q72_22, q72_21, q72_20, q72_19, q72_18, q72_17, q72_16, q72_15, q72_14, q72_13, q72_12, q72_11, q72_10, q72_9, q72_8, q72_7, q72_6, q72_5, q72_4, q72_3, q72_2, q72_1, pairsOk, fpApart, meets]
      · simp [o29, h1, h1', q72_25, q72_24, q72_23, q72_22, q72_21, q72_20, q72_19, q72_18, q72_17, q72_16, q72_15, q72_14, q72_13, q72_12, q72_11, q72_10, q72_9, q72_8, q72_7, q72_6, q72_5, q72_4, q72_3, q72_2, q72_1, pairsOk, fpApart, meets]
  by_cases o30 : x.op = 30
  · by_cases h1 : f.ret = 0
    · simp [o30, h1, q72_25, q72_24, q72_23, q72_22, q72_21, q72_20, q72_19, q72_18, q72_17, q72_16, q72_15, q72_14, q72_13, q72_12, q72_11, q72_10, q72_9, q72_8, q72_7, q72_6, q72_5, q72_4, q72_3, q72_2, q72_1, pairsOk, fpApart, meets]
    · by_cases h2 : x.a = -1 <;> simp [o30, h1, h2, hka, q72_25, q72_24, q72_23, q72_22, q72_21, q72_20, q72_19, q72_18, q72_17, q72_16, q72_15, q72_14, q72_13, q72_12, q72_11, q72_10, q72_9, q72_8, q72_7, q72_6, q72_5, q72_4, q72_3, q72_2, q72_1, pairsOk, fpApart, meets]
  · have e : (match x.op with
      | 1 => decide (kd = 2) || (decide (-2147483648 ≤ x.n) && decide (x.n < 2147483648))
      | 4 => decide (kd = ka)
      | 5 => decide (0 < b) && decide (kd = d) && decide (ka = a) && decide (kb = b)
      | 6 => decide (0 < a) && decide (b = 0) && decide (kd = d) && decide (ka = a)
      | 12 => ty
      | 21 => ty
      | 22 => ty
      | 16 => decide (0 ≤ x.n)
      | 17 => decide (0 ≤ x.n)
      | 23 => cl
      | 24 => cl
      | 25 => cl
      | 26 => cl
      | 27 => pl
      | 28 => decide (0 ≤ x.n) && decide (x.n ≤ 5) && pl
      | 29 => (decide (x.n = 0) || decide (x.n = 1)) && (decide (x.b = -1) || decide (kb = 3)) && pl
      | 30 => if f.ret = 0 then decide (x.a = -1) else !decide (x.a = -1) && decide (ka = f.ret)
      | _ => true) = true := by
      split <;> first | rfl | contradiction
    rw [show _ = true from e]
    simp [o1, o4, o5, o6, o12, o21, o22, o16, o17, o23, o24, o25, o26, o27, o28, o29, o30, q72_25, q72_24, q72_23, q72_22, q72_21, q72_20, q72_19, q72_18, q72_17, q72_16, q72_15, q72_14, q72_13, q72_12, q72_11, q72_10, q72_9, q72_8, q72_7, q72_6, q72_5, q72_4, q72_3, q72_2, q72_1, pairsOk, fpApart, meets]
end Go.Vm
namespace Go.Vm
open Cel
attribute [local simp] callAny callP heapOf_nil fpCall
def signB (c : UInt8) : Bool := decide (c = 45) || decide (c = 63) || decide (c = 42) || decide (c = 61) || decide (c = 110) || decide (c = 49) || decide (c = 50) || decide (c = 51)
theorem signB_or {c : UInt8} (h : signB c = true) : c = 45 ∨ c = 63 ∨ c = 42 ∨ c = 61 ∨ c = 110 ∨ c = 49 ∨ c = 50 ∨ c = 51 := by
  simp only [signB, Bool.or_eq_true, decide_eq_true_eq] at h
  simp only [or_assoc] at h
  exact h
@[simp] theorem fz_tup3' (h : Heap) (a b c : Int) : fz h fuelF (.tup [.int .i64 a, .int .i64 b, .int .i64 c]) = some ⟨.tup [.int .i64 a, .int .i64 b, .int .i64 c], true, []⟩ := rfl
theorem row_signs : ((List.range 33).all fun i => decide ((rowM (1 + i)).length = 4) && (rowM (1 + i)).all signB) = true := by kernel_rfl
theorem row_ok {op : Int} (h1 : 1 ≤ op) (h2 : op ≤ 33) : (rowM op).length = 4 ∧ (rowM op).all signB = true := by
  have := range_all row_signs (op - 1).toNat (by omega)
  have e : (1 + ((op - 1).toNat : Int)) = op := by omega
  simp only [e, Bool.and_eq_true, decide_eq_true_eq] at this
  exact this
theorem one_field (f : Fn) (x : Ins) (w : List UInt8) (i : Nat) (r : Int) (c : UInt8) (hi : i < 4) (hw : w[i]? = some c) (hc : signB c = true) (hr : [x.d, x.a, x.b, x.c][i]? = some r) :
    q72_L31 Q0 Q1 (.str w) (.ls 2 1 1 0 4) (.int .i64 i) (H3 f x) = if wantM (regK (lst f.regs) r) c then q72_L31 Q0 Q1 (.str w) (.ls 2 1 1 0 4) (.int .i64 (i + 1 : Nat)) (H3 f x) else some ⟨.bool false, [], true, [], []⟩ := by
  have hn : ((i : Int) < (4 : Int)) := by omega
  have hw2 : IntKind.wrap .i64 ((i : Int) + 1) = ((i + 1 : Nat) : Int) := by rw [wrap_i64] <;> omega
  have hs := s_wanted f r c (signB_or hc)
  have k1 : evIxs 1 (.ls 2 1 1 0 4) (.int .i64 i) = some (.lp 2 1 i 0) := by simp [evIxs, hi, hn]
  have k2 : evLd false 1 (.lp 2 1 i 0) (H3 f x) = some (.int .i64 r) := by
    match i, hi, hr with
    | 0, _, hr => simp at hr; simp [hr]
    | 1, _, hr => simp at hr; simp [hr]
    | 2, _, hr => simp at hr; simp [hr]
    | 3, _, hr => simp at hr; simp [hr]
  have k3 := ixstr hw
  rw [q72_L31_go]
  generalize wantM (regK (lst f.regs) r) c = T at *
  simp only [q72_34, evBin_lss, ob_some, hn, decide_true, cnd_t]
  generalize hZ : q72_L31 Q0 Q1 (.str w) (.ls 2 1 1 0 4) (.int .i64 (i + 1 : Nat)) (H3 f x) = Z
  have e32 : q72_32 Q0 Q1 (.str w) (.ls 2 1 1 0 4) (.int .i64 i) (H3 f x) = Z := by
    rw [← hZ]; simp only [q72_32, evBin_add, ob_some, hw2]
  have e5 : evLd true 5 Q0 (H3 f x) = some (.agg (enc f)) := by simp
  simp only [q72_33, k1, k2, k3, e5, ob_some]
  cases T with
  | true => simp [hs, e32, pairsOk]
  | false => simp [hs, pairsOk]
set_option maxHeartbeats 1000000 in
theorem s_one (f : Fn) (x : Ins) (hn : -9223372036854775808 ≤ x.n ∧ x.n < 9223372036854775808) (hs : x.s.length ≤ 9223372036854775807) (hl : (lst x.args).length ≤ 9223372036854775807) :
    (callW E).p 64 [.agg (enc f), .agg (enc x)] = some ⟨.bool (oneM f x), [], true, [], []⟩ := by
  rw [x_q72]
  have hrow := s_row x.op
  by_cases h1 : 1 ≤ x.op
  · by_cases h2 : x.op ≤ 33
    · obtain ⟨hlen, hsg⟩ := row_ok h1 h2
      rw [oneM]
      simp only [h1, h2, decide_true, Bool.true_and]
      generalize rowM x.op = w at *
      match w, hlen, hsg with
      | [c0, c1, c2, c3], _, hsg =>
        simp only [List.all_cons, List.all_nil, Bool.and_true, Bool.and_eq_true] at hsg
        have e0 : q72_41 (.agg (enc f)) (.agg (enc x)) [⟨0, .dead⟩, ⟨0, .dead⟩, ⟨0, .dead⟩] = q72_L31 Q0 Q1 (.str [c0, c1, c2, c3]) (.ls 2 1 1 0 4) (.int .i64 0) (H3 f x) := by
          simp [q72_41, q72_40, q72_39, q72_38, q72_36, hrow, buildSC, fillRows]
        have s0 := one_field f x [c0, c1, c2, c3] 0 x.d c0 (by omega) rfl hsg.1 rfl
        have s1 := one_field f x [c0, c1, c2, c3] 1 x.a c1 (by omega) rfl hsg.2.1 rfl
        have s2 := one_field f x [c0, c1, c2, c3] 2 x.b c2 (by omega) rfl hsg.2.2.1 rfl
        have s3 := one_field f x [c0, c1, c2, c3] 3 x.c c3 (by omega) rfl hsg.2.2.2 rfl
        simp only [Int.ofNat_zero] at s0
        have e4 : q72_L31 Q0 Q1 (.str [c0, c1, c2, c3]) (.ls 2 1 1 0 4) (.int .i64 (3 + 1 : Nat)) (H3 f x) = some ⟨.bool (switchM f x), [], true, [], []⟩ := by
          have h25 := one_25 f x hs hl (.int .i64 x.op) rfl
          show q72_L31 Q0 Q1 (.str [c0, c1, c2, c3]) (.ls 2 1 1 0 4) (.int .i64 4) (H3 f x) = _
          rw [q72_L31_go]
          by_cases hk0 : 0 ≤ x.n
          · by_cases hk1 : x.n < 1000
            · have hK := s_RKinds x.n hk0 hk1
              simp [q72_34, q72_30, q72_29, hk0, hk1, hK, q72_27]
              exact h25
            · have : numK x.n = (0, 0, 0) := numK_out (by omega)
              rw [this] at h25
              simp [q72_34, q72_30, q72_29, hk0, hk1, q72_27]
              exact h25
          · have : numK x.n = (0, 0, 0) := numK_out (by omega)
            rw [this] at h25
            simp [q72_34, q72_30, q72_29, hk0, q72_27]
            exact h25
        rw [e0, s0]
        simp only [List.getD_cons_zero, List.getD_cons_succ]
        cases wantM (regK (lst f.regs) x.d) c0 with
        | false => simp
        | true =>
          rw [if_pos rfl, s1]
          cases wantM (regK (lst f.regs) x.a) c1 with
          | false => simp
          | true =>
            rw [if_pos rfl, s2]
            cases wantM (regK (lst f.regs) x.b) c2 with
            | false => simp
            | true =>
              rw [if_pos rfl, s3]
              cases wantM (regK (lst f.regs) x.c) c3 with
              | false => simp
              | true => rw [if_pos rfl, e4]; simp
    · have : rowM x.op = [] := by rw [rowM, if_pos (by omega)]
      rw [this] at hrow
      simp [q72_41, q72_40, q72_39, hrow, oneM, h2]
  · have : rowM x.op = [] := by rw [rowM, if_pos (by omega)]
    rw [this] at hrow
    simp [q72_41, q72_40, q72_39, hrow, oneM, h1]
end Go.Vm
