/- Whether a function is well formed: 'Check': its lists of registers, parameters, rows. -/
import Derived.Test.YtfmmcafccijnhaaCRight2
namespace Go.Vm
open Cel
attribute [local simp] callAny callP heapOf_nil

theorem slc_to {α : Type} [Cel α] (o : Option (List α)) (i : Nat) (h : i ≤ (lst o).length) (k : IntKind) : evSlcO (es α) (slA o) none (some (.int k i)) = some (slA (o.map (List.take i))) := by
  have h2 : (0 : Int) ≤ (i : Int) ∧ (i : Int) ≤ ((lst o).length : Int) := by omega
  cases o with
  | none =>
    have : i = 0 := by simpa using h
    subst this
    simp [evSlcO, slA, evSlc, optIxv, asNat]
  | some L =>
    simp only [lst_some] at h2
    simp [evSlcO, slA, evSlc, optIxv, asNat, h2, List.map_take]

theorem Index_loop (o : Option (List Int)) (r : Int) (hl : (lst o).length ≤ 9223372036854775807) (h : Heap) : ∀ (d i : Nat), i + d = (lst o).length →
    ∃ k : Int, slices_Index_int_int_L2 (slA o) (.int .i64 r) (.int .i64 (lst o).length) (.int .i64 i) h = some ⟨.int .i64 k, [], true, [], []⟩ ∧ (0 ≤ k ↔ r ∈ (lst o).drop i) := by
  intro d
  induction d with
  | zero =>
    intro i hi
    have e1 : (lst o).drop i = [] := List.drop_eq_nil_of_le (by omega)
    have hn : ¬ ((i : Int) < ((lst o).length : Int)) := by omega
    rw [slices_Index_int_int_L2_go, e1]
    exact ⟨-1, by simp [slices_Index_int_int_1, slices_Index_int_int_3, slices_Index_int_int_4, slices_Index_int_int_5, slices_Index_int_int_6, slices_Index_int_int_8, slices_Index_int_int_10, hn], by simp⟩
  | succ d ih =>
    intro i hi
    have hlt : i < (lst o).length := by omega
    have hn : ((i : Int) < ((lst o).length : Int)) := by omega
    have k1 := ixs_int (o := o) (i := i) (List.getElem?_eq_getElem hlt) .i64
    have hm : r ∈ (lst o).drop i ↔ r = (lst o)[i] ∨ r ∈ (lst o).drop (i + 1) := by rw [List.drop_eq_getElem_cons hlt, List.mem_cons]
    rw [slices_Index_int_int_L2_go, hm]
    by_cases he : r = (lst o)[i]
    · exact ⟨i, by simp [slices_Index_int_int_1, slices_Index_int_int_3, slices_Index_int_int_4, slices_Index_int_int_5, slices_Index_int_int_6, slices_Index_int_int_8, slices_Index_int_int_10, hn, k1, he], by simp [he]⟩
    · obtain ⟨k, h1, h2⟩ := ih (i + 1) (by omega)
      push_cast at h1
      refine ⟨k, ?_, ?_⟩
      · simp [slices_Index_int_int_1, slices_Index_int_int_3, slices_Index_int_int_4, slices_Index_int_int_5, slices_Index_int_int_6, slices_Index_int_int_8, slices_Index_int_int_10, hn, k1, he, wrap_up hlt hl, h1]
      · rw [h2]; simp [he]

@[simp] theorem s_Contains (o : Option (List Int)) (r : Int) (hl : (lst o).length ≤ 9223372036854775807) : (callW E).p 46 [slA o, .int .i64 r] = some ⟨.bool ((lst o).contains r), [], true, [], []⟩ := by
  obtain ⟨k, h1, h2⟩ := Index_loop o r hl [] (lst o).length 0 (by omega)
  simp only [Int.ofNat_zero, List.drop_zero] at h1 h2
  have hi : (callW E).p 45 [slA o, .int .i64 r] = some ⟨.int .i64 k, [], true, [], []⟩ := by
    rw [x_slices_Index_int_int, ← h1]
    simp [slices_Index_int_int_1, slices_Index_int_int_3, slices_Index_int_int_4, slices_Index_int_int_5, slices_Index_int_int_6, slices_Index_int_int_8, slices_Index_int_int_10]
  rw [x_slices_Contains_int_int]
  by_cases h0 : 0 ≤ k
  · have := h2.1 h0
    simp [slices_Contains_int_int_1, hi, h0, this]
  · have : r ∉ lst o := fun h => h0 (h2.2 h)
    simp [slices_Contains_int_int_1, hi, h0, this]

/-- The frame of 'Check'. -/
abbrev HC (f : Fn) (o1 o2 : AO) : Heap := [⟨1, .arr true false 5 [enc f]⟩, o1, o2]
abbrev E80 : Option (Ex AV) := some ⟨.int .i64 80, [], true, [], []⟩
abbrev E0 : Option (Ex AV) := some ⟨.int .i64 0, [], true, [], []⟩

theorem Check_rows (f : Fn) (o1 : AO) (n : Int) (hn : n = (lst f.code).length) (hl : (lst f.rows).length ≤ 9223372036854775807) : ∀ (d i : Nat) (o2 : AO), i + d = (lst f.rows).length →
    ins_Check_L2 P0 (.int .i64 n) (slA f.rows) (.int .i64 (lst f.rows).length) (.int .i64 i) (HC f o1 o2) = if ((lst f.rows).drop i).all (rowOk (lst f.code)) then E0 else E80 := by
  intro d
  induction d with
  | zero =>
    intro i o2 hi
    have e1 : (lst f.rows).drop i = [] := List.drop_eq_nil_of_le (by omega)
    have hn : ¬ ((i : Int) < ((lst f.rows).length : Int)) := by omega
    rw [ins_Check_L2_go, e1]
    simp [ins_Check_6, ins_Check_5, ins_Check_1, hn]
  | succ d ih =>
    intro i o2 hi
    have hlt : i < (lst f.rows).length := by omega
    have hc : ((i : Int) < ((lst f.rows).length : Int)) := by omega
    have k1 := ixs_row (o := f.rows) (i := i) (List.getElem?_eq_getElem hlt) .i64
    rw [ins_Check_L2_go]
    have e1 : ((lst f.rows).drop i).all (rowOk (lst f.code)) = (rowOk (lst f.code) (lst f.rows)[i] && ((lst f.rows).drop (i + 1)).all (rowOk (lst f.code))) := by rw [List.drop_eq_getElem_cons hlt, List.all_cons]
    rw [e1]
    generalize hr : (lst f.rows)[i] = r at *
    have ih := fun o2 => ih (i + 1) o2 (by omega)
    push_cast at ih
    subst hn
    simp only [ins_Check_6, ins_Check_5, evBin_lss, ob_some, hc, decide_true, cnd_t]
    by_cases h1 : r.f < 0
    · simp [ins_Check_4, k1, rowOk, h1]
    by_cases h2 : r.t ≤ r.f
    · simp [ins_Check_4, k1, rowOk, h1, h2]
    by_cases h3 : ((lst f.code).length : Int) < r.t
    · simp [ins_Check_4, k1, rowOk, h1, h2, h3]
    by_cases h4 : r.at_ < 0
    · simp [ins_Check_4, k1, rowOk, h1, h2, h3, h4]
    by_cases h5 : ((lst f.code).length : Int) ≤ r.at_
    · simp [ins_Check_4, k1, rowOk, h1, h2, h3, h4, h5]
    · have hx : r.at_.toNat < (lst f.code).length := by omega
      have k2 := ixs_insI (o := f.code) (n := r.at_) (by omega) (List.getElem?_eq_getElem hx) .i64
      have hg : (lst f.code).getD r.at_.toNat default = (lst f.code)[r.at_.toNat] := by rw [List.getD_eq_getElem?_getD, List.getElem?_eq_getElem hx]; rfl
      by_cases h6 : ((lst f.code)[r.at_.toNat]).op = 32
      · simp [ins_Check_4, k1, rowOk, h1, h2, h3, h4, h5, k2, h6, hx, ins_Check_3, wrap_up hlt hl, ih]
      · simp [ins_Check_4, k1, rowOk, h1, h2, h3, h4, h5, k2, h6, hx]

theorem Check_regs (f : Fn) (o1 o2 : AO) (n : Int) (hl : (lst f.regs).length ≤ 9223372036854775807) : ∀ (d i : Nat), i + d = (lst f.regs).length →
    ins_Check_L30 P0 (.int .i64 n) (slA f.regs) (.int .i64 (lst f.regs).length) (.int .i64 i) (HC f o1 o2) = if ((lst f.regs).drop i).all (fun k => decide (1 ≤ k) && decide (k ≤ 3)) then ins_Check_28 P0 (.int .i64 n) (HC f o1 o2) else E80 := by
  intro d
  induction d with
  | zero =>
    intro i hi
    have e1 : (lst f.regs).drop i = [] := List.drop_eq_nil_of_le (by omega)
    have hn : ¬ ((i : Int) < ((lst f.regs).length : Int)) := by omega
    rw [ins_Check_L30_go, e1]
    simp [ins_Check_34, ins_Check_33, hn]
  | succ d ih =>
    intro i hi
    have hlt : i < (lst f.regs).length := by omega
    have hc : ((i : Int) < ((lst f.regs).length : Int)) := by omega
    have k1 := ixs_int (o := f.regs) (i := i) (List.getElem?_eq_getElem hlt) .i64
    have e1 : ((lst f.regs).drop i).all (fun k => decide (1 ≤ k) && decide (k ≤ 3)) = ((decide (1 ≤ (lst f.regs)[i]) && decide ((lst f.regs)[i] ≤ 3)) && ((lst f.regs).drop (i + 1)).all (fun k => decide (1 ≤ k) && decide (k ≤ 3))) := by
      rw [List.drop_eq_getElem_cons hlt, List.all_cons]
    rw [ins_Check_L30_go, e1]
    generalize hr : (lst f.regs)[i] = r at *
    have ih := ih (i + 1) (by omega)
    push_cast at ih
    simp only [ins_Check_34, ins_Check_33, evBin_lss, ob_some, hc, decide_true, cnd_t]
    by_cases h1 : r < 1
    · have : ¬ 1 ≤ r := by omega
      simp [ins_Check_32, k1, h1, this]
    by_cases h2 : 3 < r
    · have : ¬ r ≤ 3 := by omega
      simp [ins_Check_32, k1, h1, h2, this]
    · have a1 : 1 ≤ r := by omega
      have a2 : r ≤ 3 := by omega
      simp [ins_Check_32, k1, h1, h2, a1, a2, ins_Check_31, wrap_up hlt hl, ih]

theorem Check_params (f : Fn) (o1 o2 : AO) (n : Int) (hl : (lst f.params).length ≤ 9223372036854775807) : ∀ (d i : Nat), i + d = (lst f.params).length →
    ins_Check_L22 P0 (.int .i64 n) (slA f.params) (.int .i64 (lst f.params).length) (.int .i64 i) (HC f o1 o2) = if parOk (lst f.regs) i ((lst f.params).take i) ((lst f.params).drop i) then ins_Check_20 P0 (.int .i64 n) (HC f o1 o2) else E80 := by
  intro d
  induction d with
  | zero =>
    intro i hi
    have e1 : (lst f.params).drop i = [] := List.drop_eq_nil_of_le (by omega)
    have hn : ¬ ((i : Int) < ((lst f.params).length : Int)) := by omega
    rw [ins_Check_L22_go, e1]
    simp [ins_Check_26, ins_Check_25, hn, parOk]
  | succ d ih =>
    intro i hi
    have hlt : i < (lst f.params).length := by omega
    have hc : ((i : Int) < ((lst f.params).length : Int)) := by omega
    have k1 := ixs_int (o := f.params) (i := i) (List.getElem?_eq_getElem hlt) .i64
    have ks := slc_to (α := Int) f.params i (by omega) .i64
    simp only [es_int] at ks
    have hlm : lst (f.params.map (List.take i)) = (lst f.params).take i := by cases f.params <;> simp
    have e1 : parOk (lst f.regs) i ((lst f.params).take i) ((lst f.params).drop i) = ((inR (lst f.regs) (lst f.params)[i] && !((lst f.params).take i).contains (lst f.params)[i] && decide (i ≤ 20)) && parOk (lst f.regs) (i + 1) ((lst f.params).take (i + 1)) ((lst f.params).drop (i + 1))) := by
      rw [List.drop_eq_getElem_cons hlt, parOk, List.take_append_getElem]
    rw [ins_Check_L22_go, e1]
    have hct : (callW E).p 46 [slA (f.params.map (List.take i)), .int .i64 (lst f.params)[i]] = some ⟨.bool (((lst f.params).take i).contains (lst f.params)[i]), [], true, [], []⟩ := by
      rw [s_Contains _ _ (by rw [hlm, List.length_take]; omega), hlm]
    generalize hr : (lst f.params)[i] = r at *
    generalize ((lst f.params).take i).contains r = B at *
    have ih := ih (i + 1) (by omega)
    push_cast at ih
    simp only [ins_Check_26, ins_Check_25, evBin_lss, ob_some, hc, decide_true, cnd_t]
    have e20 : ((20 : Int) < (i : Int)) ↔ ¬ i ≤ 20 := by omega
    by_cases h1 : r < 0
    · have : ¬ 0 ≤ r := by omega
      simp [ins_Check_24, k1, inR, h1, this]
    by_cases h2 : ((lst f.regs).length : Int) ≤ r
    · have : ¬ r < ((lst f.regs).length : Int) := by omega
      simp [ins_Check_24, k1, inR, h1, h2, this]
    · have a1 : 0 ≤ r := by omega
      have a2 : r < ((lst f.regs).length : Int) := by omega
      cases B with
      | true => simp [ins_Check_24, k1, inR, h1, h2, a1, a2, ks, hct]
      | false =>
        by_cases h3 : i ≤ 20
        · have h3' : ¬ ((20 : Int) < (i : Int)) := by omega
          simp [ins_Check_24, k1, inR, h1, h2, a1, a2, ks, hct, h3, h3', ins_Check_23, wrap_up hlt hl, ih]
        · have h3' : ((20 : Int) < (i : Int)) := by omega
          simp [ins_Check_24, k1, inR, h1, h2, a1, a2, ks, hct, h3, h3']

theorem tail_leads {R : List Int} {ret : Int} {n : Nat} {x : Ins} (h : tailOk R ret n x = true) (hl : leads x.op = true) : 0 ≤ x.t ∧ x.t < n := by
  have hne : ¬ x.op = 1 ∧ ¬ x.op = 4 ∧ ¬ x.op = 7 ∧ ¬ x.op = 30 := by
    simp only [leads, Bool.or_eq_true, decide_eq_true_eq] at hl
    omega
  simp only [tailOk, hne, if_false, hl, Bool.not_true, Bool.false_or, Bool.and_eq_true, decide_eq_true_eq] at h
  exact h
theorem right_leads {f : Fn} {x : Ins} (h : rightM f x = true) (hl : leads x.op = true) : 0 ≤ x.t ∧ x.t < (lst f.code).length := by
  simp only [rightM, Bool.and_eq_true] at h
  exact tail_leads h.2 hl

structure InsFit (x : Ins) : Prop where
  n : -9223372036854775808 ≤ x.n ∧ x.n < 9223372036854775808
  s : x.s.length ≤ 9223372036854775807
  a : (lst x.args).length ≤ 9223372036854775807

theorem Check_spot (f : Fn) (o2 : AO) (n : Int) (x : Ins) (i g : Nat) (v92 v93 v94 : AV) (hi : i < (lst f.code).length) (hl : (lst f.code).length ≤ 9223372036854775807) (ht : leads x.op = true → 0 ≤ x.t ∧ x.t < (lst f.code).length) :
    ins_Check_12 P0 (.int .i64 n) (.int .i64 i) (.lp 1 g 0 0) v92 v93 v94 (HC f ⟨g, .arr true false 9 [enc x]⟩ o2) =
      if spotOk (lst f.code) i x then ins_Check_11 P0 (.int .i64 n) v92 v93 v94 (HC f ⟨g, .arr true false 9 [enc x]⟩ o2) else E80 := by
  by_cases h32 : x.op = 32
  · have hld : leads x.op = false := by simp [leads, h32]
    by_cases h0 : i = 0
    · subst h0
      simp [ins_Check_12, h32, spotOk]
    · have h0' : ¬ ((i : Int) = 0) := by omega
      have hp : i - 1 < (lst f.code).length := by omega
      have k1 := ixs_ins (o := f.code) (i := i - 1) (List.getElem?_eq_getElem hp) .i64
      have hw : IntKind.wrap .i64 ((i : Int) - 1) = ((i - 1 : Nat) : Int) := by rw [wrap_i64] <;> omega
      have hg : (lst f.code).getD (i - 1) default = (lst f.code)[i - 1] := by rw [List.getD_eq_getElem?_getD, List.getElem?_eq_getElem hp]; rfl
      have hld32 : leads 32 = false := by simp [leads]
      cases he : ends ((lst f.code)[i - 1]).op with
      | true => simp [ins_Check_12, h32, spotOk, h0, h0', hw, k1, hp, he, hld32]
      | false => simp [ins_Check_12, h32, spotOk, h0, h0', hw, k1, hp, he]
  · cases hld : leads x.op with
    | false => simp [ins_Check_12, h32, spotOk, hld]
    | true =>
      obtain ⟨t0, t1⟩ := ht hld
      have hx : x.t.toNat < (lst f.code).length := by omega
      have k2 := ixs_insI (o := f.code) (n := x.t) t0 (List.getElem?_eq_getElem hx) .i64
      by_cases h6 : ((lst f.code)[x.t.toNat]).op = 32
      · simp [ins_Check_12, h32, spotOk, hld, k2, h6, hx]
      · simp [ins_Check_12, h32, spotOk, hld, k2, h6, hx]

theorem Check_code (f : Fn) (o2 : AO) (n : Int) (hfit : ∀ x ∈ lst f.code, InsFit x) (hl : (lst f.code).length ≤ 9223372036854775807) : ∀ (d i : Nat) (o1 : AO), i + d = (lst f.code).length →
    ∃ o1', ins_Check_L10 P0 (.int .i64 n) (slA f.code) (.int .i64 (lst f.code).length) (.int .i64 i) (HC f o1 o2) = if codeOk f (lst f.code) i ((lst f.code).drop i) then ins_Check_8 P0 (.int .i64 n) (HC f o1' o2) else E80 := by
  intro d
  induction d with
  | zero =>
    intro i o1 hi
    have e1 : (lst f.code).drop i = [] := List.drop_eq_nil_of_le (by omega)
    have hn : ¬ ((i : Int) < ((lst f.code).length : Int)) := by omega
    rw [ins_Check_L10_go, e1]
    exact ⟨o1, by simp [ins_Check_18, ins_Check_17, hn, codeOk]⟩
  | succ d ih =>
    intro i o1 hi
    have hlt : i < (lst f.code).length := by omega
    have hc : ((i : Int) < ((lst f.code).length : Int)) := by omega
    have k1 := ixs_ins (o := f.code) (i := i) (List.getElem?_eq_getElem hlt) .i64
    have e1 : codeOk f (lst f.code) i ((lst f.code).drop i) = (rightM f (lst f.code)[i] && spotOk (lst f.code) i (lst f.code)[i] && codeOk f (lst f.code) (i + 1) ((lst f.code).drop (i + 1))) := by
      rw [List.drop_eq_getElem_cons hlt, codeOk]
    have fit := hfit _ (List.getElem_mem hlt)
    rw [ins_Check_L10_go, e1]
    generalize hx : (lst f.code)[i] = x at *
    have hr := s_right f x fit.n fit.s fit.a
    simp only [ins_Check_18, ins_Check_17, evBin_lss, ob_some, hc, decide_true, cnd_t]
    cases hok : rightM f x with
    | false =>
      rw [hok] at hr
      exact ⟨o1, by simp [ins_Check_14, ins_Check_13, k1, hr]⟩
    | true =>
      rw [hok] at hr
      have e13 : ∀ K : Option (Ex AV), ins_Check_14 P0 (.int .i64 n) (slA f.code) (.int .i64 (lst f.code).length) (.int .i64 i) (HC f o1 o2) = ins_Check_12 P0 (.int .i64 n) (.int .i64 i) (.lp 1 (o1.gen + 1) 0 0) (slA f.code) (.int .i64 (lst f.code).length) (.int .i64 i) (HC f ⟨o1.gen + 1, .arr true false 9 [enc x]⟩ o2) := by
        intro _
        simp [ins_Check_14, ins_Check_13, k1, hr]
      rw [e13 none]
      rw [Check_spot f o2 n x i _ _ _ _ hlt hl (fun h => right_leads hok h)]
      cases hs : spotOk (lst f.code) i x with
      | false => exact ⟨o1, by simp⟩
      | true =>
        obtain ⟨o1', ih⟩ := ih (i + 1) ⟨o1.gen + 1, .arr true false 9 [enc x]⟩ (by omega)
        push_cast at ih
        exact ⟨o1', by simp [ins_Check_11, wrap_up hlt hl, ih]⟩

/-- A function's parts, as 'Check' wants them to be. -/
structure FnFit (f : Fn) : Prop where
  ins : ∀ x ∈ lst f.code, InsFit x
  code : (lst f.code).length ≤ 9223372036854775807
  regs : (lst f.regs).length ≤ 9223372036854775807
  params : (lst f.params).length ≤ 9223372036854775807
  rows : (lst f.rows).length ≤ 9223372036854775807

theorem Check_all (f : Fn) (hf : FnFit f) (o1 o2 : AO) (n : Int) (hn : n = (lst f.code).length) :
    ins_Check_36 P0 (.int .i64 n) (HC f o1 o2) = if (lst f.regs).all (fun k => decide (1 ≤ k) && decide (k ≤ 3)) && parOk (lst f.regs) 0 [] (lst f.params) && codeOk f (lst f.code) 0 (lst f.code) && (lst f.rows).all (rowOk (lst f.code)) then E0 else E80 := by
  have a1 := Check_regs f o1 o2 n hf.regs _ 0 (Nat.zero_add _)
  have a2 := Check_params f o1 o2 n hf.params _ 0 (Nat.zero_add _)
  obtain ⟨o1', a3⟩ := Check_code f o2 n hf.ins hf.code _ 0 o1 (Nat.zero_add _)
  have a4 := Check_rows f o1' n hn hf.rows _ 0 o2 (Nat.zero_add _)
  simp only [Int.ofNat_zero, List.drop_zero, List.take_zero] at a1 a2 a3 a4
  have e1 : ins_Check_36 P0 (.int .i64 n) (HC f o1 o2) = ins_Check_L30 P0 (.int .i64 n) (slA f.regs) (.int .i64 (lst f.regs).length) (.int .i64 0) (HC f o1 o2) := by simp [ins_Check_36]
  have e2 : ins_Check_28 P0 (.int .i64 n) (HC f o1 o2) = ins_Check_L22 P0 (.int .i64 n) (slA f.params) (.int .i64 (lst f.params).length) (.int .i64 0) (HC f o1 o2) := by simp [ins_Check_28]
  have e3 : ins_Check_20 P0 (.int .i64 n) (HC f o1 o2) = ins_Check_L10 P0 (.int .i64 n) (slA f.code) (.int .i64 (lst f.code).length) (.int .i64 0) (HC f o1 o2) := by simp [ins_Check_20]
  have e4 : ins_Check_8 P0 (.int .i64 n) (HC f o1' o2) = ins_Check_L2 P0 (.int .i64 n) (slA f.rows) (.int .i64 (lst f.rows).length) (.int .i64 0) (HC f o1' o2) := by simp [ins_Check_8]
  rw [e1, a1, e2, a2, e3, a3, e4, a4]
  generalize (lst f.regs).all (fun k => decide (1 ≤ k) && decide (k ≤ 3)) = b1
  generalize parOk (lst f.regs) 0 [] (lst f.params) = b2
  generalize codeOk f (lst f.code) 0 (lst f.code) = b3
  generalize (lst f.rows).all (rowOk (lst f.code)) = b4
  cases b1 <;> cases b2 <;> cases b3 <;> cases b4 <;> rfl

set_option maxHeartbeats 1000000 in
theorem s_Check (f : Fn) (hf : FnFit f) : (callW E).p 8 [.agg (enc f)] = some ⟨.int .i64 (if wf f then 0 else 80), [], true, [], []⟩ := by
  rw [x_ins_Check]
  have hall := Check_all f hf ⟨0, .dead⟩ ⟨0, .dead⟩ _ rfl
  by_cases h1 : (lst f.code).length < 1
  · have h1' : ((lst f.code).length : Int) < 1 := by omega
    have : ¬ 1 ≤ (lst f.code).length := by omega
    simp [ins_Check_40, ins_Check_39, ins_Check_38, h1', wf, this]
  have h1' : ¬ ((lst f.code).length : Int) < 1 := by omega
  have g1 : 1 ≤ (lst f.code).length := by omega
  by_cases h2 : 20000 < (lst f.code).length
  · have h2' : (20000 : Int) < ((lst f.code).length : Int) := by omega
    have : ¬ (lst f.code).length ≤ 20000 := by omega
    simp [ins_Check_40, ins_Check_39, ins_Check_38, h1', h2', wf, this]
  have h2' : ¬ (20000 : Int) < ((lst f.code).length : Int) := by omega
  have g2 : (lst f.code).length ≤ 20000 := by omega
  by_cases h3 : 20000 < (lst f.regs).length
  · have h3' : (20000 : Int) < ((lst f.regs).length : Int) := by omega
    have : ¬ (lst f.regs).length ≤ 20000 := by omega
    simp [ins_Check_40, ins_Check_39, ins_Check_38, h1', h2', h3', wf, this]
  have h3' : ¬ (20000 : Int) < ((lst f.regs).length : Int) := by omega
  have g3 : (lst f.regs).length ≤ 20000 := by omega
  by_cases h4 : f.ret < 0
  · have : ¬ 0 ≤ f.ret := by omega
    simp [ins_Check_40, ins_Check_39, ins_Check_38, h1', h2', h3', h4, wf, this]
  have g4 : 0 ≤ f.ret := by omega
  by_cases h5 : 3 < f.ret
  · have : ¬ f.ret ≤ 3 := by omega
    simp [ins_Check_40, ins_Check_39, ins_Check_38, h1', h2', h3', h4, h5, wf, this]
  have g5 : f.ret ≤ 3 := by omega
  have hp : (lst f.code).length - 1 < (lst f.code).length := by omega
  have k1 := ixs_ins (o := f.code) (i := (lst f.code).length - 1) (List.getElem?_eq_getElem hp) .i64
  have hw : IntKind.wrap .i64 (((lst f.code).length : Int) - 1) = (((lst f.code).length - 1 : Nat) : Int) := by rw [wrap_i64] <;> omega
  have hg : (lst f.code).getD ((lst f.code).length - 1) default = (lst f.code)[(lst f.code).length - 1] := by rw [List.getD_eq_getElem?_getD, List.getElem?_eq_getElem hp]; rfl
  cases he : ends ((lst f.code)[(lst f.code).length - 1]).op with
  | false =>
    have hwf : wf f = false := by rw [wf, hg, he]; simp
    rw [hwf]
    simp [ins_Check_40, ins_Check_39, ins_Check_38, h1', h2', h3', h4, h5, hw, k1, he]
  | true =>
    have hwf : wf f = ((lst f.regs).all (fun k => decide (1 ≤ k) && decide (k ≤ 3)) && parOk (lst f.regs) 0 [] (lst f.params) && codeOk f (lst f.code) 0 (lst f.code) && (lst f.rows).all (rowOk (lst f.code))) := by
      rw [wf, hg, he]
      simp only [g1, g2, g3, g4, g5, decide_true, Bool.true_and]
    have e : ins_Check_40 (.agg (enc f)) [⟨0, .dead⟩, ⟨0, .dead⟩, ⟨0, .dead⟩] = ins_Check_36 P0 (.int .i64 (lst f.code).length) (HC f ⟨0, .dead⟩ ⟨0, .dead⟩) := by
      simp [ins_Check_40, ins_Check_39, ins_Check_38, h1', h2', h3', h4, h5, hw, k1, he]
    rw [e, hall, hwf]
    split <;> rfl
end Go.Vm
