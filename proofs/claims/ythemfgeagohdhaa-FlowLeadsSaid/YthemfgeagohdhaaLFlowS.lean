/- flow.Next, flow.Caught. -/
import Derived.Test.YthemfgeagohdhaaLFlowM
import Derived.Test.YthemfgeagohdhaaLInsT
import Derived.Test.YthemfgeagohdhaaLCont
namespace Go.Vm
open Cel
attribute [local simp] callAny callP heapOf_nil

theorem contains1 (a b : Int) : (callW E).p 46 [.rs 1 [[.int .i64 a]], .int .i64 b] = some ⟨.bool ([a].contains b), [], true, [], []⟩ := by
  have := s_Contains (some [a]) b (by simp)
  exact this

theorem s_Next (f : Fn) (i : Int) (hl : (lst f.code).length ≤ 9223372036854775807) : (callW E).p 81 [.agg (enc f), .int .i64 i] = some (exO (nz (nextL f i))) := by
  rw [x_flow_Next]
  by_cases h0 : i < 0
  · simp [flow_Next_1, flow_Next_2, flow_Next_3, flow_Next_4, flow_Next_5, flow_Next_6, flow_Next_7, h0, nextL, nz]; rfl
  by_cases h1 : ((lst f.code).length : Int) ≤ i
  · simp [flow_Next_1, flow_Next_2, flow_Next_3, flow_Next_4, flow_Next_5, flow_Next_6, flow_Next_7, h0, h1, nextL, nz]; rfl
  have g0 : 0 ≤ i := by omega
  have hx := insAt_lt (f := f) (i := i.toNat) (by omega)
  have k1 := ixs_insI (o := f.code) g0 hx .i64
  have hw := wrap_next g0 (by omega) hl
  have hn : nextL f i = nextI (insAt f i.toNat) i := by rw [nextL, if_neg (by omega)]
  rw [hn]
  generalize insAt f i.toNat = x at *
  have e : flow_Next_7 (.agg (enc f)) (.int .i64 i) [⟨0, .dead⟩, ⟨0, .dead⟩, ⟨0, .dead⟩, ⟨0, .dead⟩, ⟨0, .dead⟩, ⟨0, .dead⟩] = flow_Next_3 (.int .i64 i) (.lp 1 1 0 0) .nils [⟨1, .arr true false 5 [enc f]⟩, ⟨1, .arr true false 9 [enc x]⟩, ⟨0, .dead⟩, ⟨0, .dead⟩, ⟨0, .dead⟩, ⟨0, .dead⟩] := by
    simp [flow_Next_7, flow_Next_6, flow_Next_5, flow_Next_4, h0, h1, k1]
  rw [e, nextI]
  cases he : ends x.op with
  | true =>
    cases hd : leads x.op with
    | false => simp [flow_Next_3, flow_Next_2, flow_Next_1, he, hd, nz]; rfl
    | true =>
      have := s_Contains none x.t (by simp)
      simp [flow_Next_3, flow_Next_2, flow_Next_1, he, hd, nz, slA] at this ⊢
      simp [this, buildSC, fillRows, evApp, addN]
      exact expo1_int1 (by simp)
  | false =>
    cases hd : leads x.op with
    | false =>
      simp [flow_Next_3, flow_Next_2, flow_Next_1, he, hd, hw, buildSC, fillRows, evApp]
      exact expo1_int1 (by simp)
    | true =>
      have hz : fz [⟨1, .arr true false 5 [enc f]⟩, ⟨1, .arr true false 9 [enc x]⟩, ⟨1, .arr false false 1 [[.int .i64 (i + 1)]]⟩, ⟨1, .arr false false 1 [[.int .i64 (i + 1)]]⟩, ⟨0, .dead⟩, ⟨0, .dead⟩] fuelF (.ls 3 1 1 0 1) = some ⟨.rs 1 [[.int .i64 (i + 1)]], true, [3]⟩ := by
        rw [fz_ls]; rfl
      generalize hxt : x.t = t at *
      by_cases hc : i + 1 = t
      · subst hc
        simp [flow_Next_3, flow_Next_2, flow_Next_1, he, hd, hw, buildSC, fillRows, evApp, hz, contains1, addN, hxt]
        exact expo1_int1 (by simp)
      · have hc' : ¬ t = i + 1 := fun h => hc h.symm
        simp [flow_Next_3, flow_Next_2, flow_Next_1, he, hd, hw, buildSC, fillRows, evApp, hz, contains1, hc, hc', addN, hxt]
        exact expo1_int2 (by simp)
theorem Caught_loop (f : Fn) (i : Int) (hl : (lst f.rows).length ≤ 274877906944) : ∀ (d k g : Nat) (L : List Int) (o1 o2 : AO), k + d = (lst f.rows).length → L.length ≤ k →
    flow_Caught_L2 (.int .i64 i) (slotV Int 3 g L) (slA f.rows) (.int .i64 (lst f.rows).length) (.int .i64 k) [⟨1, .arr true false 5 [enc f]⟩, o1, o2, slotO g D0 L] = some (exO (nz (caughtG i ((lst f.rows).drop k) L))) := by
  intro d
  induction d with
  | zero =>
    intro k g L o1 o2 hk _
    have e1 : (lst f.rows).drop k = [] := List.drop_eq_nil_of_le (by omega)
    have hn : ¬ ((k : Int) < ((lst f.rows).length : Int)) := by omega
    have hx := expo1_slotX (H := [⟨1, .arr true false 5 [enc f]⟩, o1, o2, slotO g D0 L]) (j := 3) (g := g) (o := D0) (L := L) rfl
    rw [flow_Caught_L2_go, e1]
    simp [flow_Caught_11, flow_Caught_10, flow_Caught_1, hn, caughtG, hx]
  | succ d ih =>
    intro k g L o1 o2 hk hL
    have hlt : k < (lst f.rows).length := by omega
    have hc : ((k : Int) < ((lst f.rows).length : Int)) := by omega
    have k1 := ixs_row (o := f.rows) (i := k) (List.getElem?_eq_getElem hlt) .i64
    rw [flow_Caught_L2_go, List.drop_eq_getElem_cons hlt]
    generalize hr : (lst f.rows)[k] = r at *
    have ih0 := fun g L o1 o2 hL => ih (k + 1) g L o1 o2 (by omega) hL
    push_cast at ih0
    have hw := wrap_up hlt (by omega)
    have e11 : flow_Caught_11 (.int .i64 i) (slotV Int 3 g L) (slA f.rows) (.int .i64 (lst f.rows).length) (.int .i64 k) [⟨1, .arr true false 5 [enc f]⟩, o1, o2, slotO g D0 L] =
        flow_Caught_6 (.int .i64 i) (slotV Int 3 g L) (.lp 1 (o1.gen + 1) 0 0) (slA f.rows) (.int .i64 (lst f.rows).length) (.int .i64 k) [⟨1, .arr true false 5 [enc f]⟩, ⟨o1.gen + 1, .arr true false 4 [enc r]⟩, o2, slotO g D0 L] := by
      simp [flow_Caught_11, flow_Caught_10, flow_Caught_7, hc, k1]
    rw [e11]
    generalize (o1.gen + 1) = g1
    by_cases h1 : i < r.f
    · have : ¬ (r.f ≤ i ∧ i < r.t) := by omega
      simp [flow_Caught_6, flow_Caught_3, h1, hw, caughtG, this, ih0 g L _ _ (by omega)]
    by_cases h2 : r.t ≤ i
    · have : ¬ (r.f ≤ i ∧ i < r.t) := by omega
      simp [flow_Caught_6, flow_Caught_3, h1, h2, hw, caughtG, this, ih0 g L _ _ (by omega)]
    have hin : r.f ≤ i ∧ i < r.t := by omega
    rw [caughtG, if_pos hin]
    have hz : ∀ o2, fz [⟨1, .arr true false 5 [enc f]⟩, ⟨g1, .arr true false 4 [enc r]⟩, o2, slotO g D0 L] fuelF (slotV Int 3 g L) = some ⟨slA (nz L), true, ids1 (slotV Int 3 g L)⟩ := fun o2 => fz_slotI rfl
    have hct := s_Contains (nz L) r.at_ (by rw [lst_nz]; omega)
    rw [lst_nz] at hct
    have tail : ∀ g L o2, L.length ≤ k + 1 → flow_Caught_4 (.int .i64 i) (slotV Int 3 g L) (.lp 1 g1 0 0) (slA f.rows) (.int .i64 (lst f.rows).length) (.int .i64 k) [⟨1, .arr true false 5 [enc f]⟩, ⟨g1, .arr true false 4 [enc r]⟩, o2, slotO g D0 L] =
        some (exO (nz (if r.c = [] then L else caughtG i ((lst f.rows).drop (k + 1)) L))) := by
      intro g L o2 hL
      have hx := expo1_slotX (H := [⟨1, .arr true false 5 [enc f]⟩, ⟨g1, .arr true false 4 [enc r]⟩, o2, slotO g D0 L]) (j := 3) (g := g) (o := D0) (L := L) rfl
      by_cases hcl : r.c = []
      · simp [flow_Caught_4, flow_Caught_1, hcl, hx]
      · simp [flow_Caught_4, flow_Caught_3, hcl, hw, ih0 g L _ _ hL]
    unfold addN
    cases hb : L.contains r.at_ with
    | true =>
      rw [hb] at hct
      rw [if_pos rfl]
      have := tail g L o2 (by omega)
      simp [flow_Caught_6, flow_Caught_5, h1, h2, hz, hct, this]
    | false =>
      rw [hb] at hct
      rw [if_neg Bool.false_ne_true]
      obtain ⟨g', ha⟩ := app_int (H := [⟨1, .arr true false 5 [enc f]⟩, ⟨g1, .arr true false 4 [enc r]⟩, ⟨o2.gen + 1, .arr false false 1 [[.int .i64 r.at_]]⟩, slotO g D0 L]) (fb := 0) (j := 3) (g := g) (o := D0) (y := .ls 2 (o2.gen + 1) 1 0 1) (L := L) (n := r.at_) (by simp) rfl (by omega)
      have ha' : evApp 0 (some 3) 1 8 (slotV Int 3 g L) (.ls 2 (o2.gen + 1) 1 0 1) [⟨1, .arr true false 5 [enc f]⟩, ⟨g1, .arr true false 4 [enc r]⟩, ⟨o2.gen + 1, .arr false false 1 [[.int .i64 r.at_]]⟩, slotO g D0 L] = some (slotV Int 3 g' (L ++ [r.at_]), [⟨1, .arr true false 5 [enc f]⟩, ⟨g1, .arr true false 4 [enc r]⟩, ⟨o2.gen + 1, .arr false false 1 [[.int .i64 r.at_]]⟩, slotO g' D0 (L ++ [r.at_])]) := ha
      have := tail g' (L ++ [r.at_]) ⟨o2.gen + 1, .arr false false 1 [[.int .i64 r.at_]]⟩ (by simp; omega)
      simp [flow_Caught_6, flow_Caught_5, h1, h2, hz, hct, buildSC, fillRows, ha', this]

theorem s_Caught (f : Fn) (i : Int) (hl : (lst f.rows).length ≤ 274877906944) : (callW E).p 79 [.agg (enc f), .int .i64 i] = some (exO (nz (caughtL f i))) := by
  rw [x_flow_Caught]
  by_cases h0 : i < 0
  · simp [flow_Caught_17, flow_Caught_16, h0, caughtL, nz]; rfl
  by_cases h1 : ((lst f.code).length : Int) ≤ i
  · simp [flow_Caught_17, flow_Caught_16, h0, h1, caughtL, nz]; rfl
  have g0 : 0 ≤ i := by omega
  have hx := insAt_lt (f := f) (i := i.toNat) (by omega)
  have k1 := ixs_insI (o := f.code) g0 hx .i64
  have hn : caughtL f i = if throws (insAt f i.toNat).op then caughtG i (lst f.rows) [] else [] := by rw [caughtL, if_neg (by omega)]
  rw [hn]
  generalize insAt f i.toNat = x at *
  have lp := Caught_loop f i hl _ 0 0 [] D0 D0 (Nat.zero_add _) (Nat.zero_le _)
  simp only [slotV_nil, slotO_nil, List.drop_zero, Int.ofNat_zero] at lp
  cases ht : throws x.op with
  | false => simp [flow_Caught_17, flow_Caught_16, h0, h1, k1, ht, nz]; rfl
  | true => simp [flow_Caught_17, flow_Caught_16, flow_Caught_15, flow_Caught_13, h0, h1, k1, ht, lp]
end Go.Vm
