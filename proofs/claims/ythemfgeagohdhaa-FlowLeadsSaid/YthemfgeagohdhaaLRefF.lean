/- The document's Next, Caught. -/
import Derived.Test.YthemfgeagohdhaaLFlowM
import Derived.Test.YthemfgeagohdhaaLRefE
import Derived.Test.YthemfgeagohdhaaLRefB1
namespace Go.Vm
open Cel
attribute [local simp] callAny callP heapOf_nil

@[simp] theorem s_RThrows (op : Int) : (callW E).p 19 [.int .i64 op] = some ⟨.bool (throws op), [], true, [], []⟩ := by
  rw [x_regletref10_Throws, regletref10_Throws_1]
  by_cases h1 : 7 ≤ op
  · by_cases h2 : op ≤ 12
    · simp [h1, h2, throws]
    · simp [h1, h2, buildSC, fillRows, freeze3 1 0 0 0, s_in3, throws]
      by_cases h3 : op = 20
      · simp [h3]
      by_cases h4 : op = 21
      · simp [h4]
      by_cases h5 : op = 31 <;> simp [h3, h4, h5]
  · have h4 : ¬ op = 20 ∧ ¬ op = 21 ∧ ¬ op = 31 := by omega
    simp [h1, buildSC, fillRows, freeze3 1 0 0 0, s_in3, throws, h4]

theorem in11_loop (n : Int) (o : Option (List Int)) (hl : (lst o).length ≤ 9223372036854775807) (h : Heap) : ∀ (d i : Nat), i + d = (lst o).length →
    regletref11_in_L2 (slA o) (.int .i64 n) (.int .i64 i) h = some ⟨.bool (((lst o).drop i).contains n), [], true, [], []⟩ := by
  intro d
  induction d with
  | zero =>
    intro i hi
    have e1 : (lst o).drop i = [] := List.drop_eq_nil_of_le (by omega)
    have hn : ¬ ((i : Int) < ((lst o).length : Int)) := by omega
    rw [regletref11_in_L2_go, e1]
    simp [regletref11_in_1, regletref11_in_3, regletref11_in_4, regletref11_in_5, regletref11_in_7, regletref11_in_9, hn]
  | succ d ih =>
    intro i hi
    have hlt : i < (lst o).length := by omega
    have hn : ((i : Int) < ((lst o).length : Int)) := by omega
    have k1 := ixs_int (o := o) (i := i) (List.getElem?_eq_getElem hlt) .i64
    rw [regletref11_in_L2_go, List.drop_eq_getElem_cons hlt, List.contains_cons]
    have ih := ih (i + 1) (by omega)
    push_cast at ih
    generalize (lst o)[i] = x at *
    by_cases he : x = n
    · simp [regletref11_in_1, regletref11_in_3, regletref11_in_4, regletref11_in_5, regletref11_in_7, regletref11_in_9, hn, k1, he]
    · have he' : ¬ n = x := fun h => he h.symm
      simp [regletref11_in_1, regletref11_in_3, regletref11_in_4, regletref11_in_5, regletref11_in_7, regletref11_in_9, hn, k1, he, he', wrap_up hlt hl, ih]
theorem s_in11 (n : Int) (o : Option (List Int)) (hl : (lst o).length ≤ 9223372036854775807) : (callW E).p 96 [slA o, .int .i64 n] = some ⟨.bool ((lst o).contains n), [], true, [], []⟩ := by
  have := in11_loop n o hl [] _ 0 (Nat.zero_add _)
  simp only [Int.ofNat_zero, List.drop_zero] at this
  rw [x_regletref11_in, ← this]
  simp [regletref11_in_1, regletref11_in_3, regletref11_in_4, regletref11_in_5, regletref11_in_7, regletref11_in_9]

theorem Rcontains1 (a b : Int) : (callW E).p 96 [.rs 1 [[.int .i64 a]], .int .i64 b] = some ⟨.bool ([a].contains b), [], true, [], []⟩ := by
  have := s_in11 b (some [a]) (by simp)
  exact this

theorem s_RNext (f : Fn) (i : Int) (hl : (lst f.code).length ≤ 9223372036854775807) : (callW E).p 95 [.agg (enc f), .int .i64 i] = some (exO (nz (nextL f i))) := by
  rw [x_regletref11_Next]
  by_cases h0 : i < 0
  · simp [regletref11_Next_1, regletref11_Next_2, regletref11_Next_3, regletref11_Next_4, regletref11_Next_5, regletref11_Next_6, regletref11_Next_7, h0, nextL, nz]; rfl
  by_cases h1 : ((lst f.code).length : Int) ≤ i
  · simp [regletref11_Next_1, regletref11_Next_2, regletref11_Next_3, regletref11_Next_4, regletref11_Next_5, regletref11_Next_6, regletref11_Next_7, h0, h1, nextL, nz]; rfl
  have g0 : 0 ≤ i := by omega
  have hx := insAt_lt (f := f) (i := i.toNat) (by omega)
  have k1 := ixs_insI (o := f.code) g0 hx .i64
  have hw := wrap_next g0 (by omega) hl
  have hn : nextL f i = nextI (insAt f i.toNat) i := by rw [nextL, if_neg (by omega)]
  rw [hn]
  generalize insAt f i.toNat = x at *
  have e : regletref11_Next_7 (.agg (enc f)) (.int .i64 i) [⟨0, .dead⟩, ⟨0, .dead⟩, ⟨0, .dead⟩, ⟨0, .dead⟩, ⟨0, .dead⟩] = regletref11_Next_3 (.int .i64 i) (.lp 1 1 0 0) .nils [⟨1, .arr true false 5 [enc f]⟩, ⟨1, .arr true false 9 [enc x]⟩, ⟨0, .dead⟩, ⟨0, .dead⟩, ⟨0, .dead⟩] := by
    simp [regletref11_Next_7, regletref11_Next_6, regletref11_Next_5, regletref11_Next_4, h0, h1, k1]
  rw [e, nextI]
  cases he : ends x.op with
  | true =>
    cases hd : leads x.op with
    | false => simp [regletref11_Next_3, regletref11_Next_2, regletref11_Next_1, he, hd, nz]; rfl
    | true =>
      have := s_in11 x.t none (by simp)
      simp [regletref11_Next_3, regletref11_Next_2, regletref11_Next_1, he, hd, nz, slA] at this ⊢
      simp [this, buildSC, fillRows, evApp, addN]
      exact expo1_int1 (by simp)
  | false =>
    cases hd : leads x.op with
    | false =>
      simp [regletref11_Next_3, regletref11_Next_2, regletref11_Next_1, he, hd, hw, buildSC, fillRows, evApp]
      exact expo1_int1 (by simp)
    | true =>
      have hz : fz [⟨1, .arr true false 5 [enc f]⟩, ⟨1, .arr true false 9 [enc x]⟩, ⟨1, .arr false false 1 [[.int .i64 (i + 1)]]⟩, ⟨0, .dead⟩, ⟨0, .dead⟩] fuelF (.ls 2 1 1 0 1) = some ⟨.rs 1 [[.int .i64 (i + 1)]], true, [2]⟩ := by
        rw [fz_ls]; rfl
      generalize hxt : x.t = t at *
      by_cases hc : i + 1 = t
      · subst hc
        simp [regletref11_Next_3, regletref11_Next_2, regletref11_Next_1, he, hd, hw, buildSC, fillRows, evApp, hz, Rcontains1, addN, hxt]
        exact expo1_int1 (by simp)
      · have hc' : ¬ t = i + 1 := fun h => hc h.symm
        simp [regletref11_Next_3, regletref11_Next_2, regletref11_Next_1, he, hd, hw, buildSC, fillRows, evApp, hz, Rcontains1, hc, hc', addN, hxt]
        exact expo1_int2 (by simp)
theorem RCaught_loop (f : Fn) (i : Int) (hl : (lst f.rows).length ≤ 274877906944) : ∀ (d k g : Nat) (L : List Int) (o1 o2 : AO), k + d = (lst f.rows).length → L.length ≤ k →
    regletref11_Caught_L2 (.int .i64 i) (.lp 0 1 0 0) (slotV Int 3 g L) (.int .i64 k) [⟨1, .arr true false 5 [enc f]⟩, o1, o2, slotO g D0 L] = some (exO (nz (caughtG i ((lst f.rows).drop k) L))) := by
  intro d
  induction d with
  | zero =>
    intro k g L o1 o2 hk _
    have e1 : (lst f.rows).drop k = [] := List.drop_eq_nil_of_le (by omega)
    have hn : ¬ ((k : Int) < ((lst f.rows).length : Int)) := by omega
    have hx := expo1_slotX (H := [⟨1, .arr true false 5 [enc f]⟩, o1, o2, slotO g D0 L]) (j := 3) (g := g) (o := D0) (L := L) rfl
    rw [regletref11_Caught_L2_go, e1]
    simp [regletref11_Caught_11, regletref11_Caught_1, hn, caughtG, hx]
  | succ d ih =>
    intro k g L o1 o2 hk hL
    have hlt : k < (lst f.rows).length := by omega
    have hc : ((k : Int) < ((lst f.rows).length : Int)) := by omega
    have k1 := ixs_row (o := f.rows) (i := k) (List.getElem?_eq_getElem hlt) .i64
    rw [regletref11_Caught_L2_go, List.drop_eq_getElem_cons hlt]
    generalize hr : (lst f.rows)[k] = r at *
    have ih0 := fun g L o1 o2 hL => ih (k + 1) g L o1 o2 (by omega) hL
    push_cast at ih0
    have hw := wrap_up hlt (by omega)
    have e11 : regletref11_Caught_11 (.int .i64 i) (.lp 0 1 0 0) (slotV Int 3 g L) (.int .i64 k) [⟨1, .arr true false 5 [enc f]⟩, o1, o2, slotO g D0 L] =
        regletref11_Caught_7 (.int .i64 i) (.lp 0 1 0 0) (slotV Int 3 g L) (.int .i64 k) (.lp 1 (o1.gen + 1) 0 0) [⟨1, .arr true false 5 [enc f]⟩, ⟨o1.gen + 1, .arr true false 4 [enc r]⟩, o2, slotO g D0 L] := by
      simp [regletref11_Caught_11, regletref11_Caught_8, hc, k1]
    rw [e11]
    generalize (o1.gen + 1) = g1
    by_cases h1 : r.f ≤ i
    rotate_left
    · have : ¬ (r.f ≤ i ∧ i < r.t) := by omega
      simp [regletref11_Caught_7, regletref11_Caught_6, regletref11_Caught_3, h1, hw, caughtG, ih0 g L _ _ (by omega)]
    by_cases h2 : i < r.t
    rotate_left
    · have : ¬ (r.f ≤ i ∧ i < r.t) := by omega
      simp [regletref11_Caught_7, regletref11_Caught_6, regletref11_Caught_3, h1, h2, hw, caughtG, ih0 g L _ _ (by omega)]
    rw [caughtG, if_pos ⟨h1, h2⟩]
    have hz : ∀ o2, fz [⟨1, .arr true false 5 [enc f]⟩, ⟨g1, .arr true false 4 [enc r]⟩, o2, slotO g D0 L] fuelF (slotV Int 3 g L) = some ⟨slA (nz L), true, ids1 (slotV Int 3 g L)⟩ := fun o2 => fz_slotI rfl
    have hct := s_in11 r.at_ (nz L) (by rw [lst_nz]; omega)
    rw [lst_nz] at hct
    have tail : ∀ g L o2, L.length ≤ k + 1 → regletref11_Caught_4 (.int .i64 i) (.lp 0 1 0 0) (slotV Int 3 g L) (.int .i64 k) (.lp 1 g1 0 0) [⟨1, .arr true false 5 [enc f]⟩, ⟨g1, .arr true false 4 [enc r]⟩, o2, slotO g D0 L] =
        some (exO (nz (if r.c = [] then L else caughtG i ((lst f.rows).drop (k + 1)) L))) := by
      intro g L o2 hL
      have hx := expo1_slotX (H := [⟨1, .arr true false 5 [enc f]⟩, ⟨g1, .arr true false 4 [enc r]⟩, o2, slotO g D0 L]) (j := 3) (g := g) (o := D0) (L := L) rfl
      by_cases hcl : r.c = []
      · simp [regletref11_Caught_4, hcl, hx]
      · simp [regletref11_Caught_4, regletref11_Caught_3, hcl, hw, ih0 g L _ _ hL]
    unfold addN
    cases hb : L.contains r.at_ with
    | true =>
      rw [hb] at hct
      rw [if_pos rfl]
      have := tail g L o2 (by omega)
      simp [regletref11_Caught_7, regletref11_Caught_6, regletref11_Caught_5, h1, h2, hz, hct, this]
    | false =>
      rw [hb] at hct
      rw [if_neg Bool.false_ne_true]
      obtain ⟨g', ha⟩ := app_int (H := [⟨1, .arr true false 5 [enc f]⟩, ⟨g1, .arr true false 4 [enc r]⟩, ⟨o2.gen + 1, .arr false false 1 [[.int .i64 r.at_]]⟩, slotO g D0 L]) (fb := 0) (j := 3) (g := g) (o := D0) (y := .ls 2 (o2.gen + 1) 1 0 1) (L := L) (n := r.at_) (by simp) rfl (by omega)
      have ha' : evApp 0 (some 3) 1 8 (slotV Int 3 g L) (.ls 2 (o2.gen + 1) 1 0 1) [⟨1, .arr true false 5 [enc f]⟩, ⟨g1, .arr true false 4 [enc r]⟩, ⟨o2.gen + 1, .arr false false 1 [[.int .i64 r.at_]]⟩, slotO g D0 L] = some (slotV Int 3 g' (L ++ [r.at_]), [⟨1, .arr true false 5 [enc f]⟩, ⟨g1, .arr true false 4 [enc r]⟩, ⟨o2.gen + 1, .arr false false 1 [[.int .i64 r.at_]]⟩, slotO g' D0 (L ++ [r.at_])]) := ha
      have := tail g' (L ++ [r.at_]) ⟨o2.gen + 1, .arr false false 1 [[.int .i64 r.at_]]⟩ (by simp; omega)
      simp [regletref11_Caught_7, regletref11_Caught_6, regletref11_Caught_5, h1, h2, hz, hct, buildSC, fillRows, ha', this]

theorem s_RCaught (f : Fn) (i : Int) (hl : (lst f.rows).length ≤ 274877906944) : (callW E).p 92 [.agg (enc f), .int .i64 i] = some (exO (nz (caughtL f i))) := by
  rw [x_regletref11_Caught]
  by_cases h0 : i < 0
  · simp [regletref11_Caught_17, regletref11_Caught_16, regletref11_Caught_15, h0, caughtL, nz]; rfl
  by_cases h1 : ((lst f.code).length : Int) ≤ i
  · simp [regletref11_Caught_17, regletref11_Caught_16, regletref11_Caught_15, h0, h1, caughtL, nz]; rfl
  have g0 : 0 ≤ i := by omega
  have hx := insAt_lt (f := f) (i := i.toNat) (by omega)
  have k1 := ixs_insI (o := f.code) g0 hx .i64
  have hn : caughtL f i = if throws (insAt f i.toNat).op then caughtG i (lst f.rows) [] else [] := by rw [caughtL, if_neg (by omega)]
  rw [hn]
  generalize insAt f i.toNat = x at *
  have lp := RCaught_loop f i hl _ 0 0 [] D0 D0 (Nat.zero_add _) (Nat.zero_le _)
  simp only [slotV_nil, slotO_nil, List.drop_zero, Int.ofNat_zero] at lp
  have lp' : regletref11_Caught_13 (.int .i64 i) (.lp 0 1 0 0) .nils [⟨1, .arr true false 5 [enc f]⟩, D0, D0, D0] = some (exO (nz (caughtG i (lst f.rows) []))) := lp
  cases ht : throws x.op with
  | false => simp [regletref11_Caught_17, regletref11_Caught_16, regletref11_Caught_15, h0, h1, k1, ht, nz]; rfl
  | true => simp [regletref11_Caught_17, regletref11_Caught_16, regletref11_Caught_15, h0, h1, k1, ht, lp']
end Go.Vm
