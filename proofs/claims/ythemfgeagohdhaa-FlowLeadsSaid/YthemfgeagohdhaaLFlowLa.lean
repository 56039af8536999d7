/- FlowLeads: which places follow a place, by themselves, by a way, by what is thrown, is as the document has it; so are blocks, and what can be reached. -/
import Derived.Test.YthemfgeagohdhaaLFlowR
import Derived.Test.YthemfgeagohdhaaLFlowH
import Derived.Test.YthemfgeagohdhaaLRefRc
import Derived.Test.YthemfgeagohdhaaLRefH
import Derived.Test.YthemfgeagohdhaaLRefI
import Derived.Test.YthemfgeagohdhaaLTys
namespace Go.Vm
open Cel
attribute [local simp] callAny callP heapOf_nil

@[simp] theorem holds11 : (callW E).p 97 [] = some ⟨.bool true, [], true, [], []⟩ := lift_p 60 (by kernel_rfl)
theorem s_light (f : Fn) : (callW E).p 98 [.agg (enc f)] = some ⟨.bool (decide ((lst f.code).length ≤ 400) && decide ((lst f.regs).length ≤ 100) && decide ((lst f.rows).length ≤ 100)), [], true, [], []⟩ := by
  rw [x_regletlaw11_light]
  by_cases h1 : (lst f.code).length ≤ 400
  · by_cases h2 : (lst f.regs).length ≤ 100
    · have h1' : ((lst f.code).length : Int) ≤ 400 := by omega
      have h2' : ((lst f.regs).length : Int) ≤ 100 := by omega
      by_cases h3 : (lst f.rows).length ≤ 100
      · have h3' : ((lst f.rows).length : Int) ≤ 100 := by omega
        simp [regletlaw11_light_1, h1, h2, h3, h1', h2', h3']
      · have h3' : ¬ ((lst f.rows).length : Int) ≤ 100 := by omega
        simp [regletlaw11_light_1, h1, h2, h3, h1', h2', h3']
    · have h1' : ((lst f.code).length : Int) ≤ 400 := by omega
      have h2' : ¬ ((lst f.regs).length : Int) ≤ 100 := by omega
      simp [regletlaw11_light_1, h1, h2, h1', h2']
  · have h1' : ¬ ((lst f.code).length : Int) ≤ 400 := by omega
    simp [regletlaw11_light_1, h1, h1']

section
variable (f : Fn) (hc : (lst f.code).length ≤ 400) (hr : (lst f.rows).length ≤ 100)
include hc hr

theorem Leads_end (i : Int) : regletlaw11_FlowLeads_1 (.int .i64 i) (.lp 0 1 0 0) [⟨1, .arr true false 5 [enc f]⟩] = some ⟨.bool true, [], true, [], []⟩ := by
  have h1 := s_Heads f (by omega) (by omega)
  have h2 := s_RHeads f (by omega) (by omega)
  have h3 := s_Next f i (by omega)
  have h4 := s_RNext f i (by omega)
  have h5 := s_Ints (nz (headsL f)) (nz (headsL f)) (by rw [lst_nz]; have := headsG_len f (lst f.code).length; rw [headsL]; omega)
  have h6 := s_Ints (nz (nextL f i)) (nz (nextL f i)) (by rw [lst_nz]; have := nextL_len f i; omega)
  simp only [lst_nz, decide_true] at h5 h6
  simp [regletlaw11_FlowLeads_1, fpCall, h1, h2, h3, h4, h5, h6, pairsOk, fpApart, meets]

theorem Leads_seen (i : Int) : ∀ (d k : Nat), k + d = (lst f.code).length →
    regletlaw11_FlowLeads_L2 (.int .i64 i) (.lp 0 1 0 0) (slA (some (reachL f))) (slA (some (reachL f))) (.int .i64 (lst f.code).length) (.int .i64 k) [⟨1, .arr true false 5 [enc f]⟩] = some ⟨.bool true, [], true, [], []⟩ := by
  intro d
  induction d with
  | zero =>
    intro k hk
    have hn : ¬ ((k : Int) < ((lst f.code).length : Int)) := by omega
    rw [regletlaw11_FlowLeads_L2_go]
    have := Leads_end f hc hr i
    simp [regletlaw11_FlowLeads_6, regletlaw11_FlowLeads_5, hn, this]
  | succ d ih =>
    intro k hk
    have hlt : k < (lst f.code).length := by omega
    have hn : ((k : Int) < ((lst f.code).length : Int)) := by omega
    have hr : k < (reachL f).length := by rw [reachL_len]; exact hlt
    have k1 : evIxs 1 (slA (some (reachL f))) (.int .i64 (k : Int)) = some (.rp (enc (reachL f)[k])) := evIxs_sl (α := Bool) (o := some (reachL f)) (x := (reachL f)[k]) (List.getElem?_eq_getElem hr) .i64
    have ih := ih (k + 1) (by omega)
    push_cast at ih
    rw [regletlaw11_FlowLeads_L2_go]
    simp [regletlaw11_FlowLeads_6, regletlaw11_FlowLeads_5, regletlaw11_FlowLeads_4, regletlaw11_FlowLeads_3, hn, k1, wrap_up hlt (by omega), ih]

theorem Leads_loop (i : Int) : ∀ (d : Nat) (k : Int), k + d = (lst f.code).length + 1 → -1 ≤ k →
    regletlaw11_FlowLeads_L12 (.int .i64 i) (.lp 0 1 0 0) (.int .i64 k) [⟨1, .arr true false 5 [enc f]⟩] = some ⟨.bool true, [], true, [], []⟩ := by
  intro d
  induction d with
  | zero =>
    intro k hk _
    have hn : ¬ (k ≤ ((lst f.code).length : Int)) := by omega
    have h1 := s_Reach f (by omega) (by omega)
    have h2 := s_RReach f (by omega) (by omega)
    have h3 := Leads_seen f hc hr i _ 0 (Nat.zero_add _)
    have hl : (reachL f).length = (lst f.code).length := reachL_len f
    rw [regletlaw11_FlowLeads_L12_go]
    simp only [Int.ofNat_zero] at h3
    have sc : (reachL f).all scal = true := by simp
    simp [regletlaw11_FlowLeads_15, regletlaw11_FlowLeads_11, regletlaw11_FlowLeads_10, regletlaw11_FlowLeads_8, hn, fpCall, h1, h2, exO_fresh, pairsOk, fpApart, meets, hl, h3]
  | succ d ih =>
    intro k hk h0
    have hn : (k ≤ ((lst f.code).length : Int)) := by omega
    have h3 := s_Next f k (by omega)
    have h4 := s_RNext f k (by omega)
    have h5 := s_Caught f k (by omega)
    have h6 := s_RCaught f k (by omega)
    have h7 := s_Ints (nz (nextL f k)) (nz (nextL f k)) (by rw [lst_nz]; have := nextL_len f k; omega)
    have h8 := s_Ints (nz (caughtL f k)) (nz (caughtL f k)) (by rw [lst_nz]; have := caughtL_len f k; omega)
    simp only [lst_nz, decide_true] at h7 h8
    have ih := ih (k + 1) (by omega) (by omega)
    have hw : IntKind.wrap .i64 (k + 1) = k + 1 := by rw [wrap_i64] <;> omega
    rw [regletlaw11_FlowLeads_L12_go]
    simp [regletlaw11_FlowLeads_15, regletlaw11_FlowLeads_14, regletlaw11_FlowLeads_13, hn, fpCall, h3, h4, h5, h6, h7, h8, pairsOk, fpApart, meets, hw, ih]
end

theorem FlowLeads_all (f : Fn) (i : Int) : (callW E).p 107 [.agg (enc f), .int .i64 i] = some ⟨.bool true, [], true, [], []⟩ := by
  rw [x_regletlaw11_FlowLeads]
  have hl := s_light f
  by_cases hg : (lst f.code).length ≤ 400 ∧ (lst f.regs).length ≤ 100 ∧ (lst f.rows).length ≤ 100
  · simp only [hg, decide_true, Bool.and_self] at hl
    have := Leads_loop f hg.1 hg.2.2 i ((lst f.code).length + 2) (-1) (by omega) (by omega)
    have h' : regletlaw11_FlowLeads_17 (.int .i64 i) (.lp 0 1 0 0) [⟨1, .arr true false 5 [enc f]⟩] = _ := this
    simp [regletlaw11_FlowLeads_21, regletlaw11_FlowLeads_20, regletlaw11_FlowLeads_19, hl, h']
  · have hb : (decide ((lst f.code).length ≤ 400) && decide ((lst f.regs).length ≤ 100) && decide ((lst f.rows).length ≤ 100)) = false := by
      rw [← Bool.not_eq_true, Bool.and_eq_true, Bool.and_eq_true, decide_eq_true_eq, decide_eq_true_eq, decide_eq_true_eq]
      exact fun h => hg ⟨h.1.1, h.1.2, h.2⟩
    rw [hb] at hl
    simp [regletlaw11_FlowLeads_21, regletlaw11_FlowLeads_20, regletlaw11_FlowLeads_19, hl]
end Go.Vm
