/- The document's Heads. -/
import Derived.Test.YthemfgeagohdhaaLFlowM
import Derived.Test.YthemfgeagohdhaaLRefB1
namespace Go.Vm
open Cel
attribute [local simp] callAny callP heapOf_nil

theorem RHeads_code (f : Fn) (v3 : AV) (i : Nat) (t : Heap) (hl : (lst f.code).length ≤ 9223372036854775807) : ∀ (d k : Nat) (b : Bool), k + d = (lst f.code).length →
    regletref11_Heads_L12 (.lp 0 1 0 0) v3 (.int .i64 i) (.bool b) (.int .i64 k) (⟨1, .arr true false 5 [enc f]⟩ :: t) =
      regletref11_Heads_10 (.lp 0 1 0 0) v3 (.int .i64 i) (.bool (b || ((lst f.code).drop k).any (fun x => leads x.op && decide (x.t = i)))) (⟨1, .arr true false 5 [enc f]⟩ :: t) := by
  intro d
  induction d with
  | zero =>
    intro k b hk
    have e1 : (lst f.code).drop k = [] := List.drop_eq_nil_of_le (by omega)
    have hn : ¬ ((k : Int) < ((lst f.code).length : Int)) := by omega
    rw [regletref11_Heads_L12_go, e1]
    simp [regletref11_Heads_15, hn]
  | succ d ih =>
    intro k b hk
    have hlt : k < (lst f.code).length := by omega
    have hc : ((k : Int) < ((lst f.code).length : Int)) := by omega
    have k1 := ixs_ins (o := f.code) (i := k) (List.getElem?_eq_getElem hlt) .i64
    have hw := wrap_up hlt hl
    rw [regletref11_Heads_L12_go, List.drop_eq_getElem_cons hlt, List.any_cons]
    generalize (lst f.code)[k] = x at *
    cases b with
    | true => simp [regletref11_Heads_15, hc]
    | false =>
      have ih0 := fun b => ih (k + 1) b (by omega)
      push_cast at ih0
      cases hd : leads x.op with
      | false => simp [regletref11_Heads_15, regletref11_Heads_14, regletref11_Heads_13, hc, k1, hd, hw, ih0]
      | true => simp [regletref11_Heads_15, regletref11_Heads_14, regletref11_Heads_13, hc, k1, hd, hw, ih0]

theorem RHeads_rows (f : Fn) (v3 : AV) (i : Nat) (t : Heap) (hl : (lst f.rows).length ≤ 9223372036854775807) : ∀ (d k : Nat) (b : Bool), k + d = (lst f.rows).length →
    regletref11_Heads_L5 (.lp 0 1 0 0) v3 (.int .i64 i) (.bool b) (.int .i64 k) (⟨1, .arr true false 5 [enc f]⟩ :: t) =
      regletref11_Heads_4 (.lp 0 1 0 0) v3 (.int .i64 i) (.bool (b || ((lst f.rows).drop k).any (fun r => decide (r.f = i) || decide (r.t = i) || decide (r.at_ = i)))) (⟨1, .arr true false 5 [enc f]⟩ :: t) := by
  intro d
  induction d with
  | zero =>
    intro k b hk
    have e1 : (lst f.rows).drop k = [] := List.drop_eq_nil_of_le (by omega)
    have hn : ¬ ((k : Int) < ((lst f.rows).length : Int)) := by omega
    rw [regletref11_Heads_L5_go, e1]
    simp [regletref11_Heads_8, hn]
  | succ d ih =>
    intro k b hk
    have hlt : k < (lst f.rows).length := by omega
    have hc : ((k : Int) < ((lst f.rows).length : Int)) := by omega
    have k1 := ixs_row (o := f.rows) (i := k) (List.getElem?_eq_getElem hlt) .i64
    have hw := wrap_up hlt hl
    rw [regletref11_Heads_L5_go, List.drop_eq_getElem_cons hlt, List.any_cons]
    generalize (lst f.rows)[k] = r at *
    cases b with
    | true => simp [regletref11_Heads_8, hc]
    | false =>
      have ih0 := fun b => ih (k + 1) b (by omega)
      push_cast at ih0
      by_cases h1 : r.f = i
      · simp [regletref11_Heads_8, regletref11_Heads_7, regletref11_Heads_6, hc, k1, h1, hw, ih0]
      by_cases h2 : r.t = i
      · simp [regletref11_Heads_8, regletref11_Heads_7, regletref11_Heads_6, hc, k1, h1, h2, hw, ih0]
      · simp [regletref11_Heads_8, regletref11_Heads_7, regletref11_Heads_6, hc, k1, h1, h2, hw, ih0]

theorem RHeads_loop (f : Fn) (hc : (lst f.code).length ≤ 274877906944) (hr : (lst f.rows).length ≤ 9223372036854775807) : ∀ (d k g : Nat) (o1 : AO), k + d = (lst f.code).length →
    regletref11_Heads_L2 (.lp 0 1 0 0) (slotV Int 2 g (headsG f k)) (.int .i64 k) [⟨1, .arr true false 5 [enc f]⟩, o1, slotO g D0 (headsG f k)] = some (exO (nz (headsL f))) := by
  intro d
  induction d with
  | zero =>
    intro k g o1 hk
    have hk' : k = (lst f.code).length := by omega
    have hn : ¬ ((k : Int) < ((lst f.code).length : Int)) := by omega
    have hx := expo1_slotX (H := [⟨1, .arr true false 5 [enc f]⟩, o1, slotO g D0 (headsG f k)]) (j := 2) (g := g) (o := D0) (L := headsG f k) rfl
    rw [regletref11_Heads_L2_go, headsL, ← hk', ← hx]
    simp [regletref11_Heads_23, regletref11_Heads_1, hk']
  | succ d ih =>
    intro k g o1 hk
    have hlt : k < (lst f.code).length := by omega
    have hck : ((k : Int) < ((lst f.code).length : Int)) := by omega
    have hw := wrap_up hlt (by omega)
    rw [regletref11_Heads_L2_go]
    have ih0 := fun g o1 => ih (k + 1) g o1 (by omega)
    push_cast at ih0
    simp only [headsG] at ih0
    have step : ∀ b : Bool, regletref11_Heads_4 (.lp 0 1 0 0) (slotV Int 2 g (headsG f k)) (.int .i64 k) (.bool b) [⟨1, .arr true false 5 [enc f]⟩, o1, slotO g D0 (headsG f k)] = (if b = isHead f k then some (exO (nz (headsL f))) else regletref11_Heads_4 (.lp 0 1 0 0) (slotV Int 2 g (headsG f k)) (.int .i64 k) (.bool b) [⟨1, .arr true false 5 [enc f]⟩, o1, slotO g D0 (headsG f k)]) := by
      intro b
      split
      · rename_i hb
        cases b with
        | false =>
          have ih0 := ih0 g o1
          rw [← hb] at ih0
          simp only [Bool.false_eq_true, if_false, List.append_nil] at ih0
          simp [regletref11_Heads_4, regletref11_Heads_3, hw, ih0]
        | true =>
          rw [← hb] at ih0
          simp only [if_true] at ih0
          obtain ⟨g', ha⟩ := app_int (H := [⟨1, .arr true false 5 [enc f]⟩, ⟨o1.gen + 1, .arr false false 1 [[.int .i64 k]]⟩, slotO g D0 (headsG f k)]) (fb := 0) (j := 2) (g := g) (o := D0) (y := .ls 1 (o1.gen + 1) 1 0 1) (L := headsG f k) (n := k) (by simp) rfl (by have := headsG_len f k; omega)
          have ha' : evApp 0 (some 2) 1 8 (slotV Int 2 g (headsG f k)) (.ls 1 (o1.gen + 1) 1 0 1) [⟨1, .arr true false 5 [enc f]⟩, ⟨o1.gen + 1, .arr false false 1 [[.int .i64 k]]⟩, slotO g D0 (headsG f k)] = some (slotV Int 2 g' (headsG f k ++ [(k : Int)]), [⟨1, .arr true false 5 [enc f]⟩, ⟨o1.gen + 1, .arr false false 1 [[.int .i64 k]]⟩, slotO g' D0 (headsG f k ++ [(k : Int)])]) := ha
          simp [regletref11_Heads_4, regletref11_Heads_3, hw, buildSC, fillRows, ha', ih0]
      · rfl
    have cr := fun v3 t b => RHeads_code f v3 k t (by omega) _ 0 b (Nat.zero_add _)
    have rr := fun v3 t b => RHeads_rows f v3 k t hr _ 0 b (Nat.zero_add _)
    simp only [List.drop_zero, Int.ofNat_zero] at cr rr
    have cr' : ∀ v3 t b, regletref11_Heads_17 (.lp 0 1 0 0) v3 (.int .i64 k) (.bool b) (⟨1, .arr true false 5 [enc f]⟩ :: t) = _ := cr
    have rr' : ∀ v3 t b, regletref11_Heads_10 (.lp 0 1 0 0) v3 (.int .i64 k) (.bool b) (⟨1, .arr true false 5 [enc f]⟩ :: t) = _ := rr
    by_cases h0 : k = 0
    · have hh : isHead f k = true := by rw [isHead_0 h0]
      have h00 : ¬ (0 : Int) < (k : Int) := by omega
      have hkz : (k : Int) = 0 := by omega
      have e : regletref11_Heads_23 (.lp 0 1 0 0) (slotV Int 2 g (headsG f k)) (.int .i64 k) [⟨1, .arr true false 5 [enc f]⟩, o1, slotO g D0 (headsG f k)] = regletref11_Heads_17 (.lp 0 1 0 0) (slotV Int 2 g (headsG f k)) (.int .i64 k) (.bool true) [⟨1, .arr true false 5 [enc f]⟩, o1, slotO g D0 (headsG f k)] := by
        subst h0
        simp [regletref11_Heads_23, regletref11_Heads_20, regletref11_Heads_19, hlt]
      rw [e, cr', rr', step, if_pos (by rw [hh]; simp)]
    · have h01 : (0 : Int) < (k : Int) := by omega
      have hkz : ¬ (k : Int) = 0 := by omega
      have hp : k - 1 < (lst f.code).length := by omega
      have k1 := ixs_ins (o := f.code) (i := k - 1) (insAt_lt hp) .i64
      have hw2 : IntKind.wrap .i64 ((k : Int) - 1) = ((k - 1 : Nat) : Int) := by rw [wrap_i64] <;> omega
      have e : regletref11_Heads_23 (.lp 0 1 0 0) (slotV Int 2 g (headsG f k)) (.int .i64 k) [⟨1, .arr true false 5 [enc f]⟩, o1, slotO g D0 (headsG f k)] =
          regletref11_Heads_17 (.lp 0 1 0 0) (slotV Int 2 g (headsG f k)) (.int .i64 k) (.bool (leads (insAt f (k - 1)).op || ends (insAt f (k - 1)).op)) [⟨1, .arr true false 5 [enc f]⟩, o1, slotO g D0 (headsG f k)] := by
        cases hd : leads (insAt f (k - 1)).op <;> simp [regletref11_Heads_23, regletref11_Heads_20, regletref11_Heads_19, hlt, h0, show 0 < k by omega, hw2, k1, hd]
      rw [e, cr', rr', step, if_pos (by simp [isHead, h0])]

theorem s_RHeads (f : Fn) (hc : (lst f.code).length ≤ 30000) (hr : (lst f.rows).length ≤ 1000000) : (callW E).p 106 [.agg (enc f)] = some (exO (nz (headsL f))) := by
  rw [x_regletref11_Heads]
  have h := RHeads_loop f (by omega) (by omega) _ 0 0 D0 (Nat.zero_add _)
  simp only [Int.ofNat_zero, headsG, slotV_nil, slotO_nil] at h
  have h' : regletref11_Heads_25 (.lp 0 1 0 0) .nils [⟨1, .arr true false 5 [enc f]⟩, D0, D0] = _ := h
  simp [regletref11_Heads_28, regletref11_Heads_27, h']
end Go.Vm
