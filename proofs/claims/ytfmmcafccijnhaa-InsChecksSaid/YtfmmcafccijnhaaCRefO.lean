/- The document's answer whether a call, an instruction is well formed. -/
import Derived.Test.YtfmmcafccijnhaaCRefB
import Derived.Test.YtfmmcafccijnhaaCRefD
namespace Go.Vm
open Cel
attribute [local simp] callAny callP heapOf_nil fpCall

abbrev H2 (f : Fn) (x : Ins) : Heap := [⟨1, .arr true false 5 [enc f]⟩, ⟨1, .arr true false 9 [enc x]⟩]
abbrev H3 (f : Fn) (x : Ins) : Heap := [⟨1, .arr true false 5 [enc f]⟩, ⟨1, .arr true false 9 [enc x]⟩, ⟨1, .arr false false 1 [[.int .i64 x.d], [.int .i64 x.a], [.int .i64 x.b], [.int .i64 x.c]]⟩]
abbrev Q0 : AV := .lp 0 1 0 0
abbrev Q1 : AV := .lp 1 1 0 0

def lastM (R : List Int) (x : Ins) : Bool :=
  (!decide (x.op = 24) && !decide (x.op = 25)) || (match lst x.args with
    | [] => false
    | r :: _ => decide (regK R r = 3))
def callM (R : List Int) (x : Ins) : Bool :=
  !((decide (x.n < 0) && !decide (x.op = 25)) || decide (21 < (lst x.args).length) || (!decide (x.d = -1) && decide (regK R x.d = 0))) && ((lst x.args).all (fun r => !decide (regK R r = 0)) && lastM R x)

theorem call_last (f : Fn) (x : Ins) : regletref10_call_1 Q0 Q1 (H2 f x) = some ⟨.bool (lastM (lst f.regs) x), [], true, [], []⟩ := by
  by_cases o1 : x.op = 24
  · cases ha : lst x.args with
    | nil => simp [regletref10_call_1, o1, lastM, ha, pairsOk]
    | cons r t =>
      have k1 := ixs_int (o := x.args) (i := 0) (x := r) (by rw [ha]; rfl) .i64
      simp only [Int.ofNat_zero] at k1
      simp [regletref10_call_1, o1, lastM, ha, k1, pairsOk]
  · by_cases o2 : x.op = 25
    · cases ha : lst x.args with
      | nil => simp [regletref10_call_1, o2, lastM, ha, pairsOk]
      | cons r t =>
        have k1 := ixs_int (o := x.args) (i := 0) (x := r) (by rw [ha]; rfl) .i64
        simp only [Int.ofNat_zero] at k1
        simp [regletref10_call_1, o2, lastM, ha, k1, pairsOk]
    · simp [regletref10_call_1, o1, o2, lastM, pairsOk]

theorem call_loop (f : Fn) (x : Ins) (hl : (lst x.args).length ≤ 9223372036854775807) : ∀ (d i : Nat), i + d = (lst x.args).length →
    regletref10_call_L2 Q0 Q1 (.int .i64 i) (H2 f x) = some ⟨.bool (((lst x.args).drop i).all (fun r => !decide (regK (lst f.regs) r = 0)) && lastM (lst f.regs) x), [], true, [], []⟩ := by
  intro d
  induction d with
  | zero =>
    intro i hi
    have e1 : (lst x.args).drop i = [] := List.drop_eq_nil_of_le (by omega)
    have hn : ¬ ((i : Int) < ((lst x.args).length : Int)) := by omega
    rw [regletref10_call_L2_go, e1]
    simp [regletref10_call_5, hn, call_last]
  | succ d ih =>
    intro i hi
    have hlt : i < (lst x.args).length := by omega
    have hn : ((i : Int) < ((lst x.args).length : Int)) := by omega
    have k1 := ixs_int (o := x.args) (i := i) (List.getElem?_eq_getElem hlt) .i64
    have e1 : ((lst x.args).drop i).all (fun r => !decide (regK (lst f.regs) r = 0)) = ((!decide (regK (lst f.regs) (lst x.args)[i] = 0)) && ((lst x.args).drop (i + 1)).all (fun r => !decide (regK (lst f.regs) r = 0))) := by
      rw [List.drop_eq_getElem_cons hlt, List.all_cons]
    have ih := ih (i + 1) (by omega)
    push_cast at ih
    rw [regletref10_call_L2_go, e1]
    generalize (lst x.args)[i] = r at *
    have hs := s_kind f r
    by_cases hz : regK (lst f.regs) r = 0
    · rw [hz] at hs
      simp [regletref10_call_5, hn, regletref10_call_4, k1, hs, hz, pairsOk]
    · generalize regK (lst f.regs) r = k at *
      simp [regletref10_call_5, hn, regletref10_call_4, k1, hs, hz, pairsOk, regletref10_call_3, wrap_up hlt hl]
      exact ih

theorem s_call (f : Fn) (x : Ins) (hl : (lst x.args).length ≤ 9223372036854775807) : (callW E).p 68 [.agg (enc f), .agg (enc x)] = some ⟨.bool (callM (lst f.regs) x), [], true, [], []⟩ := by
  rw [x_regletref10_call]
  have h0 := call_loop f x hl _ 0 (Nat.zero_add _)
  simp only [Int.ofNat_zero, List.drop_zero] at h0
  have hs := s_kind f x.d
  have e21 : ((21 : Int) < ((lst x.args).length : Int)) ↔ 21 < (lst x.args).length := by omega
  unfold callM
  generalize ((lst x.args).all (fun r => !decide (regK (lst f.regs) r = 0)) && lastM (lst f.regs) x) = T at *
  generalize regK (lst f.regs) x.d = kd at *
  by_cases h21 : 21 < (lst x.args).length
  · have h21' := e21.2 h21
    by_cases hn : x.n < 0
    · by_cases o5 : x.op = 25 <;> simp [regletref10_call_1, regletref10_call_3, regletref10_call_4, regletref10_call_5, regletref10_call_7, regletref10_call_9, regletref10_call_10, hn, o5, h21, h21', pairsOk, fpApart, meets]
    · simp [regletref10_call_1, regletref10_call_3, regletref10_call_4, regletref10_call_5, regletref10_call_7, regletref10_call_9, regletref10_call_10, hn, h21, h21', pairsOk, fpApart, meets]
  · have h21' : ¬ ((21 : Int) < ((lst x.args).length : Int)) := by omega
    by_cases hn : x.n < 0
    · by_cases o5 : x.op = 25
      · by_cases hd : x.d = -1
        · simp [regletref10_call_1, regletref10_call_3, regletref10_call_4, regletref10_call_5, regletref10_call_7, regletref10_call_9, regletref10_call_10, hn, o5, h21, h21', hd, h0, pairsOk, fpApart, meets]
        · by_cases hk : kd = 0
          · simp [regletref10_call_1, regletref10_call_3, regletref10_call_4, regletref10_call_5, regletref10_call_7, regletref10_call_9, regletref10_call_10, hn, o5, h21, h21', hd, hs, hk, h0, pairsOk, fpApart, meets]
          · simp [regletref10_call_1, regletref10_call_3, regletref10_call_4, regletref10_call_5, regletref10_call_7, regletref10_call_9, regletref10_call_10, hn, o5, h21, h21', hd, hs, hk, h0, pairsOk, fpApart, meets]
      · simp [regletref10_call_1, regletref10_call_3, regletref10_call_4, regletref10_call_5, regletref10_call_7, regletref10_call_9, regletref10_call_10, hn, o5, h21, h21', pairsOk, fpApart, meets]
    · by_cases hd : x.d = -1
      · simp [regletref10_call_1, regletref10_call_3, regletref10_call_4, regletref10_call_5, regletref10_call_7, regletref10_call_9, regletref10_call_10, hn, h21, h21', hd, h0, pairsOk, fpApart, meets]
      · by_cases hk : kd = 0
        · simp [regletref10_call_1, regletref10_call_3, regletref10_call_4, regletref10_call_5, regletref10_call_7, regletref10_call_9, regletref10_call_10, hn, h21, h21', hd, hs, hk, h0, pairsOk, fpApart, meets]
        · simp [regletref10_call_1, regletref10_call_3, regletref10_call_4, regletref10_call_5, regletref10_call_7, regletref10_call_9, regletref10_call_10, hn, h21, h21', hd, hs, hk, h0, pairsOk, fpApart, meets]
end Go.Vm
