/- Whether one instruction is well formed: 'right'. -/
import Derived.Test.YtfmmcafccijnhaaCWfM
import Derived.Test.YtfmmcafccijnhaaCKindsO
import Derived.Test.YtfmmcafccijnhaaCInsS
namespace Go.Vm
open Cel
attribute [local simp] callAny callP heapOf_nil

/-- The frame of 'right'. -/
abbrev HR (f : Fn) (x : Ins) (a b c d : Int) : Heap := [⟨1, .arr true false 5 [enc f]⟩, ⟨1, .arr true false 9 [enc x]⟩, ⟨1, .arr true false 4 [[.int .i64 a, .int .i64 b, .int .i64 c, .int .i64 d]]⟩]
abbrev P0 : AV := .lp 0 1 0 0
abbrev P1 : AV := .lp 1 1 0 0
abbrev P2 : AV := .lp 2 1 0 0

theorem regs_at {f : Fn} {r : Int} (h : inR (lst f.regs) r = true) : evIxs 1 (slA f.regs) (.int .i64 r) = some (.rp [.int .i64 (regK (lst f.regs) r)]) := by
  obtain ⟨h0, h1, h2⟩ := inR_get h
  exact ixs_intI h0 h2 .i64

/-- One field. -/
theorem right_field (f : Fn) (x : Ins) (a b c d : Int) (i : Nat) (w r : Int) (v26 : AV) (hi : i < 4) (hw : [a, b, c, d][i]? = some w) :
    ins_right_18 P0 P1 P2 (.int .i64 i) (.int .i64 r) v26 (.int .i64 i) (HR f x a b c d) =
      if fieldOk (lst f.regs) w r then ins_right_16 P0 P1 P2 v26 (.int .i64 i) (HR f x a b c d) else some ⟨.bool false, [], true, [], []⟩ := by
  have e1 : evIxa 4 1 P2 (.int .i64 i) = some (.lp 2 1 0 i) := by
    have : ((i : Int) < (4 : Int)) := by omega
    simp [evIxa, this]
  have e2 : ∀ f x, evLd false 1 (.lp 2 1 0 i) (HR f x a b c d) = some (.int .i64 w) := by
    intro f x
    simp only [evLd_lp]
    have : (rowsAt (HR f x a b c d) 2 1) = some (false, 4, [[.int .i64 a, .int .i64 b, .int .i64 c, .int .i64 d]]) := rfl
    rw [this]
    simp only [List.getElem?_cons_zero, aggOr_f]
    match i, hi, hw with
    | 0, _, hw => simp at hw; simp [hw]
    | 1, _, hw => simp at hw; simp [hw]
    | 2, _, hw => simp at hw; simp [hw]
    | 3, _, hw => simp at hw; simp [hw]
  have e2 := e2 f x
  by_cases hw0 : w < 0
  · simp [ins_right_18, e1, e2, fieldOk, hw0]
  by_cases h0 : r < 0
  · have : ¬ 0 ≤ r := by omega
    simp [ins_right_18, ins_right_17, e1, e2, fieldOk, hw0, h0, inR, this]
  by_cases h1 : r < ((lst f.regs).length : Int)
  · have h0' : 0 ≤ r := by omega
    have h1' : ¬ ((lst f.regs).length : Int) ≤ r := by omega
    have hin : inR (lst f.regs) r = true := by simp [inR, h0', h1]
    have hr := regs_at hin
    by_cases h2 : 0 < w
    · have h2' : ¬ w ≤ 0 := by omega
      by_cases h3 : regK (lst f.regs) r = w
      · simp [ins_right_18, ins_right_17, e1, e2, fieldOk, hw0, h0, h1', h2, h2', hin, hr, h3]
      · simp [ins_right_18, ins_right_17, e1, e2, fieldOk, hw0, h0, h1', h2, h2', hin, hr, h3]
    · have h2' : w ≤ 0 := by omega
      simp [ins_right_18, ins_right_17, e1, e2, fieldOk, hw0, h0, h1', h2, h2', hin]
  · have h1' : ((lst f.regs).length : Int) ≤ r := by omega
    simp [ins_right_18, ins_right_17, e1, e2, fieldOk, hw0, h0, h1', h1, inR]

/-- What is left behind the fields and the arguments. -/
theorem right_tail (f : Fn) (x : Ins) (a b c d : Int) (h1 : x.op = 1 → inR (lst f.regs) x.d = true) (h4 : x.op = 4 → inR (lst f.regs) x.d = true ∧ inR (lst f.regs) x.a = true) (h7 : x.op = 7 → inR (lst f.regs) x.a = true)
    (h30 : x.op = 30 → x.a = -1 ∨ inR (lst f.regs) x.a = true) :
    ins_right_2 P0 P1 (HR f x a b c d) = some ⟨.bool (tailOk (lst f.regs) f.ret (lst f.code).length x), [], true, [], []⟩ := by
  by_cases o1 : x.op = 1
  · have hr := regs_at (h1 o1)
    by_cases k3 : regK (lst f.regs) x.d = 3
    · simp [ins_right_2, tailOk, o1, hr, k3]
    · by_cases k2 : regK (lst f.regs) x.d = 2
      · simp [ins_right_2, tailOk, o1, hr, k2]
      · simp [ins_right_2, tailOk, o1, hr, k2, k3]
  by_cases o4 : x.op = 4
  · have hr := regs_at (h4 o4).1
    have hr2 := regs_at (h4 o4).2
    simp [ins_right_2, tailOk, o4, hr, hr2]
  by_cases o7 : x.op = 7
  · have hr := regs_at (h7 o7)
    simp [ins_right_2, tailOk, o7, hr]
  by_cases o30 : x.op = 30
  · by_cases ha : x.a = -1
    · by_cases hz : f.ret = 0
      · simp [ins_right_2, tailOk, o30, ha, hz]
      · simp [ins_right_2, tailOk, o30, ha, hz]
    · have hr := regs_at ((h30 o30).resolve_left ha)
      by_cases hz : f.ret = 0
      · simp [ins_right_2, tailOk, o30, ha, hz]
      · simp [ins_right_2, tailOk, o30, ha, hz, hr]
  · cases hl : leads x.op with
    | false => simp [ins_right_2, ins_right_1, tailOk, o1, o4, o7, o30, hl]
    | true =>
      by_cases ht : 0 ≤ x.t
      · simp [ins_right_2, ins_right_1, tailOk, o1, o4, o7, o30, hl, ht]
      · simp [ins_right_2, ins_right_1, tailOk, o1, o4, o7, o30, hl, ht]
end Go.Vm
