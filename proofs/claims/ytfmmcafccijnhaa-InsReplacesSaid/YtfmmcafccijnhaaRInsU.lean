/- What 'Uses' answers. -/
import Derived.Test.YtfmmcafccijnhaaRInsS
namespace Go.Vm
open Cel
attribute [local simp] callAny callP heapOf_nil

/-- What a function answers as the caller's own, laid into the caller's heap. -/
theorem place_own {α : Type} [Cel α] (fb j : Nat) (L : List α) (h : Heap) {o : AO} (ho : h[fb + j]? = some o) : placeAll fb (some j) [.arr false false (es α) (L.map enc)] [] h =
    some ([(fb + j, o.gen + 1)], h.set (fb + j) ⟨o.gen + 1, .arr false false (es α) (L.map enc)⟩) := by
  simp [placeAll, relocOC, okOC, ho]

theorem uses_1 (x : Ins) (h : x.op = 4 ∨ x.op = 6 ∨ x.op = 7 ∨ x.op = 8 ∨ x.op = 10 ∨ x.op = 12 ∨ x.op = 15 ∨ x.op = 16 ∨ x.op = 19 ∨ x.op = 21 ∨ x.op = 22 ∨ x.op = 31) : (callW E).p 10 [.agg (enc x)] = some (exO (uses x)) := by
  rw [x_ins_Uses]
  rcases h with h|h|h|h|h|h|h|h|h|h|h|h <;> (simp [h, uses, calls, reads, ins_Uses_1, ins_Uses_2, ins_Uses_3, ins_Uses_4, ins_Uses_5, ins_Uses_6, ins_Uses_7, ins_Uses_8, ins_Uses_9, ins_Uses_10, ins_Uses_11, ins_Uses_12, ins_Uses_13, ins_Uses_15, ins_Uses_17, buildSC, fillRows]; exact expo1_own (α := Int) (L := [x.a]) (by simp))
theorem uses_2 (x : Ins) (h : x.op = 5 ∨ x.op = 9 ∨ x.op = 11 ∨ x.op = 13 ∨ x.op = 17 ∨ x.op = 28) : (callW E).p 10 [.agg (enc x)] = some (exO (uses x)) := by
  rw [x_ins_Uses]
  rcases h with h|h|h|h|h|h <;> (simp [h, uses, calls, reads, ins_Uses_1, ins_Uses_2, ins_Uses_3, ins_Uses_4, ins_Uses_5, ins_Uses_6, ins_Uses_7, ins_Uses_8, ins_Uses_9, ins_Uses_10, ins_Uses_11, ins_Uses_12, ins_Uses_13, ins_Uses_15, ins_Uses_17, buildSC, fillRows]; exact expo1_own (α := Int) (L := [x.a, x.b]) (by simp))
theorem uses_3 (x : Ins) (h : x.op = 14) : (callW E).p 10 [.agg (enc x)] = some (exO (uses x)) := by
  rw [x_ins_Uses]
  simp [h, uses, calls, reads, ins_Uses_1, ins_Uses_2, ins_Uses_3, ins_Uses_4, ins_Uses_5, ins_Uses_6, ins_Uses_7, ins_Uses_8, ins_Uses_9, ins_Uses_10, ins_Uses_11, ins_Uses_12, ins_Uses_13, ins_Uses_15, ins_Uses_17, buildSC, fillRows]
  exact expo1_own (α := Int) (L := [x.a, x.b, x.c]) (by simp)
theorem uses_4 (x : Ins) (h : x.op = 23 ∨ x.op = 24 ∨ x.op = 25 ∨ x.op = 26) (hl : (lst x.args).length ≤ 2 ^ 38) : (callW E).p 10 [.agg (enc x)] = some (exO (uses x)) := by
  rw [x_ins_Uses]
  have e : uses x = x.args := by rcases h with h|h|h|h <;> simp [h, uses, calls]
  rw [e]
  have hc := s_Clone_int x.args hl
  cases ha : x.args with
  | none =>
    rw [ha] at hc
    rcases h with h|h|h|h <;> (simp [h, ins_Uses_1, ins_Uses_2, ins_Uses_3, ins_Uses_4, ins_Uses_5, ins_Uses_6, ins_Uses_7, ins_Uses_8, ins_Uses_9, ins_Uses_10, ins_Uses_11, ins_Uses_12, ins_Uses_13, ins_Uses_15, ins_Uses_17, ha, hc, exO, placeAll, reloc, relocAgg, relocLeaf]; done)
  | some L =>
    rw [ha] at hc
    rcases h with h|h|h|h <;> (simp [h, ins_Uses_1, ins_Uses_2, ins_Uses_3, ins_Uses_4, ins_Uses_5, ins_Uses_6, ins_Uses_7, ins_Uses_8, ins_Uses_9, ins_Uses_10, ins_Uses_11, ins_Uses_12, ins_Uses_13, ins_Uses_15, ins_Uses_17, ha, hc, placeAll, relocOC, okOC, reloc, relocAgg, relocLeaf, exO]; exact expo1_own (α := Int) (L := L) (by simp))
theorem uses_5 (x : Ins) (h : x.op = 29) : (callW E).p 10 [.agg (enc x)] = some (exO (uses x)) := by
  rw [x_ins_Uses]
  by_cases hb : x.b < 0
  · simp [hb, h, uses, calls, reads, ins_Uses_1, ins_Uses_2, ins_Uses_3, ins_Uses_4, ins_Uses_5, ins_Uses_6, ins_Uses_7, ins_Uses_8, ins_Uses_9, ins_Uses_10, ins_Uses_11, ins_Uses_12, ins_Uses_13, ins_Uses_15, ins_Uses_17, buildSC, fillRows]
    exact expo1_own (α := Int) (L := [x.a]) (by simp)
  · simp [hb, h, uses, calls, reads, ins_Uses_1, ins_Uses_2, ins_Uses_3, ins_Uses_4, ins_Uses_5, ins_Uses_6, ins_Uses_7, ins_Uses_8, ins_Uses_9, ins_Uses_10, ins_Uses_11, ins_Uses_12, ins_Uses_13, ins_Uses_15, ins_Uses_17, buildSC, fillRows]
    exact expo1_own (α := Int) (L := [x.a, x.b]) (by simp)
theorem uses_6 (x : Ins) (h : x.op = 30) : (callW E).p 10 [.agg (enc x)] = some (exO (uses x)) := by
  rw [x_ins_Uses]
  by_cases hb : 0 ≤ x.a
  · simp [hb, h, uses, calls, reads, ins_Uses_1, ins_Uses_2, ins_Uses_3, ins_Uses_4, ins_Uses_5, ins_Uses_6, ins_Uses_7, ins_Uses_8, ins_Uses_9, ins_Uses_10, ins_Uses_11, ins_Uses_12, ins_Uses_13, ins_Uses_15, ins_Uses_17, buildSC, fillRows]
    exact expo1_own (α := Int) (L := [x.a]) (by simp)
  · simp [hb, h, uses, calls, reads, ins_Uses_1, ins_Uses_2, ins_Uses_3, ins_Uses_4, ins_Uses_5, ins_Uses_6, ins_Uses_7, ins_Uses_8, ins_Uses_9, ins_Uses_10, ins_Uses_11, ins_Uses_12, ins_Uses_13, ins_Uses_15, ins_Uses_17, buildSC, fillRows, exO]
theorem uses_7 (x : Ins) (h : x.op = 1 ∨ x.op = 2 ∨ x.op = 3 ∨ x.op = 18 ∨ x.op = 20 ∨ x.op = 27 ∨ x.op = 32 ∨ x.op = 33 ∨ x.op < 1 ∨ 33 < x.op) : (callW E).p 10 [.agg (enc x)] = some (exO (uses x)) := by
  rw [x_ins_Uses]
  rcases h with h|h|h|h|h|h|h|h|h|h
  all_goals first | (simp [h, uses, calls, reads, ins_Uses_1, ins_Uses_2, ins_Uses_3, ins_Uses_4, ins_Uses_5, ins_Uses_6, ins_Uses_7, ins_Uses_8, ins_Uses_9, ins_Uses_10, ins_Uses_11, ins_Uses_12, ins_Uses_13, ins_Uses_15, ins_Uses_17, exO]; done) | (simp [lo_f h, uses, calls, reads, ins_Uses_1, ins_Uses_2, ins_Uses_3, ins_Uses_4, ins_Uses_5, ins_Uses_6, ins_Uses_7, ins_Uses_8, ins_Uses_9, ins_Uses_10, ins_Uses_11, ins_Uses_12, ins_Uses_13, ins_Uses_15, ins_Uses_17, exO]; done) | simp [hi_f h, uses, calls, reads, ins_Uses_1, ins_Uses_2, ins_Uses_3, ins_Uses_4, ins_Uses_5, ins_Uses_6, ins_Uses_7, ins_Uses_8, ins_Uses_9, ins_Uses_10, ins_Uses_11, ins_Uses_12, ins_Uses_13, ins_Uses_15, ins_Uses_17, exO]

theorem s_Uses (x : Ins) (hl : (lst x.args).length ≤ 2 ^ 38) : (callW E).p 10 [.agg (enc x)] = some (exO (uses x)) := by
  by_cases h1 : x.op = 4 ∨ x.op = 6 ∨ x.op = 7 ∨ x.op = 8 ∨ x.op = 10 ∨ x.op = 12 ∨ x.op = 15 ∨ x.op = 16 ∨ x.op = 19 ∨ x.op = 21 ∨ x.op = 22 ∨ x.op = 31
  · exact uses_1 x h1
  by_cases h2 : x.op = 5 ∨ x.op = 9 ∨ x.op = 11 ∨ x.op = 13 ∨ x.op = 17 ∨ x.op = 28
  · exact uses_2 x h2
  by_cases h4 : x.op = 23 ∨ x.op = 24 ∨ x.op = 25 ∨ x.op = 26
  · exact uses_4 x h4 hl
  by_cases h5 : x.op = 29
  · exact uses_5 x h5
  by_cases h6 : x.op = 30
  · exact uses_6 x h6
  by_cases h3 : x.op = 14
  · exact uses_3 x h3
  exact uses_7 x (by omega)
end Go.Vm
