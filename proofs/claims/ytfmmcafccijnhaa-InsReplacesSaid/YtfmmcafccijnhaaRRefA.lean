/- Whether two lists of numbers, two instructions are the same; a number in a list. -/
import Derived.Test.YtfmmcafccijnhaaRInsM
import Derived.Test.YtfmmcafccijnhaaRX
namespace Go.Vm
open Cel
attribute [local simp] callAny callP heapOf_nil

theorem Ints_loop (a b : Option (List Int)) (hn : (lst a).length = (lst b).length) (hl : (lst a).length ≤ 2 ^ 62) (h : Heap) : ∀ (d i : Nat), i + d = (lst a).length →
    regletref10_Ints_L2 (slA a) (slA b) (.int .i64 i) h = some ⟨.bool (decide ((lst a).drop i = (lst b).drop i)), [], true, [], []⟩ := by
  intro d
  induction d with
  | zero =>
    intro i hi
    have e1 : (lst a).drop i = [] := List.drop_eq_nil_of_le (by omega)
    have e2 : (lst b).drop i = [] := List.drop_eq_nil_of_le (by omega)
    rw [regletref10_Ints_L2_go, e1, e2]
    have : ¬ ((i : Int) < ((lst a).length : Int)) := by omega
    simp [regletref10_Ints_1, regletref10_Ints_3, regletref10_Ints_4, regletref10_Ints_5, regletref10_Ints_7, regletref10_Ints_9, regletref10_Ints_10, this]
  | succ d ih =>
    intro i hi
    have h1 : i < (lst a).length := by omega
    have h2 : i < (lst b).length := by omega
    have hc : ((i : Int) < ((lst a).length : Int)) := by omega
    have k1 := ixs_int (o := a) (i := i) (List.getElem?_eq_getElem h1) .i64
    have k2 := ixs_int (o := b) (i := i) (List.getElem?_eq_getElem h2) .i64
    rw [regletref10_Ints_L2_go, drop_dec h1 h2]
    by_cases he : (lst a)[i] = (lst b)[i]
    · have := ih (i + 1) (by omega)
      push_cast at this
      simp [regletref10_Ints_1, regletref10_Ints_3, regletref10_Ints_4, regletref10_Ints_5, regletref10_Ints_7, regletref10_Ints_9, regletref10_Ints_10, hc, k1, k2, he, wrap_up h1 hl, this]
    · simp [regletref10_Ints_1, regletref10_Ints_3, regletref10_Ints_4, regletref10_Ints_5, regletref10_Ints_7, regletref10_Ints_9, regletref10_Ints_10, hc, k1, k2, he]

@[simp] theorem s_Ints (a b : Option (List Int)) (hl : (lst a).length ≤ 2 ^ 62) : (callW E).p 11 [slA a, slA b] = some ⟨.bool (decide (lst a = lst b)), [], true, [], []⟩ := by
  rw [x_regletref10_Ints]
  by_cases hn : (lst a).length = (lst b).length
  · have := Ints_loop a b hn hl [] (lst a).length 0 (by omega)
    simp only [Int.ofNat_zero, List.drop_zero] at this
    have hn' : ((lst a).length : Int) = ((lst b).length : Int) := by omega
    simp [regletref10_Ints_1, regletref10_Ints_3, regletref10_Ints_4, regletref10_Ints_5, regletref10_Ints_7, regletref10_Ints_9, regletref10_Ints_10, hn', show regletref10_Ints_L2 (slA a) (slA b) (.int .i64 0) [] = _ from this]
  · have hn' : ¬ ((lst a).length : Int) = ((lst b).length : Int) := by omega
    have : ¬ lst a = lst b := fun h => hn (by rw [h])
    simp [regletref10_Ints_1, regletref10_Ints_3, regletref10_Ints_4, regletref10_Ints_5, regletref10_Ints_7, regletref10_Ints_9, regletref10_Ints_10, hn', this]

/-- The same, but for nil and empty arguments. -/
def sameIns (x y : Ins) : Bool := decide (x.op = y.op) && decide (x.d = y.d) && decide (x.a = y.a) && decide (x.b = y.b) && decide (x.c = y.c) && decide (x.n = y.n) && decide (x.t = y.t) && decide (x.s = y.s) && decide (lst x.args = lst y.args)

set_option maxHeartbeats 1000000 in
@[simp] theorem s_SameIns (x y : Ins) (hl : (lst x.args).length ≤ 2 ^ 62) : (callW E).p 28 [.agg (enc x), .agg (enc y)] = some ⟨.bool (sameIns x y), [], true, [], []⟩ := by
  rw [x_regletref10_SameIns]
  have hi := s_Ints x.args y.args hl
  by_cases h1 : x.op = y.op
  · by_cases h2 : x.d = y.d
    · by_cases h3 : x.a = y.a
      · by_cases h4 : x.b = y.b
        · by_cases h5 : x.c = y.c
          · by_cases h6 : x.n = y.n
            · by_cases h7 : x.t = y.t
              · by_cases h8 : x.s = y.s
                · simp [regletref10_SameIns_1, sameIns, h1, h2, h3, h4, h5, h6, h7, h8, hi]
                · simp [regletref10_SameIns_1, sameIns, h1, h2, h3, h4, h5, h6, h7, h8]
              · simp [regletref10_SameIns_1, sameIns, h1, h2, h3, h4, h5, h6, h7]
            · simp [regletref10_SameIns_1, sameIns, h1, h2, h3, h4, h5, h6]
          · simp [regletref10_SameIns_1, sameIns, h1, h2, h3, h4, h5]
        · simp [regletref10_SameIns_1, sameIns, h1, h2, h3, h4]
      · simp [regletref10_SameIns_1, sameIns, h1, h2, h3]
    · simp [regletref10_SameIns_1, sameIns, h1, h2]
  · simp [regletref10_SameIns_1, sameIns, h1]
end Go.Vm
