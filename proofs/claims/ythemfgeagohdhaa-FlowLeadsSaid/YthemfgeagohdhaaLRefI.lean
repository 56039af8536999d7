/- Whether two lists of numbers are the same. -/
import Derived.Test.YthemfgeagohdhaaLInsM
import Derived.Test.YthemfgeagohdhaaLX
namespace Go.Vm
open Cel
attribute [local simp] callAny callP heapOf_nil

theorem Ints_loop (a b : Option (List Int)) (hn : (lst a).length = (lst b).length) (hl : (lst a).length ≤ 9223372036854775807) (h : Heap) : ∀ (d i : Nat), i + d = (lst a).length →
    regletref10_Ints_L2 (slA a) (slA b) (.int .i64 i) h = some ⟨.bool (decide ((lst a).drop i = (lst b).drop i)), [], true, [], []⟩ := by
  intro d
  induction d with
  | zero =>
    intro i hi
    have e1 : (lst a).drop i = [] := List.drop_eq_nil_of_le (by omega)
    have e2 : (lst b).drop i = [] := List.drop_eq_nil_of_le (by omega)
    rw [regletref10_Ints_L2_go, e1, e2]
    have : ¬ ((i : Int) < ((lst a).length : Int)) := by omega
    simp [regletref10_Ints_1, regletref10_Ints_3, regletref10_Ints_4, regletref10_Ints_5, regletref10_Ints_7, regletref10_Ints_9, regletref10_Ints_10, this]
  | succ d ih =>
    intro i hi
    have h1 : i < (lst a).length := by omega
    have h2 : i < (lst b).length := by omega
    have hc : ((i : Int) < ((lst a).length : Int)) := by omega
    have k1 := ixs_int (o := a) (i := i) (List.getElem?_eq_getElem h1) .i64
    have k2 := ixs_int (o := b) (i := i) (List.getElem?_eq_getElem h2) .i64
    rw [regletref10_Ints_L2_go, drop_dec h1 h2]
    by_cases he : (lst a)[i] = (lst b)[i]
    · have := ih (i + 1) (by omega)
      push_cast at this
      simp [regletref10_Ints_1, regletref10_Ints_3, regletref10_Ints_4, regletref10_Ints_5, regletref10_Ints_7, regletref10_Ints_9, regletref10_Ints_10, hc, k1, k2, he, wrap_up h1 hl, this]
    · simp [regletref10_Ints_1, regletref10_Ints_3, regletref10_Ints_4, regletref10_Ints_5, regletref10_Ints_7, regletref10_Ints_9, regletref10_Ints_10, hc, k1, k2, he]

@[simp] theorem s_Ints (a b : Option (List Int)) (hl : (lst a).length ≤ 9223372036854775807) : (callW E).p 11 [slA a, slA b] = some ⟨.bool (decide (lst a = lst b)), [], true, [], []⟩ := by
  rw [x_regletref10_Ints]
  by_cases hn : (lst a).length = (lst b).length
  · have := Ints_loop a b hn hl [] (lst a).length 0 (by omega)
    simp only [Int.ofNat_zero, List.drop_zero] at this
    have hn' : ((lst a).length : Int) = ((lst b).length : Int) := by omega
    simp [regletref10_Ints_1, regletref10_Ints_3, regletref10_Ints_4, regletref10_Ints_5, regletref10_Ints_7, regletref10_Ints_9, regletref10_Ints_10, hn', show regletref10_Ints_L2 (slA a) (slA b) (.int .i64 0) [] = _ from this]
  · have hn' : ¬ ((lst a).length : Int) = ((lst b).length : Int) := by omega
    have : ¬ lst a = lst b := fun h => hn (by rw [h])
    simp [regletref10_Ints_1, regletref10_Ints_3, regletref10_Ints_4, regletref10_Ints_5, regletref10_Ints_7, regletref10_Ints_9, regletref10_Ints_10, hn', this]
end Go.Vm
