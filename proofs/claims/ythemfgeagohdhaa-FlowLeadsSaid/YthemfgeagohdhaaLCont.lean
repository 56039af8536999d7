/- A number in a list: the library's 'Contains'. -/
import Derived.Test.YthemfgeagohdhaaLInsM
import Derived.Test.YthemfgeagohdhaaLX
namespace Go.Vm
open Cel
attribute [local simp] callAny callP heapOf_nil

theorem slc_to {α : Type} [Cel α] (o : Option (List α)) (i : Nat) (h : i ≤ (lst o).length) (k : IntKind) : evSlcO (es α) (slA o) none (some (.int k i)) = some (slA (o.map (List.take i))) := by
  have h2 : (0 : Int) ≤ (i : Int) ∧ (i : Int) ≤ ((lst o).length : Int) := by omega
  cases o with
  | none =>
    have : i = 0 := by simpa using h
    subst this
    simp [evSlcO, slA, evSlc, optIxv, asNat]
  | some L =>
    simp only [lst_some] at h2
    simp [evSlcO, slA, evSlc, optIxv, asNat, h2, List.map_take]

theorem Index_loop (o : Option (List Int)) (r : Int) (hl : (lst o).length ≤ 9223372036854775807) (h : Heap) : ∀ (d i : Nat), i + d = (lst o).length →
    ∃ k : Int, slices_Index_int_int_L2 (slA o) (.int .i64 r) (.int .i64 (lst o).length) (.int .i64 i) h = some ⟨.int .i64 k, [], true, [], []⟩ ∧ (0 ≤ k ↔ r ∈ (lst o).drop i) := by
  intro d
  induction d with
  | zero =>
    intro i hi
    have e1 : (lst o).drop i = [] := List.drop_eq_nil_of_le (by omega)
    have hn : ¬ ((i : Int) < ((lst o).length : Int)) := by omega
    rw [slices_Index_int_int_L2_go, e1]
    exact ⟨-1, by simp [slices_Index_int_int_1, slices_Index_int_int_3, slices_Index_int_int_4, slices_Index_int_int_5, slices_Index_int_int_6, slices_Index_int_int_8, slices_Index_int_int_10, hn], by simp⟩
  | succ d ih =>
    intro i hi
    have hlt : i < (lst o).length := by omega
    have hn : ((i : Int) < ((lst o).length : Int)) := by omega
    have k1 := ixs_int (o := o) (i := i) (List.getElem?_eq_getElem hlt) .i64
    have hm : r ∈ (lst o).drop i ↔ r = (lst o)[i] ∨ r ∈ (lst o).drop (i + 1) := by rw [List.drop_eq_getElem_cons hlt, List.mem_cons]
    rw [slices_Index_int_int_L2_go, hm]
    by_cases he : r = (lst o)[i]
    · exact ⟨i, by simp [slices_Index_int_int_1, slices_Index_int_int_3, slices_Index_int_int_4, slices_Index_int_int_5, slices_Index_int_int_6, slices_Index_int_int_8, slices_Index_int_int_10, hn, k1, he], by simp [he]⟩
    · obtain ⟨k, h1, h2⟩ := ih (i + 1) (by omega)
      push_cast at h1
      refine ⟨k, ?_, ?_⟩
      · simp [slices_Index_int_int_1, slices_Index_int_int_3, slices_Index_int_int_4, slices_Index_int_int_5, slices_Index_int_int_6, slices_Index_int_int_8, slices_Index_int_int_10, hn, k1, he, wrap_up hlt hl, h1]
      · rw [h2]; simp [he]

@[simp] theorem s_Contains (o : Option (List Int)) (r : Int) (hl : (lst o).length ≤ 9223372036854775807) : (callW E).p 46 [slA o, .int .i64 r] = some ⟨.bool ((lst o).contains r), [], true, [], []⟩ := by
  obtain ⟨k, h1, h2⟩ := Index_loop o r hl [] (lst o).length 0 (by omega)
  simp only [Int.ofNat_zero, List.drop_zero] at h1 h2
  have hi : (callW E).p 45 [slA o, .int .i64 r] = some ⟨.int .i64 k, [], true, [], []⟩ := by
    rw [x_slices_Index_int_int, ← h1]
    simp [slices_Index_int_int_1, slices_Index_int_int_3, slices_Index_int_int_4, slices_Index_int_int_5, slices_Index_int_int_6, slices_Index_int_int_8, slices_Index_int_int_10]
  rw [x_slices_Contains_int_int]
  by_cases h0 : 0 ≤ k
  · have := h2.1 h0
    simp [slices_Contains_int_int_1, hi, h0, this]
  · have : r ∉ lst o := fun h => h0 (h2.2 h)
    simp [slices_Contains_int_int_1, hi, h0, this]
end Go.Vm
