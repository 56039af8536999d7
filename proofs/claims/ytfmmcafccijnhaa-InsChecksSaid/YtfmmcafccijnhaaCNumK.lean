/- What the stack's instructions over numbers take and give. -/
import Derived.Test.YtfmmcafccijnhaaCTyp
import Derived.Test.YtfmmcafccijnhaaCX
namespace Go.Vm
open Cel
attribute [local simp] callAny callP heapOf_nil

def numK (c : Int) : Int × Int × Int :=
  if c ∈ [96, 100, 104, 108, 112, 120, 122, 124, 126, 128, 130] then (1, 1, 1)
  else if c ∈ [97, 101, 105, 109, 113, 127, 129, 131] then (2, 2, 2)
  else if c ∈ [121, 123, 125] then (2, 1, 2)
  else if c = 148 then (2, 2, 1)
  else if c ∈ [116, 145, 146, 147] then (1, 0, 1)
  else if c = 117 then (2, 0, 2)
  else if c = 133 then (1, 0, 2)
  else if c = 136 then (2, 0, 1)
  else (0, 0, 0)

def isTup3 (r : Option (Ex AV)) (k : Int × Int × Int) : Bool :=
  match r with
  | some ⟨.tup [.int .i64 a, .int .i64 b, .int .i64 c], [], true, [], []⟩ => a == k.1 && b == k.2.1 && c == k.2.2
  | _ => false
theorem isTup3_eq {r : Option (Ex AV)} {k : Int × Int × Int} (h : isTup3 r k = true) : r = some ⟨.tup [.int .i64 k.1, .int .i64 k.2.1, .int .i64 k.2.2], [], true, [], []⟩ := by
  unfold isTup3 at h
  split at h
  · simp only [Bool.and_eq_true, beq_iff_eq] at h
    obtain ⟨⟨h1, h2⟩, h3⟩ := h
    rw [h1, h2, h3]
  · cases h
theorem range_all {n : Nat} {f : Nat → Bool} (h : ((List.range n).all f) = true) (i : Nat) (hi : i < n) : f i = true := by
  rw [List.all_eq_true] at h
  exact h i (List.mem_range.2 hi)

theorem num_in : ((List.range 60).all fun i => isTup3 ((both E 30).1.p 50 [.int .i64 (95 + i)]) (numK (95 + i)) && isTup3 ((both E 30).1.p 66 [.int .i64 (95 + i)]) (numK (95 + i))) = true := by kernel_rfl

theorem numK_out {c : Int} (h : c < 96 ∨ 148 < c) : numK c = (0, 0, 0) := by
  simp only [numK, List.mem_cons, List.not_mem_nil, or_false]
  repeat' split
  all_goals first | rfl | omega

theorem s_Kinds (c : Int) : (callW E).p 50 [.int .i64 c] = some ⟨.tup [.int .i64 (numK c).1, .int .i64 (numK c).2.1, .int .i64 (numK c).2.2], [], true, [], []⟩ := by
  by_cases h : c < 96 ∨ 148 < c
  · rw [numK_out h, x_num_Kinds]
    have h2 : ∀ k : Int, 96 ≤ k → k ≤ 148 → ¬ c = k := by omega
    simp [num_Kinds_1, num_Kinds_2, num_Kinds_3, num_Kinds_4, num_Kinds_5, num_Kinds_6, num_Kinds_7, num_Kinds_8, num_Kinds_9, num_Kinds_10, num_Kinds_11, num_Kinds_13, num_Kinds_15, h2]
    rfl
  · have := range_all num_in (c - 95).toNat (by omega)
    rw [Bool.and_eq_true] at this
    have e : (95 + ((c - 95).toNat : Int)) = c := by omega
    rw [e] at this
    exact lift_p 30 (isTup3_eq this.1)
theorem s_RKinds (c : Int) (h1 : 0 ≤ c) (h2 : c < 1000) : (callW E).p 66 [.int .i64 c] = some ⟨.tup [.int .i64 (numK c).1, .int .i64 (numK c).2.1, .int .i64 (numK c).2.2], [], true, [], []⟩ := by
  by_cases h : c < 96 ∨ 148 < c
  · rw [numK_out h, x_regletref01_Kinds]
    have h2 : ∀ k : Int, 96 ≤ k → k ≤ 148 → ¬ c = k := by omega
    rcases h with h | h
    · have a1 : ¬ 96 ≤ c := by omega
      have a2 : ¬ 120 ≤ c := by omega
      have a3 : ¬ 145 ≤ c := by omega
      simp [regletref01_Kinds_1, regletref01_Kinds_2, regletref01_Kinds_3, regletref01_Kinds_4, h2, a1, a2, a3]
      rfl
    · have a1 : 96 ≤ c := by omega
      have a2 : 120 ≤ c := by omega
      have a3 : 145 ≤ c := by omega
      have b1 : ¬ c ≤ 113 := by omega
      have b2 : ¬ c ≤ 131 := by omega
      have b3 : ¬ c ≤ 147 := by omega
      simp [regletref01_Kinds_1, regletref01_Kinds_2, regletref01_Kinds_3, regletref01_Kinds_4, h2, a1, a2, a3, b1, b2, b3]
      rfl
  · have := range_all num_in (c - 95).toNat (by omega)
    rw [Bool.and_eq_true] at this
    have e : (95 + ((c - 95).toNat : Int)) = c := by omega
    rw [e] at this
    exact lift_p 30 (isTup3_eq this.2)
end Go.Vm
