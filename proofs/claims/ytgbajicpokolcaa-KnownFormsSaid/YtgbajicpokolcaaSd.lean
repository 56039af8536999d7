/-
  DERIVED: LAID BY THE SHELF's contract.sh OFF ITS TEMPLATE 'strings.Contains' FOR THE PROGRAM 'Try' (the function's number there: 134). THE LIBRARY's OWN TEXT IS WALKED: nothing is assumed of it. ✋ AT A substr OF ONE BYTE ALONE (the everyday 'strings.Contains(s, ",")'): of a longer one this contract says nothing. Behind the contract: ONE FALSE NEIGHBOUR, a contract that says a little too much, REFUTED. (The template: an AI agent of the authors' house; Sun.)
-/
import Derived.Test.YtgbajicpokolcaaChecked
import Derived.Lib.Strings
import Derived.Lib.Slices
import Derived.Lib.Walk
import Derived.Lib.Bytealg
import Derived.Test.YtgbajicpokolcaaSc
namespace Go.Proofs

set_option maxHeartbeats 1000000 in
/-- strings.Contains: "Contains reports whether substr is within s.": AT A substr OF ONE BYTE c: IT RETURNS 'decide (0 ≤ Lib.indexByte s c)'; the world is as it was. -/
theorem Try.strings_Contains_one (s : ByteArray) (c : UInt8) (w : World) :
    Calls Try.prog 134 #[.string s, .string ⟨#[c]⟩] w fun e w' => e = .returned (.bool (decide (0 ≤ Lib.indexByte s.data.toList c))) ∧ w' = w := by
  go_enter Try.func134, Try.ntmps134
  go_wp2_with (go_at_call 136; refine (Try.strings_Index_one _ _ _).mono ?_; rintro e w' ⟨rfl, rfl⟩)
  go_ret
  exact ⟨rfl, rfl⟩

/-- A LITTLE TOO MUCH: 'true of every string that is not empty': falls at "a", "b". -/
theorem Try.strings_Contains_one_not : ¬ ∀ (s : ByteArray) (c : UInt8) (w : World),
    Calls Try.prog 134 #[.string s, .string ⟨#[c]⟩] w fun e w' => e = .returned (.bool (decide (0 < s.size))) ∧ w' = w := by
  intro h
  have e := Lib.agree (by kernel_rfl) (Try.strings_Contains_one ⟨#[97]⟩ 98 default) (h ⟨#[97]⟩ 98 default)
  injection e with e
  revert e
  decide

#print axioms Try.strings_Contains_one
#print axioms Try.strings_Contains_one_not
end Go.Proofs
