/- InsCopies returns true, whatever its argument, and what it was given reads as it did: no condition. -/
import Derived.Test.YtgbajicpokolcaaDTc
import Derived.Test.YtgbajicpokolcaaRows
set_option linter.unusedSimpArgs false
set_option linter.unusedVariables false
set_option linter.unusedSectionVars false
namespace Go.Proofs.Ytgbajicpokolcaa
open Go.Vm
theorem own : ownKnob Try.prog.godebug = none := by kernel_rfl
theorem laidOut : laidOutB Try.prog = true := by kernel_rfl
theorem InsCopies_law : ∀ ls, ynv [tyFn] ls → ∃ r, (y7 E).p 71 ls = some r ∧ r.v = .bool true := by
  rintro _ ⟨_, _, rfl, h0, rfl⟩
  obtain ⟨f, rfl, k0a⟩ := y1hg h0
  exact ⟨_, ygq f k0a, rfl⟩

set_option maxRecDepth 100000 in
theorem InsCopies_lifted (os : Os) (started : os.Started) (H : Type) (enc : TypeId × Value → H) :
    ReturnsInHanded {} Try.checked os 3 .any (Rows.insCopiesSpec.pre6 enc Try.prog Try.f3 Rows.insCopiesRow.domain false) (Rows.insCopiesSpec.post enc Try.prog Try.f3 false true false false) :=
  yt6 (C := Try.checked) own started (by kernel_rfl) Try.func3
    (ChangeSpec.witness6 (enc := enc) (C := Try.checked) false ⟨#[], #[.agg #[.slice none 0 0, .slice none 0 0, .int .i64 0, .slice none 0 0, .slice none 0 0]], []⟩ 20 (by kernel_rfl) (by kernel_rfl) (by kernel_rfl) (by kernel_rfl))
    laidOut y1j4 (key := 71) (by kernel_rfl) (Ts := [tyFn]) (by kernel_rfl) (tb := 4) (by kernel_rfl) (by kernel_rfl) (fun ds h => by match ds, h with | [_], _ => rfl) rfl (by kernel_rfl) InsCopies_law
theorem InsCopies_holds : Rows.InsCopiesSaid :=
  OpenClaim.holds_of_wide 3 Try.f3 rfl rfl rfl rfl rfl rfl rfl ⟨rfl, rfl, rfl, rfl, rfl⟩ rfl rfl rfl rfl rfl (by kernel_rfl) Try.func3 (by kernel_rfl)
    (of_decide_eq_true (by kernel_rfl)) (by unfold Func.isWrapper; first | (rw [if_pos (by decide +kernel)]; kernel_rfl) | (rw [if_neg (by decide +kernel)]; exact ⟨rfl, rfl⟩))
    (fun os started H enc _ => InsCopies_lifted os started H enc)
end Go.Proofs.Ytgbajicpokolcaa
