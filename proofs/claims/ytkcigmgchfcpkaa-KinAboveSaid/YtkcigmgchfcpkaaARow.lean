/- KinAbove returns true, whatever its argument, and what it was given reads as it did: no condition. -/
import Derived.Test.YtkcigmgchfcpkaaATc
import Derived.Test.YtkcigmgchfcpkaaRows
set_option linter.unusedSimpArgs false
set_option linter.unusedVariables false
set_option linter.unusedSectionVars false
namespace Go.Proofs.Ytkcigmgchfcpkaa
open Go.Vm
theorem own : ownKnob Try.prog.godebug = none := by kernel_rfl
theorem laidOut : laidOutB Try.prog = true := by kernel_rfl
theorem KinAbove_law : ∀ ls, yjn [yod] ls → ∃ r, (y8 E).p 176 ls = some r ∧ r.v = .bool true := by
  rintro _ ⟨_, _, rfl, h0, rfl⟩
  obtain ⟨o, rfl, k0a, k0b⟩ := ywx h0
  exact ⟨_, yfe o k0b k0a, rfl⟩

set_option maxRecDepth 100000 in
theorem KinAbove_lifted (os : Os) (started : os.Started) (H : Type) (enc : TypeId × Value → H) :
    ReturnsInHanded {} Try.checked os 4 .any (Rows.kinAboveSpec.pre6 enc Try.prog Try.f4 Rows.kinAboveRow.domain false) (Rows.kinAboveSpec.post enc Try.prog Try.f4 false true false false) :=
  ynz (C := Try.checked) own started (by kernel_rfl) Try.func4
    (ChangeSpec.witness6 (enc := enc) (C := Try.checked) false ⟨#[], #[.slice none 0 0], []⟩ 20 (by kernel_rfl) (by kernel_rfl) (by kernel_rfl) (by kernel_rfl))
    laidOut y1br (key := 176) (by kernel_rfl) (Ts := [yod]) (by kernel_rfl) (tb := 4) (by kernel_rfl) (by kernel_rfl) (fun ds h => by match ds, h with | [_], _ => rfl) rfl (by kernel_rfl) KinAbove_law
theorem KinAbove_holds : Rows.KinAboveSaid :=
  OpenClaim.holds_of_wide 4 Try.f4 rfl rfl rfl rfl rfl rfl rfl ⟨rfl, rfl, rfl, rfl, rfl⟩ rfl rfl rfl rfl rfl (by kernel_rfl) Try.func4 (by kernel_rfl)
    (of_decide_eq_true (by kernel_rfl)) (by unfold Func.isWrapper; first | (rw [if_pos (by decide +kernel)]; kernel_rfl) | (rw [if_neg (by decide +kernel)]; exact ⟨rfl, rfl⟩))
    (fun os started H enc _ => KinAbove_lifted os started H enc)
end Go.Proofs.Ytkcigmgchfcpkaa
