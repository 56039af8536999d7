/- KinFits returns true, whatever its argument, and what it was given reads as it did: no condition. -/
import Derived.Test.YtkcigmgchfcpkaaFTc
import Derived.Test.YtkcigmgchfcpkaaRows
set_option linter.unusedSimpArgs false
set_option linter.unusedVariables false
set_option linter.unusedSectionVars false
namespace Go.Proofs.Ytkcigmgchfcpkaa
open Go.Vm
theorem own : ownKnob Try.prog.godebug = none := by kernel_rfl
theorem laidOut : laidOutB Try.prog = true := by kernel_rfl
theorem KinFits_law : ∀ ls, yhu [yrx, y113] ls → ∃ r, (y8 E).p 70 ls = some r ∧ r.v = .bool true := by
  rintro _ ⟨_, _, rfl, h0, _, _, rfl, h1, rfl⟩
  obtain ⟨o, rfl, k0a, k0b⟩ := yyc h0
  obtain ⟨z, rfl, k1a⟩ := y12r h1
  exact ⟨_, ygi o z k0b k0a k1a, rfl⟩

set_option maxRecDepth 100000 in
theorem KinFits_lifted (os : Os) (started : os.Started) (H : Type) (enc : TypeId × Value → H) :
    ReturnsInHanded {} Try.checked os 3 .any (Rows.kinFitsSpec.pre6 enc Try.prog Try.f3 Rows.kinFitsRow.domain false) (Rows.kinFitsSpec.post enc Try.prog Try.f3 false true false false) :=
  ym1 (C := Try.checked) own started (by kernel_rfl) Try.func3
    (ChangeSpec.witness6 (enc := enc) (C := Try.checked) false ⟨#[], #[.slice none 0 0, .agg #[.string "".toUTF8, .string "".toUTF8, .string "".toUTF8, .string "".toUTF8, .string "".toUTF8]], []⟩ 20 (by kernel_rfl) (by kernel_rfl) (by kernel_rfl) (by kernel_rfl))
    laidOut y19x (key := 70) (by kernel_rfl) (Ts := [yrx, y113]) (by kernel_rfl) (tb := 4) (by kernel_rfl) (by kernel_rfl) (fun ds h => by match ds, h with | [_, _], _ => rfl) rfl (by kernel_rfl) KinFits_law
theorem KinFits_holds : Rows.KinFitsSaid :=
  OpenClaim.holds_of_wide 3 Try.f3 rfl rfl rfl rfl rfl rfl rfl ⟨rfl, rfl, rfl, rfl, rfl⟩ rfl rfl rfl rfl rfl (by kernel_rfl) Try.func3 (by kernel_rfl)
    (of_decide_eq_true (by kernel_rfl)) (by unfold Func.isWrapper; first | (rw [if_pos (by decide +kernel)]; kernel_rfl) | (rw [if_neg (by decide +kernel)]; exact ⟨rfl, rfl⟩))
    (fun os started H enc _ => KinFits_lifted os started H enc)
end Go.Proofs.Ytkcigmgchfcpkaa
