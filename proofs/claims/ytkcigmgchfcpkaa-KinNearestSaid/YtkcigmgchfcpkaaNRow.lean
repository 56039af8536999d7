/- KinNearest returns true, whatever its argument, and what it was given reads as it did: no condition. -/
import Derived.Test.YtkcigmgchfcpkaaNTd
import Derived.Test.YtkcigmgchfcpkaaRows
set_option linter.unusedSimpArgs false
set_option linter.unusedVariables false
set_option linter.unusedSectionVars false
namespace Go.Proofs.Ytkcigmgchfcpkaa
open Go.Vm
theorem own : ownKnob Try.prog.godebug = none := by kernel_rfl
theorem laidOut : laidOutB Try.prog = true := by kernel_rfl
theorem KinNearest_law : ∀ ls, yje [yio, Ty.str] ls → ∃ r, (y6 E).p 202 ls = some r ∧ r.v = .bool true := by
  rintro _ ⟨_, _, rfl, h0, _, _, rfl, h1, rfl⟩
  obtain ⟨o, rfl, k0a, k0b⟩ := yvp h0
  obtain ⟨d, rfl, k1a⟩ := y1fi h1
  exact ⟨_, ycu o d k1a k0a, rfl⟩

set_option maxRecDepth 100000 in
theorem KinNearest_lifted (os : Os) (started : os.Started) (H : Type) (enc : TypeId × Value → H) :
    ReturnsInHanded {} Try.checked os 5 .any (Rows.kinNearestSpec.pre6 enc Try.prog Try.f5 Rows.kinNearestRow.domain false) (Rows.kinNearestSpec.post enc Try.prog Try.f5 false true false false) :=
  ypa (C := Try.checked) own started (by kernel_rfl) Try.func5
    (ChangeSpec.witness6 (enc := enc) (C := Try.checked) false ⟨#[], #[.slice none 0 0, .string "".toUTF8], []⟩ 20 (by kernel_rfl) (by kernel_rfl) (by kernel_rfl) (by kernel_rfl))
    laidOut y1gl (key := 202) (by kernel_rfl) (Ts := [yio, Ty.str]) (by kernel_rfl) (tb := 4) (by kernel_rfl) (by kernel_rfl) (fun ds h => by match ds, h with | [_, _], _ => rfl) rfl (by kernel_rfl) KinNearest_law
theorem KinNearest_holds : Rows.KinNearestSaid :=
  OpenClaim.holds_of_wide 5 Try.f5 rfl rfl rfl rfl rfl rfl rfl ⟨rfl, rfl, rfl, rfl, rfl⟩ rfl rfl rfl rfl rfl (by kernel_rfl) Try.func5 (by kernel_rfl)
    (of_decide_eq_true (by kernel_rfl)) (by unfold Func.isWrapper; first | (rw [if_pos (by decide +kernel)]; kernel_rfl) | (rw [if_neg (by decide +kernel)]; exact ⟨rfl, rfl⟩))
    (fun os started H enc _ => KinNearest_lifted os started H enc)
end Go.Proofs.Ytkcigmgchfcpkaa
