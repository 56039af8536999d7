/- KnownFewer returns true, whatever its argument, and what it was given reads as it did: no condition. -/
import Derived.Test.YtgbajicpokolcaaHTf
import Derived.Test.YtgbajicpokolcaaRows
set_option linter.unusedSimpArgs false
set_option linter.unusedVariables false
set_option linter.unusedSectionVars false
namespace Go.Proofs.Ytgbajicpokolcaa
open Go.Vm
theorem own : ownKnob Try.prog.godebug = none := by kernel_rfl
theorem laidOut : laidOutB Try.prog = true := by kernel_rfl
theorem KnownFewer_law : ∀ ls, y18p [tyFn] ls → ∃ r, (y8 E).p 163 ls = some r ∧ r.v = .bool true := by
  rintro _ ⟨_, _, rfl, h0, rfl⟩
  obtain ⟨f, rfl, k0a⟩ := y2o1 h0
  exact ⟨_, ylx f k0a, rfl⟩

set_option maxRecDepth 100000 in
theorem KnownFewer_lifted (os : Os) (started : os.Started) (H : Type) (enc : TypeId × Value → H) :
    ReturnsInHanded {} Try.checked os 8 .any (Rows.knownFewerSpec.pre6 enc Try.prog Try.f8 Rows.knownFewerRow.domain false) (Rows.knownFewerSpec.post enc Try.prog Try.f8 false true false false) :=
  y1gg (C := Try.checked) own started (by kernel_rfl) Try.func8
    (ChangeSpec.witness6 (enc := enc) (C := Try.checked) false ⟨#[], #[.agg #[.slice none 0 0, .slice none 0 0, .int .i64 0, .slice none 0 0, .slice none 0 0]], []⟩ 20 (by kernel_rfl) (by kernel_rfl) (by kernel_rfl) (by kernel_rfl))
    laidOut y2rt (key := 163) (by kernel_rfl) (Ts := [tyFn]) (by kernel_rfl) (tb := 4) (by kernel_rfl) (by kernel_rfl) (fun ds h => by match ds, h with | [_], _ => rfl) rfl (by kernel_rfl) KnownFewer_law
theorem KnownFewer_holds : Rows.KnownFewerSaid :=
  OpenClaim.holds_of_wide 8 Try.f8 rfl rfl rfl rfl rfl rfl rfl ⟨rfl, rfl, rfl, rfl, rfl⟩ rfl rfl rfl rfl rfl (by kernel_rfl) Try.func8 (by kernel_rfl)
    (of_decide_eq_true (by kernel_rfl)) (by unfold Func.isWrapper; first | (rw [if_pos (by decide +kernel)]; kernel_rfl) | (rw [if_neg (by decide +kernel)]; exact ⟨rfl, rfl⟩))
    (fun os started H enc _ => KnownFewer_lifted os started H enc)
end Go.Proofs.Ytgbajicpokolcaa
