/- KnownForms returns true, whatever its argument, and what it was given reads as it did: no condition. -/
import Derived.Test.YtgbajicpokolcaaGTf
import Derived.Test.YtgbajicpokolcaaRows
set_option linter.unusedSimpArgs false
set_option linter.unusedVariables false
set_option linter.unusedSectionVars false
namespace Go.Proofs.Ytgbajicpokolcaa
open Go.Vm
theorem own : ownKnob Try.prog.godebug = none := by kernel_rfl
theorem laidOut : laidOutB Try.prog = true := by kernel_rfl
theorem KnownForms_law : ∀ ls, y163 [tyFn] ls → ∃ r, (yb E).p 162 ls = some r ∧ r.v = .bool true := by
  rintro _ ⟨_, _, rfl, h0, rfl⟩
  obtain ⟨f, rfl, k0a⟩ := y2h2 h0
  exact ⟨_, ylc f k0a, rfl⟩

set_option maxRecDepth 100000 in
theorem KnownForms_lifted (os : Os) (started : os.Started) (H : Type) (enc : TypeId × Value → H) :
    ReturnsInHanded {} Try.checked os 11 .any (Rows.knownFormsSpec.pre6 enc Try.prog Try.f11 Rows.knownFormsRow.domain false) (Rows.knownFormsSpec.post enc Try.prog Try.f11 false true false false) :=
  y1by (C := Try.checked) own started (by kernel_rfl) Try.func11
    (ChangeSpec.witness6 (enc := enc) (C := Try.checked) false ⟨#[], #[.agg #[.slice none 0 0, .slice none 0 0, .int .i64 0, .slice none 0 0, .slice none 0 0]], []⟩ 20 (by kernel_rfl) (by kernel_rfl) (by kernel_rfl) (by kernel_rfl))
    laidOut y2oo (key := 162) (by kernel_rfl) (Ts := [tyFn]) (by kernel_rfl) (tb := 4) (by kernel_rfl) (by kernel_rfl) (fun ds h => by match ds, h with | [_], _ => rfl) rfl (by kernel_rfl) KnownForms_law
theorem KnownForms_holds : Rows.KnownFormsSaid :=
  OpenClaim.holds_of_wide 11 Try.f11 rfl rfl rfl rfl rfl rfl rfl ⟨rfl, rfl, rfl, rfl, rfl⟩ rfl rfl rfl rfl rfl (by kernel_rfl) Try.func11 (by kernel_rfl)
    (of_decide_eq_true (by kernel_rfl)) (by unfold Func.isWrapper; first | (rw [if_pos (by decide +kernel)]; kernel_rfl) | (rw [if_neg (by decide +kernel)]; exact ⟨rfl, rfl⟩))
    (fun os started H enc _ => KnownForms_lifted os started H enc)
end Go.Proofs.Ytgbajicpokolcaa
