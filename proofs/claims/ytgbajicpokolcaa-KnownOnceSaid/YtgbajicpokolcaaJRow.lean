/- KnownOnce returns true, whatever its argument, and what it was given reads as it did: no condition. -/
import Derived.Test.YtgbajicpokolcaaJTf
import Derived.Test.YtgbajicpokolcaaRows
set_option linter.unusedSimpArgs false
set_option linter.unusedVariables false
set_option linter.unusedSectionVars false
namespace Go.Proofs.Ytgbajicpokolcaa
open Go.Vm
theorem own : ownKnob Try.prog.godebug = none := by kernel_rfl
theorem laidOut : laidOutB Try.prog = true := by kernel_rfl
theorem KnownOnce_law : ∀ ls, ysp [tyI, tyI, tyI] ls → ∃ r, (yb E).p 164 ls = some r ∧ r.v = .bool true := by
  rintro _ ⟨_, _, rfl, h0, _, _, rfl, h1, _, _, rfl, h2, rfl⟩
  obtain ⟨a, rfl, k0a⟩ := y1wu h0
  obtain ⟨c, rfl, k1a⟩ := y1wu h1
  obtain ⟨o, rfl, k2a⟩ := y1wu h2
  exact ⟨_, yjq a c o, rfl⟩

set_option maxRecDepth 100000 in
theorem KnownOnce_lifted (os : Os) (started : os.Started) (H : Type) (enc : TypeId × Value → H) :
    ReturnsInHanded {} Try.checked os 5 .any (Rows.knownOnceSpec.pre6 enc Try.prog Try.f5 Rows.knownOnceRow.domain false) (Rows.knownOnceSpec.post enc Try.prog Try.f5 false true false false) :=
  yzw (C := Try.checked) own started (by kernel_rfl) Try.func5
    (ChangeSpec.witness6 (enc := enc) (C := Try.checked) false ⟨#[], #[.int .i64 0, .int .i64 0, .int .i64 0], []⟩ 20 (by kernel_rfl) (by kernel_rfl) (by kernel_rfl) (by kernel_rfl))
    laidOut y25b (key := 164) (by kernel_rfl) (Ts := [tyI, tyI, tyI]) (by kernel_rfl) (tb := 4) (by kernel_rfl) (by kernel_rfl) (fun ds h => by match ds, h with | [_, _, _], _ => rfl) rfl (by kernel_rfl) KnownOnce_law
theorem KnownOnce_holds : Rows.KnownOnceSaid :=
  OpenClaim.holds_of_wide 5 Try.f5 rfl rfl rfl rfl rfl rfl rfl ⟨rfl, rfl, rfl, rfl, rfl⟩ rfl rfl rfl rfl rfl (by kernel_rfl) Try.func5 (by kernel_rfl)
    (of_decide_eq_true (by kernel_rfl)) (by unfold Func.isWrapper; first | (rw [if_pos (by decide +kernel)]; kernel_rfl) | (rw [if_neg (by decide +kernel)]; exact ⟨rfl, rfl⟩))
    (fun os started H enc _ => KnownOnce_lifted os started H enc)
end Go.Proofs.Ytgbajicpokolcaa
