/- CarryChains returns true, whatever its argument, and what it was given reads as it did: no condition. -/
import Derived.Test.YtgbajicpokolcaaLTf
import Derived.Test.YtgbajicpokolcaaRows
set_option linter.unusedSimpArgs false
set_option linter.unusedVariables false
set_option linter.unusedSectionVars false
namespace Go.Proofs.Ytgbajicpokolcaa
open Go.Vm
theorem own : ownKnob Try.prog.godebug = none := by kernel_rfl
theorem laidOut : laidOutB Try.prog = true := by kernel_rfl
theorem CarryChains_law : ∀ ls, ywb [tyI, tyI] ls → ∃ r, (y5 E).p 160 ls = some r ∧ r.v = .bool true := by
  rintro _ ⟨_, _, rfl, h0, _, _, rfl, h1, rfl⟩
  obtain ⟨n, rfl, k0a⟩ := y2eb h0
  obtain ⟨c, rfl, k1a⟩ := y2eb h1
  exact ⟨_, yin n c, rfl⟩

set_option maxRecDepth 100000 in
theorem CarryChains_lifted (os : Os) (started : os.Started) (H : Type) (enc : TypeId × Value → H) :
    ReturnsInHanded {} Try.checked os 12 .any (Rows.carryChainsSpec.pre6 enc Try.prog Try.f12 Rows.carryChainsRow.domain false) (Rows.carryChainsSpec.post enc Try.prog Try.f12 false true false false) :=
  y160 (C := Try.checked) own started (by kernel_rfl) Try.func12
    (ChangeSpec.witness6 (enc := enc) (C := Try.checked) false ⟨#[], #[.int .i64 0, .int .i64 0], []⟩ 20 (by kernel_rfl) (by kernel_rfl) (by kernel_rfl) (by kernel_rfl))
    laidOut y2m3 (key := 160) (by kernel_rfl) (Ts := [tyI, tyI]) (by kernel_rfl) (tb := 4) (by kernel_rfl) (by kernel_rfl) (fun ds h => by match ds, h with | [_, _], _ => rfl) rfl (by kernel_rfl) CarryChains_law
theorem CarryChains_holds : Rows.CarryChainsSaid :=
  OpenClaim.holds_of_wide 12 Try.f12 rfl rfl rfl rfl rfl rfl rfl ⟨rfl, rfl, rfl, rfl, rfl⟩ rfl rfl rfl rfl rfl (by kernel_rfl) Try.func12 (by kernel_rfl)
    (of_decide_eq_true (by kernel_rfl)) (by unfold Func.isWrapper; first | (rw [if_pos (by decide +kernel)]; kernel_rfl) | (rw [if_neg (by decide +kernel)]; exact ⟨rfl, rfl⟩))
    (fun os started H enc _ => CarryChains_lifted os started H enc)
end Go.Proofs.Ytgbajicpokolcaa
