/- DeadChains returns true, whatever its argument, and what it was given reads as it did: no condition. -/
import Derived.Test.YtgbajicpokolcaaCTf
import Derived.Test.YtgbajicpokolcaaRows
set_option linter.unusedSimpArgs false
set_option linter.unusedVariables false
set_option linter.unusedSectionVars false
namespace Go.Proofs.Ytgbajicpokolcaa
open Go.Vm
theorem own : ownKnob Try.prog.godebug = none := by kernel_rfl
theorem laidOut : laidOutB Try.prog = true := by kernel_rfl
theorem DeadChains_law : ∀ ls, ywn [tyI, Ty.bool] ls → ∃ r, (y8 E).p 114 ls = some r ∧ r.v = .bool true := by
  rintro _ ⟨_, _, rfl, h0, _, _, rfl, h1, rfl⟩
  obtain ⟨n, rfl, k0a⟩ := y2cr h0
  obtain ⟨b, rfl⟩ := y2c5 h1
  exact ⟨_, ygi n b k0a, rfl⟩

set_option maxRecDepth 100000 in
theorem DeadChains_lifted (os : Os) (started : os.Started) (H : Type) (enc : TypeId × Value → H) :
    ReturnsInHanded {} Try.checked os 4 .any (Rows.deadChainsSpec.pre6 enc Try.prog Try.f4 Rows.deadChainsRow.domain false) (Rows.deadChainsSpec.post enc Try.prog Try.f4 false true false false) :=
  y11t (C := Try.checked) own started (by kernel_rfl) Try.func4
    (ChangeSpec.witness6 (enc := enc) (C := Try.checked) false ⟨#[], #[.int .i64 0, .bool false], []⟩ 20 (by kernel_rfl) (by kernel_rfl) (by kernel_rfl) (by kernel_rfl))
    laidOut y2e6 (key := 114) (by kernel_rfl) (Ts := [tyI, Ty.bool]) (by kernel_rfl) (tb := 4) (by kernel_rfl) (by kernel_rfl) (fun ds h => by match ds, h with | [_, _], _ => rfl) rfl (by kernel_rfl) DeadChains_law
theorem DeadChains_holds : Rows.DeadChainsSaid :=
  OpenClaim.holds_of_wide 4 Try.f4 rfl rfl rfl rfl rfl rfl rfl ⟨rfl, rfl, rfl, rfl, rfl⟩ rfl rfl rfl rfl rfl (by kernel_rfl) Try.func4 (by kernel_rfl)
    (of_decide_eq_true (by kernel_rfl)) (by unfold Func.isWrapper; first | (rw [if_pos (by decide +kernel)]; kernel_rfl) | (rw [if_neg (by decide +kernel)]; exact ⟨rfl, rfl⟩))
    (fun os started H enc _ => DeadChains_lifted os started H enc)
end Go.Proofs.Ytgbajicpokolcaa
