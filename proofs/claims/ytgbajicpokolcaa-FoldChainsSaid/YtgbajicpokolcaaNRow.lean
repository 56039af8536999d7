/- FoldChains returns true, whatever its argument, and what it was given reads as it did: no condition. -/
import Derived.Test.YtgbajicpokolcaaNTe
import Derived.Test.YtgbajicpokolcaaRows
set_option linter.unusedSimpArgs false
set_option linter.unusedVariables false
set_option linter.unusedSectionVars false
namespace Go.Proofs.Ytgbajicpokolcaa
open Go.Vm
theorem own : ownKnob Try.prog.godebug = none := by kernel_rfl
theorem laidOut : laidOutB Try.prog = true := by kernel_rfl
theorem FoldChains_law : ∀ ls, yvo [yll, yll] ls → ∃ r, (y6 E).p 121 ls = some r ∧ r.v = .bool true := by
  rintro _ ⟨_, _, rfl, h0, _, _, rfl, h1, rfl⟩
  obtain ⟨co, rfl, k0a, k0b⟩ := yte h0
  obtain ⟨no, rfl, k1a, k1b⟩ := yte h1
  exact ⟨_, yg1 co no k1b (Nat.le_trans (Nat.le_mul_of_pos_right _ (by decide)) (Nat.le_trans k1a (by decide))), rfl⟩

set_option maxRecDepth 100000 in
theorem FoldChains_lifted (os : Os) (started : os.Started) (H : Type) (enc : TypeId × Value → H) :
    ReturnsInHanded {} Try.checked os 6 .any (Rows.foldChainsSpec.pre6 enc Try.prog Try.f6 Rows.foldChainsRow.domain false) (Rows.foldChainsSpec.post enc Try.prog Try.f6 false true false false) :=
  yza (C := Try.checked) own started (by kernel_rfl) Try.func6
    (ChangeSpec.witness6 (enc := enc) (C := Try.checked) false ⟨#[], #[.slice none 0 0, .slice none 0 0], []⟩ 20 (by kernel_rfl) (by kernel_rfl) (by kernel_rfl) (by kernel_rfl))
    laidOut y29k (key := 121) (by kernel_rfl) (Ts := [yll, yll]) (by kernel_rfl) (tb := 4) (by kernel_rfl) (by kernel_rfl) (fun ds h => by match ds, h with | [_, _], _ => rfl) rfl (by kernel_rfl) FoldChains_law
theorem FoldChains_holds : Rows.FoldChainsSaid :=
  OpenClaim.holds_of_wide 6 Try.f6 rfl rfl rfl rfl rfl rfl rfl ⟨rfl, rfl, rfl, rfl, rfl⟩ rfl rfl rfl rfl rfl (by kernel_rfl) Try.func6 (by kernel_rfl)
    (of_decide_eq_true (by kernel_rfl)) (by unfold Func.isWrapper; first | (rw [if_pos (by decide +kernel)]; kernel_rfl) | (rw [if_neg (by decide +kernel)]; exact ⟨rfl, rfl⟩))
    (fun os started H enc _ => FoldChains_lifted os started H enc)
end Go.Proofs.Ytgbajicpokolcaa
