/- FlowBlocks returns true, whatever its argument, and what it was given reads as it did: no condition. -/
import Derived.Test.YthemfgeagohdhaaBTc
import Derived.Test.YthemfgeagohdhaaRows
set_option linter.unusedSimpArgs false
set_option linter.unusedVariables false
set_option linter.unusedSectionVars false
namespace Go.Proofs.Ythemfgeagohdhaa
open Go.Vm
theorem own : ownKnob Try.prog.godebug = none := by kernel_rfl
theorem laidOut : laidOutB Try.prog = true := by kernel_rfl
theorem FlowBlocks_law : ∀ ls, hasAll [tyFn] ls → ∃ r, (callW E).p 109 ls = some r ∧ r.v = .bool true := by
  rintro _ ⟨_, _, rfl, h0, rfl⟩
  obtain ⟨f, rfl, k0a⟩ := has_fn h0
  exact ⟨_, FlowBlocks_all f k0a, rfl⟩

set_option maxRecDepth 100000 in
theorem FlowBlocks_lifted (os : Os) (started : os.Started) (H : Type) (enc : TypeId × Value → H) :
    ReturnsInHanded {} Try.checked os 7 .any (Rows.flowBlocksSpec.pre6 enc Try.prog Try.f7 Rows.flowBlocksRow.domain false) (Rows.flowBlocksSpec.post enc Try.prog Try.f7 false true false false) :=
  law_lifted (C := Try.checked) own started (by kernel_rfl) Try.func7
    (ChangeSpec.witness6 (enc := enc) (C := Try.checked) false ⟨#[], #[.agg #[.slice none 0 0, .slice none 0 0, .int .i64 0, .slice none 0 0, .slice none 0 0]], []⟩ 20 (by kernel_rfl) (by kernel_rfl) (by kernel_rfl) (by kernel_rfl))
    laidOut envOk (key := 109) (by kernel_rfl) (Ts := [tyFn]) (by kernel_rfl) (tb := 4) (by kernel_rfl) (by kernel_rfl) (fun ds h => by match ds, h with | [_], _ => rfl) rfl (by kernel_rfl) FlowBlocks_law
theorem FlowBlocks_holds : Rows.FlowBlocksSaid :=
  OpenClaim.holds_of_wide 7 Try.f7 rfl rfl rfl rfl rfl rfl rfl ⟨rfl, rfl, rfl, rfl, rfl⟩ rfl rfl rfl rfl rfl (by kernel_rfl) Try.func7 (by kernel_rfl)
    (of_decide_eq_true (by kernel_rfl)) (by unfold Func.isWrapper; first | (rw [if_pos (by decide +kernel)]; kernel_rfl) | (rw [if_neg (by decide +kernel)]; exact ⟨rfl, rfl⟩))
    (fun os started H enc _ => FlowBlocks_lifted os started H enc)
end Go.Proofs.Ythemfgeagohdhaa
