/- LiveReads returns true, whatever its argument, and what it was given reads as it did: no condition. -/
import Derived.Test.YthemfgeagohdhaaPTe
import Derived.Test.YthemfgeagohdhaaRows
set_option linter.unusedSimpArgs false
set_option linter.unusedVariables false
set_option linter.unusedSectionVars false
namespace Go.Proofs.Ythemfgeagohdhaa
open Go.Vm
theorem own : ownKnob Try.prog.godebug = none := by kernel_rfl
theorem laidOut : laidOutB Try.prog = true := by kernel_rfl
theorem LiveReads_law : ∀ ls, hasAll [tyFn, tyI, tyI] ls → ∃ r, (callW E).p 112 ls = some r ∧ r.v = .bool true := by
  rintro _ ⟨_, _, rfl, h0, _, _, rfl, h1, _, _, rfl, h2, rfl⟩
  obtain ⟨f, rfl, k0a⟩ := has_fn h0
  obtain ⟨i, rfl, k1a⟩ := has_i h1
  obtain ⟨r, rfl, k2a⟩ := has_i h2
  exact ⟨_, LiveReads_all f i r k0a, rfl⟩

set_option maxRecDepth 100000 in
theorem LiveReads_lifted (os : Os) (started : os.Started) (H : Type) (enc : TypeId × Value → H) :
    ReturnsInHanded {} Try.checked os 6 .any (Rows.liveReadsSpec.pre6 enc Try.prog Try.f6 Rows.liveReadsRow.domain false) (Rows.liveReadsSpec.post enc Try.prog Try.f6 false true false false) :=
  law_lifted (C := Try.checked) own started (by kernel_rfl) Try.func6
    (ChangeSpec.witness6 (enc := enc) (C := Try.checked) false ⟨#[], #[.agg #[.slice none 0 0, .slice none 0 0, .int .i64 0, .slice none 0 0, .slice none 0 0], .int .i64 0, .int .i64 0], []⟩ 20 (by kernel_rfl) (by kernel_rfl) (by kernel_rfl) (by kernel_rfl))
    laidOut envOk (key := 112) (by kernel_rfl) (Ts := [tyFn, tyI, tyI]) (by kernel_rfl) (tb := 4) (by kernel_rfl) (by kernel_rfl) (fun ds h => by match ds, h with | [_, _, _], _ => rfl) rfl (by kernel_rfl) LiveReads_law
theorem LiveReads_holds : Rows.LiveReadsSaid :=
  OpenClaim.holds_of_wide 6 Try.f6 rfl rfl rfl rfl rfl rfl rfl ⟨rfl, rfl, rfl, rfl, rfl⟩ rfl rfl rfl rfl rfl (by kernel_rfl) Try.func6 (by kernel_rfl)
    (of_decide_eq_true (by kernel_rfl)) (by unfold Func.isWrapper; first | (rw [if_pos (by decide +kernel)]; kernel_rfl) | (rw [if_neg (by decide +kernel)]; exact ⟨rfl, rfl⟩))
    (fun os started H enc _ => LiveReads_lifted os started H enc)
end Go.Proofs.Ythemfgeagohdhaa
