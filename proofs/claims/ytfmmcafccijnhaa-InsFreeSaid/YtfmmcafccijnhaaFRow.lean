/- InsFree returns true, whatever its argument, and what it was given reads as it did: no condition. -/
import Derived.Test.YtfmmcafccijnhaaFTb
import Derived.Test.YtfmmcafccijnhaaRows
set_option linter.unusedSimpArgs false
set_option linter.unusedVariables false
set_option linter.unusedSectionVars false
namespace Go.Proofs.Ytfmmcafccijnhaa
open Go.Vm
theorem own : ownKnob Try.prog.godebug = none := by kernel_rfl
theorem laidOut : laidOutB Try.prog = true := by kernel_rfl
theorem InsFree_law : ∀ ls, hasAll [tyFn, tyI, tyIns] ls → ∃ r, (callW E).p 12 ls = some r ∧ r.v = .bool true := by
  rintro _ ⟨_, _, rfl, h0, _, _, rfl, h1, _, _, rfl, h2, rfl⟩
  obtain ⟨f, rfl, k0a⟩ := has_fn h0
  obtain ⟨a, rfl, k1a⟩ := has_i h1
  obtain ⟨x, rfl, k2a⟩ := has_ins h2
  exact ⟨_, InsFree_all f a x k0a, rfl⟩

set_option maxRecDepth 100000 in
theorem InsFree_lifted (os : Os) (started : os.Started) (H : Type) (enc : TypeId × Value → H) :
    ReturnsInHanded {} Try.checked os 4 .any (Rows.insFreeSpec.pre6 enc Try.prog Try.f4 Rows.insFreeRow.domain false) (Rows.insFreeSpec.post enc Try.prog Try.f4 false true false false) :=
  law_lifted (C := Try.checked) own started (by kernel_rfl) Try.func4
    (ChangeSpec.witness6 (enc := enc) (C := Try.checked) false ⟨#[], #[.agg #[.slice none 0 0, .slice none 0 0, .int .i64 0, .slice none 0 0, .slice none 0 0], .int .i64 0, .agg #[.int .i64 0, .int .i64 0, .int .i64 0, .int .i64 0, .int .i64 0, .int .i64 0, .int .i64 0, .string "".toUTF8, .slice none 0 0]], []⟩ 20 (by kernel_rfl) (by kernel_rfl) (by kernel_rfl) (by kernel_rfl))
    laidOut envOk (key := 12) (by kernel_rfl) (Ts := [tyFn, tyI, tyIns]) (by kernel_rfl) (tb := 4) (by kernel_rfl) (by kernel_rfl) (fun ds h => by match ds, h with | [_, _, _], _ => rfl) rfl (by kernel_rfl) InsFree_law
theorem InsFree_holds : Rows.InsFreeSaid :=
  OpenClaim.holds_of_wide 4 Try.f4 rfl rfl rfl rfl rfl rfl rfl ⟨rfl, rfl, rfl, rfl, rfl⟩ rfl rfl rfl rfl rfl (by kernel_rfl) Try.func4 (by kernel_rfl)
    (of_decide_eq_true (by kernel_rfl)) (by unfold Func.isWrapper; first | (rw [if_pos (by decide +kernel)]; kernel_rfl) | (rw [if_neg (by decide +kernel)]; exact ⟨rfl, rfl⟩))
    (fun os started H enc _ => InsFree_lifted os started H enc)
end Go.Proofs.Ytfmmcafccijnhaa
