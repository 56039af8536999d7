/- FlowLeads returns true, whatever its argument, and what it was given reads as it did: no condition. -/
import Derived.Test.YthemfgeagohdhaaLFlowLa
import Derived.Test.YthemfgeagohdhaaLTys
import Derived.Test.YthemfgeagohdhaaRows
namespace Go.Proofs.Ythemfgeagohdhaa
open Go.Vm
theorem own : ownKnob Try.prog.godebug = none := by kernel_rfl
theorem laidOut : laidOutB Try.prog = true := by kernel_rfl
theorem FlowLeads_law : ∀ ls, hasAll [tyFn, tyI] ls → ∃ r, (callW E).p 107 ls = some r ∧ r.v = .bool true := by
  rintro _ ⟨_, _, rfl, h0, _, _, rfl, h1, rfl⟩
  obtain ⟨f, rfl, k0a⟩ := has_fn h0
  obtain ⟨i, rfl, k1a⟩ := has_i h1
  exact ⟨_, FlowLeads_all f i, rfl⟩

set_option maxRecDepth 100000 in
theorem FlowLeads_lifted (os : Os) (started : os.Started) (H : Type) (enc : TypeId × Value → H) :
    ReturnsInHanded {} Try.checked os 3 .any (Rows.flowLeadsSpec.pre6 enc Try.prog Try.f3 Rows.flowLeadsRow.domain false) (Rows.flowLeadsSpec.post enc Try.prog Try.f3 false true false false) :=
  law_lifted (C := Try.checked) own started (by kernel_rfl) Try.func3
    (ChangeSpec.witness6 (enc := enc) (C := Try.checked) false ⟨#[], #[.agg #[.slice none 0 0, .slice none 0 0, .int .i64 0, .slice none 0 0, .slice none 0 0], .int .i64 0], []⟩ 20 (by kernel_rfl) (by kernel_rfl) (by kernel_rfl) (by kernel_rfl))
    laidOut envOk (key := 107) (by kernel_rfl) (Ts := [tyFn, tyI]) (by kernel_rfl) (tb := 4) (by kernel_rfl) (by kernel_rfl) (fun ds h => by match ds, h with | [_, _], _ => rfl) rfl (by kernel_rfl) FlowLeads_law
theorem FlowLeads_holds : Rows.FlowLeadsSaid :=
  OpenClaim.holds_of_wide 3 Try.f3 rfl rfl rfl rfl rfl rfl rfl ⟨rfl, rfl, rfl, rfl, rfl⟩ rfl rfl rfl rfl rfl (by kernel_rfl) Try.func3 (by kernel_rfl)
    (of_decide_eq_true (by kernel_rfl)) (by unfold Func.isWrapper; first | (rw [if_pos (by decide +kernel)]; kernel_rfl) | (rw [if_neg (by decide +kernel)]; exact ⟨rfl, rfl⟩))
    (fun os started H enc _ => FlowLeads_lifted os started H enc)
end Go.Proofs.Ythemfgeagohdhaa
