/- EmitNumbers returns true, whatever its argument, and what it was given reads as it did: no condition. -/
import Derived.Test.YtjlbafgbohekfaaNTg
import Derived.Test.YtjlbafgbohekfaaRows
set_option linter.unusedSimpArgs false
set_option linter.unusedVariables false
set_option linter.unusedSectionVars false
namespace Go.Proofs.Ytjlbafgbohekfaa
open Go.Vm
theorem own : ownKnob Try.prog.godebug = none := by kernel_rfl
theorem laidOut : laidOutB Try.prog = true := by kernel_rfl
theorem EmitNumbers_law : ∀ ls, yux [y1ok, y1ru] ls → ∃ r, (yd E).p 229 ls = some r ∧ r.v = .bool true := by
 rintro _ ⟨_, _, rfl, h0, _, _, rfl, h1, rfl⟩
 obtain ⟨N, rfl, k0a, k0b⟩ := y1v4 h0
 obtain ⟨T, rfl, k1a⟩ := y1xx h1
 exact ⟨_, yi4 N T k0b (fun t ht => by have := k1a t ht; have e : reachBytes = 140737488351232 := rfl; omega), rfl⟩

set_option maxRecDepth 100000 in
theorem EmitNumbers_lifted (os : Os) (started : os.Started) (H : Type) (enc : TypeId × Value → H) :
  ReturnsInHanded {} Try.checked os 3 .any (Rows.emitNumbersSpec.pre6 enc Try.prog Try.f3 Rows.emitNumbersRow.domain false) (Rows.emitNumbersSpec.post enc Try.prog Try.f3 false true false false) :=
 y161 (C := Try.checked) own started (by kernel_rfl) Try.func3
  (ChangeSpec.witness6 (enc := enc) (C := Try.checked) false ⟨#[], #[.slice none 0 0, .slice none 0 0], []⟩ 20 (by kernel_rfl) (by kernel_rfl) (by kernel_rfl) (by kernel_rfl))
  laidOut y2tx (key := 229) (by kernel_rfl) (Ts := [y1ok, y1ru]) (by kernel_rfl) (tb := 4) (by kernel_rfl) (by kernel_rfl) (fun ds h => by match ds, h with | [_, _], _ => rfl) rfl (by kernel_rfl) EmitNumbers_law
theorem EmitNumbers_holds : Rows.EmitNumbersSaid :=
 OpenClaim.holds_of_wide 3 Try.f3 rfl rfl rfl rfl rfl rfl rfl ⟨rfl, rfl, rfl, rfl, rfl⟩ rfl rfl rfl rfl rfl (by kernel_rfl) Try.func3 (by kernel_rfl)
  (of_decide_eq_true (by kernel_rfl)) (by unfold Func.isWrapper; first | (rw [if_pos (by decide +kernel)]; kernel_rfl) | (rw [if_neg (by decide +kernel)]; exact ⟨rfl, rfl⟩))
  (fun os started H enc _ => EmitNumbers_lifted os started H enc)
end Go.Proofs.Ytjlbafgbohekfaa
