/- FoldWays returns true, whatever its argument, and what it was given reads as it did: no condition. -/
import Derived.Test.YtgbajicpokolcaaWTe
import Derived.Test.YtgbajicpokolcaaRows
set_option linter.unusedSimpArgs false
set_option linter.unusedVariables false
set_option linter.unusedSectionVars false
namespace Go.Proofs.Ytgbajicpokolcaa
open Go.Vm
theorem own : ownKnob Try.prog.godebug = none := by kernel_rfl
theorem laidOut : laidOutB Try.prog = true := by kernel_rfl
theorem FoldWays_law : ∀ ls, yv9 [tyI, y1bb, y1bb] ls → ∃ r, (y5 E).p 122 ls = some r ∧ r.v = .bool true := by
  rintro _ ⟨_, _, rfl, h0, _, _, rfl, h1, _, _, rfl, h2, rfl⟩
  obtain ⟨c, rfl, k0a⟩ := y23p h0
  obtain ⟨a, rfl, k1a⟩ := y163 h1
  obtain ⟨b, rfl, k2a⟩ := y163 h2
  exact ⟨_, ykj c a b k0a k1a k2a, rfl⟩

set_option maxRecDepth 100000 in
theorem FoldWays_lifted (os : Os) (started : os.Started) (H : Type) (enc : TypeId × Value → H) :
    ReturnsInHanded {} Try.checked os 10 .any (Rows.foldWaysSpec.pre6 enc Try.prog Try.f10 Rows.foldWaysRow.domain false) (Rows.foldWaysSpec.post enc Try.prog Try.f10 false true false false) :=
  yyz (C := Try.checked) own started (by kernel_rfl) Try.func10
    (ChangeSpec.witness6 (enc := enc) (C := Try.checked) false ⟨#[], #[.int .i64 0, .int .i32 0, .int .i32 0], []⟩ 20 (by kernel_rfl) (by kernel_rfl) (by kernel_rfl) (by kernel_rfl))
    laidOut y253 (key := 122) (by kernel_rfl) (Ts := [tyI, y1bb, y1bb]) (by kernel_rfl) (tb := 4) (by kernel_rfl) (by kernel_rfl) (fun ds h => by match ds, h with | [_, _, _], _ => rfl) rfl (by kernel_rfl) FoldWays_law
theorem FoldWays_holds : Rows.FoldWaysSaid :=
  OpenClaim.holds_of_wide 10 Try.f10 rfl rfl rfl rfl rfl rfl rfl ⟨rfl, rfl, rfl, rfl, rfl⟩ rfl rfl rfl rfl rfl (by kernel_rfl) Try.func10 (by kernel_rfl)
    (of_decide_eq_true (by kernel_rfl)) (by unfold Func.isWrapper; first | (rw [if_pos (by decide +kernel)]; kernel_rfl) | (rw [if_neg (by decide +kernel)]; exact ⟨rfl, rfl⟩))
    (fun os started H enc _ => FoldWays_lifted os started H enc)
end Go.Proofs.Ytgbajicpokolcaa
