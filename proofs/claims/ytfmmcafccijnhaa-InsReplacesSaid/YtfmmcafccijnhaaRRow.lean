/- InsReplaces returns true, whatever its argument, and what it was given reads as it did: no condition. -/
import Derived.Test.YtfmmcafccijnhaaRInsLa
import Derived.Test.YtfmmcafccijnhaaRTys
import Derived.Test.YtfmmcafccijnhaaRows
namespace Go.Proofs.Ytfmmcafccijnhaa
open Go.Vm
theorem own : ownKnob Try.prog.godebug = none := by kernel_rfl
theorem laidOut : laidOutB Try.prog = true := by kernel_rfl
theorem InsReplaces_law : ∀ ls, hasAll [tyIns, tyInts] ls → ∃ r, (callW E).p 72 ls = some r ∧ r.v = .bool true := by
  rintro _ ⟨_, _, rfl, h0, _, _, rfl, h1, rfl⟩
  obtain ⟨x, rfl, k0a⟩ := has_ins h0
  obtain ⟨l, rfl, k1a, k1b⟩ := has_ints h1
  exact ⟨_, InsReplaces_all x l, rfl⟩

set_option maxRecDepth 100000 in
theorem InsReplaces_lifted (os : Os) (started : os.Started) (H : Type) (enc : TypeId × Value → H) :
    ReturnsInHanded {} Try.checked os 7 .any (Rows.insReplacesSpec.pre6 enc Try.prog Try.f7 Rows.insReplacesRow.domain false) (Rows.insReplacesSpec.post enc Try.prog Try.f7 false true false false) :=
  law_lifted (C := Try.checked) own started (by kernel_rfl) Try.func7
    (ChangeSpec.witness6 (enc := enc) (C := Try.checked) false ⟨#[], #[.agg #[.int .i64 0, .int .i64 0, .int .i64 0, .int .i64 0, .int .i64 0, .int .i64 0, .int .i64 0, .string "".toUTF8, .slice none 0 0], .slice none 0 0], []⟩ 20 (by kernel_rfl) (by kernel_rfl) (by kernel_rfl) (by kernel_rfl))
    laidOut envOk (key := 72) (by kernel_rfl) (Ts := [tyIns, tyInts]) (by kernel_rfl) (tb := 4) (by kernel_rfl) (by kernel_rfl) (fun ds h => by match ds, h with | [_, _], _ => rfl) rfl (by kernel_rfl) InsReplaces_law
theorem InsReplaces_holds : Rows.InsReplacesSaid :=
  OpenClaim.holds_of_wide 7 Try.f7 rfl rfl rfl rfl rfl rfl rfl ⟨rfl, rfl, rfl, rfl, rfl⟩ rfl rfl rfl rfl rfl (by kernel_rfl) Try.func7 (by kernel_rfl)
    (of_decide_eq_true (by kernel_rfl)) (by unfold Func.isWrapper; first | (rw [if_pos (by decide +kernel)]; kernel_rfl) | (rw [if_neg (by decide +kernel)]; exact ⟨rfl, rfl⟩))
    (fun os started H enc _ => InsReplaces_lifted os started H enc)
end Go.Proofs.Ytfmmcafccijnhaa
