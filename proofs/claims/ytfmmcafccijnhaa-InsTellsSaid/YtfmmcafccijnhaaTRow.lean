/- InsTells returns true, whatever its argument, and its argument reads as it did: no condition. -/
import Derived.Test.YtfmmcafccijnhaaTTells
import Derived.Test.YtfmmcafccijnhaaRows
namespace Go.Proofs.Ytfmmcafccijnhaa
open Go.Vm
def tyIns : Ty := .struct (.sCons (.int .i64) (.sCons (.int .i64) (.sCons (.int .i64) (.sCons (.int .i64) (.sCons (.int .i64) (.sCons (.int .i64) (.sCons (.int .i64) (.sCons .str (.sCons (.slice 1 (.int .i64)) .sNil)))))))))
theorem own : ownKnob Try.prog.godebug = none := by kernel_rfl
theorem laidOut : laidOutB Try.prog = true := by kernel_rfl
/-- Numbers in rows of one cell. -/
theorem rows_ints : ∀ (rows : List (List AV)), (∀ row, row ∈ rows → (Ty.int .i64).has row) → ∃ L, rows = iRows L
  | [], _ => ⟨[], rfl⟩
  | r :: rows, h => by
    obtain ⟨L, rfl⟩ := rows_ints rows (fun row hr => h row (by simp [hr]))
    obtain ⟨n, rfl, _⟩ := h r (by simp)
    exact ⟨n :: L, rfl⟩

theorem ins_open {cs : List AV} (h : tyIns.has cs) : ∃ op d a b c n t s l, cs = [.int .i64 op, .int .i64 d, .int .i64 a, .int .i64 b, .int .i64 c, .int .i64 n, .int .i64 t, .str s, l] ∧ (l = .nils ∨ ∃ L, l = .rs 1 (iRows L)) := by
  obtain ⟨_, _, rfl, ⟨op, rfl, _⟩, _, _, rfl, ⟨d, rfl, _⟩, _, _, rfl, ⟨a, rfl, _⟩, _, _, rfl, ⟨b, rfl, _⟩, _, _, rfl, ⟨c, rfl, _⟩, _, _, rfl, ⟨n, rfl, _⟩, _, _, rfl, ⟨t, rfl, _⟩, _, _, rfl, ⟨s, rfl, _⟩, _, _, rfl, hl, rfl⟩ := h
  rcases hl with rfl | ⟨rows, rfl, _, hr⟩
  · exact ⟨op, d, a, b, c, n, t, s, _, rfl, .inl rfl⟩
  · obtain ⟨L, rfl⟩ := rows_ints rows hr
    exact ⟨op, d, a, b, c, n, t, s, _, rfl, .inr ⟨L, rfl⟩⟩

theorem InsTells_law : ∀ ls, hasAll [tyIns] ls → ∃ r, (callW E).p 26 ls = some r ∧ r.v = .bool true := by
  rintro _ ⟨cs, _, rfl, h, rfl⟩
  obtain ⟨op, d, a, b, c, n, t, s, l, rfl, hl⟩ := ins_open h
  exact ⟨_, tells_all hl, rfl⟩

set_option maxRecDepth 100000 in
theorem InsTells_lifted (os : Os) (started : os.Started) (H : Type) (enc : TypeId × Value → H) :
    ReturnsInHanded {} Try.checked os 6 .any (Rows.insTellsSpec.pre6 enc Try.prog Try.f6 Rows.insTellsRow.domain false) (Rows.insTellsSpec.post enc Try.prog Try.f6 false true false false) :=
  law_lifted (C := Try.checked) own started (by kernel_rfl) Try.func6
    (ChangeSpec.witness6 (enc := enc) (C := Try.checked) false ⟨#[], #[.agg #[.int .i64 0, .int .i64 0, .int .i64 0, .int .i64 0, .int .i64 0, .int .i64 0, .int .i64 0, .string "".toUTF8, .slice none 0 0]], []⟩ 20 (by kernel_rfl) (by kernel_rfl) (by kernel_rfl) (by kernel_rfl))
    laidOut envOk (key := 26) (by kernel_rfl) (Ts := [tyIns]) (by kernel_rfl) (tb := 4) (by kernel_rfl) (by kernel_rfl) (fun ds h => by match ds, h with | [_], _ => rfl) rfl (by kernel_rfl) InsTells_law
theorem InsTells_holds : Rows.InsTellsSaid :=
  OpenClaim.holds_of_wide 6 Try.f6 rfl rfl rfl rfl rfl rfl rfl ⟨rfl, rfl, rfl, rfl, rfl⟩ rfl rfl rfl rfl rfl (by kernel_rfl) Try.func6 (by kernel_rfl)
    (of_decide_eq_true (by kernel_rfl)) (by unfold Func.isWrapper; first | (rw [if_pos (by decide +kernel)]; kernel_rfl) | (rw [if_neg (by decide +kernel)]; exact ⟨rfl, rfl⟩))
    (fun os started H enc _ => InsTells_lifted os started H enc)
end Go.Proofs.Ytfmmcafccijnhaa
