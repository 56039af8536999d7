/- What is handed in, as things. -/
import Derived.Test.YthemfgeagohdhaaLTyp
namespace Go.Vm
open Cel

def inI (n : Int) : Prop := -9223372036854775808 ≤ n ∧ n ≤ 9223372036854775807
abbrev tyI : Ty := .int .i64
theorem has_i {cs : List AV} (h : tyI.has cs) : ∃ n : Int, cs = [.int .i64 n] ∧ inI n := by
  obtain ⟨n, rfl, h1, h2⟩ := h
  exact ⟨n, rfl, by simpa [IntKind.min, IntKind.max, IntKind.signed, IntKind.bits] using h1, by simpa [IntKind.min, IntKind.max, IntKind.signed, IntKind.bits] using h2⟩
theorem has_b {cs : List AV} (h : Ty.bool.has cs) : ∃ b : Bool, cs = [.bool b] := h
theorem has_s {cs : List AV} (h : Ty.str.has cs) : ∃ s : List UInt8, cs = [.str s] ∧ s.length ≤ maxLen := h

theorem has_rows {α : Type} [Cel α] {T : Ty} {Q : α → Prop} (hT : ∀ row, T.has row → ∃ x : α, row = enc x ∧ Q x) : ∀ (rows : List (List AV)), (∀ row, row ∈ rows → T.has row) → ∃ L : List α, rows = L.map enc ∧ ∀ x ∈ L, Q x
  | [], _ => ⟨[], rfl, fun x h => by cases h⟩
  | r :: rows, h => by
    obtain ⟨L, rfl, hL⟩ := has_rows hT rows (fun row hr => h row (by simp [hr]))
    obtain ⟨x, rfl, hx⟩ := hT r (h r (by simp))
    refine ⟨x :: L, rfl, fun y hy => ?_⟩
    rcases List.mem_cons.1 hy with rfl | hy
    · exact hx
    · exact hL y hy
theorem has_sl {α : Type} [Cel α] {T : Ty} {Q : α → Prop} (hT : ∀ row, T.has row → ∃ x : α, row = enc x ∧ Q x) {cs : List AV} (h : (Ty.slice (es α) T).has cs) : ∃ o : Option (List α), cs = [slA o] ∧ (lst o).length ≤ maxLen ∧ ∀ x ∈ lst o, Q x := by
  rcases h with rfl | ⟨rows, rfl, hl, hr⟩
  · exact ⟨none, rfl, Nat.zero_le _, fun x h => by cases h⟩
  · obtain ⟨L, rfl, hL⟩ := has_rows hT rows hr
    exact ⟨some L, rfl, by simpa using hl, hL⟩

abbrev tyInts : Ty := .slice 1 tyI
theorem has_ints {cs : List AV} (h : tyInts.has cs) : ∃ o : Option (List Int), cs = [slA o] ∧ (lst o).length ≤ maxLen ∧ ∀ x ∈ lst o, inI x := has_sl (α := Int) (T := tyI) (fun _ h => has_i h) h
abbrev tyBools : Ty := .slice 1 .bool
theorem has_bools {cs : List AV} (h : tyBools.has cs) : ∃ o : Option (List Bool), cs = [slA o] ∧ (lst o).length ≤ maxLen ∧ ∀ x ∈ lst o, True :=
  has_sl (α := Bool) (T := .bool) (Q := fun _ => True) (fun _ h => by obtain ⟨b, rfl⟩ := has_b h; exact ⟨b, rfl, trivial⟩) h

abbrev tyIns : Ty := .struct (.sCons tyI (.sCons tyI (.sCons tyI (.sCons tyI (.sCons tyI (.sCons tyI (.sCons tyI (.sCons .str (.sCons tyInts .sNil)))))))))
abbrev tyRow : Ty := .struct (.sCons tyI (.sCons tyI (.sCons tyI (.sCons .str .sNil))))

structure InsOk (x : Ins) : Prop where
  op : inI x.op
  d : inI x.d
  a : inI x.a
  b : inI x.b
  c : inI x.c
  n : inI x.n
  t : inI x.t
  s : x.s.length ≤ maxLen
  len : (lst x.args).length ≤ maxLen
  args : ∀ r ∈ lst x.args, inI r
structure RowOk (r : Row) : Prop where
  f : inI r.f
  t : inI r.t
  a : inI r.at_
  c : r.c.length ≤ maxLen
structure FnIn (f : Fn) : Prop where
  regs : (lst f.regs).length ≤ maxLen
  regI : ∀ x ∈ lst f.regs, inI x
  params : (lst f.params).length ≤ maxLen
  parI : ∀ x ∈ lst f.params, inI x
  ret : inI f.ret
  code : (lst f.code).length ≤ maxLen
  insI : ∀ x ∈ lst f.code, InsOk x
  rows : (lst f.rows).length ≤ maxLen
  rowI : ∀ x ∈ lst f.rows, RowOk x

theorem has_ins {cs : List AV} (h : tyIns.has cs) : ∃ x : Ins, cs = enc x ∧ InsOk x := by
  obtain ⟨_, _, rfl, h1, _, _, rfl, h2, _, _, rfl, h3, _, _, rfl, h4, _, _, rfl, h5, _, _, rfl, h6, _, _, rfl, h7, _, _, rfl, h8, _, _, rfl, h9, rfl⟩ := h
  obtain ⟨op, rfl, k1⟩ := has_i h1
  obtain ⟨d, rfl, k2⟩ := has_i h2
  obtain ⟨a, rfl, k3⟩ := has_i h3
  obtain ⟨b, rfl, k4⟩ := has_i h4
  obtain ⟨c, rfl, k5⟩ := has_i h5
  obtain ⟨n, rfl, k6⟩ := has_i h6
  obtain ⟨t, rfl, k7⟩ := has_i h7
  obtain ⟨s, rfl, k8⟩ := has_s h8
  obtain ⟨l, rfl, k9, k10⟩ := has_ints h9
  exact ⟨⟨op, d, a, b, c, n, t, s, l⟩, rfl, ⟨k1, k2, k3, k4, k5, k6, k7, k8, k9, k10⟩⟩
theorem has_row {cs : List AV} (h : tyRow.has cs) : ∃ x : Row, cs = enc x ∧ RowOk x := by
  obtain ⟨_, _, rfl, h1, _, _, rfl, h2, _, _, rfl, h3, _, _, rfl, h8, rfl⟩ := h
  obtain ⟨f, rfl, k1⟩ := has_i h1
  obtain ⟨t, rfl, k2⟩ := has_i h2
  obtain ⟨a, rfl, k3⟩ := has_i h3
  obtain ⟨s, rfl, k8⟩ := has_s h8
  exact ⟨⟨f, t, a, s⟩, rfl, ⟨k1, k2, k3, k8⟩⟩
abbrev tyFn : Ty := .struct (.sCons tyInts (.sCons tyInts (.sCons tyI (.sCons (.slice 9 tyIns) (.sCons (.slice 4 tyRow) .sNil)))))
theorem has_fn {cs : List AV} (h : tyFn.has cs) : ∃ x : Fn, cs = enc x ∧ FnIn x := by
  obtain ⟨_, _, rfl, h1, _, _, rfl, h2, _, _, rfl, h3, _, _, rfl, h4, _, _, rfl, h5, rfl⟩ := h
  obtain ⟨regs, rfl, k1, l1⟩ := has_ints h1
  obtain ⟨params, rfl, k2, l2⟩ := has_ints h2
  obtain ⟨ret, rfl, k3⟩ := has_i h3
  obtain ⟨code, rfl, k4, l4⟩ := has_sl (α := Ins) (T := tyIns) (fun _ h => has_ins h) h4
  obtain ⟨rows, rfl, k5, l5⟩ := has_sl (α := Row) (T := tyRow) (fun _ h => has_row h) h5
  exact ⟨⟨regs, params, ret, code, rows⟩, rfl, ⟨k1, l1, k2, l2, k3, k4, l4, k5, l5⟩⟩
end Go.Vm
