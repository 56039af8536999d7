/- The document's answers for names and types: the program's own. The document's answer whether a call, an instruction is well formed. The document's answer whether an instruction is well formed. The document's answer whether an instruction is well formed, whole. The document's answer for an instruction is the program's. The document's answer whether a function is well formed: the program's own. Chapter 17's anchor. Cells of a function's box; numbers brought into a range. KnownFewer: only checks are gone, and all that were checked ahead in their block. -/
import Derived.KernelRfl
import Derived.Test.YtgbajicpokolcaaHTe
set_option linter.unusedSimpArgs false
set_option linter.unusedVariables false
set_option linter.unusedSectionVars false
namespace Go.Vm
open Cel
attribute [local simp] y7 y25 ym
def mayB : List UInt8 := [97, 98, 99, 100, 101, 102, 103, 104, 105, 106, 107, 108, 109, 110, 111, 112, 113, 114, 115, 116, 117, 118, 119, 120, 121, 122, 65, 66, 67, 68, 69, 70, 71, 72, 73, 74, 75, 76, 77, 78, 79, 80, 81, 82, 83, 84, 85, 86, 87, 88, 89, 90, 48, 49, 50, 51, 52, 53, 54, 55, 56, 57, 95, 36, 47]
theorem y2p6 : ((List.range 256).all fun n => mayB.contains (UInt8.ofNat n) == okB (UInt8.ofNat n)) = true := by kernel_rfl
theorem y2q1 (c : UInt8) : mayB.contains c = okB c := by
  have := yak y2p6 c.toNat c.toNat_lt
  rw [UInt8.ofNat_toNat] at this
  exact eq_of_beq this
@[simp] theorem y2t0 : E.pure 53 = true := rfl
theorem y2tg (s : List UInt8) (c : UInt8) : (y8 E).p 53 [.str s, .str [c]] = some ⟨.bool (s.contains c), [], true, [], []⟩ := by
  rw [yet, y5k, show E.fn 53 = none by kernel_rfl]
  rfl
theorem y1do (s : List UInt8) (hs : s.length ≤ 9223372036854775807) (h : Heap) : ∀ (d i : Nat), i + d = s.length →
    yfz (.str s) (.str mayB) (.int .i64 i) h = if (s.drop i).all okB then yko (.str s) h else some ⟨.bool false, [], true, [], []⟩ := by
  intro d
  induction d with
  | zero =>
    intro i hi
    have e1 : s.drop i = [] := List.drop_eq_nil_of_le (by omega)
    have hc : ¬ ((i : Int) < (s.length : Int)) := by omega
    rw [yp4, e1]
    simp [ysj, hc]
  | succ d ih =>
    intro i hi
    have hlt : i < s.length := by omega
    have hc : ((i : Int) < (s.length : Int)) := by omega
    have ih := ih (i + 1) (by omega)
    push_cast at ih
    have e1 : (s.drop i).all okB = (okB s[i] && (s.drop (i + 1)).all okB) := by rw [List.drop_eq_getElem_cons hlt, List.all_cons]
    have hsl : ydo (.str s) (some (.int .i64 (i : Int))) (some (.int .i64 ((i : Int) + 1))) = some (.str [s[i]]) := by
      have a1 : ((0 : Int) ≤ (i : Int) + 1 ∧ (i : Int) + 1 ≤ (s.length : Int)) := by omega
      have a2 : ((0 : Int) ≤ (i : Int) ∧ (i : Int) ≤ (((i : Int) + 1).toNat : Int)) := by omega
      simp only [ydo, ya5, yhy, if_pos a1, if_pos a2]
      have e2 : ((i : Int) + 1).toNat = i + 1 := by omega
      rw [e2, Int.toNat_natCast, List.drop_take, show i + 1 - i = 1 by omega, List.drop_eq_getElem_cons hlt]
      rfl
    have hm := y2tg mayB s[i]
    rw [y2q1] at hm
    rw [yp4, e1]
    simp only [ysj, ye4, y5, y12, hc, decide_true, y22]
    cases hb : okB s[i] with
    | true =>
      rw [hb] at hm
      simp [ysu, y1j hlt hs, hsl, hm, y13h, ih]
    | false =>
      rw [hb] at hm
      simp [ysu, y1j hlt hs, hsl, hm]
@[simp] theorem y2e6 (s : List UInt8) (hs : s.length ≤ 9223372036854775807) : (y8 E).p 69 [.str s, .bool false] = some ⟨.bool (y7u s), [], true, [], []⟩ := by
  have h0 := y1do s hs [] _ 0 (Nat.zero_add _)
  simp only [Int.ofNat_zero, List.drop_zero] at h0
  rw [y2ot]
  have e : yqv (.str s) (.bool false) [] = yfz (.str s) (.str mayB) (.int .i64 0) [] := by simp [yko, y13h, ysu, ysj, y12k, y1tn, yz1, yqv]; rfl
  rw [e, h0, y7u]
  cases hal : s.all okB with
  | false => simp
  | true =>
    by_cases h1 : s = []
    · subst h1; simp [yko]
    · have h2 : 1 ≤ s.length := by have := List.length_pos_iff.2 h1; omega
      by_cases h3 : s.length ≤ 60
      · have : ((s.length : Int) ≤ 60) := by omega
        simp [yko, h1, h2, h3, this]
      · have : ¬ ((s.length : Int) ≤ 60) := by omega
        simp [yko, h1, h2, h3, this]
def yhk (s : List UInt8) : Bool :=
  decide (lead s ≤ 8) && (decide (s.drop (lead s) = [73]) || decide (s.drop (lead s) = [74]) ||
    (decide (2 < (s.drop (lead s)).length) && decide ((s.drop (lead s))[0]? = some 76) && decide ((s.drop (lead s))[(s.drop (lead s)).length - 1]? = some 59) && y7u (((s.drop (lead s)).take ((s.drop (lead s)).length - 1)).drop 1)))
theorem y1g0 (s : List UInt8) (hs : s.length ≤ 9223372036854775807) (h : Heap) : ∀ (d i : Nat), i + d = lead s → yfp (.str s) (.int .i64 i) h = ymp (.str s) (.int .i64 (lead s)) h := by
  intro d
  induction d with
  | zero =>
    intro i hi
    obtain rfl : i = lead s := by omega
    rw [ymt]
    have := ybb s
    by_cases hc : lead s < s.length
    · have e := List.getElem?_eq_getElem hc
      have hne := y0c e
      have hc' : ((lead s : Int) < (s.length : Int)) := by omega
      have hb : ¬ ((s[lead s].toNat : Int) = 91) := fun hh => hne ((y5s _ 91).1 hh)
      simp [yod, hc', ixstr e, hb]
    · have hc' : ¬ ((lead s : Int) < (s.length : Int)) := by omega
      simp [yod, hc']
  | succ d ih =>
    intro i hi
    have e := y05 (s := s) (i := i) (by omega)
    have := ybb s
    have hc' : ((i : Int) < (s.length : Int)) := by omega
    have ih := ih (i + 1) (by omega)
    push_cast at ih
    rw [ymt]
    simp [yod, hc', ixstr e, y11g, y1j (show i < s.length by omega) hs, ih]
theorem y22d (s : List UInt8) (hs : s.length ≤ 9223372036854775807) : (y8 E).p 67 [.str s] = some ⟨.bool (yhk s), [], true, [], []⟩ := by
  have h0 := y1g0 s hs [] _ 0 (Nat.zero_add _)
  simp only [Int.ofNat_zero] at h0
  rw [y2m3]
  have e : yr9 (.str s) [] = yfp (.str s) (.int .i64 0) [] := by simp [yi7, yes, ys2, ymp, y11g, yod, y0b, yr9]
  rw [e, h0, yhk]
  have hle := ybb s
  have hsl : ydo (.str s) (some (.int .i64 (lead s))) none = some (.str (s.drop (lead s))) := by
    have a2 : ((0 : Int) ≤ (lead s : Int) ∧ (lead s : Int) ≤ (s.length : Int)) := by omega
    simp only [ydo, ya5, yhy, if_pos a2]
    simp
  by_cases h8 : 8 < lead s
  · have h8' : ((8 : Int) < (lead s : Int)) := by omega
    have : ¬ lead s ≤ 8 := by omega
    simp [ymp, hsl, ys2, h8', this]
  · have h8' : ¬ ((8 : Int) < (lead s : Int)) := by omega
    have h8n : lead s ≤ 8 := by omega
    have hrl : (s.drop (lead s)).length ≤ 9223372036854775807 := by rw [List.length_drop]; omega
    simp only [ymp, hsl, y5, ys2, y7o, h8', decide_false, y28, h8n, decide_true, Bool.true_and]
    generalize s.drop (lead s) = r at *
    by_cases c1 : r = [73]
    · simp [yes, c1]
    by_cases c2 : r = [74]
    · simp [yes, c2]
    by_cases c3 : 2 < r.length
    · have c3' : ((2 : Int) < (r.length : Int)) := by omega
      have k0 := List.getElem?_eq_getElem (l := r) (i := 0) (by omega)
      have k1 := List.getElem?_eq_getElem (l := r) (i := r.length - 1) (by omega)
      have i0 := ixstr k0
      have i1 := ixstr k1
      simp only [Int.ofNat_zero] at i0
      have hw : IntKind.wrap .i64 ((r.length : Int) - 1) = ((r.length - 1 : Nat) : Int) := by rw [y2r] <;> omega
      have hs2 : ydo (.str r) (some (.int .i64 1)) (some (.int .i64 ((r.length - 1 : Nat) : Int))) = some (.str ((r.take (r.length - 1)).drop 1)) := by
        have a1 : ((0 : Int) ≤ ((r.length - 1 : Nat) : Int) ∧ ((r.length - 1 : Nat) : Int) ≤ (r.length : Int)) := by omega
        have a2 : ((0 : Int) ≤ (1 : Int) ∧ (1 : Int) ≤ (((r.length - 1 : Nat) : Int).toNat : Int)) := by omega
        simp only [ydo, ya5, yhy, if_pos a1, if_pos a2]
        rfl
      have hn := y2e6 ((r.take (r.length - 1)).drop 1) (by rw [List.length_drop, List.length_take]; omega)
      rw [k0, k1]
      generalize r[0] = b0 at *
      generalize r[r.length - 1] = b1 at *
      generalize y7u ((r.take (r.length - 1)).drop 1) = N at *
      have hn' := hn
      simp only [List.drop_one] at hn'
      by_cases d0 : b0 = 76
      · by_cases d1 : b1 = 59
        · simp [yes, yi7, c1, c2, c3, c3', i0, i1, hw, hs2, hn', d0, d1]
        · have d1' : ¬ ((b1.toNat : Int) = 59) := fun hh => d1 ((y5s _ 59).1 hh)
          simp [yes, yi7, c1, c2, c3, c3', i0, i1, hw, d0, d1, d1']
      · have d0' : ¬ ((b0.toNat : Int) = 76) := fun hh => d0 ((y5s _ 76).1 hh)
        simp [yes, yi7, c1, c2, c3, c3', i0, d0, d0']
    · have c3' : ¬ ((2 : Int) < (r.length : Int)) := by omega
      simp [yes, yi7, c1, c2, c3, c3']
theorem yso {l : List UInt8} (h : y7u l = true) : 59 ∉ l ∧ 1 ≤ l.length := by
  simp only [y7u, Bool.and_eq_true, decide_eq_true_eq, List.all_eq_true] at h
  refine ⟨fun hm => ?_, h.1.1⟩
  have := h.2 59 hm
  exact absurd this (by decide)
theorem y1to (s : List UInt8) : yhk s = y7z s := by
  rw [Bool.eq_iff_iff]
  simp only [yhk, y7z, Bool.and_eq_true, Bool.or_eq_true, decide_eq_true_eq]
  have hle := ybb s
  have hdl : (s.drop (lead s)).length = s.length - lead s := List.length_drop
  by_cases hne : s = []
  · subst hne; simp [lead, yto]
  have hpos : 0 < s.length := List.length_pos_iff.2 hne
  simp only [hne, not_false_eq_true, true_and, ne_eq]
  unfold yto
  by_cases h8 : 8 < lead s
  · rw [if_pos (.inl h8)]
    constructor
    · rintro ⟨h, _⟩; omega
    · intro h; omega
  by_cases hl : lead s = s.length
  · rw [if_pos (.inr hl)]
    have : s.drop (lead s) = [] := List.drop_eq_nil_of_le (by omega)
    rw [this]
    constructor
    · rintro ⟨_, h⟩; simp at h
    · intro h; omega
  rw [if_neg (by omega)]
  have hlt : lead s < s.length := by omega
  have hd : s.drop (lead s) = s[lead s] :: s.drop (lead s + 1) := List.drop_eq_getElem_cons hlt
  have h8n : lead s ≤ 8 := by omega
  rw [List.getElem?_eq_getElem hlt]
  have hrl : (s.drop (lead s + 1)).length = s.length - (lead s + 1) := List.length_drop
  have htk : ∀ j, (s.take (lead s + 1 + j)).drop (lead s + 1) = (s.drop (lead s + 1)).take j := by
    intro j; rw [List.drop_take]; congr 1; omega
  simp only [htk]
  rw [hd]
  generalize s[lead s] = c at *
  generalize hr : s.drop (lead s + 1) = r at *
  simp only [h8n, true_and, Option.some.injEq, List.cons.injEq, List.length_cons, List.getElem?_cons_zero, Nat.add_sub_cancel]
  by_cases c1 : c = 73
  · subst c1
    simp only [true_or, if_true, true_and]
    have e1 : (s.length = lead s + 1) ↔ r = [] := by rw [← List.length_eq_zero_iff, hrl]; omega
    constructor
    · rintro (h | h)
      · rcases h with h | h
        · exact (e1.2 h).symm
        · exact absurd h.1 (by decide)
      · exact absurd h.1.1.2 (by decide)
    · intro h; exact .inl (.inl (e1.1 h.symm))
  by_cases c2 : c = 74
  · subst c2
    simp only [or_true, if_true, true_and]
    have e1 : (s.length = lead s + 1) ↔ r = [] := by rw [← List.length_eq_zero_iff, hrl]; omega
    constructor
    · rintro (h | h)
      · rcases h with h | h
        · exact absurd h.1 (by decide)
        · exact (e1.2 h).symm
      · exact absurd h.1.1.2 (by decide)
    · intro h; exact .inl (.inr (e1.1 h.symm))
  simp only [c1, c2, or_self, if_false, false_and, false_or]
  by_cases c3 : c = 76
  · subst c3
    simp only [if_true, true_and, and_true]
    have idx : ∀ j, j < r.length → r[j]? = some 59 → 59 ∉ r.take j → r.findIdx (· == 59) = j := by
      intro j hj h1 h2
      rw [List.getElem?_eq_getElem hj] at h1
      rw [List.findIdx_eq hj]
      refine ⟨by simpa using h1, fun k hk => ?_⟩
      have : r[k]'(by omega) ∈ r.take j := List.mem_take_iff_getElem.2 ⟨k, by omega, rfl⟩
      simp only [beq_eq_false_iff_ne, ne_eq]
      intro he
      rw [he] at this
      exact h2 this
    constructor
    · rintro ⟨⟨h1, h2⟩, h3⟩
      have e0 : (76 :: r : List UInt8)[r.length]? = r[r.length - 1]? := by
        rw [show r.length = (r.length - 1) + 1 by omega]; simp
      rw [e0] at h2
      have e1 : ((76 :: r : List UInt8).take r.length).drop 1 = r.take (r.length - 1) := by
        rw [show r.length = (r.length - 1) + 1 by omega]; simp
      rw [e1] at h3
      have := idx (r.length - 1) (by omega) h2 (yso h3).1
      rw [this, if_pos ⟨by omega, h3⟩]
      omega
    · intro h
      split at h
      · rename_i hc
        have hj : r.findIdx (· == 59) = r.length - 1 := by omega
        have hn := yso hc.2
        have hlen := hn.2
        rw [List.length_take, hj] at hlen
        have h59 : r[r.length - 1]? = some 59 := by
          have := List.findIdx_getElem (w := hc.1)
          rw [List.getElem?_eq_getElem (by omega)]
          simp only [hj] at this
          simpa using this
        rw [hj] at hc
        refine ⟨⟨by omega, ?_⟩, ?_⟩
        · rw [show r.length = (r.length - 1) + 1 by omega]; simpa using h59
        · have e1 : ((76 :: r : List UInt8).take r.length).drop 1 = r.take (r.length - 1) := by
            rw [show r.length = (r.length - 1) + 1 by omega]; simp
          rw [e1]; exact hc.2
      · omega
  · simp only [c3, if_false, and_false, false_and]
    constructor
    · intro h; exact h.elim
    · intro h; omega
theorem y2g9 (s : List UInt8) (hs : s.length ≤ 9223372036854775807) : (y8 E).p 67 [.str s] = some ⟨.bool (y7z s), [], true, [], []⟩ := by
  rw [y22d s hs, y1to]
end Go.Vm
namespace Go.Vm
open Cel
attribute [local simp] y7 y25 ym y2k
abbrev H2 (f : Fn) (x : Ins) : Heap := [⟨1, .arr true false 5 [enc f]⟩, ⟨1, .arr true false 9 [enc x]⟩]
abbrev H3 (f : Fn) (x : Ins) : Heap := [⟨1, .arr true false 5 [enc f]⟩, ⟨1, .arr true false 9 [enc x]⟩, ⟨1, .arr false false 1 [[.int .i64 x.d], [.int .i64 x.a], [.int .i64 x.b], [.int .i64 x.c]]⟩]
abbrev Q0 : AV := .lp 0 1 0 0
abbrev Q1 : AV := .lp 1 1 0 0
def yh7 (R : List Int) (x : Ins) : Bool :=
  (!decide (x.op = 24) && !decide (x.op = 25)) || (match lst x.args with
    | [] => false
    | r :: _ => decide (regK R r = 3))
def yqb (R : List Int) (x : Ins) : Bool :=
  !((decide (x.n < 0) && !decide (x.op = 25)) || decide (21 < (lst x.args).length) || (!decide (x.d = -1) && decide (regK R x.d = 0))) && ((lst x.args).all (fun r => !decide (regK R r = 0)) && yh7 R x)
theorem y1yz (f : Fn) (x : Ins) : y5g Q0 Q1 (H2 f x) = some ⟨.bool (yh7 (lst f.regs) x), [], true, [], []⟩ := by
  by_cases o1 : x.op = 24
  · cases ha : lst x.args with
    | nil => simp [y5g, o1, yh7, ha, ye]
    | cons r t =>
      have k1 := y3l (o := x.args) (i := 0) (x := r) (by rw [ha]; rfl) .i64
      simp only [Int.ofNat_zero] at k1
      simp [y5g, o1, yh7, ha, k1, ye]
  · by_cases o2 : x.op = 25
    · cases ha : lst x.args with
      | nil => simp [y5g, o2, yh7, ha, ye]
      | cons r t =>
        have k1 := y3l (o := x.args) (i := 0) (x := r) (by rw [ha]; rfl) .i64
        simp only [Int.ofNat_zero] at k1
        simp [y5g, o2, yh7, ha, k1, ye]
    · simp [y5g, o1, o2, yh7, ye]
theorem y1pd (f : Fn) (x : Ins) (hl : (lst x.args).length ≤ 9223372036854775807) : ∀ (d i : Nat), i + d = (lst x.args).length →
    yj0 Q0 Q1 (.int .i64 i) (H2 f x) = some ⟨.bool (((lst x.args).drop i).all (fun r => !decide (regK (lst f.regs) r = 0)) && yh7 (lst f.regs) x), [], true, [], []⟩ := by
  intro d
  induction d with
  | zero =>
    intro i hi
    have e1 : (lst x.args).drop i = [] := List.drop_eq_nil_of_le (by omega)
    have hn : ¬ ((i : Int) < ((lst x.args).length : Int)) := by omega
    rw [ym6, e1]
    simp [y6r, hn, y1yz]
  | succ d ih =>
    intro i hi
    have hlt : i < (lst x.args).length := by omega
    have hn : ((i : Int) < ((lst x.args).length : Int)) := by omega
    have k1 := y3l (o := x.args) (i := i) (List.getElem?_eq_getElem hlt) .i64
    have e1 : ((lst x.args).drop i).all (fun r => !decide (regK (lst f.regs) r = 0)) = ((!decide (regK (lst f.regs) (lst x.args)[i] = 0)) && ((lst x.args).drop (i + 1)).all (fun r => !decide (regK (lst f.regs) r = 0))) := by
      rw [List.drop_eq_getElem_cons hlt, List.all_cons]
    have ih := ih (i + 1) (by omega)
    push_cast at ih
    rw [ym6, e1]
    generalize (lst x.args)[i] = r at *
    have hs := yi5 f r
    by_cases hz : regK (lst f.regs) r = 0
    · rw [hz] at hs
      simp [y6r, hn, y7n, k1, hs, hz, ye]
    · generalize regK (lst f.regs) r = k at *
      simp [y6r, hn, y7n, k1, hs, hz, ye, y9y, y1j hlt hl]
      exact ih
theorem y2lt (f : Fn) (x : Ins) (hl : (lst x.args).length ≤ 9223372036854775807) : (y8 E).p 68 [.agg (enc f), .agg (enc x)] = some ⟨.bool (yqb (lst f.regs) x), [], true, [], []⟩ := by
  rw [y2m2]
  have h0 := y1pd f x hl _ 0 (Nat.zero_add _)
  simp only [Int.ofNat_zero, List.drop_zero] at h0
  have hs := yi5 f x.d
  have e21 : ((21 : Int) < ((lst x.args).length : Int)) ↔ 21 < (lst x.args).length := by omega
  unfold yqb
  generalize ((lst x.args).all (fun r => !decide (regK (lst f.regs) r = 0)) && yh7 (lst f.regs) x) = T at *
  generalize regK (lst f.regs) x.d = kd at *
  by_cases h21 : 21 < (lst x.args).length
  · have h21' := e21.2 h21
    by_cases hn : x.n < 0
    · by_cases o5 : x.op = 25 <;> simp [y5g, y9y, y7n, y6r, yau, yb0, y69, hn, o5, h21, h21', ye, yq, meets]
    · simp [y5g, y9y, y7n, y6r, yau, yb0, y69, hn, h21, h21', ye, yq, meets]
  · have h21' : ¬ ((21 : Int) < ((lst x.args).length : Int)) := by omega
    by_cases hn : x.n < 0
    · by_cases o5 : x.op = 25
      · by_cases hd : x.d = -1
        · simp [y5g, y9y, y7n, y6r, yau, yb0, y69, hn, o5, h21, h21', hd, h0, ye, yq, meets]
        · by_cases hk : kd = 0
          · simp [y5g, y9y, y7n, y6r, yau, yb0, y69, hn, o5, h21, h21', hd, hs, hk, h0, ye, yq, meets]
          · simp [y5g, y9y, y7n, y6r, yau, yb0, y69, hn, o5, h21, h21', hd, hs, hk, h0, ye, yq, meets]
      · simp [y5g, y9y, y7n, y6r, yau, yb0, y69, hn, o5, h21, h21', ye, yq, meets]
    · by_cases hd : x.d = -1
      · simp [y5g, y9y, y7n, y6r, yau, yb0, y69, hn, h21, h21', hd, h0, ye, yq, meets]
      · by_cases hk : kd = 0
        · simp [y5g, y9y, y7n, y6r, yau, yb0, y69, hn, h21, h21', hd, hs, hk, h0, ye, yq, meets]
        · simp [y5g, y9y, y7n, y6r, yau, yb0, y69, hn, h21, h21', hd, hs, hk, h0, ye, yq, meets]
end Go.Vm
namespace Go.Vm
open Cel
attribute [local simp] y7 y25 ym y2k
def y6g (f : Fn) (x : Ins) : Bool :=
  match x.op with
  | 1 => decide (regK (lst f.regs) x.d = 2) || (decide (-2147483648 ≤ x.n) && decide (x.n < 2147483648))
  | 4 => decide (regK (lst f.regs) x.d = regK (lst f.regs) x.a)
  | 5 => decide (0 < (numK x.n).2.1) && decide (regK (lst f.regs) x.d = (numK x.n).2.2) && decide (regK (lst f.regs) x.a = (numK x.n).1) && decide (regK (lst f.regs) x.b = (numK x.n).2.1)
  | 6 => decide (0 < (numK x.n).1) && decide ((numK x.n).2.1 = 0) && decide (regK (lst f.regs) x.d = (numK x.n).2.2) && decide (regK (lst f.regs) x.a = (numK x.n).1)
  | 12 => y7z x.s
  | 21 => y7z x.s
  | 22 => y7z x.s
  | 16 => decide (0 ≤ x.n)
  | 17 => decide (0 ≤ x.n)
  | 23 => yqb (lst f.regs) x
  | 24 => yqb (lst f.regs) x
  | 25 => yqb (lst f.regs) x
  | 26 => yqb (lst f.regs) x
  | 27 => y4z (lst f.code).length x.t
  | 28 => decide (0 ≤ x.n) && decide (x.n ≤ 5) && y4z (lst f.code).length x.t
  | 29 => (decide (x.n = 0) || decide (x.n = 1)) && (decide (x.b = -1) || decide (regK (lst f.regs) x.b = 3)) && y4z (lst f.code).length x.t
  | 30 => if f.ret = 0 then decide (x.a = -1) else !decide (x.a = -1) && decide (regK (lst f.regs) x.a = f.ret)
  | _ => true
def oneM (f : Fn) (x : Ins) : Bool :=
  decide (1 ≤ x.op) && decide (x.op ≤ 33) && (y5f (regK (lst f.regs) x.d) ((rowM x.op).getD 0 0) && (y5f (regK (lst f.regs) x.a) ((rowM x.op).getD 1 0) && (y5f (regK (lst f.regs) x.b) ((rowM x.op).getD 2 0) && (y5f (regK (lst f.regs) x.c) ((rowM x.op).getD 3 0) && y6g f x))))
set_option maxHeartbeats 8000000 in
theorem y2mo (f : Fn) (x : Ins) (hs : x.s.length ≤ 9223372036854775807) (hl : (lst x.args).length ≤ 9223372036854775807) (v55 : AV) (hv : v55 = .int .i64 x.op) :
    y1d Q0 Q1 (.int .i64 (numK x.n).1) (.int .i64 (numK x.n).2.1) (.int .i64 (numK x.n).2.2) v55 (H3 f x) = some ⟨.bool (y6g f x), [], true, [], []⟩ := by
  subst hv
  have hkd := yi5 f x.d
  have hka := yi5 f x.a
  have hkb := yi5 f x.b
  have hty := y2g9 x.s hs
  have hcl := y2lt f x hl
  have hpl := y2dp f x.t
  unfold y6g
  generalize regK (lst f.regs) x.d = kd at *
  generalize regK (lst f.regs) x.a = ka at *
  generalize regK (lst f.regs) x.b = kb at *
  generalize y7z x.s = ty at *
  generalize yqb (lst f.regs) x = cl at *
  generalize y4z (lst f.code).length x.t = pl at *
  generalize numK x.n = k at *
  obtain ⟨a, b, d⟩ := k
  simp only
  by_cases o1 : x.op = 1
  · by_cases h2 : kd = 2
    · simp [o1, y1d, y1h, hkd, h2, ye, yq, meets]
    · by_cases h3 : -2147483648 ≤ x.n <;> simp [o1, y1d, y1h, hkd, h2, h3, ye, yq, meets]
  by_cases o4 : x.op = 4
  · simp [o4, y1d, y1h, y1l, y1m, hkd, hka, ye, yq, meets]
  by_cases o5 : x.op = 5
  · by_cases h1 : 0 < b
    · by_cases h2 : kd = d
      · by_cases h3 : ka = a
        · simp [o5, h1, h2, h3, hkd, hka, hkb, y1d, y1h, y1l, y1m, y1u, y20, y1w, y1x, y1r, y1k, y1t, y1n, y1z, y1g, y1s, y1v, y31, y2x, y2s, y2w, y2v, y30, y2z, y2t, y2y, ye, yq, meets]
        · simp [o5, h1, h2, h3, hkd, hka, hkb, y1d, y1h, y1l, y1m, y1u, y20, y1w, y1x, y1r, y1k, y1t, y1n, y1z, y1g, y1s, y1v, y31, y2x, y2s, y2w, y2v, y30, y2z, y2t, y2y, ye, yq, meets]
      · simp [o5, h1, h2, hkd, hka, hkb, y1d, y1h, y1l, y1m, y1u, y20, y1w, y1x, y1r, y1k, y1t, y1n, y1z, y1g, y1s, y1v, y31, y2x, y2s, y2w, y2v, y30, y2z, y2t, y2y, ye, yq, meets]
    · simp [o5, h1, y1d, y1h, y1l, y1m, y1u, y20, y1w, y1x, y1r, y1k, y1t, y1n, y1z, y1g, y1s, y1v, y31, y2x, y2s, y2w, y2v, y30, y2z, y2t, y2y, ye, yq, meets]
  by_cases o6 : x.op = 6
  · by_cases h1 : 0 < a
    · by_cases h2 : b = 0
      · by_cases h3 : kd = d
        · simp [o6, h1, h2, h3, hkd, hka, y1d, y1h, y1l, y1m, y1u, y20, y1w, y1x, y1r, y1k, y1t, y1n, y1z, y1g, y1s, y1v, y31, y2x, y2s, y2w, y2v, y30, y2z, y2t, y2y, ye, yq, meets]
        · simp [o6, h1, h2, h3, hkd, hka, y1d, y1h, y1l, y1m, y1u, y20, y1w, y1x, y1r, y1k, y1t, y1n, y1z, y1g, y1s, y1v, y31, y2x, y2s, y2w, y2v, y30, y2z, y2t, y2y, ye, yq, meets]
      · simp [o6, h1, h2, y1d, y1h, y1l, y1m, y1u, y20, y1w, y1x, y1r, y1k, y1t, y1n, y1z, y1g, y1s, y1v, y31, y2x, y2s, y2w, y2v, y30, y2z, y2t, y2y, ye, yq, meets]
    · simp [o6, h1, y1d, y1h, y1l, y1m, y1u, y20, y1w, y1x, y1r, y1k, y1t, y1n, y1z, y1g, y1s, y1v, y31, y2x, y2s, y2w, y2v, y30, y2z, y2t, y2y, ye, yq, meets]
  by_cases o12 : x.op = 12
  · simp [o12, hty, y1d, y1h, y1l, y1m, y1u, y20, y1w, y1x, y1r, y1k, y1t, y1n, y1z, y1g, y1s, y1v, y31, y2x, y2s, y2w, y2v, y30, y2z, y2t, y2y, ye, yq, meets]
  by_cases o21 : x.op = 21
  · simp [o21, hty, y1d, y1h, y1l, y1m, y1u, y20, y1w, y1x, y1r, y1k, y1t, y1n, y1z, y1g, y1s, y1v, y31, y2x, y2s, y2w, y2v, y30, y2z, y2t, y2y, ye, yq, meets]
  by_cases o22 : x.op = 22
  · simp [o22, hty, y1d, y1h, y1l, y1m, y1u, y20, y1w, y1x, y1r, y1k, y1t, y1n, y1z, y1g, y1s, y1v, y31, y2x, y2s, y2w, y2v, y30, y2z, y2t, y2y, ye, yq, meets]
  by_cases o16 : x.op = 16
  · simp [o16, y1d, y1h, y1l, y1m, y1u, y20, y1w, y1x, y1r, y1k, y1t, y1n, y1z, y1g, y1s, y1v, y31, y2x, y2s, y2w, y2v, y30, y2z, y2t, y2y, ye, yq, meets]
  by_cases o17 : x.op = 17
  · simp [o17, y1d, y1h, y1l, y1m, y1u, y20, y1w, y1x, y1r, y1k, y1t, y1n, y1z, y1g, y1s, y1v, y31, y2x, y2s, y2w, y2v, y30, y2z, y2t, y2y, ye, yq, meets]
  by_cases o23 : x.op = 23
  · simp [o23, hcl, y1d, y1h, y1l, y1m, y1u, y20, y1w, y1x, y1r, y1k, y1t, y1n, y1z, y1g, y1s, y1v, y31, y2x, y2s, y2w, y2v, y30, y2z, y2t, y2y, ye, yq, meets]
  by_cases o24 : x.op = 24
  · simp [o24, hcl, y1d, y1h, y1l, y1m, y1u, y20, y1w, y1x, y1r, y1k, y1t, y1n, y1z, y1g, y1s, y1v, y31, y2x, y2s, y2w, y2v, y30, y2z, y2t, y2y, ye, yq, meets]
  by_cases o25 : x.op = 25
  · simp [o25, hcl, y1d, y1h, y1l, y1m, y1u, y20, y1w, y1x, y1r, y1k, y1t, y1n, y1z, y1g, y1s, y1v, y31, y2x, y2s, y2w, y2v, y30, y2z, y2t, y2y, ye, yq, meets]
  by_cases o26 : x.op = 26
  · simp [o26, hcl, y1d, y1h, y1l, y1m, y1u, y20, y1w, y1x, y1r, y1k, y1t, y1n, y1z, y1g, y1s, y1v, y31, y2x, y2s, y2w, y2v, y30, y2z, y2t, y2y, ye, yq, meets]
  by_cases o28 : x.op = 28
  · by_cases h1 : 0 ≤ x.n
    · by_cases h2 : x.n ≤ 5 <;> simp [o28, h1, h2, hpl, y1d, y1h, y1l, y1m, y1u, y20, y1w, y1x, y1r, y1k, y1t, y1n, y1z, y1g, y1s, y1v, y31, y2x, y2s, y2w, y2v, y30, y2z, y2t, y2y, ye, yq, meets]
    · simp [o28, h1, y1d, y1h, y1l, y1m, y1u, y20, y1w, y1x, y1r, y1k, y1t, y1n, y1z, y1g, y1s, y1v, y31, y2x, y2s, y2w, y2v, y30, y2z, y2t, y2y, ye, yq, meets]
  by_cases o27 : x.op = 27
  · simp [o27, hpl, y1d, y1h, y1l, y1m, y1u, y20, y1w, y1x, y1r, y1k, y1t, y1n, y1z, y1g, y1s, y1v, y31, y2x, y2s, y2w, y2v, y30, y2z, y2t, y2y, ye, yq, meets]
  by_cases o29 : x.op = 29
  · by_cases h1 : x.n = 0
    · by_cases h2 : x.b = -1
      · simp [o29, h1, h2, hpl, y1d, y1h, y1l, y1m, y1u, y20, y1w, y1x, y1r, y1k, y1t, y1n, y1z, y1g, y1s, y1v, y31, y2x, y2s, y2w, y2v, y30, y2z, y2t, y2y, ye, yq, meets]
      · by_cases h3 : kb = 3 <;> simp [o29, h1, h2, h3, hpl, hkb, y1d, y1h, y1l, y1m, y1u, y20, y1w, y1x, y1r, y1k, y1t, y1n, y1z, y1g, y1s, y1v, y31, y2x, y2s, y2w, y2v, y30, y2z, y2t, y2y, ye, yq, meets]
    · by_cases h1' : x.n = 1
      · by_cases h2 : x.b = -1
        · simp [o29, h1', h2, hpl, y1d, y1h, y1l, y1m, y1u, y20, y1w, y1x, y1r, y1k, y1t, y1n, y1z, y1g, y1s, y1v, y31, y2x, y2s, y2w, y2v, y30, y2z, y2t, y2y, ye, yq, meets]
        · by_cases h3 : kb = 3 <;> simp [o29, h1', h2, h3, hpl, hkb, y1d, y1h, y1l, y1m, y1u, y20, y1w, y1x, y1r, y1k, y1t, y1n, y1z, y1g, y1s, y1v, y31, y2x, y2s, y2w, y2v, y30, y2z, y2t, y2y, ye, yq, meets]
      · simp [o29, h1, h1', y1d, y1h, y1l, y1m, y1u, y20, y1w, y1x, y1r, y1k, y1t, y1n, y1z, y1g, y1s, y1v, y31, y2x, y2s, y2w, y2v, y30, y2z, y2t, y2y, ye, yq, meets]
  by_cases o30 : x.op = 30
  · by_cases h1 : f.ret = 0
    · simp [o30, h1, y1d, y1h, y1l, y1m, y1u, y20, y1w, y1x, y1r, y1k, y1t, y1n, y1z, y1g, y1s, y1v, y31, y2x, y2s, y2w, y2v, y30, y2z, y2t, y2y, ye, yq, meets]
    · by_cases h2 : x.a = -1 <;> simp [o30, h1, h2, hka, y1d, y1h, y1l, y1m, y1u, y20, y1w, y1x, y1r, y1k, y1t, y1n, y1z, y1g, y1s, y1v, y31, y2x, y2s, y2w, y2v, y30, y2z, y2t, y2y, ye, yq, meets]
  · have e : (match x.op with
      | 1 => decide (kd = 2) || (decide (-2147483648 ≤ x.n) && decide (x.n < 2147483648))
      | 4 => decide (kd = ka)
      | 5 => decide (0 < b) && decide (kd = d) && decide (ka = a) && decide (kb = b)
      | 6 => decide (0 < a) && decide (b = 0) && decide (kd = d) && decide (ka = a)
      | 12 => ty
      | 21 => ty
      | 22 => ty
      | 16 => decide (0 ≤ x.n)
      | 17 => decide (0 ≤ x.n)
      | 23 => cl
      | 24 => cl
      | 25 => cl
      | 26 => cl
      | 27 => pl
      | 28 => decide (0 ≤ x.n) && decide (x.n ≤ 5) && pl
      | 29 => (decide (x.n = 0) || decide (x.n = 1)) && (decide (x.b = -1) || decide (kb = 3)) && pl
      | 30 => if f.ret = 0 then decide (x.a = -1) else !decide (x.a = -1) && decide (ka = f.ret)
      | _ => true) = true := by
      split <;> first | rfl | contradiction
    rw [show _ = true from e]
    simp [o1, o4, o5, o6, o12, o21, o22, o16, o17, o23, o24, o25, o26, o27, o28, o29, o30, y1d, y1h, y1l, y1m, y1u, y20, y1w, y1x, y1r, y1k, y1t, y1n, y1z, y1g, y1s, y1v, y31, y2x, y2s, y2w, y2v, y30, y2z, y2t, y2y, ye, yq, meets]
end Go.Vm
namespace Go.Vm
open Cel
attribute [local simp] y7 y25 ym y2k
def y1xx (c : UInt8) : Bool := decide (c = 45) || decide (c = 63) || decide (c = 42) || decide (c = 61) || decide (c = 110) || decide (c = 49) || decide (c = 50) || decide (c = 51)
theorem y26o {c : UInt8} (h : y1xx c = true) : c = 45 ∨ c = 63 ∨ c = 42 ∨ c = 61 ∨ c = 110 ∨ c = 49 ∨ c = 50 ∨ c = 51 := by
  simp only [y1xx, Bool.or_eq_true, decide_eq_true_eq] at h
  simp only [or_assoc] at h
  exact h
@[simp] theorem y2qn (h : Heap) (a b c : Int) : fz h y18 (.tup [.int .i64 a, .int .i64 b, .int .i64 c]) = some ⟨.tup [.int .i64 a, .int .i64 b, .int .i64 c], true, []⟩ := rfl
theorem y1o2 : ((List.range 33).all fun i => decide ((rowM (1 + i)).length = 4) && (rowM (1 + i)).all y1xx) = true := by kernel_rfl
theorem y2n1 {op : Int} (h1 : 1 ≤ op) (h2 : op ≤ 33) : (rowM op).length = 4 ∧ (rowM op).all y1xx = true := by
  have := yak y1o2 (op - 1).toNat (by omega)
  have e : (1 + ((op - 1).toNat : Int)) = op := by omega
  simp only [e, Bool.and_eq_true, decide_eq_true_eq] at this
  exact this
theorem ydk (f : Fn) (x : Ins) (w : List UInt8) (i : Nat) (r : Int) (c : UInt8) (hi : i < 4) (hw : w[i]? = some c) (hc : y1xx c = true) (hr : [x.d, x.a, x.b, x.c][i]? = some r) :
    y5a Q0 Q1 (.str w) (.ls 2 1 1 0 4) (.int .i64 i) (H3 f x) = if y5f (regK (lst f.regs) r) c then y5a Q0 Q1 (.str w) (.ls 2 1 1 0 4) (.int .i64 (i + 1 : Nat)) (H3 f x) else some ⟨.bool false, [], true, [], []⟩ := by
  have hn : ((i : Int) < (4 : Int)) := by omega
  have hw2 : IntKind.wrap .i64 ((i : Int) + 1) = ((i + 1 : Nat) : Int) := by rw [y2r] <;> omega
  have hs := y21o f r c (y26o hc)
  have k1 : yn 1 (.ls 2 1 1 0 4) (.int .i64 i) = some (.lp 2 1 i 0) := by simp [yn, hi, hn]
  have k2 : evLd false 1 (.lp 2 1 i 0) (H3 f x) = some (.int .i64 r) := by
    match i, hi, hr with
    | 0, _, hr => simp at hr; simp [hr]
    | 1, _, hr => simp at hr; simp [hr]
    | 2, _, hr => simp at hr; simp [hr]
    | 3, _, hr => simp at hr; simp [hr]
  have k3 := ixstr hw
  rw [yhv]
  generalize y5f (regK (lst f.regs) r) c = T at *
  simp only [yfr, y12, y5, hn, decide_true, y22]
  generalize hZ : y5a Q0 Q1 (.str w) (.ls 2 1 1 0 4) (.int .i64 (i + 1 : Nat)) (H3 f x) = Z
  have e32 : yq1 Q0 Q1 (.str w) (.ls 2 1 1 0 4) (.int .i64 i) (H3 f x) = Z := by
    rw [← hZ]; simp only [yq1, y46, y5, hw2]
  have e5 : evLd true 5 Q0 (H3 f x) = some (.agg (enc f)) := by simp
  simp only [y0h, k1, k2, k3, e5, y5]
  cases T with
  | true => simp [hs, e32, ye]
  | false => simp [hs, ye]
set_option maxHeartbeats 1000000 in
theorem y2ul (f : Fn) (x : Ins) (hn : -9223372036854775808 ≤ x.n ∧ x.n < 9223372036854775808) (hs : x.s.length ≤ 9223372036854775807) (hl : (lst x.args).length ≤ 9223372036854775807) :
    (y8 E).p 64 [.agg (enc f), .agg (enc x)] = some ⟨.bool (oneM f x), [], true, [], []⟩ := by
  rw [y2lb]
  have hrow := y2mq x.op
  by_cases h1 : 1 ≤ x.op
  · by_cases h2 : x.op ≤ 33
    · obtain ⟨hlen, hsg⟩ := y2n1 h1 h2
      rw [oneM]
      simp only [h1, h2, decide_true, Bool.true_and]
      generalize rowM x.op = w at *
      match w, hlen, hsg with
      | [c0, c1, c2, c3], _, hsg =>
        simp only [List.all_cons, List.all_nil, Bool.and_true, Bool.and_eq_true] at hsg
        have e0 : yfu (.agg (enc f)) (.agg (enc x)) [⟨0, .dead⟩, ⟨0, .dead⟩, ⟨0, .dead⟩] = y5a Q0 Q1 (.str [c0, c1, c2, c3]) (.ls 2 1 1 0 4) (.int .i64 0) (H3 f x) := by
          simp [yfu, yju, ylr, yyz, yzy, hrow, y10, y1b]
        have s0 := ydk f x [c0, c1, c2, c3] 0 x.d c0 (by omega) rfl hsg.1 rfl
        have s1 := ydk f x [c0, c1, c2, c3] 1 x.a c1 (by omega) rfl hsg.2.1 rfl
        have s2 := ydk f x [c0, c1, c2, c3] 2 x.b c2 (by omega) rfl hsg.2.2.1 rfl
        have s3 := ydk f x [c0, c1, c2, c3] 3 x.c c3 (by omega) rfl hsg.2.2.2 rfl
        simp only [Int.ofNat_zero] at s0
        have e4 : y5a Q0 Q1 (.str [c0, c1, c2, c3]) (.ls 2 1 1 0 4) (.int .i64 (3 + 1 : Nat)) (H3 f x) = some ⟨.bool (y6g f x), [], true, [], []⟩ := by
          have h25 := y2mo f x hs hl (.int .i64 x.op) rfl
          show y5a Q0 Q1 (.str [c0, c1, c2, c3]) (.ls 2 1 1 0 4) (.int .i64 4) (H3 f x) = _
          rw [yhv]
          by_cases hk0 : 0 ≤ x.n
          · by_cases hk1 : x.n < 1000
            · have hK := y288 x.n hk0 hk1
              simp [yfr, yk1, ylf, hk0, hk1, hK, yfx]
              exact h25
            · have : numK x.n = (0, 0, 0) := yhe (by omega)
              rw [this] at h25
              simp [yfr, yk1, ylf, hk0, hk1, yfx]
              exact h25
          · have : numK x.n = (0, 0, 0) := yhe (by omega)
            rw [this] at h25
            simp [yfr, yk1, ylf, hk0, yfx]
            exact h25
        rw [e0, s0]
        simp only [List.getD_cons_zero, List.getD_cons_succ]
        cases y5f (regK (lst f.regs) x.d) c0 with
        | false => simp
        | true =>
          rw [if_pos rfl, s1]
          cases y5f (regK (lst f.regs) x.a) c1 with
          | false => simp
          | true =>
            rw [if_pos rfl, s2]
            cases y5f (regK (lst f.regs) x.b) c2 with
            | false => simp
            | true =>
              rw [if_pos rfl, s3]
              cases y5f (regK (lst f.regs) x.c) c3 with
              | false => simp
              | true => rw [if_pos rfl, e4]; simp
    · have : rowM x.op = [] := by rw [rowM, if_pos (by omega)]
      rw [this] at hrow
      simp [yfu, yju, ylr, hrow, oneM, h2]
  · have : rowM x.op = [] := by rw [rowM, if_pos (by omega)]
    rw [this] at hrow
    simp [yfu, yju, ylr, hrow, oneM, h1]
end Go.Vm
namespace Go.Vm
theorem y1pj (n : Int) : 0 ≤ (numK n).1 ∧ 0 ≤ (numK n).2.1 ∧ 0 ≤ (numK n).2.2 ∧ (numK n).1 ≤ 2 ∧ (numK n).2.1 ≤ 2 ∧ (numK n).2.2 ≤ 2 ∧ (¬ (numK n).1 = 0 → ¬ (numK n).2.2 = 0) ∧ (¬ (numK n).2.1 = 0 → ¬ (numK n).1 = 0 ∧ ¬ (numK n).2.2 = 0) := by
  unfold numK
  repeat' split
  all_goals decide
theorem y55 {R : List Int} (hR : R.all (fun k => decide (1 ≤ k) && decide (k ≤ 3)) = true) (r : Int) : (inR R r = true ∧ (regK R r = 1 ∨ regK R r = 2 ∨ regK R r = 3)) ∨ (inR R r = false ∧ regK R r = 0) := by
  cases h : inR R r with
  | true =>
    obtain ⟨_, h1, h2⟩ := yzl h
    rw [List.all_eq_true] at hR
    have := hR (regK R r) (List.mem_of_getElem? h2)
    simp only [Bool.and_eq_true, decide_eq_true_eq] at this
    refine .inl ⟨rfl, ?_⟩
    omega
  | false =>
    refine .inr ⟨rfl, ?_⟩
    simp only [inR, Bool.and_eq_false_iff, decide_eq_false_iff_not] at h
    unfold regK
    split
    · rfl
    · rw [List.getD_eq_getElem?_getD, List.getElem?_eq_none (by omega)]; rfl
theorem y2lk {n : Int} : n = IntKind.wrap .i64 (IntKind.wrap .i32 n) ↔ -2147483648 ≤ n ∧ n < 2147483648 := by
  have h : -2147483648 ≤ IntKind.wrap .i32 n ∧ IntKind.wrap .i32 n < 2147483648 := by
    simp only [IntKind.wrap, IntKind.bits, IntKind.signed]
    simp
    omega
  rw [y2r (n := IntKind.wrap .i32 n) (by omega) (by omega)]
  constructor
  · intro e; rw [e]; exact h
  · intro e
    simp only [IntKind.wrap, IntKind.bits, IntKind.signed]
    simp
    omega
theorem yqj {R : List Int} {r : Int} : y24 R (-1) r = true := by simp [y24]
theorem y1pb {R : List Int} (hR : R.all (fun k => decide (1 ≤ k) && decide (k ≤ 3)) = true) (r : Int) : y24 R 0 r = decide (0 < regK R r) := by
  rcases y55 hR r with ⟨h1, h2⟩ | ⟨h1, h2⟩
  · simp [y24, h1]; omega
  · simp [y24, h1, h2]
theorem ycy {R : List Int} (hR : R.all (fun k => decide (1 ≤ k) && decide (k ≤ 3)) = true) (r k : Int) (hk : 0 < k) : y24 R k r = decide (regK R r = k) := by
  have a1 : ¬ k < 0 := by omega
  have a2 : ¬ k ≤ 0 := by omega
  rcases y55 hR r with ⟨h1, h2⟩ | ⟨h1, h2⟩
  · simp [y24, h1, a1, a2]
  · have : ¬ 0 = k := by omega
    simp [y24, h1, h2, a1, a2, this]
theorem y29f {R : List Int} (hR : R.all (fun k => decide (1 ≤ k) && decide (k ≤ 3)) = true) (l : List Int) : (l.all fun r => !decide (regK R r = 0)) = l.all (inR R) := by
  congr 1
  funext r
  rcases y55 hR r with ⟨h1, h2⟩ | ⟨h1, h2⟩
  · rw [h1]; simp; omega
  · rw [h1, h2]; rfl
theorem y2mk (f : Fn) (x : Ins) (hR : (lst f.regs).all (fun k => decide (1 ≤ k) && decide (k ≤ 3)) = true) (h : x.op = 5) : oneM f x = y2a f x := by
  have hk := y1pj x.n
  have Fm := fun r => yqj (R := lst f.regs) (r := r)
  simp only [oneM, y2a, h, yo, rowM, rowT, y5f, y8g, calls, y3k, leads, y6g, Fm]
  generalize numK x.n = k at *
  obtain ⟨a, b, d⟩ := k
  simp only at hk ⊢
  by_cases hb : b = 0
  · subst hb; simp
  · rw [ycy hR x.d d (by omega), ycy hR x.a a (by omega), ycy hR x.b b (by omega)]
    rw [Bool.eq_iff_iff]
    simp
    omega
theorem y2me (f : Fn) (x : Ins) (hR : (lst f.regs).all (fun k => decide (1 ≤ k) && decide (k ≤ 3)) = true) (h : x.op = 6) : oneM f x = y2a f x := by
  have hk := y1pj x.n
  have Fm := fun r => yqj (R := lst f.regs) (r := r)
  simp only [oneM, y2a, h, yo, rowM, rowT, y5f, y8g, calls, y3k, leads, y6g, Fm]
  generalize numK x.n = k at *
  obtain ⟨a, b, d⟩ := k
  simp only at hk ⊢
  by_cases ha : a = 0
  · subst ha; simp
  · rw [ycy hR x.d d (by omega), ycy hR x.a a (by omega)]
    rw [Bool.eq_iff_iff]
    simp
    omega
theorem yt4 (f : Fn) (x : Ins) (hR : (lst f.regs).all (fun k => decide (1 ≤ k) && decide (k ≤ 3)) = true) (h : x.op = 23 ∨ x.op = 24 ∨ x.op = 25 ∨ x.op = 26) : oneM f x = y2a f x := by
  have F0 := y1pb hR
  have Fm := fun r => yqj (R := lst f.regs) (r := r)
  have hA := y29f hR (lst x.args)
  have kd := y55 hR x.d
  have hc : yqb (lst f.regs) x = (!((decide (x.n < 0) && !decide (x.op = 25)) || decide (21 < (lst x.args).length) || (!decide (x.d = -1) && decide (regK (lst f.regs) x.d = 0))) && ((lst x.args).all (inR (lst f.regs)) && yh7 (lst f.regs) x)) := by rw [yqb, hA]
  cases ha : lst x.args with
  | nil =>
    by_cases hd : x.d = -1 <;> rcases h with h|h|h|h <;> (rw [Bool.eq_iff_iff]; simp [oneM, y2a, h, yo, rowM, rowT, y5f, y8g, calls, y3k, leads, y6g, hc, yh7, ylg, ha, hd, F0, Fm]; try omega)
  | cons r t =>
    rw [ha] at hc
    generalize hg : (r :: t).all (inR (lst f.regs)) = A at *
    generalize hl : (r :: t).length = n at *
    by_cases hd : x.d = -1 <;> rcases h with h|h|h|h <;> (rw [Bool.eq_iff_iff]; simp [oneM, y2a, h, yo, rowM, rowT, y5f, y8g, calls, y3k, leads, y6g, hc, yh7, ylg, ha, hd, F0, Fm]; first | (simp at hl hg; omega) | (simp at hl hg; grind) | skip)
theorem ypz (f : Fn) (x : Ins) (h : x.op < 1 ∨ 33 < x.op) : oneM f x = y2a f x := by
  rw [oneM, y2a, yna h]
  rcases h with h | h
  · have : ¬ 1 ≤ x.op := by omega
    simp [this]
  · have : ¬ x.op ≤ 33 := by omega
    simp [this]
set_option maxHeartbeats 4000000 in
theorem y1pm (f : Fn) (x : Ins) (hR : (lst f.regs).all (fun k => decide (1 ≤ k) && decide (k ≤ 3)) = true) : oneM f x = y2a f x := by
  have F0 := y1pb hR
  have F1 := fun r => ycy hR r 1 (by omega)
  have F3 := fun r => ycy hR r 3 (by omega)
  have Fm := fun r => yqj (R := lst f.regs) (r := r)
  have hA := y29f hR (lst x.args)
  have kd := y55 hR x.d
  have ka := y55 hR x.a
  have hd : 0 < regK (lst f.regs) x.d ↔ ¬ regK (lst f.regs) x.d = 0 := by rcases kd with ⟨_, h⟩ | ⟨_, h⟩ <;> omega
  have hw := @y2lk x.n
  rcases ybp x.op with h|h|h|h|h|h|h|h|h|h|h|h|h|h|h|h|h|h|h|h|h|h|h|h|h|h|h|h|h|h|h|h|h|h|h
  all_goals first
    | (simp [oneM, y2a, h, yo, rowM, rowT, y5f, y8g, calls, y3k, leads, y6g, F0, F1, F3, Fm, y4z, Bool.and_assoc]; done)
    | skip
  all_goals first
    | exact y2mk f x hR h
    | exact y2me f x hR h
    | exact ypz f x (.inl h)
    | exact ypz f x (.inr h)
    | exact yt4 f x hR (.inl h)
    | exact yt4 f x hR (.inr (.inl h))
    | exact yt4 f x hR (.inr (.inr (.inl h)))
    | exact yt4 f x hR (.inr (.inr (.inr h)))
    | (rw [Bool.eq_iff_iff]; simp [oneM, y2a, h, yo, rowM, rowT, y5f, y8g, calls, y3k, leads, y6g, F0, F1, F3, Fm, y4z]; omega)
    | (rw [Bool.eq_iff_iff]; simp [oneM, y2a, h, yo, rowM, rowT, y5f, y8g, calls, y3k, leads, y6g, F0, F1, F3, Fm, y4z]; grind)
    | exact y2mk f x hR h
    | exact y2me f x hR h
    | exact ypz f x (.inl h)
    | exact ypz f x (.inr h)
    | exact yt4 f x hR (.inl h)
    | exact yt4 f x hR (.inr (.inl h))
    | exact yt4 f x hR (.inr (.inr (.inl h)))
    | exact yt4 f x hR (.inr (.inr (.inr h)))
end Go.Vm
namespace Go.Vm
open Cel
attribute [local simp] y7 y25 ym y2k
theorem y2h5 (f : Fn) (o1 : AO) (n : Int) (hn : n = (lst f.code).length) (hl : (lst f.rows).length ≤ 9223372036854775807) : ∀ (d i : Nat) (o2 : AO), i + d = (lst f.rows).length →
    yf4 P0 (.int .i64 n) (.int .i64 i) (HC f o1 o2) = if ((lst f.rows).drop i).all (y4j (lst f.code)) then E0 else E80 := by
  intro d
  induction d with
  | zero =>
    intro i o2 hi
    have e1 : (lst f.rows).drop i = [] := List.drop_eq_nil_of_le (by omega)
    have hn : ¬ ((i : Int) < ((lst f.rows).length : Int)) := by omega
    rw [yob, e1]
    simp [y6w, yi2, hn]
  | succ d ih =>
    intro i o2 hi
    have hlt : i < (lst f.rows).length := by omega
    have hc : ((i : Int) < ((lst f.rows).length : Int)) := by omega
    have k1 := ydi (o := f.rows) (i := i) (List.getElem?_eq_getElem hlt) .i64
    rw [yob]
    have e1 : ((lst f.rows).drop i).all (y4j (lst f.code)) = (y4j (lst f.code) (lst f.rows)[i] && ((lst f.rows).drop (i + 1)).all (y4j (lst f.code))) := by rw [List.drop_eq_getElem_cons hlt, List.all_cons]
    rw [e1]
    generalize hr : (lst f.rows)[i] = r at *
    have ih := fun o2 => ih (i + 1) o2 (by omega)
    push_cast at ih
    subst hn
    by_cases h1 : r.f < 0
    · simp [y6w, hc, y84, k1, y4j, h1]
    by_cases h2 : r.t ≤ r.f
    · simp [y6w, hc, y84, k1, y4j, h1, h2]
    by_cases h3 : ((lst f.code).length : Int) < r.t
    · simp [y6w, hc, y84, k1, y4j, h1, h2, h3]
    by_cases h4 : r.at_ < 0
    · have : ¬ 0 ≤ r.at_ := by omega
      simp [y6w, hc, y84, k1, y4j, h1, h2, h3, h4, y4z, this]
    by_cases h5 : ((lst f.code).length : Int) ≤ r.at_
    · have : ¬ r.at_ < ((lst f.code).length : Int) := by omega
      simp [y6w, hc, y84, k1, y4j, h1, h2, h3, h4, h5, y4z, this]
    · have hx : r.at_.toNat < (lst f.code).length := by omega
      have a1 : 0 ≤ r.at_ := by omega
      have a2 : r.at_ < ((lst f.code).length : Int) := by omega
      have k2 := y6s (o := f.code) (n := r.at_) (by omega) (List.getElem?_eq_getElem hx) .i64
      by_cases h6 : ((lst f.code)[r.at_.toNat]).op = 32
      · simp [y6w, hc, y84, k1, y4j, h1, h2, h3, h4, h5, y4z, a1, a2, k2, h6, hx, yjj, y1j hlt hl, ih]
      · simp [y6w, hc, y84, k1, y4j, h1, h2, h3, h4, h5, y4z, a1, a2, k2, h6, hx]
theorem y2cx (f : Fn) (o1 o2 : AO) (n : Int) (hl : (lst f.regs).length ≤ 9223372036854775807) : ∀ (d i : Nat), i + d = (lst f.regs).length →
    ybm P0 (.int .i64 n) (.int .i64 i) (HC f o1 o2) = if ((lst f.regs).drop i).all (fun k => decide (1 ≤ k) && decide (k ≤ 3)) then yay P0 (.int .i64 n) (HC f o1 o2) else E80 := by
  intro d
  induction d with
  | zero =>
    intro i hi
    have e1 : (lst f.regs).drop i = [] := List.drop_eq_nil_of_le (by omega)
    have hn : ¬ ((i : Int) < ((lst f.regs).length : Int)) := by omega
    rw [ylm, e1]
    simp [y77, hn]
  | succ d ih =>
    intro i hi
    have hlt : i < (lst f.regs).length := by omega
    have hc : ((i : Int) < ((lst f.regs).length : Int)) := by omega
    have k1 := y3l (o := f.regs) (i := i) (List.getElem?_eq_getElem hlt) .i64
    have e1 : ((lst f.regs).drop i).all (fun k => decide (1 ≤ k) && decide (k ≤ 3)) = ((decide (1 ≤ (lst f.regs)[i]) && decide ((lst f.regs)[i] ≤ 3)) && ((lst f.regs).drop (i + 1)).all (fun k => decide (1 ≤ k) && decide (k ≤ 3))) := by
      rw [List.drop_eq_getElem_cons hlt, List.all_cons]
    rw [ylm, e1]
    generalize hr : (lst f.regs)[i] = r at *
    have ih := ih (i + 1) (by omega)
    push_cast at ih
    by_cases h1 : r < 1
    · have : ¬ 1 ≤ r := by omega
      simp [y77, hc, y8w, k1, h1, this]
    by_cases h2 : 3 < r
    · have : ¬ r ≤ 3 := by omega
      simp [y77, hc, y8w, k1, h1, h2, this]
    · have a1 : 1 ≤ r := by omega
      have a2 : r ≤ 3 := by omega
      simp [y77, hc, y8w, k1, h1, h2, a1, a2, yd5, y1j hlt hl, ih]
def parR (R : List Int) : List Int → List Int → Bool
  | _, [] => true
  | seen, p :: r => (inR R p && !seen.contains p) && parR R (seen ++ [p]) r
theorem y20d (f : Fn) (o1 o2 : AO) (n : Int) (hR : (lst f.regs).all (fun k => decide (1 ≤ k) && decide (k ≤ 3)) = true) (hl : (lst f.params).length ≤ 9223372036854775807) : ∀ (d i : Nat), i + d = (lst f.params).length →
    yc5 P0 (.int .i64 n) (.int .i64 i) (HC f o1 o2) = if parR (lst f.regs) ((lst f.params).take i) ((lst f.params).drop i) then yat P0 (.int .i64 n) (HC f o1 o2) else E80 := by
  intro d
  induction d with
  | zero =>
    intro i hi
    have e1 : (lst f.params).drop i = [] := List.drop_eq_nil_of_le (by omega)
    have hn : ¬ ((i : Int) < ((lst f.params).length : Int)) := by omega
    rw [yk2, e1]
    simp [y7i, hn, parR]
  | succ d ih =>
    intro i hi
    have hlt : i < (lst f.params).length := by omega
    have hc : ((i : Int) < ((lst f.params).length : Int)) := by omega
    have k1 := y3l (o := f.params) (i := i) (List.getElem?_eq_getElem hlt) .i64
    have ks := y29z (α := Int) f.params i (by omega) .i64
    simp only [ywx] at ks
    have hlm : lst (f.params.map (List.take i)) = (lst f.params).take i := by cases f.params <;> simp
    have e1 : parR (lst f.regs) ((lst f.params).take i) ((lst f.params).drop i) = ((inR (lst f.regs) (lst f.params)[i] && !((lst f.params).take i).contains (lst f.params)[i]) && parR (lst f.regs) ((lst f.params).take (i + 1)) ((lst f.params).drop (i + 1))) := by
      rw [List.drop_eq_getElem_cons hlt, parR, List.take_append_getElem]
    rw [yk2, e1]
    have hct : (y8 E).p 42 [.int .i64 (lst f.params)[i], slA (f.params.map (List.take i))] = some ⟨.bool (((lst f.params).take i).contains (lst f.params)[i]), [], true, [], []⟩ := by
      rw [s_in _ _ (by rw [hlm, List.length_take]; omega), hlm, List.contains_eq_mem]
    generalize hr : (lst f.params)[i] = r at *
    generalize ((lst f.params).take i).contains r = B at *
    have ih := ih (i + 1) (by omega)
    push_cast at ih
    have hs := yi5 f r
    rcases y55 hR r with ⟨a1, a2⟩ | ⟨a1, a2⟩
    · have hz : ¬ regK (lst f.regs) r = 0 := by omega
      rw [a1]
      generalize regK (lst f.regs) r = k at *
      cases B with
      | true => simp [y7i, hc, y8x, k1, hs, hz, ks, hct, ye]
      | false =>
        simp [y7i, hc, y8x, k1, hs, hz, ks, hct, ye, yd2, y1j hlt hl]
        exact ih
    · rw [a2] at hs
      simp [y7i, hc, y8x, k1, hs, a1, ye]
theorem y2m0 (f : Fn) (o2 : AO) (n : Int) (x : Ins) (i g : Nat) (hR : (lst f.regs).all (fun k => decide (1 ≤ k) && decide (k ≤ 3)) = true) (fit : InsFit x) (hi : i < (lst f.code).length) (hl : (lst f.code).length ≤ 9223372036854775807) (hx : (lst f.code)[i]? = some x) (oc : OC) :
    y4p P0 (.int .i64 n) (.int .i64 i) (HC f ⟨g, oc⟩ o2) =
      if y2a f x && y44 (lst f.code) i x then yax P0 (.int .i64 n) (.int .i64 i) (HC f ⟨g + 1, .arr true false 9 [enc x]⟩ o2) else E80 := by
  have k0 := y4v (o := f.code) (i := i) hx .i64
  have h1 := y2ul f x fit.n fit.s fit.a
  rw [y1pm f x hR] at h1
  cases hok : y2a f x with
  | false =>
    rw [hok] at h1
    simp [y4p, k0, h1]
  | true =>
    have ht := ykd (f := f) (x := x) hok
    rw [hok] at h1
    by_cases h32 : x.op = 32
    · have hld : leads 32 = false := by simp [leads]
      by_cases h0 : i = 0
      · subst h0
        simp only [Int.ofNat_zero] at k0
        simp [y4p, k0, h1, h32, y44]
      · have h0' : ¬ ((i : Int) = 0) := by omega
        have hp : i - 1 < (lst f.code).length := by omega
        have k1 := y4v (o := f.code) (i := i - 1) (List.getElem?_eq_getElem hp) .i64
        have hw : IntKind.wrap .i64 ((i : Int) - 1) = ((i - 1 : Nat) : Int) := by rw [y2r] <;> omega
        cases he : ends ((lst f.code)[i - 1]).op with
        | true => simp [y4p, k0, h1, h32, y44, h0, h0', hw, k1, hp, he, hld]
        | false => simp [y4p, k0, h1, h32, y44, h0, h0', hw, k1, hp, he]
    · cases hld : leads x.op with
      | false => simp [y4p, k0, h1, h32, y44, hld]
      | true =>
        obtain ⟨t0, t1⟩ := ht hld
        have hxt : x.t.toNat < (lst f.code).length := by omega
        have k2 := y6s (o := f.code) (n := x.t) t0 (List.getElem?_eq_getElem hxt) .i64
        by_cases h6 : ((lst f.code)[x.t.toNat]).op = 32
        · simp [y4p, k0, h1, h32, y44, hld, k2, h6, hxt]
        · simp [y4p, k0, h1, h32, y44, hld, k2, h6, hxt]
theorem y2fm (f : Fn) (o2 : AO) (n : Int) (hn : n = (lst f.code).length) (hR : (lst f.regs).all (fun k => decide (1 ≤ k) && decide (k ≤ 3)) = true) (hfit : ∀ x ∈ lst f.code, InsFit x) (hl : (lst f.code).length ≤ 9223372036854775807) : ∀ (d i : Nat) (o1 : AO), i + d = (lst f.code).length →
    ∃ o1', yg8 P0 (.int .i64 n) (.int .i64 i) (HC f o1 o2) = if y4w f (lst f.code) i ((lst f.code).drop i) then ygf P0 (.int .i64 n) (HC f o1' o2) else E80 := by
  intro d
  induction d with
  | zero =>
    intro i o1 hi
    have e1 : (lst f.code).drop i = [] := List.drop_eq_nil_of_le (by omega)
    have hnl : ¬ ((i : Int) < n) := by omega
    rw [ymq, e1]
    exact ⟨o1, by simp [yb4, hnl, y4w]⟩
  | succ d ih =>
    intro i o1 hi
    have hlt : i < (lst f.code).length := by omega
    have hc : ((i : Int) < n) := by omega
    have e1 : y4w f (lst f.code) i ((lst f.code).drop i) = (y2a f (lst f.code)[i] && y44 (lst f.code) i (lst f.code)[i] && y4w f (lst f.code) (i + 1) ((lst f.code).drop (i + 1))) := by
      rw [List.drop_eq_getElem_cons hlt, y4w]
    have fit := hfit _ (List.getElem_mem hlt)
    have hone := y2m0 f o2 n _ i o1.gen hR fit hlt hl (List.getElem?_eq_getElem hlt) o1.c
    rw [ymq, e1]
    generalize (lst f.code)[i] = x at *
    generalize (y2a f x && y44 (lst f.code) i x) = G at *
    simp only [yb4, y12, y5, hc, decide_true, y22, hone]
    cases G with
    | false => exact ⟨o1, by simp⟩
    | true =>
      obtain ⟨o1', ih⟩ := ih (i + 1) ⟨o1.gen + 1, .arr true false 9 [enc x]⟩ (by omega)
      push_cast at ih
      exact ⟨o1', by simp [yax, y1j hlt hl, ih]⟩
theorem y13g (R : List Int) : ∀ (l : List Int) (i : Nat) (seen : List Int), i + l.length ≤ 21 → ydd R i seen l = parR R seen l
  | [], _, _, _ => rfl
  | p :: r, i, seen, h => by
    simp only [List.length_cons] at h
    have : i ≤ 20 := by omega
    rw [ydd, parR, y13g R r (i + 1) (seen ++ [p]) (by omega)]
    simp [this]
theorem y0p (R : List Int) : ∀ (l : List Int) (i : Nat) (seen : List Int), 21 < i + l.length → i ≤ 21 → ydd R i seen l = false
  | [], i, _, h, h2 => by simp at h; omega
  | p :: r, i, seen, h, h2 => by
    simp only [List.length_cons] at h
    rw [ydd]
    by_cases hi : i ≤ 20
    · rw [y0p R r (i + 1) (seen ++ [p]) (by omega) (by omega)]; simp
    · simp [hi]
set_option maxRecDepth 100000 in
set_option maxHeartbeats 1000000 in
theorem y25i (f : Fn) (hf : FnFit f) : (y8 E).p 29 [.agg (enc f)] = some ⟨.int .i64 (if wf f then 0 else 80), [], true, [], []⟩ := by
  rw [y2nt]
  by_cases h0 : (lst f.code).length = 0
  · have h0' : ((lst f.code).length : Int) = 0 := by omega
    have : ¬ 1 ≤ (lst f.code).length := by omega
    simp [y4b, y4q, y4t, h0', wf, this]
  have h0' : ¬ ((lst f.code).length : Int) = 0 := by omega
  have hne : ¬ lst f.code = [] := fun h => h0 (by rw [h]; rfl)
  have g1 : 1 ≤ (lst f.code).length := by omega
  by_cases h2 : 20000 < (lst f.code).length
  · have h2' : (20000 : Int) < ((lst f.code).length : Int) := by omega
    have : ¬ (lst f.code).length ≤ 20000 := by omega
    simp [y4b, y4q, y4t, h0', hne, h2', wf, this]
  have h2' : ¬ (20000 : Int) < ((lst f.code).length : Int) := by omega
  have g2 : (lst f.code).length ≤ 20000 := by omega
  by_cases h3 : 20000 < (lst f.regs).length
  · have h3' : (20000 : Int) < ((lst f.regs).length : Int) := by omega
    have : ¬ (lst f.regs).length ≤ 20000 := by omega
    simp [y4b, y4q, y4t, h0', hne, h2', h3', wf, this]
  have h3' : ¬ (20000 : Int) < ((lst f.regs).length : Int) := by omega
  have g3 : (lst f.regs).length ≤ 20000 := by omega
  by_cases hp : 21 < (lst f.params).length
  · have hp' : (21 : Int) < ((lst f.params).length : Int) := by omega
    have := y0p (lst f.regs) (lst f.params) 0 [] (by omega) (by omega)
    simp [y4b, y4q, y4t, h0', hne, h2', h3', hp', wf, this]
  have hp' : ¬ (21 : Int) < ((lst f.params).length : Int) := by omega
  by_cases h4 : f.ret < 0
  · have : ¬ 0 ≤ f.ret := by omega
    simp [y4b, y4q, y4t, h0', hne, h2', h3', hp', h4, wf, this]
  have g4 : 0 ≤ f.ret := by omega
  by_cases h5 : 3 < f.ret
  · have : ¬ f.ret ≤ 3 := by omega
    simp [y4b, y4q, y4t, h0', hne, h2', h3', hp', h4, h5, wf, this]
  have g5 : f.ret ≤ 3 := by omega
  have hpl : (lst f.code).length - 1 < (lst f.code).length := by omega
  have k1 := y4v (o := f.code) (i := (lst f.code).length - 1) (List.getElem?_eq_getElem hpl) .i64
  have hw : IntKind.wrap .i64 (((lst f.code).length : Int) - 1) = (((lst f.code).length - 1 : Nat) : Int) := by rw [y2r] <;> omega
  have hg : (lst f.code).getD ((lst f.code).length - 1) default = (lst f.code)[(lst f.code).length - 1] := by rw [List.getD_eq_getElem?_getD, List.getElem?_eq_getElem hpl]; rfl
  cases he : ends ((lst f.code)[(lst f.code).length - 1]).op with
  | false =>
    have hwf : wf f = false := by rw [wf, hg, he]; simp
    rw [hwf]
    simp [y4b, y4q, y4t, h0', hne, h2', h3', hp', h4, h5, hw, k1, he]
  | true =>
    have hps := y13g (lst f.regs) (lst f.params) 0 [] (by omega)
    have hwf : wf f = ((lst f.regs).all (fun k => decide (1 ≤ k) && decide (k ≤ 3)) && parR (lst f.regs) [] (lst f.params) && y4w f (lst f.code) 0 (lst f.code) && (lst f.rows).all (y4j (lst f.code))) := by
      rw [wf, hg, he, hps]
      simp only [g1, g2, g3, g4, g5, decide_true, Bool.true_and]
    have e : y4b (.agg (enc f)) [⟨0, .dead⟩, ⟨0, .dead⟩, ⟨0, .dead⟩] = ybm P0 (.int .i64 (lst f.code).length) (.int .i64 0) (HC f ⟨0, .dead⟩ ⟨0, .dead⟩) := by
      simp [y4b, y4q, y4t, h0', hne, h2', h3', hp', h4, h5, hw, k1, he, yi2, yjj, y84, y6w, ygf, yax, y4p, yb4, yat, yd2, y8x, y7i, yay, yd5, y8w, y77, yfs, y4t, y4q, y4b]
    have a1 := y2cx f ⟨0, .dead⟩ ⟨0, .dead⟩ (lst f.code).length hf.regs _ 0 (Nat.zero_add _)
    simp only [Int.ofNat_zero, List.drop_zero] at a1
    rw [e, a1, hwf]
    cases hR : (lst f.regs).all (fun k => decide (1 ≤ k) && decide (k ≤ 3)) with
    | false => simp
    | true =>
      have a2 := y20d f ⟨0, .dead⟩ ⟨0, .dead⟩ (lst f.code).length hR hf.params _ 0 (Nat.zero_add _)
      obtain ⟨o1', a3⟩ := y2fm f ⟨0, .dead⟩ _ rfl hR hf.ins hf.code _ 0 ⟨0, .dead⟩ (Nat.zero_add _)
      have a4 := y2h5 f o1' _ rfl hf.rows _ 0 ⟨0, .dead⟩ (Nat.zero_add _)
      simp only [Int.ofNat_zero, List.drop_zero, List.take_zero] at a2 a3 a4
      have e2 : yay P0 (.int .i64 (lst f.code).length) (HC f ⟨0, .dead⟩ ⟨0, .dead⟩) = yc5 P0 (.int .i64 (lst f.code).length) (.int .i64 0) (HC f ⟨0, .dead⟩ ⟨0, .dead⟩) := by simp [yi2, yjj, y84, y6w, ygf, yax, y4p, yb4, yat, yd2, y8x, y7i, yay, yd5, y8w, y77, yfs, y4t, y4q, y4b]
      have e3 : yat P0 (.int .i64 (lst f.code).length) (HC f ⟨0, .dead⟩ ⟨0, .dead⟩) = yg8 P0 (.int .i64 (lst f.code).length) (.int .i64 0) (HC f ⟨0, .dead⟩ ⟨0, .dead⟩) := by simp [yi2, yjj, y84, y6w, ygf, yax, y4p, yb4, yat, yd2, y8x, y7i, yay, yd5, y8w, y77, yfs, y4t, y4q, y4b]
      have e4 : ygf P0 (.int .i64 (lst f.code).length) (HC f o1' ⟨0, .dead⟩) = yf4 P0 (.int .i64 (lst f.code).length) (.int .i64 0) (HC f o1' ⟨0, .dead⟩) := by simp [yi2, yjj, y84, y6w, ygf, yax, y4p, yb4, yat, yd2, y8x, y7i, yay, yd5, y8w, y77, yfs, y4t, y4q, y4b]
      rw [e2, a2, e3, a3, e4, a4]
      generalize parR (lst f.regs) [] (lst f.params) = b2
      generalize y4w f (lst f.code) 0 (lst f.code) = b3
      generalize (lst f.rows).all (y4j (lst f.code)) = b4
      cases b2 <;> cases b3 <;> cases b4 <;> rfl
end Go.Vm
namespace Go.Vm
open Cel
def hI0 : Ins := ⟨8, 0, 1, 0, 0, 0, 0, [], none⟩
def hI1 : Ins := ⟨15, 0, 1, 0, 0, 0, 0, [], none⟩
def hI3 : Ins := ⟨30, 0, -1, 0, 0, 0, 0, [], none⟩
def hF0 : Fn := ⟨some [1, 3], some [1], 0, some [hI0, hI1, hI0, hI3], none⟩
def hF1 : Fn := ⟨some [1, 3], some [1], 0, some [hI0, hI1, nopI, hI3], none⟩
theorem y2mz : wf hF0 = true := by kernel_rfl
theorem y2jj {T : KTab} (v : InvK hF0 (T, [])) : knoF hF0 T = hF1 := by
  have hz := v.ok.zero
  simp only at hz
  have g0 : y7p hF0 T 0 = false := by
    unfold y7p
    rw [hz]
    rfl
  have g1 : y7p hF0 T 1 = false := rfl
  have g3 : y7p hF0 T 3 = false := rfl
  have n0 : y3d hF0 (0 : Nat) = [1] := by decide
  have n1 : y3d hF0 (1 : Nat) = [2] := by decide
  have r0 : Rch (lst hF0.code).length (fun i => y11 hF0 i ++ y3d hF0 i) [0] 0 := .base (j := 0) (by simp) (by decide) (by decide)
  have r1 : Rch (lst hF0.code).length (fun i => y11 hF0 i ++ y3d hF0 i) [0] 1 := .step (j := 1) r0 (by rw [List.mem_append, n0]; right; simp) (by decide) (by decide)
  have r2 : Rch (lst hF0.code).length (fun i => y11 hF0 i ++ y3d hF0 i) [0] 2 := .step (j := 2) r1 (by rw [List.mem_append, n1]; right; simp) (by decide) (by decide)
  have g2 : y7p hF0 T 2 = true := y1ak v (ywy v r2) (c := (8, 1, -1)) rfl ⟨by decide, .inr ⟨⟨by decide, .inl rfl⟩, .inr ⟨by decide, by decide⟩⟩⟩
  have e : knoL hF0 T = [knoI hF0 T 0, knoI hF0 T 1, knoI hF0 T 2, knoI hF0 T 3] := rfl
  have i0 : knoI hF0 T 0 = hI0 := by rw [knoI, g0]; rfl
  have i1 : knoI hF0 T 1 = hI1 := by rw [knoI, g1]; rfl
  have i2 : knoI hF0 T 2 = nopI := by rw [knoI, g2]; rfl
  have i3 : knoI hF0 T 3 = hI3 := by rw [knoI, g3]; rfl
  rw [knoF, e, i0, i1, i2, i3]
  rfl
theorem y1pf : FnFit hF0 ∧ FnSm hF0 := by
  refine ⟨⟨fun x hx => ?_, by decide, by decide, by decide, by decide⟩, ⟨by decide, by decide, by decide, by decide, fun x hx => ?_⟩⟩
  · have hx' : x ∈ [hI0, hI1, hI0, hI3] := hx
    simp only [List.mem_cons, List.not_mem_nil, or_false] at hx'
    rcases hx' with rfl | rfl | rfl | rfl <;> exact ⟨by decide, by decide, by decide⟩
  · have hx' : x ∈ [hI0, hI1, hI0, hI3] := hx
    simp only [List.mem_cons, List.not_mem_nil, or_false] at hx'
    rcases hx' with rfl | rfl | rfl | rfl <;> decide
@[simp] theorem y2gc : (y8 E).p 165 [] = some ⟨.bool true, [], true, [], []⟩ := by
  have e2 : y10 0 (some 0) 1 2 [.int .i64 0] [(0, .int .i64 1), (1, .int .i64 3)] [D0, D0, D0, D0] = some (.ls 0 1 1 0 2, [AI 1 [1, 3], D0, D0, D0]) := rfl
  have e3 : y10 0 (some 1) 1 1 [.int .i64 0] [(0, .int .i64 1)] [AI 1 [1, 3], D0, D0, D0] = some (.ls 1 1 1 0 1, [AI 1 [1, 3], AI 1 [1], D0, D0]) := rfl
  have b4 : yx ypr [(0, 1, .int .i64 8), (2, 1, .int .i64 1)] = some (.agg (enc hI0)) := rfl
  have b5 : yx ypr [(0, 1, .int .i64 15), (1, 1, .int .i64 0), (2, 1, .int .i64 1)] = some (.agg (enc hI1)) := rfl
  have b7 : yx ypr [(0, 1, .int .i64 30), (2, 1, .int .i64 (-1))] = some (.agg (enc hI3)) := rfl
  have e8 : y10 0 (some 2) 9 4 ypr [(0, .agg (enc hI0)), (1, .agg (enc hI1)), (2, .agg (enc hI0)), (3, .agg (enc hI3))] [AI 1 [1, 3], AI 1 [1], D0, D0] = some (.ls 2 1 9 0 4, [AI 1 [1, 3], AI 1 [1], ⟨1, .arr false false 9 ([hI0, hI1, hI0, hI3].map enc)⟩, D0]) := rfl
  have b9 : yx [.nils, .nils, .int .i64 0, .nils, .nils] [(0, 1, .ls 0 1 1 0 2), (1, 1, .ls 1 1 1 0 1), (3, 1, .ls 2 1 9 0 4)] = some (.agg [.ls 0 1 1 0 2, .ls 1 1 1 0 1, .int .i64 0, .ls 2 1 9 0 4, .nils]) := rfl
  obtain ⟨_, d2⟩ := y1iy hF0 y1pf.1 y1pf.2 (by decide) (by decide) (by decide)
  obtain ⟨T, v, hP⟩ := d2 y2mz
  rw [y2jj v] at hP
  have hz : yl (fz [AI 1 [1, 3], AI 1 [1], ⟨1, .arr false false 9 ([hI0, hI1, hI0, hI3].map enc)⟩, D0] y18) [.agg [.ls 0 1 1 0 2, .ls 1 1 1 0 1, .int .i64 0, .ls 2 1 9 0 4, .nils]] = some ⟨[.agg (enc hF0)], true, [0, 1, 2]⟩ := rfl
  have c := ykn (E := E) (C := y8 E) (fb := 0) (f := 166) rfl hz (by rfl) hP (ypg hF1)
  rw [y2sk, show ([⟨0, .dead⟩, ⟨0, .dead⟩, ⟨0, .dead⟩, ⟨0, .dead⟩] : Heap) = [D0, D0, D0, D0] from rfl, y2jd, e2, yc, e3, yc, b4, y5, b5, y5, y5, b7, y5, e8, yc, b9, y5, c, yc]
  rfl
end Go.Vm
namespace Go.Vm
open Cel
theorem y23h {H : Heap} {a k : Nat} {c : List AV} {v : AV} (h : H[a]? = some ⟨1, .arr true false 5 [c]⟩) (hl : c.length = 5) (hk : k < 5) (hv : cellsOf v = [v]) (hf : y16 v = true) :
    evSt 1 (.lp a 1 0 k) v H = some (.tup [], H.set a ⟨1, .arr true false 5 [y13 k [v] c]⟩) := by
  have hr : yt H a 1 = some (false, 5, [c]) := by simp [yt, y3w, h]
  rw [y76, hr]
  simp only [List.getElem?_cons_zero, hv]
  rw [if_pos ⟨rfl, by rw [hl]; omega, by simp [hf]⟩, y23, h]
  rfl
end Go.Vm
namespace Go.Vm
open Cel
theorem y2ct {f : Fn} (w : Wf f) (hs : FnSm f) {T : KTab} (v : InvK f (T, [])) (h1 : (lst f.code).length ≤ 400) (hr : (lst f.rows).length ≤ 1000000) :
    (y8 E).p 172 [.agg (enc f), .agg (enc (knoF f T))] = some ⟨.bool true, [], true, [], []⟩ := by
  have n0 : newC 0 (some 0) (cellsOf (.agg (enc f))) [D0, D0, D0, D0, D0] = some (.lp 0 1 0 0, [AB f, D0, D0, D0, D0]) := by simp
  have n1 : newC 0 (some 1) (cellsOf (.agg (enc (knoF f T)))) [AB f, D0, D0, D0, D0] = some (.lp 1 1 0 0, [AB f, AB (knoF f T), D0, D0, D0]) := by simp
  have fa3 : ∀ i, evFa 3 (.lp i 1 0 0) = some (.lp i 1 0 3) := fun i => rfl
  have l3 : ∀ t : Heap, evLd false 1 (.lp 0 1 0 3) (AB f :: t) = some (slA f.code) := fun t => rfl
  have lf : ∀ t : Heap, evLd true 5 (.lp 0 1 0 0) (AB f :: t) = some (.agg (enc f)) := fun t => rfl
  have g3 : ∀ t : Heap, evLd false 1 (.lp 1 1 0 3) (AB f :: AB (knoF f T) :: t) = some (slA (knoF f T).code) := fun t => rfl
  have lg : ∀ t : Heap, evLd true 5 (.lp 1 1 0 0) (AB f :: AB (knoF f T) :: t) = some (.agg (enc (knoF f T))) := fun t => rfl
  have hkl : (lst (knoF f T).code).length = (lst f.code).length := yrc f T
  have ne : y6 .neq (.int .i64 ((lst f.code).length : Int)) (.int .i64 ((lst f.code).length : Int)) = some (.bool false) := by rw [yij]; simp
  have hH := y254 f (by omega) hr
  have hR := y24y f (by omega) hr
  have c106 : ∀ H, y7 E (y8 E) 0 none true 106 [.agg (enc f)] H = some (slA (nz (y21 f)), H) := fun H => y27 rfl (fz_f f H) rfl hH ⟨_, yvo _, rfl⟩
  have c104 : ∀ H, y7 E (y8 E) 0 none true 104 [.agg (enc f)] H = some (slA (some (y3e f)), H) := fun H => y27 rfl (fz_f f H) rfl hR ⟨_, yvo _, rfl⟩
  have n2 : newC 0 (some 2) [.nils, .nils, .int .i64 0, .nils, .nils] [AB f, AB (knoF f T), D0, D0, D0] = some (.lp 2 1 0 0, [AB f, AB (knoF f T), ⟨1, .arr true false 5 [[.nils, .nils, .int .i64 0, .nils, .nils]]⟩, D0, D0]) := rfl
  have s2 : evSt 5 (.lp 2 1 0 0) (.agg (enc (knoF f T))) [AB f, AB (knoF f T), ⟨1, .arr true false 5 [[.nils, .nils, .int .i64 0, .nils, .nils]]⟩, D0, D0] = some (.tup [], [AB f, AB (knoF f T), AB (knoF f T), D0, D0]) :=
    yzh (H := [AB f, AB (knoF f T), ⟨1, .arr true false 5 [[.nils, .nils, .int .i64 0, .nils, .nils]]⟩, D0, D0]) (a := 2) rfl rfl rfl (yzf _)
  have hn := w.n1
  have ap : y3c 0 (some 3) 9 96 AV.nils (slA (knoF f T).code) [AB f, AB (knoF f T), AB (knoF f T), D0, D0] = some (.ls 3 1 9 0 (lst f.code).length, [AB f, AB (knoF f T), AB (knoF f T), ⟨1, .arr false false 9 ((knoL f T).map enc)⟩, D0]) := by
    have hrw : y3s [AB f, AB (knoF f T), AB (knoF f T), D0, D0] 9 (slA (knoF f T).code) = some ((knoL f T).map enc) := y1h0 _ _
    have hne : ((knoL f T).map (enc (α := Ins))).isEmpty = false := by
      cases hq : knoL f T with
      | nil =>
        have := yrc f T
        rw [hq] at this
        simp at this; omega
      | cons a L => rfl
    have hl : ((knoL f T).map (enc (α := Ins))).length = (lst f.code).length := by rw [List.length_map]; exact yrc f T
    have hb : ((knoL f T).map (enc (α := Ins))).length * 96 ≤ 2 ^ 48 := by rw [hl]; omega
    rw [y3c, hrw]
    simp only [hne, Bool.false_eq_true, if_false, hb, if_true]
    rw [y4d]
    simp only [place, Nat.zero_add, hl]
    rfl
  have s3 : evSt 1 (.lp 2 1 0 3) (.ls 3 1 9 0 (lst f.code).length) [AB f, AB (knoF f T), AB (knoF f T), ⟨1, .arr false false 9 ((knoL f T).map enc)⟩, D0] = some (.tup [], hHp f T (y67 f T 0) D0) := by
    rw [y2ck]
    exact y23h (H := [AB f, AB (knoF f T), AB (knoF f T), ⟨1, .arr false false 9 ((knoL f T).map enc)⟩, D0]) (a := 2) (k := 3) rfl rfl (by decide) rfl rfl
  obtain ⟨o', lp⟩ := y1fl w v (by omega) hr _ 0 D0 (Nat.zero_add _)
  have z0 : ((0 : Nat) : Int) = 0 := rfl
  rw [z0] at lp
  obtain ⟨L, hL⟩ : ∃ L, f.code = some L := by
    cases hc : f.code with
    | none => rw [hc] at hn; simp at hn
    | some L => exact ⟨L, rfl⟩
  have lk : evLd true 5 (.lp 2 1 0 0) (hHp f T (lst f.code) o') = some (.agg [slA f.regs, slA f.params, .int .i64 f.ret, .ls 3 1 9 0 (lst f.code).length, slA f.rows]) := rfl
  have hz : ∃ fr ids, fz (hHp f T (lst f.code) o') y18 (.agg [slA f.regs, slA f.params, .int .i64 f.ret, .ls 3 1 9 0 (lst f.code).length, slA f.rows]) = some ⟨.agg (enc f), fr, ids⟩ := by
    have hls : fz (hHp f T (lst f.code) o') 11 (.ls 3 1 9 0 (lst f.code).length) = some ⟨slA f.code, (lst f.code).all scal, ownI 3 f.code⟩ := by
      have := yim (α := Ins) (H := hHp f T (lst f.code) o') (j := 3) (g := 1) (k := 9) (o := f.code) (fun L' h => by rw [h]; rfl)
      rw [hL] at this ⊢
      exact this
    have hi : fz (hHp f T (lst f.code) o') 11 (.int .i64 f.ret) = some ⟨.int .i64 f.ret, true, []⟩ := rfl
    refine ⟨_, _, (yem _ 11 _).trans (by
      simp only [yj, y2hr, hls, hi, y15]
      rfl)⟩
  obtain ⟨fr, ids, hz⟩ := hz
  have hS := y2ou f f ⟨by have := hs.regs; omega, by have := hs.params; omega, by omega, by omega, fun x hx => by have := hs.args x hx; omega⟩
  rw [yzt] at hS
  have c14 : y7 E (y8 E) 0 none true 14 [.agg (enc f), .agg [slA f.regs, slA f.params, .int .i64 f.ret, .ls 3 1 9 0 (lst f.code).length, slA f.rows]] (hHp f T (lst f.code) o') = some (.bool true, hHp f T (lst f.code) o') := by
    refine ykn (fa := ⟨[.agg (enc f), .agg (enc f)], scal f && (fr && true), [] ++ (ids ++ [])⟩) rfl ?_ rfl hS ⟨_, rfl, rfl⟩
    rw [yj, yj, y81, hz, y15]
  have ln : ∀ (o : Option (List Ins)) (H : Heap), yv 1 (slA o) H = some (.int .i64 (lst o).length) := fun o H => y8z ..
  rw [y2lv, show ([⟨0, .dead⟩, ⟨0, .dead⟩, ⟨0, .dead⟩, ⟨0, .dead⟩, ⟨0, .dead⟩] : Heap) = [D0, D0, D0, D0, D0] from rfl, yyp, n0, yc, n1, yc, y02, fa3, y5, l3, y5, ln, y5, fa3, y5, g3, y5, ln, y5, hkl, ne, y5, y28,
    yyt, lf, y5, c106, yc, yz8, lf, y5, c104, yc, y0l, lg, y5, n2, yc, s2, yc, yy7, fa3, y5, g3, y5, ap, yc, fa3, y5, s3, yc, y0k, lp,
    yvq, lf, y5, lk, y5, c14, yc]
  rfl
def y1t1 (f : Fn) : Bool := decide ((lst f.code).length ≤ 90) && decide ((lst f.regs).length ≤ 20) && decide ((lst f.rows).length ≤ 12) && wf f
theorem y253 (f : Fn) (hf : FnFit f) : (y8 E).p 171 [.agg (enc f)] = some ⟨.bool (y1t1 f), [], true, [], []⟩ := by
  have n0 : newC 0 (some 0) (cellsOf (.agg (enc f))) [D0] = some (.lp 0 1 0 0, [AB f]) := by simp
  have fa : ∀ k, evFa k (.lp 0 1 0 0) = some (.lp 0 1 0 (0 + k)) := fun k => rfl
  have l3 : evLd false 1 (.lp 0 1 0 3) [AB f] = some (slA f.code) := rfl
  have l0 : evLd false 1 (.lp 0 1 0 0) [AB f] = some (slA f.regs) := rfl
  have l4 : evLd false 1 (.lp 0 1 0 4) [AB f] = some (slA f.rows) := rfl
  have lf : evLd true 5 (.lp 0 1 0 0) [AB f] = some (.agg (enc f)) := rfl
  have hck := y25i f hf
  have c29 : ∀ H, y7 E (y8 E) 0 none true 29 [.agg (enc f)] H = some (.int .i64 (if wf f then 0 else 80), H) := fun H => y27 rfl (fz_f f H) rfl hck ⟨_, rfl, rfl⟩
  have ex : ∀ b, yd [AB f] (.bool b) = some ⟨.bool b, [], true, [], []⟩ := fun b => rfl
  rw [y2u2, show ([⟨0, .dead⟩] : Heap) = [D0] from rfl, y2e9, n0, yc]
  unfold y1t1
  have d90 : (((lst f.code).length : Int) ≤ 90) = ((lst f.code).length ≤ 90) := by rw [eq_iff_iff]; omega
  have d20 : (((lst f.regs).length : Int) ≤ 20) = ((lst f.regs).length ≤ 20) := by rw [eq_iff_iff]; omega
  have d12 : (((lst f.rows).length : Int) ≤ 12) = ((lst f.rows).length ≤ 12) := by rw [eq_iff_iff]; omega
  simp only [fa, Nat.zero_add, y5, l3, y8z, y7k, d90]
  by_cases h1 : (lst f.code).length ≤ 90
  · simp only [h1, decide_true, y5o, l0, y5, y8z, y7k, d20, y1c, Bool.true_and]
    by_cases h2 : (lst f.regs).length ≤ 20
    · simp only [h2, decide_true, y5o, l4, y5, y8z, y7k, d12, y1c, Bool.true_and]
      by_cases h3 : (lst f.rows).length ≤ 12
      · cases hw : wf f with
        | true =>
          rw [hw] at c29
          simp only [h3, decide_true, y5o, y28w, lf, c29, if_true, yc, yu, y5, y1c, ex, Bool.true_and]
        | false =>
          rw [hw] at c29
          simp only [h3, decide_true, y5o, y28w, lf, c29, Bool.false_eq_true, if_false, yc, yu, y5, show decide ((80 : Int) = 0) = false from rfl, y1c, ex, Bool.true_and]
      · simp only [h3, decide_false, y82, y1sk, y4i, ysz, y5, y1i, ex, Bool.false_and]
    · simp only [h2, decide_false, y82, y1sk, y4i, ysz, y5, y1i, ex, Bool.false_and]
  · simp only [h1, decide_false, y82, y1sk, y4i, ysz, y5, y1i, ex, Bool.false_and]
theorem ylx (f : Fn) (hf : FnIn f) : (y8 E).p 163 [.agg (enc f)] = some ⟨.bool true, [], true, [], []⟩ := by
  have hfit := hf.fit3
  have n0 : newC 0 (some 0) (cellsOf (.agg (enc f))) [D0] = some (.lp 0 1 0 0, [AB f]) := by simp
  have lf : evLd true 5 (.lp 0 1 0 0) [AB f] = some (.agg (enc f)) := rfl
  have ch : ∀ H : Heap, y7 E (y8 E) 0 none true 165 [] H = some (.bool true, H) := fun H => y27 (fa := ⟨[], true, []⟩) rfl rfl rfl y2gc ⟨_, rfl, rfl⟩
  have hg := y253 f hfit
  have c171 : ∀ H, y7 E (y8 E) 0 none true 171 [.agg (enc f)] H = some (.bool (y1t1 f), H) := fun H => y27 rfl (fz_f f H) rfl hg ⟨_, rfl, rfl⟩
  have f171 : ∀ H, y2k E (y8 E) 0 none true 171 [.agg (enc f)] H = some ([], []) := fun H => yhr rfl (fz_f f H) rfl hg
  have pf : ([⟨0, .dead⟩] : Heap) = [D0] := rfl
  have pr1 : ye [(ids1 (.lp 0 1 0 0), []), ([], []), ([], []), ([], []), ([], []), ([], []), ([], []), ([], []), ([], []), ([], [])] [(4, 6)] = true := by decide
  have pr2 : ye [(ids1 (.lp 0 1 0 0), []), ([], []), ([], []), ([], []), (ids1 (.lp 0 1 0 0), []), (ids1 (.lp 0 1 0 0), []), ([], []), ([], []), ([], []), ([], [])] [(4, 6)] = true := by decide
  rw [y2rr, pf, y2i4, n0, yc, y2ir, ch, yc, y47, y5, Bool.not_true, y28, y2eb, lf, y5, f171, y6v, c171, yc, y47, y5]
  cases hq : y1t1 f with
  | false =>
    simp only [Bool.not_false, y2kw, y6v, yr4, y2s0, y1c, y5]
    rw [y1up pr1]
    rfl
  | true =>
    simp only [y1t1, Bool.and_eq_true, decide_eq_true_eq] at hq
    obtain ⟨⟨⟨h1, h2⟩, h3⟩, hw⟩ := hq
    have hsm := hf.sm (by omega) (by omega)
    obtain ⟨_, d2⟩ := y1iy f hfit hsm (by omega) (by omega) (by omega)
    obtain ⟨T, v, hP⟩ := d2 hw
    have hF := y2ct (y2nn hw) hsm v (by omega) (by omega)
    have c166 : ∀ H, y7 E (y8 E) 0 none true 166 [.agg (enc f)] H = some (.agg (enc (knoF f T)), H) := fun H => y27 rfl (fz_f f H) rfl hP (ypg _)
    have f166 : ∀ H, y2k E (y8 E) 0 none true 166 [.agg (enc f)] H = some ([], []) := fun H => yhr rfl (fz_f f H) rfl hP
    have c172 : ∀ H, y7 E (y8 E) 0 none true 172 [.agg (enc f), .agg (enc (knoF f T))] H = some (.bool true, H) := fun H => y27 rfl (y2mv f _ H) rfl hF ⟨_, rfl, rfl⟩
    have f172 : ∀ H, y2k E (y8 E) 0 none true 172 [.agg (enc f), .agg (enc (knoF f T))] H = some ([], []) := fun H => yhr rfl (y2mv f _ H) rfl hF
    simp only [Bool.not_true, y2lc, y6v, yff, y2ui, lf, y5, f166, c166, yc, f172, c172, y1i]
    rw [y1up pr2]
    rfl
end Go.Vm
