/- The document's answers for single operations. The document's answers for names and types: the program's own. The document's answer whether a call, an instruction is well formed. The document's answer whether an instruction is well formed. The document's answer whether an instruction is well formed, whole. The document's answer for an instruction is the program's. The document's answer whether a function is well formed: the program's own. What a function that is handed in is fit for, for a check. The pass 'dead' as laws see it. Chapter 16's anchor. The table of what is set tells whether each register is written ahead of all that reads it. Clones of lists of marks. -/
import Derived.Test.YtgbajicpokolcaaFX
import Derived.Test.YtgbajicpokolcaaFTd
set_option linter.unusedSimpArgs false
set_option linter.unusedVariables false
set_option linter.unusedSectionVars false
namespace Go.Vm
open Cel
attribute [local simp] y8 y2d yp
@[simp] theorem yjj (f : Fn) (r : Int) : (y9 E).p 48 [.agg (enc f), .int .i64 r] = some ⟨.int .i64 (regK (lst f.regs) r), [], true, [], []⟩ := by
  rw [y2mt]
  by_cases h0 : r < 0
  · simp [yr4, yu5, yte, h0, regK]
  by_cases h1 : ((lst f.regs).length : Int) ≤ r
  · have : (lst f.regs)[r.toNat]? = none := List.getElem?_eq_none (by omega)
    simp [yr4, yu5, yte, h0, h1, regK, this]
  · have hin : inR (lst f.regs) r = true := by
      have a1 : 0 ≤ r := by omega
      have a2 : r < ((lst f.regs).length : Int) := by omega
      simp [inR, a1, a2]
    obtain ⟨a0, a1, a2⟩ := yvy hin
    have k := yzz (o := f.regs) a0 a2 .i64
    simp [yr4, yu5, yte, h0, h1, k]
def y5e (k : Int) (c : UInt8) : Bool :=
  if c = 45 ∨ c = 63 then true else if c = 42 ∨ c = 61 then decide (0 < k) else if c = 110 then decide (k = 1) || decide (k = 2) else decide (k = (c.toNat : Int) - 48)
theorem y24u (f : Fn) (r : Int) (c : UInt8) (hc : c = 45 ∨ c = 63 ∨ c = 42 ∨ c = 61 ∨ c = 110 ∨ c = 49 ∨ c = 50 ∨ c = 51) :
    (y9 E).p 65 [.agg (enc f), .int .i64 r, .int .u8 c.toNat] = some ⟨.bool (y5e (regK (lst f.regs) r) c), [], true, [], []⟩ := by
  rw [y2md]
  generalize hk : regK (lst f.regs) r = k
  have hk' := yjj f r
  rw [hk] at hk'
  rcases hc with rfl | rfl | rfl | rfl | rfl | rfl | rfl | rfl
  · simp [yc3, yan, yc2, yar, yc9, ycd, ycc, y77, hk', y5e]
  · simp [yc3, yan, yc2, yar, yc9, ycd, ycc, y77, hk', y5e]
  · simp [yc3, yan, yc2, yar, yc9, ycd, ycc, y77, hk', y5e]
  · simp [yc3, yan, yc2, yar, yc9, ycd, ycc, y77, hk', y5e]
  · by_cases h1 : k = 1 <;> simp [yc3, yan, yc2, yar, yc9, ycd, ycc, y77, hk', y5e, h1]
  · simp [yc3, yan, yc2, yar, yc9, ycd, ycc, y77, hk', y5e, IntKind.wrap, IntKind.bits, IntKind.signed]
  · simp [yc3, yan, yc2, yar, yc9, ycd, ycc, y77, hk', y5e, IntKind.wrap, IntKind.bits, IntKind.signed]
  · simp [yc3, yan, yc2, yar, yc9, ycd, ycc, y77, hk', y5e, IntKind.wrap, IntKind.bits, IntKind.signed]
@[simp] theorem y28h (f : Fn) (i : Int) : (y9 E).p 49 [.agg (enc f), .int .i64 i] = some ⟨.bool (y52 (lst f.code).length i), [], true, [], []⟩ := by
  rw [y2ks]
  by_cases h0 : 0 ≤ i <;> simp [y1qn, h0, y52]
end Go.Vm
namespace Go.Vm
open Cel
attribute [local simp] y8 y2d yp
def mayB : List UInt8 := [97, 98, 99, 100, 101, 102, 103, 104, 105, 106, 107, 108, 109, 110, 111, 112, 113, 114, 115, 116, 117, 118, 119, 120, 121, 122, 65, 66, 67, 68, 69, 70, 71, 72, 73, 74, 75, 76, 77, 78, 79, 80, 81, 82, 83, 84, 85, 86, 87, 88, 89, 90, 48, 49, 50, 51, 52, 53, 54, 55, 56, 57, 95, 36, 47]
theorem y2kt : ((List.range 256).all fun n => mayB.contains (UInt8.ofNat n) == okB (UInt8.ofNat n)) = true := by kernel_rfl
theorem y2jr (c : UInt8) : mayB.contains c = okB c := by
  have := ya1 y2kt c.toNat c.toNat_lt
  rw [UInt8.ofNat_toNat] at this
  exact eq_of_beq this
@[simp] theorem y2rm : E.pure 53 = true := rfl
theorem y2ox (s : List UInt8) (c : UInt8) : (y9 E).p 53 [.str s, .str [c]] = some ⟨.bool (s.contains c), [], true, [], []⟩ := by
  rw [yns, y6j, show E.fn 53 = none by kernel_rfl]
  rfl
theorem y1bn (s : List UInt8) (hs : s.length ≤ 9223372036854775807) (h : Heap) : ∀ (d i : Nat), i + d = s.length →
    yfd (.str s) (.str mayB) (.int .i64 i) h = if (s.drop i).all okB then yi5 (.str s) h else some ⟨.bool false, [], true, [], []⟩ := by
  intro d
  induction d with
  | zero =>
    intro i hi
    have e1 : s.drop i = [] := List.drop_eq_nil_of_le (by omega)
    have hc : ¬ ((i : Int) < (s.length : Int)) := by omega
    rw [ynn, e1]
    simp [yu3, hc]
  | succ d ih =>
    intro i hi
    have hlt : i < s.length := by omega
    have hc : ((i : Int) < (s.length : Int)) := by omega
    have ih := ih (i + 1) (by omega)
    push_cast at ih
    have e1 : (s.drop i).all okB = (okB s[i] && (s.drop (i + 1)).all okB) := by rw [List.drop_eq_getElem_cons hlt, List.all_cons]
    have hsl : yea (.str s) (some (.int .i64 (i : Int))) (some (.int .i64 ((i : Int) + 1))) = some (.str [s[i]]) := by
      have a1 : ((0 : Int) ≤ (i : Int) + 1 ∧ (i : Int) + 1 ≤ (s.length : Int)) := by omega
      have a2 : ((0 : Int) ≤ (i : Int) ∧ (i : Int) ≤ (((i : Int) + 1).toNat : Int)) := by omega
      simp only [yea, y9j, yju, if_pos a1, if_pos a2]
      have e2 : ((i : Int) + 1).toNat = i + 1 := by omega
      rw [e2, Int.toNat_natCast, List.drop_take, show i + 1 - i = 1 by omega, List.drop_eq_getElem_cons hlt]
      rfl
    have hm := y2ox mayB s[i]
    rw [y2jr] at hm
    rw [ynn, e1]
    simp only [yu3, ydn, yc, yj, hc, decide_true, y29]
    cases hb : okB s[i] with
    | true =>
      rw [hb] at hm
      simp [ypw, y1d hlt hs, hsl, hm, y12s, ih]
    | false =>
      rw [hb] at hm
      simp [ypw, y1d hlt hs, hsl, hm]
@[simp] theorem y2c4 (s : List UInt8) (hs : s.length ≤ 9223372036854775807) : (y9 E).p 69 [.str s, .bool false] = some ⟨.bool (y7h s), [], true, [], []⟩ := by
  have h0 := y1bn s hs [] _ 0 (Nat.zero_add _)
  simp only [Int.ofNat_zero, List.drop_zero] at h0
  rw [y2i9]
  have e : yox (.str s) (.bool false) [] = yfd (.str s) (.str mayB) (.int .i64 0) [] := by simp [yi5, y12s, ypw, yu3, y17l, y1lm, yuk, yox]; rfl
  rw [e, h0, y7h]
  cases hal : s.all okB with
  | false => simp
  | true =>
    by_cases h1 : s = []
    · subst h1; simp [yi5]
    · have h2 : 1 ≤ s.length := by have := List.length_pos_iff.2 h1; omega
      by_cases h3 : s.length ≤ 60
      · have : ((s.length : Int) ≤ 60) := by omega
        simp [yi5, h1, h2, h3, this]
      · have : ¬ ((s.length : Int) ≤ 60) := by omega
        simp [yi5, h1, h2, h3, this]
def yh1 (s : List UInt8) : Bool :=
  decide (lead s ≤ 8) && (decide (s.drop (lead s) = [73]) || decide (s.drop (lead s) = [74]) ||
    (decide (2 < (s.drop (lead s)).length) && decide ((s.drop (lead s))[0]? = some 76) && decide ((s.drop (lead s))[(s.drop (lead s)).length - 1]? = some 59) && y7h (((s.drop (lead s)).take ((s.drop (lead s)).length - 1)).drop 1)))
theorem y1bu (s : List UInt8) (hs : s.length ≤ 9223372036854775807) (h : Heap) : ∀ (d i : Nat), i + d = lead s → yfe (.str s) (.int .i64 i) h = ym6 (.str s) (.int .i64 (lead s)) h := by
  intro d
  induction d with
  | zero =>
    intro i hi
    obtain rfl : i = lead s := by omega
    rw [yn3]
    have := yaq s
    by_cases hc : lead s < s.length
    · have e := List.getElem?_eq_getElem hc
      have hne := yve e
      have hc' : ((lead s : Int) < (s.length : Int)) := by omega
      have hb : ¬ ((s[lead s].toNat : Int) = 91) := fun hh => hne ((y5u _ 91).1 hh)
      simp [ylu, hc', ixstr e, hb]
    · have hc' : ¬ ((lead s : Int) < (s.length : Int)) := by omega
      simp [ylu, hc']
  | succ d ih =>
    intro i hi
    have e := yvn (s := s) (i := i) (by omega)
    have := yaq s
    have hc' : ((i : Int) < (s.length : Int)) := by omega
    have ih := ih (i + 1) (by omega)
    push_cast at ih
    rw [yn3]
    simp [ylu, hc', ixstr e, y15c, y1d (show i < s.length by omega) hs, ih]
theorem y1xu (s : List UInt8) (hs : s.length ≤ 9223372036854775807) : (y9 E).p 67 [.str s] = some ⟨.bool (yh1 s), [], true, [], []⟩ := by
  have h0 := y1bu s hs [] _ 0 (Nat.zero_add _)
  simp only [Int.ofNat_zero] at h0
  rw [y2ip]
  have e : yo9 (.str s) [] = yfe (.str s) (.int .i64 0) [] := by simp [ykd, ydw, yr6, ym6, y15c, ylu, yw5, yo9]
  rw [e, h0, yh1]
  have hle := yaq s
  have hsl : yea (.str s) (some (.int .i64 (lead s))) none = some (.str (s.drop (lead s))) := by
    have a2 : ((0 : Int) ≤ (lead s : Int) ∧ (lead s : Int) ≤ (s.length : Int)) := by omega
    simp only [yea, y9j, yju, if_pos a2]
    simp
  by_cases h8 : 8 < lead s
  · have h8' : ((8 : Int) < (lead s : Int)) := by omega
    have : ¬ lead s ≤ 8 := by omega
    simp [ym6, hsl, yr6, h8', this]
  · have h8' : ¬ ((8 : Int) < (lead s : Int)) := by omega
    have h8n : lead s ≤ 8 := by omega
    have hrl : (s.drop (lead s)).length ≤ 9223372036854775807 := by rw [List.length_drop]; omega
    simp only [ym6, hsl, yc, yr6, y6h, h8', decide_false, y31, h8n, decide_true, Bool.true_and]
    generalize s.drop (lead s) = r at *
    by_cases c1 : r = [73]
    · simp [ydw, c1]
    by_cases c2 : r = [74]
    · simp [ydw, c2]
    by_cases c3 : 2 < r.length
    · have c3' : ((2 : Int) < (r.length : Int)) := by omega
      have k0 := List.getElem?_eq_getElem (l := r) (i := 0) (by omega)
      have k1 := List.getElem?_eq_getElem (l := r) (i := r.length - 1) (by omega)
      have i0 := ixstr k0
      have i1 := ixstr k1
      simp only [Int.ofNat_zero] at i0
      have hw : IntKind.wrap .i64 ((r.length : Int) - 1) = ((r.length - 1 : Nat) : Int) := by rw [y2g] <;> omega
      have hs2 : yea (.str r) (some (.int .i64 1)) (some (.int .i64 ((r.length - 1 : Nat) : Int))) = some (.str ((r.take (r.length - 1)).drop 1)) := by
        have a1 : ((0 : Int) ≤ ((r.length - 1 : Nat) : Int) ∧ ((r.length - 1 : Nat) : Int) ≤ (r.length : Int)) := by omega
        have a2 : ((0 : Int) ≤ (1 : Int) ∧ (1 : Int) ≤ (((r.length - 1 : Nat) : Int).toNat : Int)) := by omega
        simp only [yea, y9j, yju, if_pos a1, if_pos a2]
        rfl
      have hn := y2c4 ((r.take (r.length - 1)).drop 1) (by rw [List.length_drop, List.length_take]; omega)
      rw [k0, k1]
      generalize r[0] = b0 at *
      generalize r[r.length - 1] = b1 at *
      generalize y7h ((r.take (r.length - 1)).drop 1) = N at *
      have hn' := hn
      simp only [List.drop_one] at hn'
      by_cases d0 : b0 = 76
      · by_cases d1 : b1 = 59
        · simp [ydw, ykd, c1, c2, c3, c3', i0, i1, hw, hs2, hn', d0, d1]
        · have d1' : ¬ ((b1.toNat : Int) = 59) := fun hh => d1 ((y5u _ 59).1 hh)
          simp [ydw, ykd, c1, c2, c3, c3', i0, i1, hw, d0, d1, d1']
      · have d0' : ¬ ((b0.toNat : Int) = 76) := fun hh => d0 ((y5u _ 76).1 hh)
        simp [ydw, ykd, c1, c2, c3, c3', i0, d0, d0']
    · have c3' : ¬ ((2 : Int) < (r.length : Int)) := by omega
      simp [ydw, ykd, c1, c2, c3, c3']
theorem ytk {l : List UInt8} (h : y7h l = true) : 59 ∉ l ∧ 1 ≤ l.length := by
  simp only [y7h, Bool.and_eq_true, decide_eq_true_eq, List.all_eq_true] at h
  refine ⟨fun hm => ?_, h.1.1⟩
  have := h.2 59 hm
  exact absurd this (by decide)
theorem y1na (s : List UInt8) : yh1 s = y7l s := by
  rw [Bool.eq_iff_iff]
  simp only [yh1, y7l, Bool.and_eq_true, Bool.or_eq_true, decide_eq_true_eq]
  have hle := yaq s
  have hdl : (s.drop (lead s)).length = s.length - lead s := List.length_drop
  by_cases hne : s = []
  · subst hne; simp [lead, yph]
  have hpos : 0 < s.length := List.length_pos_iff.2 hne
  simp only [hne, not_false_eq_true, true_and, ne_eq]
  unfold yph
  by_cases h8 : 8 < lead s
  · rw [if_pos (.inl h8)]
    constructor
    · rintro ⟨h, _⟩; omega
    · intro h; omega
  by_cases hl : lead s = s.length
  · rw [if_pos (.inr hl)]
    have : s.drop (lead s) = [] := List.drop_eq_nil_of_le (by omega)
    rw [this]
    constructor
    · rintro ⟨_, h⟩; simp at h
    · intro h; omega
  rw [if_neg (by omega)]
  have hlt : lead s < s.length := by omega
  have hd : s.drop (lead s) = s[lead s] :: s.drop (lead s + 1) := List.drop_eq_getElem_cons hlt
  have h8n : lead s ≤ 8 := by omega
  rw [List.getElem?_eq_getElem hlt]
  have hrl : (s.drop (lead s + 1)).length = s.length - (lead s + 1) := List.length_drop
  have htk : ∀ j, (s.take (lead s + 1 + j)).drop (lead s + 1) = (s.drop (lead s + 1)).take j := by
    intro j; rw [List.drop_take]; congr 1; omega
  simp only [htk]
  rw [hd]
  generalize s[lead s] = c at *
  generalize hr : s.drop (lead s + 1) = r at *
  simp only [h8n, true_and, Option.some.injEq, List.cons.injEq, List.length_cons, List.getElem?_cons_zero, Nat.add_sub_cancel]
  by_cases c1 : c = 73
  · subst c1
    simp only [true_or, if_true, true_and]
    have e1 : (s.length = lead s + 1) ↔ r = [] := by rw [← List.length_eq_zero_iff, hrl]; omega
    constructor
    · rintro (h | h)
      · rcases h with h | h
        · exact (e1.2 h).symm
        · exact absurd h.1 (by decide)
      · exact absurd h.1.1.2 (by decide)
    · intro h; exact .inl (.inl (e1.1 h.symm))
  by_cases c2 : c = 74
  · subst c2
    simp only [or_true, if_true, true_and]
    have e1 : (s.length = lead s + 1) ↔ r = [] := by rw [← List.length_eq_zero_iff, hrl]; omega
    constructor
    · rintro (h | h)
      · rcases h with h | h
        · exact absurd h.1 (by decide)
        · exact (e1.2 h).symm
      · exact absurd h.1.1.2 (by decide)
    · intro h; exact .inl (.inr (e1.1 h.symm))
  simp only [c1, c2, or_self, if_false, false_and, false_or]
  by_cases c3 : c = 76
  · subst c3
    simp only [if_true, true_and, and_true]
    have idx : ∀ j, j < r.length → r[j]? = some 59 → 59 ∉ r.take j → r.findIdx (· == 59) = j := by
      intro j hj h1 h2
      rw [List.getElem?_eq_getElem hj] at h1
      rw [List.findIdx_eq hj]
      refine ⟨by simpa using h1, fun k hk => ?_⟩
      have : r[k]'(by omega) ∈ r.take j := List.mem_take_iff_getElem.2 ⟨k, by omega, rfl⟩
      simp only [beq_eq_false_iff_ne, ne_eq]
      intro he
      rw [he] at this
      exact h2 this
    constructor
    · rintro ⟨⟨h1, h2⟩, h3⟩
      have e0 : (76 :: r : List UInt8)[r.length]? = r[r.length - 1]? := by
        rw [show r.length = (r.length - 1) + 1 by omega]; simp
      rw [e0] at h2
      have e1 : ((76 :: r : List UInt8).take r.length).drop 1 = r.take (r.length - 1) := by
        rw [show r.length = (r.length - 1) + 1 by omega]; simp
      rw [e1] at h3
      have := idx (r.length - 1) (by omega) h2 (ytk h3).1
      rw [this, if_pos ⟨by omega, h3⟩]
      omega
    · intro h
      split at h
      · rename_i hc
        have hj : r.findIdx (· == 59) = r.length - 1 := by omega
        have hn := ytk hc.2
        have hlen := hn.2
        rw [List.length_take, hj] at hlen
        have h59 : r[r.length - 1]? = some 59 := by
          have := List.findIdx_getElem (w := hc.1)
          rw [List.getElem?_eq_getElem (by omega)]
          simp only [hj] at this
          simpa using this
        rw [hj] at hc
        refine ⟨⟨by omega, ?_⟩, ?_⟩
        · rw [show r.length = (r.length - 1) + 1 by omega]; simpa using h59
        · have e1 : ((76 :: r : List UInt8).take r.length).drop 1 = r.take (r.length - 1) := by
            rw [show r.length = (r.length - 1) + 1 by omega]; simp
          rw [e1]; exact hc.2
      · omega
  · simp only [c3, if_false, and_false, false_and]
    constructor
    · intro h; exact h.elim
    · intro h; omega
theorem y298 (s : List UInt8) (hs : s.length ≤ 9223372036854775807) : (y9 E).p 67 [.str s] = some ⟨.bool (y7l s), [], true, [], []⟩ := by
  rw [y1xu s hs, y1na]
end Go.Vm
namespace Go.Vm
open Cel
attribute [local simp] y8 y2d yp y5j
abbrev H2 (f : Fn) (x : Ins) : Heap := [⟨1, .arr true false 5 [enc f]⟩, ⟨1, .arr true false 9 [enc x]⟩]
abbrev H3 (f : Fn) (x : Ins) : Heap := [⟨1, .arr true false 5 [enc f]⟩, ⟨1, .arr true false 9 [enc x]⟩, ⟨1, .arr false false 1 [[.int .i64 x.d], [.int .i64 x.a], [.int .i64 x.b], [.int .i64 x.c]]⟩]
abbrev Q0 : AV := .lp 0 1 0 0
abbrev Q1 : AV := .lp 1 1 0 0
def ygs (R : List Int) (x : Ins) : Bool :=
  (!decide (x.op = 24) && !decide (x.op = 25)) || (match lst x.args with
    | [] => false
    | r :: _ => decide (regK R r = 3))
def yo6 (R : List Int) (x : Ins) : Bool :=
  !((decide (x.n < 0) && !decide (x.op = 25)) || decide (21 < (lst x.args).length) || (!decide (x.d = -1) && decide (regK R x.d = 0))) && ((lst x.args).all (fun r => !decide (regK R r = 0)) && ygs R x)
theorem y1qv (f : Fn) (x : Ins) : y5h Q0 Q1 (H2 f x) = some ⟨.bool (ygs (lst f.regs) x), [], true, [], []⟩ := by
  by_cases o1 : x.op = 24
  · cases ha : lst x.args with
    | nil => simp [y5h, o1, ygs, ha, yf]
    | cons r t =>
      have k1 := y3c (o := x.args) (i := 0) (x := r) (by rw [ha]; rfl) .i64
      simp only [Int.ofNat_zero] at k1
      simp [y5h, o1, ygs, ha, k1, yf]
  · by_cases o2 : x.op = 25
    · cases ha : lst x.args with
      | nil => simp [y5h, o2, ygs, ha, yf]
      | cons r t =>
        have k1 := y3c (o := x.args) (i := 0) (x := r) (by rw [ha]; rfl) .i64
        simp only [Int.ofNat_zero] at k1
        simp [y5h, o2, ygs, ha, k1, yf]
    · simp [y5h, o1, o2, ygs, yf]
theorem y1rj (f : Fn) (x : Ins) (hl : (lst x.args).length ≤ 9223372036854775807) : ∀ (d i : Nat), i + d = (lst x.args).length →
    yhk Q0 Q1 (.int .i64 i) (H2 f x) = some ⟨.bool (((lst x.args).drop i).all (fun r => !decide (regK (lst f.regs) r = 0)) && ygs (lst f.regs) x), [], true, [], []⟩ := by
  intro d
  induction d with
  | zero =>
    intro i hi
    have e1 : (lst x.args).drop i = [] := List.drop_eq_nil_of_le (by omega)
    have hn : ¬ ((i : Int) < ((lst x.args).length : Int)) := by omega
    rw [ynk, e1]
    simp [y6t, hn, y1qv]
  | succ d ih =>
    intro i hi
    have hlt : i < (lst x.args).length := by omega
    have hn : ((i : Int) < ((lst x.args).length : Int)) := by omega
    have k1 := y3c (o := x.args) (i := i) (List.getElem?_eq_getElem hlt) .i64
    have e1 : ((lst x.args).drop i).all (fun r => !decide (regK (lst f.regs) r = 0)) = ((!decide (regK (lst f.regs) (lst x.args)[i] = 0)) && ((lst x.args).drop (i + 1)).all (fun r => !decide (regK (lst f.regs) r = 0))) := by
      rw [List.drop_eq_getElem_cons hlt, List.all_cons]
    have ih := ih (i + 1) (by omega)
    push_cast at ih
    rw [ynk, e1]
    generalize (lst x.args)[i] = r at *
    have hs := yjj f r
    by_cases hz : regK (lst f.regs) r = 0
    · rw [hz] at hs
      simp [y6t, hn, y7s, k1, hs, hz, yf]
    · generalize regK (lst f.regs) r = k at *
      simp [y6t, hn, y7s, k1, hs, hz, yf, y9i, y1d hlt hl]
      exact ih
theorem y2ng (f : Fn) (x : Ins) (hl : (lst x.args).length ≤ 9223372036854775807) : (y9 E).p 68 [.agg (enc f), .agg (enc x)] = some ⟨.bool (yo6 (lst f.regs) x), [], true, [], []⟩ := by
  rw [y2j2]
  have h0 := y1rj f x hl _ 0 (Nat.zero_add _)
  simp only [Int.ofNat_zero, List.drop_zero] at h0
  have hs := yjj f x.d
  have e21 : ((21 : Int) < ((lst x.args).length : Int)) ↔ 21 < (lst x.args).length := by omega
  unfold yo6
  generalize ((lst x.args).all (fun r => !decide (regK (lst f.regs) r = 0)) && ygs (lst f.regs) x) = T at *
  generalize regK (lst f.regs) x.d = kd at *
  by_cases h21 : 21 < (lst x.args).length
  · have h21' := e21.2 h21
    by_cases hn : x.n < 0
    · by_cases o5 : x.op = 25 <;> simp [y5h, y9i, y7s, y6t, yb4, yau, y6d, hn, o5, h21, h21', yf, yu, meets]
    · simp [y5h, y9i, y7s, y6t, yb4, yau, y6d, hn, h21, h21', yf, yu, meets]
  · have h21' : ¬ ((21 : Int) < ((lst x.args).length : Int)) := by omega
    by_cases hn : x.n < 0
    · by_cases o5 : x.op = 25
      · by_cases hd : x.d = -1
        · simp [y5h, y9i, y7s, y6t, yb4, yau, y6d, hn, o5, h21, h21', hd, h0, yf, yu, meets]
        · by_cases hk : kd = 0
          · simp [y5h, y9i, y7s, y6t, yb4, yau, y6d, hn, o5, h21, h21', hd, hs, hk, h0, yf, yu, meets]
          · simp [y5h, y9i, y7s, y6t, yb4, yau, y6d, hn, o5, h21, h21', hd, hs, hk, h0, yf, yu, meets]
      · simp [y5h, y9i, y7s, y6t, yb4, yau, y6d, hn, o5, h21, h21', yf, yu, meets]
    · by_cases hd : x.d = -1
      · simp [y5h, y9i, y7s, y6t, yb4, yau, y6d, hn, h21, h21', hd, h0, yf, yu, meets]
      · by_cases hk : kd = 0
        · simp [y5h, y9i, y7s, y6t, yb4, yau, y6d, hn, h21, h21', hd, hs, hk, h0, yf, yu, meets]
        · simp [y5h, y9i, y7s, y6t, yb4, yau, y6d, hn, h21, h21', hd, hs, hk, h0, yf, yu, meets]
end Go.Vm
namespace Go.Vm
open Cel
attribute [local simp] y8 y2d yp y5j
def y6a (f : Fn) (x : Ins) : Bool :=
  match x.op with
  | 1 => decide (regK (lst f.regs) x.d = 2) || (decide (-2147483648 ≤ x.n) && decide (x.n < 2147483648))
  | 4 => decide (regK (lst f.regs) x.d = regK (lst f.regs) x.a)
  | 5 => decide (0 < (numK x.n).2.1) && decide (regK (lst f.regs) x.d = (numK x.n).2.2) && decide (regK (lst f.regs) x.a = (numK x.n).1) && decide (regK (lst f.regs) x.b = (numK x.n).2.1)
  | 6 => decide (0 < (numK x.n).1) && decide ((numK x.n).2.1 = 0) && decide (regK (lst f.regs) x.d = (numK x.n).2.2) && decide (regK (lst f.regs) x.a = (numK x.n).1)
  | 12 => y7l x.s
  | 21 => y7l x.s
  | 22 => y7l x.s
  | 16 => decide (0 ≤ x.n)
  | 17 => decide (0 ≤ x.n)
  | 23 => yo6 (lst f.regs) x
  | 24 => yo6 (lst f.regs) x
  | 25 => yo6 (lst f.regs) x
  | 26 => yo6 (lst f.regs) x
  | 27 => y52 (lst f.code).length x.t
  | 28 => decide (0 ≤ x.n) && decide (x.n ≤ 5) && y52 (lst f.code).length x.t
  | 29 => (decide (x.n = 0) || decide (x.n = 1)) && (decide (x.b = -1) || decide (regK (lst f.regs) x.b = 3)) && y52 (lst f.code).length x.t
  | 30 => if f.ret = 0 then decide (x.a = -1) else !decide (x.a = -1) && decide (regK (lst f.regs) x.a = f.ret)
  | _ => true
def oneM (f : Fn) (x : Ins) : Bool :=
  decide (1 ≤ x.op) && decide (x.op ≤ 33) && (y5e (regK (lst f.regs) x.d) ((rowM x.op).getD 0 0) && (y5e (regK (lst f.regs) x.a) ((rowM x.op).getD 1 0) && (y5e (regK (lst f.regs) x.b) ((rowM x.op).getD 2 0) && (y5e (regK (lst f.regs) x.c) ((rowM x.op).getD 3 0) && y6a f x))))
set_option maxHeartbeats 8000000 in
theorem y2j5 (f : Fn) (x : Ins) (hs : x.s.length ≤ 9223372036854775807) (hl : (lst x.args).length ≤ 9223372036854775807) (v55 : AV) (hv : v55 = .int .i64 x.op) :
    y1h Q0 Q1 (.int .i64 (numK x.n).1) (.int .i64 (numK x.n).2.1) (.int .i64 (numK x.n).2.2) v55 (H3 f x) = some ⟨.bool (y6a f x), [], true, [], []⟩ := by
  subst hv
  have hkd := yjj f x.d
  have hka := yjj f x.a
  have hkb := yjj f x.b
  have hty := y298 x.s hs
  have hcl := y2ng f x hl
  have hpl := y28h f x.t
  unfold y6a
  generalize regK (lst f.regs) x.d = kd at *
  generalize regK (lst f.regs) x.a = ka at *
  generalize regK (lst f.regs) x.b = kb at *
  generalize y7l x.s = ty at *
  generalize yo6 (lst f.regs) x = cl at *
  generalize y52 (lst f.code).length x.t = pl at *
  generalize numK x.n = k at *
  obtain ⟨a, b, d⟩ := k
  simp only
  by_cases o1 : x.op = 1
  · by_cases h2 : kd = 2
    · simp [o1, y1h, y1k, hkd, h2, yf, yu, meets]
    · by_cases h3 : -2147483648 ≤ x.n <;> simp [o1, y1h, y1k, hkd, h2, h3, yf, yu, meets]
  by_cases o4 : x.op = 4
  · simp [o4, y1h, y1k, y1o, y1p, hkd, hka, yf, yu, meets]
  by_cases o5 : x.op = 5
  · by_cases h1 : 0 < b
    · by_cases h2 : kd = d
      · by_cases h3 : ka = a
        · simp [o5, h1, h2, h3, hkd, hka, hkb, y1h, y1k, y1o, y1p, y20, y21, y1y, y1w, y1x, y1l, y1v, y1q, y1z, y1j, y22, y23, y2p, y2x, y2s, y2t, y2r, y2w, y2u, y2q, y2v, yf, yu, meets]
        · simp [o5, h1, h2, h3, hkd, hka, hkb, y1h, y1k, y1o, y1p, y20, y21, y1y, y1w, y1x, y1l, y1v, y1q, y1z, y1j, y22, y23, y2p, y2x, y2s, y2t, y2r, y2w, y2u, y2q, y2v, yf, yu, meets]
      · simp [o5, h1, h2, hkd, hka, hkb, y1h, y1k, y1o, y1p, y20, y21, y1y, y1w, y1x, y1l, y1v, y1q, y1z, y1j, y22, y23, y2p, y2x, y2s, y2t, y2r, y2w, y2u, y2q, y2v, yf, yu, meets]
    · simp [o5, h1, y1h, y1k, y1o, y1p, y20, y21, y1y, y1w, y1x, y1l, y1v, y1q, y1z, y1j, y22, y23, y2p, y2x, y2s, y2t, y2r, y2w, y2u, y2q, y2v, yf, yu, meets]
  by_cases o6 : x.op = 6
  · by_cases h1 : 0 < a
    · by_cases h2 : b = 0
      · by_cases h3 : kd = d
        · simp [o6, h1, h2, h3, hkd, hka, y1h, y1k, y1o, y1p, y20, y21, y1y, y1w, y1x, y1l, y1v, y1q, y1z, y1j, y22, y23, y2p, y2x, y2s, y2t, y2r, y2w, y2u, y2q, y2v, yf, yu, meets]
        · simp [o6, h1, h2, h3, hkd, hka, y1h, y1k, y1o, y1p, y20, y21, y1y, y1w, y1x, y1l, y1v, y1q, y1z, y1j, y22, y23, y2p, y2x, y2s, y2t, y2r, y2w, y2u, y2q, y2v, yf, yu, meets]
      · simp [o6, h1, h2, y1h, y1k, y1o, y1p, y20, y21, y1y, y1w, y1x, y1l, y1v, y1q, y1z, y1j, y22, y23, y2p, y2x, y2s, y2t, y2r, y2w, y2u, y2q, y2v, yf, yu, meets]
    · simp [o6, h1, y1h, y1k, y1o, y1p, y20, y21, y1y, y1w, y1x, y1l, y1v, y1q, y1z, y1j, y22, y23, y2p, y2x, y2s, y2t, y2r, y2w, y2u, y2q, y2v, yf, yu, meets]
  by_cases o12 : x.op = 12
  · simp [o12, hty, y1h, y1k, y1o, y1p, y20, y21, y1y, y1w, y1x, y1l, y1v, y1q, y1z, y1j, y22, y23, y2p, y2x, y2s, y2t, y2r, y2w, y2u, y2q, y2v, yf, yu, meets]
  by_cases o21 : x.op = 21
  · simp [o21, hty, y1h, y1k, y1o, y1p, y20, y21, y1y, y1w, y1x, y1l, y1v, y1q, y1z, y1j, y22, y23, y2p, y2x, y2s, y2t, y2r, y2w, y2u, y2q, y2v, yf, yu, meets]
  by_cases o22 : x.op = 22
  · simp [o22, hty, y1h, y1k, y1o, y1p, y20, y21, y1y, y1w, y1x, y1l, y1v, y1q, y1z, y1j, y22, y23, y2p, y2x, y2s, y2t, y2r, y2w, y2u, y2q, y2v, yf, yu, meets]
  by_cases o16 : x.op = 16
  · simp [o16, y1h, y1k, y1o, y1p, y20, y21, y1y, y1w, y1x, y1l, y1v, y1q, y1z, y1j, y22, y23, y2p, y2x, y2s, y2t, y2r, y2w, y2u, y2q, y2v, yf, yu, meets]
  by_cases o17 : x.op = 17
  · simp [o17, y1h, y1k, y1o, y1p, y20, y21, y1y, y1w, y1x, y1l, y1v, y1q, y1z, y1j, y22, y23, y2p, y2x, y2s, y2t, y2r, y2w, y2u, y2q, y2v, yf, yu, meets]
  by_cases o23 : x.op = 23
  · simp [o23, hcl, y1h, y1k, y1o, y1p, y20, y21, y1y, y1w, y1x, y1l, y1v, y1q, y1z, y1j, y22, y23, y2p, y2x, y2s, y2t, y2r, y2w, y2u, y2q, y2v, yf, yu, meets]
  by_cases o24 : x.op = 24
  · simp [o24, hcl, y1h, y1k, y1o, y1p, y20, y21, y1y, y1w, y1x, y1l, y1v, y1q, y1z, y1j, y22, y23, y2p, y2x, y2s, y2t, y2r, y2w, y2u, y2q, y2v, yf, yu, meets]
  by_cases o25 : x.op = 25
  · simp [o25, hcl, y1h, y1k, y1o, y1p, y20, y21, y1y, y1w, y1x, y1l, y1v, y1q, y1z, y1j, y22, y23, y2p, y2x, y2s, y2t, y2r, y2w, y2u, y2q, y2v, yf, yu, meets]
  by_cases o26 : x.op = 26
  · simp [o26, hcl, y1h, y1k, y1o, y1p, y20, y21, y1y, y1w, y1x, y1l, y1v, y1q, y1z, y1j, y22, y23, y2p, y2x, y2s, y2t, y2r, y2w, y2u, y2q, y2v, yf, yu, meets]
  by_cases o28 : x.op = 28
  · by_cases h1 : 0 ≤ x.n
    · by_cases h2 : x.n ≤ 5 <;> simp [o28, h1, h2, hpl, y1h, y1k, y1o, y1p, y20, y21, y1y, y1w, y1x, y1l, y1v, y1q, y1z, y1j, y22, y23, y2p, y2x, y2s, y2t, y2r, y2w, y2u, y2q, y2v, yf, yu, meets]
    · simp [o28, h1, y1h, y1k, y1o, y1p, y20, y21, y1y, y1w, y1x, y1l, y1v, y1q, y1z, y1j, y22, y23, y2p, y2x, y2s, y2t, y2r, y2w, y2u, y2q, y2v, yf, yu, meets]
  by_cases o27 : x.op = 27
  · simp [o27, hpl, y1h, y1k, y1o, y1p, y20, y21, y1y, y1w, y1x, y1l, y1v, y1q, y1z, y1j, y22, y23, y2p, y2x, y2s, y2t, y2r, y2w, y2u, y2q, y2v, yf, yu, meets]
  by_cases o29 : x.op = 29
  · by_cases h1 : x.n = 0
    · by_cases h2 : x.b = -1
      · simp [o29, h1, h2, hpl, y1h, y1k, y1o, y1p, y20, y21, y1y, y1w, y1x, y1l, y1v, y1q, y1z, y1j, y22, y23, y2p, y2x, y2s, y2t, y2r, y2w, y2u, y2q, y2v, yf, yu, meets]
      · by_cases h3 : kb = 3 <;> simp [o29, h1, h2, h3, hpl, hkb, y1h, y1k, y1o, y1p, y20, y21, y1y, y1w, y1x, y1l, y1v, y1q, y1z, y1j, y22, y23, y2p, y2x, y2s, y2t, y2r, y2w, y2u, y2q, y2v, yf, yu, meets]
    · by_cases h1' : x.n = 1
      · by_cases h2 : x.b = -1
        · simp [o29, h1', h2, hpl, y1h, y1k, y1o, y1p, y20, y21, y1y, y1w, y1x, y1l, y1v, y1q, y1z, y1j, y22, y23, y2p, y2x, y2s, y2t, y2r, y2w, y2u, y2q, y2v, yf, yu, meets]
        · by_cases h3 : kb = 3 <;> simp [o29, h1', h2, h3, hpl, hkb, y1h, y1k, y1o, y1p, y20, y21, y1y, y1w, y1x, y1l, y1v, y1q, y1z, y1j, y22, y23, y2p, y2x, y2s, y2t, y2r, y2w, y2u, y2q, y2v, yf, yu, meets]
      · simp [o29, h1, h1', y1h, y1k, y1o, y1p, y20, y21, y1y, y1w, y1x, y1l, y1v, y1q, y1z, y1j, y22, y23, y2p, y2x, y2s, y2t, y2r, y2w, y2u, y2q, y2v, yf, yu, meets]
  by_cases o30 : x.op = 30
  · by_cases h1 : f.ret = 0
    · simp [o30, h1, y1h, y1k, y1o, y1p, y20, y21, y1y, y1w, y1x, y1l, y1v, y1q, y1z, y1j, y22, y23, y2p, y2x, y2s, y2t, y2r, y2w, y2u, y2q, y2v, yf, yu, meets]
    · by_cases h2 : x.a = -1 <;> simp [o30, h1, h2, hka, y1h, y1k, y1o, y1p, y20, y21, y1y, y1w, y1x, y1l, y1v, y1q, y1z, y1j, y22, y23, y2p, y2x, y2s, y2t, y2r, y2w, y2u, y2q, y2v, yf, yu, meets]
  · have e : (match x.op with
      | 1 => decide (kd = 2) || (decide (-2147483648 ≤ x.n) && decide (x.n < 2147483648))
      | 4 => decide (kd = ka)
      | 5 => decide (0 < b) && decide (kd = d) && decide (ka = a) && decide (kb = b)
      | 6 => decide (0 < a) && decide (b = 0) && decide (kd = d) && decide (ka = a)
      | 12 => ty
      | 21 => ty
      | 22 => ty
      | 16 => decide (0 ≤ x.n)
      | 17 => decide (0 ≤ x.n)
      | 23 => cl
      | 24 => cl
      | 25 => cl
      | 26 => cl
      | 27 => pl
      | 28 => decide (0 ≤ x.n) && decide (x.n ≤ 5) && pl
      | 29 => (decide (x.n = 0) || decide (x.n = 1)) && (decide (x.b = -1) || decide (kb = 3)) && pl
      | 30 => if f.ret = 0 then decide (x.a = -1) else !decide (x.a = -1) && decide (ka = f.ret)
      | _ => true) = true := by
      split <;> first | rfl | contradiction
    rw [show _ = true from e]
    simp [o1, o4, o5, o6, o12, o21, o22, o16, o17, o23, o24, o25, o26, o27, o28, o29, o30, y1h, y1k, y1o, y1p, y20, y21, y1y, y1w, y1x, y1l, y1v, y1q, y1z, y1j, y22, y23, y2p, y2x, y2s, y2t, y2r, y2w, y2u, y2q, y2v, yf, yu, meets]
end Go.Vm
namespace Go.Vm
open Cel
attribute [local simp] y8 y2d yp y5j
def y1l4 (c : UInt8) : Bool := decide (c = 45) || decide (c = 63) || decide (c = 42) || decide (c = 61) || decide (c = 110) || decide (c = 49) || decide (c = 50) || decide (c = 51)
theorem y21f {c : UInt8} (h : y1l4 c = true) : c = 45 ∨ c = 63 ∨ c = 42 ∨ c = 61 ∨ c = 110 ∨ c = 49 ∨ c = 50 ∨ c = 51 := by
  simp only [y1l4, Bool.or_eq_true, decide_eq_true_eq] at h
  simp only [or_assoc] at h
  exact h
@[simp] theorem y2o4 (h : Heap) (a b c : Int) : fz h y1f (.tup [.int .i64 a, .int .i64 b, .int .i64 c]) = some ⟨.tup [.int .i64 a, .int .i64 b, .int .i64 c], true, []⟩ := rfl
theorem y1hi : ((List.range 33).all fun i => decide ((rowM (1 + i)).length = 4) && (rowM (1 + i)).all y1l4) = true := by kernel_rfl
theorem y2lq {op : Int} (h1 : 1 ≤ op) (h2 : op ≤ 33) : (rowM op).length = 4 ∧ (rowM op).all y1l4 = true := by
  have := ya1 y1hi (op - 1).toNat (by omega)
  have e : (1 + ((op - 1).toNat : Int)) = op := by omega
  simp only [e, Bool.and_eq_true, decide_eq_true_eq] at this
  exact this
theorem ye3 (f : Fn) (x : Ins) (w : List UInt8) (i : Nat) (r : Int) (c : UInt8) (hi : i < 4) (hw : w[i]? = some c) (hc : y1l4 c = true) (hr : [x.d, x.a, x.b, x.c][i]? = some r) :
    y5b Q0 Q1 (.str w) (.ls 2 1 1 0 4) (.int .i64 i) (H3 f x) = if y5e (regK (lst f.regs) r) c then y5b Q0 Q1 (.str w) (.ls 2 1 1 0 4) (.int .i64 (i + 1 : Nat)) (H3 f x) else some ⟨.bool false, [], true, [], []⟩ := by
  have hn : ((i : Int) < (4 : Int)) := by omega
  have hw2 : IntKind.wrap .i64 ((i : Int) + 1) = ((i + 1 : Nat) : Int) := by rw [y2g] <;> omega
  have hs := y24u f r c (y21f hc)
  have k1 : yt 1 (.ls 2 1 1 0 4) (.int .i64 i) = some (.lp 2 1 i 0) := by simp [yt, hi, hn]
  have k2 : evLd false 1 (.lp 2 1 i 0) (H3 f x) = some (.int .i64 r) := by
    match i, hi, hr with
    | 0, _, hr => simp at hr; simp [hr]
    | 1, _, hr => simp at hr; simp [hr]
    | 2, _, hr => simp at hr; simp [hr]
    | 3, _, hr => simp at hr; simp [hr]
  have k3 := ixstr hw
  rw [yh9]
  generalize y5e (regK (lst f.regs) r) c = T at *
  simp only [yf6, yj, yc, hn, decide_true, y29]
  generalize hZ : y5b Q0 Q1 (.str w) (.ls 2 1 1 0 4) (.int .i64 (i + 1 : Nat)) (H3 f x) = Z
  have e32 : yp4 Q0 Q1 (.str w) (.ls 2 1 1 0 4) (.int .i64 i) (H3 f x) = Z := by
    rw [← hZ]; simp only [yp4, y1a, yc, hw2]
  have e5 : evLd true 5 Q0 (H3 f x) = some (.agg (enc f)) := by simp
  simp only [yvi, k1, k2, k3, e5, yc]
  cases T with
  | true => simp [hs, e32, yf]
  | false => simp [hs, yf]
set_option maxHeartbeats 1000000 in
theorem y2q5 (f : Fn) (x : Ins) (hn : -9223372036854775808 ≤ x.n ∧ x.n < 9223372036854775808) (hs : x.s.length ≤ 9223372036854775807) (hl : (lst x.args).length ≤ 9223372036854775807) :
    (y9 E).p 64 [.agg (enc f), .agg (enc x)] = some ⟨.bool (oneM f x), [], true, [], []⟩ := by
  rw [y2ms]
  have hrow := y2pb x.op
  by_cases h1 : 1 ≤ x.op
  · by_cases h2 : x.op ≤ 33
    · obtain ⟨hlen, hsg⟩ := y2lq h1 h2
      rw [oneM]
      simp only [h1, h2, decide_true, Bool.true_and]
      generalize rowM x.op = w at *
      match w, hlen, hsg with
      | [c0, c1, c2, c3], _, hsg =>
        simp only [List.all_cons, List.all_nil, Bool.and_true, Bool.and_eq_true] at hsg
        have e0 : yey (.agg (enc f)) (.agg (enc x)) [⟨0, .dead⟩, ⟨0, .dead⟩, ⟨0, .dead⟩] = y5b Q0 Q1 (.str [c0, c1, c2, c3]) (.ls 2 1 1 0 4) (.int .i64 0) (H3 f x) := by
          simp [yey, yjz, yha, yvu, yvx, hrow, y11, y1b]
        have s0 := ye3 f x [c0, c1, c2, c3] 0 x.d c0 (by omega) rfl hsg.1 rfl
        have s1 := ye3 f x [c0, c1, c2, c3] 1 x.a c1 (by omega) rfl hsg.2.1 rfl
        have s2 := ye3 f x [c0, c1, c2, c3] 2 x.b c2 (by omega) rfl hsg.2.2.1 rfl
        have s3 := ye3 f x [c0, c1, c2, c3] 3 x.c c3 (by omega) rfl hsg.2.2.2 rfl
        simp only [Int.ofNat_zero] at s0
        have e4 : y5b Q0 Q1 (.str [c0, c1, c2, c3]) (.ls 2 1 1 0 4) (.int .i64 (3 + 1 : Nat)) (H3 f x) = some ⟨.bool (y6a f x), [], true, [], []⟩ := by
          have h25 := y2j5 f x hs hl (.int .i64 x.op) rfl
          show y5b Q0 Q1 (.str [c0, c1, c2, c3]) (.ls 2 1 1 0 4) (.int .i64 4) (H3 f x) = _
          rw [yh9]
          by_cases hk0 : 0 ≤ x.n
          · by_cases hk1 : x.n < 1000
            · have hK := y259 x.n hk0 hk1
              simp [yf6, yij, yk1, hk0, hk1, hK, yez]
              exact h25
            · have : numK x.n = (0, 0, 0) := ygv (by omega)
              rw [this] at h25
              simp [yf6, yij, yk1, hk0, hk1, yez]
              exact h25
          · have : numK x.n = (0, 0, 0) := ygv (by omega)
            rw [this] at h25
            simp [yf6, yij, yk1, hk0, yez]
            exact h25
        rw [e0, s0]
        simp only [List.getD_cons_zero, List.getD_cons_succ]
        cases y5e (regK (lst f.regs) x.d) c0 with
        | false => simp
        | true =>
          rw [if_pos rfl, s1]
          cases y5e (regK (lst f.regs) x.a) c1 with
          | false => simp
          | true =>
            rw [if_pos rfl, s2]
            cases y5e (regK (lst f.regs) x.b) c2 with
            | false => simp
            | true =>
              rw [if_pos rfl, s3]
              cases y5e (regK (lst f.regs) x.c) c3 with
              | false => simp
              | true => rw [if_pos rfl, e4]; simp
    · have : rowM x.op = [] := by rw [rowM, if_pos (by omega)]
      rw [this] at hrow
      simp [yey, yjz, yha, hrow, oneM, h2]
  · have : rowM x.op = [] := by rw [rowM, if_pos (by omega)]
    rw [this] at hrow
    simp [yey, yjz, yha, hrow, oneM, h1]
end Go.Vm
namespace Go.Vm
theorem y1sp (n : Int) : 0 ≤ (numK n).1 ∧ 0 ≤ (numK n).2.1 ∧ 0 ≤ (numK n).2.2 ∧ (numK n).1 ≤ 2 ∧ (numK n).2.1 ≤ 2 ∧ (numK n).2.2 ≤ 2 ∧ (¬ (numK n).1 = 0 → ¬ (numK n).2.2 = 0) ∧ (¬ (numK n).2.1 = 0 → ¬ (numK n).1 = 0 ∧ ¬ (numK n).2.2 = 0) := by
  unfold numK
  repeat' split
  all_goals decide
theorem y50 {R : List Int} (hR : R.all (fun k => decide (1 ≤ k) && decide (k ≤ 3)) = true) (r : Int) : (inR R r = true ∧ (regK R r = 1 ∨ regK R r = 2 ∨ regK R r = 3)) ∨ (inR R r = false ∧ regK R r = 0) := by
  cases h : inR R r with
  | true =>
    obtain ⟨_, h1, h2⟩ := yvy h
    rw [List.all_eq_true] at hR
    have := hR (regK R r) (List.mem_of_getElem? h2)
    simp only [Bool.and_eq_true, decide_eq_true_eq] at this
    refine .inl ⟨rfl, ?_⟩
    omega
  | false =>
    refine .inr ⟨rfl, ?_⟩
    simp only [inR, Bool.and_eq_false_iff, decide_eq_false_iff_not] at h
    unfold regK
    split
    · rfl
    · rw [List.getD_eq_getElem?_getD, List.getElem?_eq_none (by omega)]; rfl
theorem y2hv {n : Int} : n = IntKind.wrap .i64 (IntKind.wrap .i32 n) ↔ -2147483648 ≤ n ∧ n < 2147483648 := by
  have h : -2147483648 ≤ IntKind.wrap .i32 n ∧ IntKind.wrap .i32 n < 2147483648 := by
    simp only [IntKind.wrap, IntKind.bits, IntKind.signed]
    simp
    omega
  rw [y2g (n := IntKind.wrap .i32 n) (by omega) (by omega)]
  constructor
  · intro e; rw [e]; exact h
  · intro e
    simp only [IntKind.wrap, IntKind.bits, IntKind.signed]
    simp
    omega
theorem yoa {R : List Int} {r : Int} : y27 R (-1) r = true := by simp [y27]
theorem y1nk {R : List Int} (hR : R.all (fun k => decide (1 ≤ k) && decide (k ≤ 3)) = true) (r : Int) : y27 R 0 r = decide (0 < regK R r) := by
  rcases y50 hR r with ⟨h1, h2⟩ | ⟨h1, h2⟩
  · simp [y27, h1]; omega
  · simp [y27, h1, h2]
theorem ycv {R : List Int} (hR : R.all (fun k => decide (1 ≤ k) && decide (k ≤ 3)) = true) (r k : Int) (hk : 0 < k) : y27 R k r = decide (regK R r = k) := by
  have a1 : ¬ k < 0 := by omega
  have a2 : ¬ k ≤ 0 := by omega
  rcases y50 hR r with ⟨h1, h2⟩ | ⟨h1, h2⟩
  · simp [y27, h1, a1, a2]
  · have : ¬ 0 = k := by omega
    simp [y27, h1, h2, a1, a2, this]
theorem y270 {R : List Int} (hR : R.all (fun k => decide (1 ≤ k) && decide (k ≤ 3)) = true) (l : List Int) : (l.all fun r => !decide (regK R r = 0)) = l.all (inR R) := by
  congr 1
  funext r
  rcases y50 hR r with ⟨h1, h2⟩ | ⟨h1, h2⟩
  · rw [h1]; simp; omega
  · rw [h1, h2]; rfl
theorem y2n0 (f : Fn) (x : Ins) (hR : (lst f.regs).all (fun k => decide (1 ≤ k) && decide (k ≤ 3)) = true) (h : x.op = 5) : oneM f x = y26 f x := by
  have hk := y1sp x.n
  have Fm := fun r => yoa (R := lst f.regs) (r := r)
  simp only [oneM, y26, h, yr, rowM, rowT, y5e, y6w, calls, y3e, leads, y6a, Fm]
  generalize numK x.n = k at *
  obtain ⟨a, b, d⟩ := k
  simp only at hk ⊢
  by_cases hb : b = 0
  · subst hb; simp
  · rw [ycv hR x.d d (by omega), ycv hR x.a a (by omega), ycv hR x.b b (by omega)]
    rw [Bool.eq_iff_iff]
    simp
    omega
theorem y2mi (f : Fn) (x : Ins) (hR : (lst f.regs).all (fun k => decide (1 ≤ k) && decide (k ≤ 3)) = true) (h : x.op = 6) : oneM f x = y26 f x := by
  have hk := y1sp x.n
  have Fm := fun r => yoa (R := lst f.regs) (r := r)
  simp only [oneM, y26, h, yr, rowM, rowT, y5e, y6w, calls, y3e, leads, y6a, Fm]
  generalize numK x.n = k at *
  obtain ⟨a, b, d⟩ := k
  simp only at hk ⊢
  by_cases ha : a = 0
  · subst ha; simp
  · rw [ycv hR x.d d (by omega), ycv hR x.a a (by omega)]
    rw [Bool.eq_iff_iff]
    simp
    omega
theorem ysm (f : Fn) (x : Ins) (hR : (lst f.regs).all (fun k => decide (1 ≤ k) && decide (k ≤ 3)) = true) (h : x.op = 23 ∨ x.op = 24 ∨ x.op = 25 ∨ x.op = 26) : oneM f x = y26 f x := by
  have F0 := y1nk hR
  have Fm := fun r => yoa (R := lst f.regs) (r := r)
  have hA := y270 hR (lst x.args)
  have kd := y50 hR x.d
  have hc : yo6 (lst f.regs) x = (!((decide (x.n < 0) && !decide (x.op = 25)) || decide (21 < (lst x.args).length) || (!decide (x.d = -1) && decide (regK (lst f.regs) x.d = 0))) && ((lst x.args).all (inR (lst f.regs)) && ygs (lst f.regs) x)) := by rw [yo6, hA]
  cases ha : lst x.args with
  | nil =>
    by_cases hd : x.d = -1 <;> rcases h with h|h|h|h <;> (rw [Bool.eq_iff_iff]; simp [oneM, y26, h, yr, rowM, rowT, y5e, y6w, calls, y3e, leads, y6a, hc, ygs, yj4, ha, hd, F0, Fm]; try omega)
  | cons r t =>
    rw [ha] at hc
    generalize hg : (r :: t).all (inR (lst f.regs)) = A at *
    generalize hl : (r :: t).length = n at *
    by_cases hd : x.d = -1 <;> rcases h with h|h|h|h <;> (rw [Bool.eq_iff_iff]; simp [oneM, y26, h, yr, rowM, rowT, y5e, y6w, calls, y3e, leads, y6a, hc, ygs, yj4, ha, hd, F0, Fm]; first | (simp at hl hg; omega) | (simp at hl hg; grind) | skip)
theorem yo8 (f : Fn) (x : Ins) (h : x.op < 1 ∨ 33 < x.op) : oneM f x = y26 f x := by
  rw [oneM, y26, yl3 h]
  rcases h with h | h
  · have : ¬ 1 ≤ x.op := by omega
    simp [this]
  · have : ¬ x.op ≤ 33 := by omega
    simp [this]
set_option maxHeartbeats 4000000 in
theorem y1lk (f : Fn) (x : Ins) (hR : (lst f.regs).all (fun k => decide (1 ≤ k) && decide (k ≤ 3)) = true) : oneM f x = y26 f x := by
  have F0 := y1nk hR
  have F1 := fun r => ycv hR r 1 (by omega)
  have F3 := fun r => ycv hR r 3 (by omega)
  have Fm := fun r => yoa (R := lst f.regs) (r := r)
  have hA := y270 hR (lst x.args)
  have kd := y50 hR x.d
  have ka := y50 hR x.a
  have hd : 0 < regK (lst f.regs) x.d ↔ ¬ regK (lst f.regs) x.d = 0 := by rcases kd with ⟨_, h⟩ | ⟨_, h⟩ <;> omega
  have hw := @y2hv x.n
  rcases ybi x.op with h|h|h|h|h|h|h|h|h|h|h|h|h|h|h|h|h|h|h|h|h|h|h|h|h|h|h|h|h|h|h|h|h|h|h
  all_goals first
    | (simp [oneM, y26, h, yr, rowM, rowT, y5e, y6w, calls, y3e, leads, y6a, F0, F1, F3, Fm, y52, Bool.and_assoc]; done)
    | skip
  all_goals first
    | exact y2n0 f x hR h
    | exact y2mi f x hR h
    | exact yo8 f x (.inl h)
    | exact yo8 f x (.inr h)
    | exact ysm f x hR (.inl h)
    | exact ysm f x hR (.inr (.inl h))
    | exact ysm f x hR (.inr (.inr (.inl h)))
    | exact ysm f x hR (.inr (.inr (.inr h)))
    | (rw [Bool.eq_iff_iff]; simp [oneM, y26, h, yr, rowM, rowT, y5e, y6w, calls, y3e, leads, y6a, F0, F1, F3, Fm, y52]; omega)
    | (rw [Bool.eq_iff_iff]; simp [oneM, y26, h, yr, rowM, rowT, y5e, y6w, calls, y3e, leads, y6a, F0, F1, F3, Fm, y52]; grind)
    | exact y2n0 f x hR h
    | exact y2mi f x hR h
    | exact yo8 f x (.inl h)
    | exact yo8 f x (.inr h)
    | exact ysm f x hR (.inl h)
    | exact ysm f x hR (.inr (.inl h))
    | exact ysm f x hR (.inr (.inr (.inl h)))
    | exact ysm f x hR (.inr (.inr (.inr h)))
end Go.Vm
namespace Go.Vm
open Cel
attribute [local simp] y8 y2d yp y5j
theorem y2ei (f : Fn) (o1 : AO) (n : Int) (hn : n = (lst f.code).length) (hl : (lst f.rows).length ≤ 9223372036854775807) : ∀ (d i : Nat) (o2 : AO), i + d = (lst f.rows).length →
    yet P0 (.int .i64 n) (.int .i64 i) (HC f o1 o2) = if ((lst f.rows).drop i).all (y4g (lst f.code)) then E0 else E80 := by
  intro d
  induction d with
  | zero =>
    intro i o2 hi
    have e1 : (lst f.rows).drop i = [] := List.drop_eq_nil_of_le (by omega)
    have hn : ¬ ((i : Int) < ((lst f.rows).length : Int)) := by omega
    rw [ynj, e1]
    simp [y71, yk9, hn]
  | succ d ih =>
    intro i o2 hi
    have hlt : i < (lst f.rows).length := by omega
    have hc : ((i : Int) < ((lst f.rows).length : Int)) := by omega
    have k1 := yhl (o := f.rows) (i := i) (List.getElem?_eq_getElem hlt) .i64
    rw [ynj]
    have e1 : ((lst f.rows).drop i).all (y4g (lst f.code)) = (y4g (lst f.code) (lst f.rows)[i] && ((lst f.rows).drop (i + 1)).all (y4g (lst f.code))) := by rw [List.drop_eq_getElem_cons hlt, List.all_cons]
    rw [e1]
    generalize hr : (lst f.rows)[i] = r at *
    have ih := fun o2 => ih (i + 1) o2 (by omega)
    push_cast at ih
    subst hn
    by_cases h1 : r.f < 0
    · simp [y71, hc, y7p, k1, y4g, h1]
    by_cases h2 : r.t ≤ r.f
    · simp [y71, hc, y7p, k1, y4g, h1, h2]
    by_cases h3 : ((lst f.code).length : Int) < r.t
    · simp [y71, hc, y7p, k1, y4g, h1, h2, h3]
    by_cases h4 : r.at_ < 0
    · have : ¬ 0 ≤ r.at_ := by omega
      simp [y71, hc, y7p, k1, y4g, h1, h2, h3, h4, y52, this]
    by_cases h5 : ((lst f.code).length : Int) ≤ r.at_
    · have : ¬ r.at_ < ((lst f.code).length : Int) := by omega
      simp [y71, hc, y7p, k1, y4g, h1, h2, h3, h4, h5, y52, this]
    · have hx : r.at_.toNat < (lst f.code).length := by omega
      have a1 : 0 ≤ r.at_ := by omega
      have a2 : r.at_ < ((lst f.code).length : Int) := by omega
      have k2 := y7v (o := f.code) (n := r.at_) (by omega) (List.getElem?_eq_getElem hx) .i64
      by_cases h6 : ((lst f.code)[r.at_.toNat]).op = 32
      · simp [y71, hc, y7p, k1, y4g, h1, h2, h3, h4, h5, y52, a1, a2, k2, h6, hx, yhw, y1d hlt hl, ih]
      · simp [y71, hc, y7p, k1, y4g, h1, h2, h3, h4, h5, y52, a1, a2, k2, h6, hx]
theorem y2bq (f : Fn) (o1 o2 : AO) (n : Int) (hl : (lst f.regs).length ≤ 9223372036854775807) : ∀ (d i : Nat), i + d = (lst f.regs).length →
    ybc P0 (.int .i64 n) (.int .i64 i) (HC f o1 o2) = if ((lst f.regs).drop i).all (fun k => decide (1 ≤ k) && decide (k ≤ 3)) then yad P0 (.int .i64 n) (HC f o1 o2) else E80 := by
  intro d
  induction d with
  | zero =>
    intro i hi
    have e1 : (lst f.regs).drop i = [] := List.drop_eq_nil_of_le (by omega)
    have hn : ¬ ((i : Int) < ((lst f.regs).length : Int)) := by omega
    rw [yk0, e1]
    simp [y78, hn]
  | succ d ih =>
    intro i hi
    have hlt : i < (lst f.regs).length := by omega
    have hc : ((i : Int) < ((lst f.regs).length : Int)) := by omega
    have k1 := y3c (o := f.regs) (i := i) (List.getElem?_eq_getElem hlt) .i64
    have e1 : ((lst f.regs).drop i).all (fun k => decide (1 ≤ k) && decide (k ≤ 3)) = ((decide (1 ≤ (lst f.regs)[i]) && decide ((lst f.regs)[i] ≤ 3)) && ((lst f.regs).drop (i + 1)).all (fun k => decide (1 ≤ k) && decide (k ≤ 3))) := by
      rw [List.drop_eq_getElem_cons hlt, List.all_cons]
    rw [yk0, e1]
    generalize hr : (lst f.regs)[i] = r at *
    have ih := ih (i + 1) (by omega)
    push_cast at ih
    by_cases h1 : r < 1
    · have : ¬ 1 ≤ r := by omega
      simp [y78, hc, y7x, k1, h1, this]
    by_cases h2 : 3 < r
    · have : ¬ r ≤ 3 := by omega
      simp [y78, hc, y7x, k1, h1, h2, this]
    · have a1 : 1 ≤ r := by omega
      have a2 : r ≤ 3 := by omega
      simp [y78, hc, y7x, k1, h1, h2, a1, a2, ycm, y1d hlt hl, ih]
def parR (R : List Int) : List Int → List Int → Bool
  | _, [] => true
  | seen, p :: r => (inR R p && !seen.contains p) && parR R (seen ++ [p]) r
theorem y1jq (f : Fn) (o1 o2 : AO) (n : Int) (hR : (lst f.regs).all (fun k => decide (1 ≤ k) && decide (k ≤ 3)) = true) (hl : (lst f.params).length ≤ 9223372036854775807) : ∀ (d i : Nat), i + d = (lst f.params).length →
    yb7 P0 (.int .i64 n) (.int .i64 i) (HC f o1 o2) = if parR (lst f.regs) ((lst f.params).take i) ((lst f.params).drop i) then yb5 P0 (.int .i64 n) (HC f o1 o2) else E80 := by
  intro d
  induction d with
  | zero =>
    intro i hi
    have e1 : (lst f.params).drop i = [] := List.drop_eq_nil_of_le (by omega)
    have hn : ¬ ((i : Int) < ((lst f.params).length : Int)) := by omega
    rw [yi1, e1]
    simp [y7e, hn, parR]
  | succ d ih =>
    intro i hi
    have hlt : i < (lst f.params).length := by omega
    have hc : ((i : Int) < ((lst f.params).length : Int)) := by omega
    have k1 := y3c (o := f.params) (i := i) (List.getElem?_eq_getElem hlt) .i64
    have ks := y27t (α := Int) f.params i (by omega) .i64
    simp only [y26f] at ks
    have hlm : lst (f.params.map (List.take i)) = (lst f.params).take i := by cases f.params <;> simp
    have e1 : parR (lst f.regs) ((lst f.params).take i) ((lst f.params).drop i) = ((inR (lst f.regs) (lst f.params)[i] && !((lst f.params).take i).contains (lst f.params)[i]) && parR (lst f.regs) ((lst f.params).take (i + 1)) ((lst f.params).drop (i + 1))) := by
      rw [List.drop_eq_getElem_cons hlt, parR, List.take_append_getElem]
    rw [yi1, e1]
    have hct : (y9 E).p 42 [.int .i64 (lst f.params)[i], slA (f.params.map (List.take i))] = some ⟨.bool (((lst f.params).take i).contains (lst f.params)[i]), [], true, [], []⟩ := by
      rw [s_in _ _ (by rw [hlm, List.length_take]; omega), hlm, List.contains_eq_mem]
    generalize hr : (lst f.params)[i] = r at *
    generalize ((lst f.params).take i).contains r = B at *
    have ih := ih (i + 1) (by omega)
    push_cast at ih
    have hs := yjj f r
    rcases y50 hR r with ⟨a1, a2⟩ | ⟨a1, a2⟩
    · have hz : ¬ regK (lst f.regs) r = 0 := by omega
      rw [a1]
      generalize regK (lst f.regs) r = k at *
      cases B with
      | true => simp [y7e, hc, y7u, k1, hs, hz, ks, hct, yf]
      | false =>
        simp [y7e, hc, y7u, k1, hs, hz, ks, hct, yf, yct, y1d hlt hl]
        exact ih
    · rw [a2] at hs
      simp [y7e, hc, y7u, k1, hs, a1, yf]
theorem y2mq (f : Fn) (o2 : AO) (n : Int) (x : Ins) (i g : Nat) (hR : (lst f.regs).all (fun k => decide (1 ≤ k) && decide (k ≤ 3)) = true) (fit : InsFit x) (hi : i < (lst f.code).length) (hl : (lst f.code).length ≤ 9223372036854775807) (hx : (lst f.code)[i]? = some x) (oc : OC) :
    y4r P0 (.int .i64 n) (.int .i64 i) (HC f ⟨g, oc⟩ o2) =
      if y26 f x && y3p (lst f.code) i x then y9y P0 (.int .i64 n) (.int .i64 i) (HC f ⟨g + 1, .arr true false 9 [enc x]⟩ o2) else E80 := by
  have k0 := y73 (o := f.code) (i := i) hx .i64
  have h1 := y2q5 f x fit.n fit.s fit.a
  rw [y1lk f x hR] at h1
  cases hok : y26 f x with
  | false =>
    rw [hok] at h1
    simp [y4r, k0, h1]
  | true =>
    have ht := yht (f := f) (x := x) hok
    rw [hok] at h1
    by_cases h32 : x.op = 32
    · have hld : leads 32 = false := by simp [leads]
      by_cases h0 : i = 0
      · subst h0
        simp only [Int.ofNat_zero] at k0
        simp [y4r, k0, h1, h32, y3p]
      · have h0' : ¬ ((i : Int) = 0) := by omega
        have hp : i - 1 < (lst f.code).length := by omega
        have k1 := y73 (o := f.code) (i := i - 1) (List.getElem?_eq_getElem hp) .i64
        have hw : IntKind.wrap .i64 ((i : Int) - 1) = ((i - 1 : Nat) : Int) := by rw [y2g] <;> omega
        cases he : ends ((lst f.code)[i - 1]).op with
        | true => simp [y4r, k0, h1, h32, y3p, h0, h0', hw, k1, hp, he, hld]
        | false => simp [y4r, k0, h1, h32, y3p, h0, h0', hw, k1, hp, he]
    · cases hld : leads x.op with
      | false => simp [y4r, k0, h1, h32, y3p, hld]
      | true =>
        obtain ⟨t0, t1⟩ := ht hld
        have hxt : x.t.toNat < (lst f.code).length := by omega
        have k2 := y7v (o := f.code) (n := x.t) t0 (List.getElem?_eq_getElem hxt) .i64
        by_cases h6 : ((lst f.code)[x.t.toNat]).op = 32
        · simp [y4r, k0, h1, h32, y3p, hld, k2, h6, hxt]
        · simp [y4r, k0, h1, h32, y3p, hld, k2, h6, hxt]
theorem y2an (f : Fn) (o2 : AO) (n : Int) (hn : n = (lst f.code).length) (hR : (lst f.regs).all (fun k => decide (1 ≤ k) && decide (k ≤ 3)) = true) (hfit : ∀ x ∈ lst f.code, InsFit x) (hl : (lst f.code).length ≤ 9223372036854775807) : ∀ (d i : Nat) (o1 : AO), i + d = (lst f.code).length →
    ∃ o1', yfl P0 (.int .i64 n) (.int .i64 i) (HC f o1 o2) = if y46 f (lst f.code) i ((lst f.code).drop i) then yge P0 (.int .i64 n) (HC f o1' o2) else E80 := by
  intro d
  induction d with
  | zero =>
    intro i o1 hi
    have e1 : (lst f.code).drop i = [] := List.drop_eq_nil_of_le (by omega)
    have hnl : ¬ ((i : Int) < n) := by omega
    rw [ynb, e1]
    exact ⟨o1, by simp [ya5, hnl, y46]⟩
  | succ d ih =>
    intro i o1 hi
    have hlt : i < (lst f.code).length := by omega
    have hc : ((i : Int) < n) := by omega
    have e1 : y46 f (lst f.code) i ((lst f.code).drop i) = (y26 f (lst f.code)[i] && y3p (lst f.code) i (lst f.code)[i] && y46 f (lst f.code) (i + 1) ((lst f.code).drop (i + 1))) := by
      rw [List.drop_eq_getElem_cons hlt, y46]
    have fit := hfit _ (List.getElem_mem hlt)
    have hone := y2mq f o2 n _ i o1.gen hR fit hlt hl (List.getElem?_eq_getElem hlt) o1.c
    rw [ynb, e1]
    generalize (lst f.code)[i] = x at *
    generalize (y26 f x && y3p (lst f.code) i x) = G at *
    simp only [ya5, yj, yc, hc, decide_true, y29, hone]
    cases G with
    | false => exact ⟨o1, by simp⟩
    | true =>
      obtain ⟨o1', ih⟩ := ih (i + 1) ⟨o1.gen + 1, .arr true false 9 [enc x]⟩ (by omega)
      push_cast at ih
      exact ⟨o1', by simp [y9y, y1d hlt hl, ih]⟩
theorem yx3 (R : List Int) : ∀ (l : List Int) (i : Nat) (seen : List Int), i + l.length ≤ 21 → y7w R i seen l = parR R seen l
  | [], _, _, _ => rfl
  | p :: r, i, seen, h => by
    simp only [List.length_cons] at h
    have : i ≤ 20 := by omega
    rw [y7w, parR, yx3 R r (i + 1) (seen ++ [p]) (by omega)]
    simp [this]
theorem y14d (R : List Int) : ∀ (l : List Int) (i : Nat) (seen : List Int), 21 < i + l.length → i ≤ 21 → y7w R i seen l = false
  | [], i, _, h, h2 => by simp at h; omega
  | p :: r, i, seen, h, h2 => by
    simp only [List.length_cons] at h
    rw [y7w]
    by_cases hi : i ≤ 20
    · rw [y14d R r (i + 1) (seen ++ [p]) (by omega) (by omega)]; simp
    · simp [hi]
set_option maxRecDepth 100000 in
set_option maxHeartbeats 1000000 in
theorem y134 (f : Fn) (hf : FnFit f) : (y9 E).p 29 [.agg (enc f)] = some ⟨.int .i64 (if wf f then 0 else 80), [], true, [], []⟩ := by
  rw [y2n5]
  by_cases h0 : (lst f.code).length = 0
  · have h0' : ((lst f.code).length : Int) = 0 := by omega
    have : ¬ 1 ≤ (lst f.code).length := by omega
    simp [y4f, y4o, y4w, h0', wf, this]
  have h0' : ¬ ((lst f.code).length : Int) = 0 := by omega
  have hne : ¬ lst f.code = [] := fun h => h0 (by rw [h]; rfl)
  have g1 : 1 ≤ (lst f.code).length := by omega
  by_cases h2 : 20000 < (lst f.code).length
  · have h2' : (20000 : Int) < ((lst f.code).length : Int) := by omega
    have : ¬ (lst f.code).length ≤ 20000 := by omega
    simp [y4f, y4o, y4w, h0', hne, h2', wf, this]
  have h2' : ¬ (20000 : Int) < ((lst f.code).length : Int) := by omega
  have g2 : (lst f.code).length ≤ 20000 := by omega
  by_cases h3 : 20000 < (lst f.regs).length
  · have h3' : (20000 : Int) < ((lst f.regs).length : Int) := by omega
    have : ¬ (lst f.regs).length ≤ 20000 := by omega
    simp [y4f, y4o, y4w, h0', hne, h2', h3', wf, this]
  have h3' : ¬ (20000 : Int) < ((lst f.regs).length : Int) := by omega
  have g3 : (lst f.regs).length ≤ 20000 := by omega
  by_cases hp : 21 < (lst f.params).length
  · have hp' : (21 : Int) < ((lst f.params).length : Int) := by omega
    have := y14d (lst f.regs) (lst f.params) 0 [] (by omega) (by omega)
    simp [y4f, y4o, y4w, h0', hne, h2', h3', hp', wf, this]
  have hp' : ¬ (21 : Int) < ((lst f.params).length : Int) := by omega
  by_cases h4 : f.ret < 0
  · have : ¬ 0 ≤ f.ret := by omega
    simp [y4f, y4o, y4w, h0', hne, h2', h3', hp', h4, wf, this]
  have g4 : 0 ≤ f.ret := by omega
  by_cases h5 : 3 < f.ret
  · have : ¬ f.ret ≤ 3 := by omega
    simp [y4f, y4o, y4w, h0', hne, h2', h3', hp', h4, h5, wf, this]
  have g5 : f.ret ≤ 3 := by omega
  have hpl : (lst f.code).length - 1 < (lst f.code).length := by omega
  have k1 := y73 (o := f.code) (i := (lst f.code).length - 1) (List.getElem?_eq_getElem hpl) .i64
  have hw : IntKind.wrap .i64 (((lst f.code).length : Int) - 1) = (((lst f.code).length - 1 : Nat) : Int) := by rw [y2g] <;> omega
  have hg : (lst f.code).getD ((lst f.code).length - 1) default = (lst f.code)[(lst f.code).length - 1] := by rw [List.getD_eq_getElem?_getD, List.getElem?_eq_getElem hpl]; rfl
  cases he : ends ((lst f.code)[(lst f.code).length - 1]).op with
  | false =>
    have hwf : wf f = false := by rw [wf, hg, he]; simp
    rw [hwf]
    simp [y4f, y4o, y4w, h0', hne, h2', h3', hp', h4, h5, hw, k1, he]
  | true =>
    have hps := yx3 (lst f.regs) (lst f.params) 0 [] (by omega)
    have hwf : wf f = ((lst f.regs).all (fun k => decide (1 ≤ k) && decide (k ≤ 3)) && parR (lst f.regs) [] (lst f.params) && y46 f (lst f.code) 0 (lst f.code) && (lst f.rows).all (y4g (lst f.code))) := by
      rw [wf, hg, he, hps]
      simp only [g1, g2, g3, g4, g5, decide_true, Bool.true_and]
    have e : y4f (.agg (enc f)) [⟨0, .dead⟩, ⟨0, .dead⟩, ⟨0, .dead⟩] = ybc P0 (.int .i64 (lst f.code).length) (.int .i64 0) (HC f ⟨0, .dead⟩ ⟨0, .dead⟩) := by
      simp [y4f, y4o, y4w, h0', hne, h2', h3', hp', h4, h5, hw, k1, he, yk9, yhw, y7p, y71, yge, y9y, y4r, ya5, yb5, yct, y7u, y7e, yad, ycm, y7x, y78, yfi, y4w, y4o, y4f]
    have a1 := y2bq f ⟨0, .dead⟩ ⟨0, .dead⟩ (lst f.code).length hf.regs _ 0 (Nat.zero_add _)
    simp only [Int.ofNat_zero, List.drop_zero] at a1
    rw [e, a1, hwf]
    cases hR : (lst f.regs).all (fun k => decide (1 ≤ k) && decide (k ≤ 3)) with
    | false => simp
    | true =>
      have a2 := y1jq f ⟨0, .dead⟩ ⟨0, .dead⟩ (lst f.code).length hR hf.params _ 0 (Nat.zero_add _)
      obtain ⟨o1', a3⟩ := y2an f ⟨0, .dead⟩ _ rfl hR hf.ins hf.code _ 0 ⟨0, .dead⟩ (Nat.zero_add _)
      have a4 := y2ei f o1' _ rfl hf.rows _ 0 ⟨0, .dead⟩ (Nat.zero_add _)
      simp only [Int.ofNat_zero, List.drop_zero, List.take_zero] at a2 a3 a4
      have e2 : yad P0 (.int .i64 (lst f.code).length) (HC f ⟨0, .dead⟩ ⟨0, .dead⟩) = yb7 P0 (.int .i64 (lst f.code).length) (.int .i64 0) (HC f ⟨0, .dead⟩ ⟨0, .dead⟩) := by simp [yk9, yhw, y7p, y71, yge, y9y, y4r, ya5, yb5, yct, y7u, y7e, yad, ycm, y7x, y78, yfi, y4w, y4o, y4f]
      have e3 : yb5 P0 (.int .i64 (lst f.code).length) (HC f ⟨0, .dead⟩ ⟨0, .dead⟩) = yfl P0 (.int .i64 (lst f.code).length) (.int .i64 0) (HC f ⟨0, .dead⟩ ⟨0, .dead⟩) := by simp [yk9, yhw, y7p, y71, yge, y9y, y4r, ya5, yb5, yct, y7u, y7e, yad, ycm, y7x, y78, yfi, y4w, y4o, y4f]
      have e4 : yge P0 (.int .i64 (lst f.code).length) (HC f o1' ⟨0, .dead⟩) = yet P0 (.int .i64 (lst f.code).length) (.int .i64 0) (HC f o1' ⟨0, .dead⟩) := by simp [yk9, yhw, y7p, y71, yge, y9y, y4r, ya5, yb5, yct, y7u, y7e, yad, ycm, y7x, y78, yfi, y4w, y4o, y4f]
      rw [e2, a2, e3, a3, e4, a4]
      generalize parR (lst f.regs) [] (lst f.params) = b2
      generalize y46 f (lst f.code) 0 (lst f.code) = b3
      generalize (lst f.rows).all (y4g (lst f.code)) = b4
      cases b2 <;> cases b3 <;> cases b4 <;> rfl
end Go.Vm
namespace Go.Vm
theorem FnIn.fit3 {f : Fn} (h : FnIn f) : FnFit f := by
  have e : reachBytes = 140737488351232 := rfl
  refine ⟨fun x hx => ?_, ?_, ?_, ?_, ?_⟩
  · have k := h.insI x hx
    refine ⟨⟨k.n.1, ?_⟩, ?_, ?_⟩
    · have := k.n.2; omega
    · have := k.s; omega
    · have := k.len; omega
  · have := h.code; omega
  · have := h.regs; omega
  · have := h.params; omega
  · have := h.rows; omega
end Go.Vm
namespace Go.Vm
open Cel
theorem DeadOk.fit {f g : Fn} (k : DeadOk f g) (hf : FnFit f) : FnFit g := by
  refine ⟨Swap.args (fun i hi => (k.at_ i hi).imp id And.left) k.swap ⟨by decide, by decide, by decide⟩ hf.ins, by rw [k.swap.len]; exact hf.code, by rw [k.swap.regs]; exact hf.regs, by rw [k.swap.params]; exact hf.params, by rw [k.swap.rows]; exact hf.rows⟩
theorem DeadOk.args {f g : Fn} (k : DeadOk f g) (hx : yg2 f) : yg2 g :=
  Swap.args (P := fun x => (lst x.args).length ≤ 17592186043904) (fun i hi => (k.at_ i hi).imp id And.left) k.swap (by decide) hx
theorem fz_f (f : Fn) (H : Heap) : yq (fz H y1f) [.agg (enc f)] = some ⟨[.agg (enc f)], scal f && true, []⟩ := by
  rw [yl, y6z, y13]; rfl
theorem y2q1 (f g : Fn) (H : Heap) : yq (fz H y1f) [.agg (enc f), .agg (enc g)] = some ⟨[.agg (enc f), .agg (enc g)], scal f && (scal g && true), []⟩ := by
  rw [yl, yl, y6z, y6z, y13]; rfl
theorem FnIn.sm {f : Fn} (hf : FnIn f) (h1 : (lst f.code).length ≤ 400) (h3 : (lst f.rows).length ≤ 100) : FnSm f := by
  have e : reachBytes = 140737488351232 := rfl
  have e38 : (2:Nat)^38 = 274877906944 := by decide
  refine ⟨?_, ?_, ?_, ?_, fun x hx => ?_⟩
  · have := hf.regs; omega
  · have := hf.params; omega
  · omega
  · omega
  · have := (hf.insI x hx).len; omega
abbrev AFn (f : Fn) : AO := ⟨1, .arr true false 5 [enc f]⟩
end Go.Vm
namespace Go.Vm
@[simp] theorem y2dg : (y9 E).p 117 [] = some ⟨.bool true, [], true, [], []⟩ := y136 60 (by kernel_rfl)
end Go.Vm
namespace Go.Vm
def y6g (f : Fn) : List Bool := (List.range (lst f.regs).length).map fun (r : Nat) => decide (((r : Nat) : Int) ∈ lst f.params)
theorem yfo (f : Fn) : (y6g f).length = (lst f.regs).length := by simp [y6g]
theorem ynh {f : Fn} {r : Nat} (h : r < (lst f.regs).length) : (y6g f)[r]? = some (decide ((r : Int) ∈ lst f.params)) := by simp [y6g, h]
theorem ynr (d : Int) (s : List Bool) : (y3i d s).length = s.length := by unfold y3i; split <;> simp
theorem yu1 {d : Int} {s : List Bool} {r : Nat} (h : (y3i d s)[r]? = some false) : d ≠ r ∧ s[r]? = some false := by
  unfold y3i at h
  split at h
  · rename_i hd
    rw [List.getElem?_set] at h
    split at h
    · split at h <;> cases h
    · exact ⟨by omega, h⟩
  · exact ⟨by omega, h⟩
theorem yvl {d : Int} {s : List Bool} {r : Nat} (h : (y3i d s)[r]? = some true) (hd : d ≠ r) : s[r]? = some true := by
  unfold y3i at h
  split at h
  · rw [List.getElem?_set] at h
    split at h
    · omega
    · exact h
  · exact h
section
variable (f : Fn)
def y1ez (ins : Tab) (i : Nat) (s : List Bool) : Prop := (∀ to ∈ yv f i, LeAt ins to s) ∧ ∀ to ∈ y1r f i, LeAt ins to (y3i (defr (yh f i)) s)
structure SInv (ins : Tab) (work : List Int) : Prop where
  ok : TblOk (lst f.code).length (lst f.regs).length ins
  src : ∀ (i r : Nat) t, ins[i]? = some (some t) → t[r]? = some false → Rch (lst f.code).length (y9x f r) [0] i ∧ (r : Int) ∉ lst f.params
  cl : ∀ (i : Nat) s, ins[i]? = some (some s) → (i : Int) ∈ work ∨ y1ez f ins i s
  st : LeAt ins 0 (y6g f)
  wk : ∀ j ∈ work, 0 ≤ j ∧ j < (lst f.code).length ∧ ∃ t, ins[j.toNat]? = some (some t)
def tab0 : Tab := (List.replicate (lst f.code).length none).set 0 (some (y6g f))
variable {f}
theorem y1ez.mono {a b : Tab} (h : LeT a b) {i : Nat} {s : List Bool} (hf : y1ez f a i s) : y1ez f b i s :=
  ⟨fun to ht => (hf.1 to ht).mono h, fun to ht => (hf.2 to ht).mono h⟩
theorem SInv.start (w : Wf f) : SInv f (tab0 f) [0] := by
  have hn := w.n1
  have h0 : (tab0 f)[0]? = some (some (y6g f)) := y57 (by rw [List.length_replicate]; omega)
  have hx : ∀ (i : Nat) t, (tab0 f)[i]? = some (some t) → i = 0 ∧ t = y6g f := by
    intro i t ht
    rcases y7i ht with ⟨e, e2⟩ | ⟨_, h⟩
    · injection e2 with e2; exact ⟨e, e2⟩
    · rw [List.getElem?_replicate] at h
      split at h <;> cases h
  refine ⟨⟨by simp [tab0], fun i s hs => by rw [(hx i s hs).2, yfo]⟩, fun i r t ht hr => ?_, fun i s hs => .inl (by rw [(hx i s hs).1]; simp), ⟨_, h0, .refl _⟩, fun j hj => ?_⟩
  · obtain ⟨rfl, rfl⟩ := hx i t ht
    have hr1 : r < (lst f.regs).length := by rw [← yfo]; exact (List.getElem?_eq_some_iff.1 hr).1
    rw [ynh hr1] at hr
    refine ⟨Rch.base (j := 0) (by simp) (by omega) (by omega), ?_⟩
    simpa using hr
  · rw [List.mem_singleton] at hj
    subst hj
    exact ⟨by omega, by omega, _, h0⟩
theorem SInv.step (w : Wf f) {ins : Tab} {work : List Int} (I : SInv f ins work) {i : Int} (hi : work.getLast? = some i) :
    SInv f (y47 (y3i (defr (yh f i.toNat)) (ydq ins i.toNat)) (y1r f i) (y47 (ydq ins i.toNat) (yv f i) (ins, work.dropLast))).1
      (y47 (y3i (defr (yh f i.toNat)) (ydq ins i.toNat)) (y1r f i) (y47 (ydq ins i.toNat) (yv f i) (ins, work.dropLast))).2 ∧
    2 * pot (lst f.regs).length (y47 (y3i (defr (yh f i.toNat)) (ydq ins i.toNat)) (y1r f i) (y47 (ydq ins i.toNat) (yv f i) (ins, work.dropLast))).1 +
      (y47 (y3i (defr (yh f i.toNat)) (ydq ins i.toNat)) (y1r f i) (y47 (ydq ins i.toNat) (yv f i) (ins, work.dropLast))).2.length + 1 ≤ 2 * pot (lst f.regs).length ins + work.length := by
  have e := y62 hi
  obtain ⟨i0, i1, s, hs⟩ := I.wk i (by rw [e]; simp)
  have hts : ydq ins i.toNat = s := by simp [ydq, hs]
  rw [hts]
  have hsl := I.ok.rows _ _ hs
  have ei : ((i.toNat : Nat) : Int) = i := by omega
  obtain ⟨a1, a2⟩ := ybr (n := (lst f.code).length) hsl (yv f i) (ins, work.dropLast) I.ok (fun to h => w.caught h)
  generalize y47 s (yv f i) (ins, work.dropLast) = p1 at *
  obtain ⟨b1, b2⟩ := ybr (n := (lst f.code).length) (s := y3i (defr (yh f i.toNat)) s) (by rw [ynr]; exact hsl) (y1r f i) p1 a1.ok (fun to h => by
    rw [← ei] at h
    exact w.next (by omega) h)
  generalize y47 (y3i (defr (yh f i.toNat)) s) (y1r f i) p1 = p2 at *
  refine ⟨⟨b1.ok, fun j r t ht hr => ?_, fun j t ht => ?_, (I.st.mono a1.le).mono b1.le, fun j hj => ?_⟩, ?_⟩
  · -- what isn't set
    have old : ∀ u, ins[j]? = some (some u) → u[r]? = some false → Rch (lst f.code).length (y9x f r) [0] j ∧ (r : Int) ∉ lst f.params := fun u h1 h2 => I.src j r u h1 h2
    have hjlt : j < (lst f.code).length := by rw [← b1.ok.len]; exact (List.getElem?_eq_some_iff.1 ht).1
    rcases b1.src j r t ht hr with ⟨u, h1, h2⟩ | ⟨h1, h2⟩
    · rcases a1.src j r u h1 h2 with ⟨v, h3, h4⟩ | ⟨h3, h4⟩
      · exact old v h3 h4
      · obtain ⟨k1, k2⟩ := I.src _ _ _ hs h3
        refine ⟨?_, k2⟩
        have := Rch.step (j := (j : Int)) k1 (by rw [y9x, ei]; exact List.mem_append_left _ h4) (by omega) (by omega)
        simpa using this
    · obtain ⟨h3, h4⟩ := yu1 h1
      obtain ⟨k1, k2⟩ := I.src _ _ _ hs h4
      refine ⟨?_, k2⟩
      have := Rch.step (j := (j : Int)) k1 (by rw [y9x, if_neg h3, ei]; exact List.mem_append_right _ h2) (by omega) (by omega)
      simpa using this
  · -- closed but for the work
    rcases b1.work j t ht with h | h
    · rcases a1.work j t h with h | h
      · simp only at h
        rcases I.cl j t h with hw | hw
        · rw [e, List.mem_append, List.mem_singleton] at hw
          rcases hw with hw | hw
          · exact .inl (b1.keep _ (a1.keep _ hw))
          · right
            have ej : j = i.toNat := by omega
            subst ej
            rw [hs] at h
            injection h with h; injection h with h
            subst h
            rw [y1ez, ei]
            exact ⟨fun to hto => (a2 to hto).mono b1.le, fun to hto => b2 to hto⟩
        · exact .inr ((hw.mono a1.le).mono b1.le)
      · exact .inl (b1.keep _ h)
    · exact .inl h
  · rcases b1.fresh j hj with h | h
    · rcases a1.fresh j h with h | ⟨k1, k2, t, k3⟩
      · obtain ⟨k1, k2, t, k3⟩ := I.wk j (yag h)
        obtain ⟨t2, k4, _⟩ := a1.le _ _ k3
        obtain ⟨t3, k5, _⟩ := b1.le _ _ k4
        exact ⟨k1, k2, t3, k5⟩
      · obtain ⟨t2, k4, _⟩ := b1.le _ _ k3
        exact ⟨k1, k2, t2, k4⟩
    · exact h
  · have h1 := a1.pot
    have h2 := b1.pot
    have h3 : work.length = work.dropLast.length + 1 := by rw [e]; simp
    simp only at h1
    omega
theorem yft (w : Wf f) : ∀ (k : Nat) (ins : Tab) (work : List Int), SInv f ins work → 2 * pot (lst f.regs).length ins + work.length < k → ∃ r, yjq f k ins work = some r ∧ SInv f r []
  | 0, _, _, _, h => by omega
  | k + 1, ins, work, I, h => by
    rw [yjq]
    cases hw : work.getLast? with
    | none =>
      rw [List.getLast?_eq_none_iff] at hw
      subst hw
      exact ⟨ins, rfl, I⟩
    | some i =>
      obtain ⟨I2, hp⟩ := I.step w hw
      exact yft w k _ _ I2 (Nat.le_trans hp (Nat.le_of_lt_succ h))
theorem SInv.tells (w : Wf f) {ins : Tab} (I : SInv f ins []) : (∀ i, i < (lst f.code).length → ∀ u ∈ y7j f i, ∀ s, ins[i]? = some (some s) → s[u.toNat]? = some true) ↔ setP f := by
  constructor
  · intro h r r0 r1 hp ⟨i, hi, hu⟩
    have er : ((r.toNat : Nat) : Int) = r := by omega
    have hle : ∀ {to : Int} {s : List Bool}, LeAt ins to s → s[r.toNat]? ≠ some true → ∃ t, ins[to.toNat]? = some (some t) ∧ t[r.toNat]? = some false := by
      intro to s ⟨t, h1, h2⟩ hne
      refine ⟨t, h1, ?_⟩
      have hl := I.ok.rows _ _ h1
      have hlt : r.toNat < t.length := by omega
      rw [List.getElem?_eq_getElem hlt]
      cases hb : t[r.toNat] with
      | false => rfl
      | true => exact (hne (h2 _ (by rw [List.getElem?_eq_getElem hlt, hb]))).elim
    have key : ∀ {i : Nat}, Rch (lst f.code).length (y9x f r) [0] i → ∃ t, ins[i]? = some (some t) ∧ t[r.toNat]? = some false := by
      intro i hr
      induction hr with
      | base hj j0 j1 =>
        rw [List.mem_singleton] at hj
        subst hj
        refine hle I.st ?_
        rw [ynh (by omega), er]
        simpa using hp
      | step hr hj j0 j1 ih =>
        rename_i i j
        obtain ⟨t, h1, h2⟩ := ih
        rcases I.cl _ _ h1 with hw | ⟨c1, c2⟩
        · cases hw
        · rw [y9x, List.mem_append] at hj
          rcases hj with hj | hj
          · exact hle (c1 _ hj) (by rw [h2]; simp)
          · split at hj
            · cases hj
            · rename_i hd
              refine hle (c2 _ hj) fun ht => ?_
              have := yvl ht (by rw [er]; exact hd)
              rw [h2] at this
              cases this
    obtain ⟨t, h1, h2⟩ := key hi
    have := h i hi.lt r hu t h1
    rw [h2] at this
    cases this
  · intro h i hi u hu s hs
    obtain ⟨u0, u1⟩ := w.uses hi hu
    have hl := I.ok.rows _ _ hs
    have hlt : u.toNat < s.length := by omega
    rw [List.getElem?_eq_getElem hlt]
    cases hb : s[u.toNat] with
    | true => rfl
    | false =>
      obtain ⟨k1, k2⟩ := I.src i u.toNat s hs (by rw [List.getElem?_eq_getElem hlt, hb])
      have eu : ((u.toNat : Nat) : Int) = u := by omega
      rw [eu] at k1 k2
      exact (h u u0 u1 k2 ⟨i, k1, hu⟩).elim
end
end Go.Vm
namespace Go.Vm
open Cel
attribute [local simp] y8 y2d yp
theorem y19m (o : Option (List Bool)) (h : Heap) : y3a h 1 (slA o) = some ((lst o).map enc) := yem o h
theorem y12i (o : Option (List Bool)) (h : (lst o).length ≤ 1000000) : (y9 E).p 78 [slA o] = some (exO o) := by
  rw [y2mc]
  cases o with
  | none => rfl
  | some L =>
    simp only [y4v] at h
    have h1 : 2 * L.length ≤ 281474976710144 := by omega
    simp [y1gw, y1ec, y1fu, y11, y1b, y37, y19m, h1]
    exact y3b (α := Bool) (L := L) (by simp)
end Go.Vm
