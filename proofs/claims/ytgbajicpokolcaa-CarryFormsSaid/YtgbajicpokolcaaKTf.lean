/- The document's answers for names and types: the program's own. The document's answer whether a call, an instruction is well formed. The document's answer whether an instruction is well formed. The document's answer whether an instruction is well formed, whole. The document's answer for an instruction is the program's. The document's answer whether a function is well formed: the program's own. What the pass 'carry' leaves is fit. Chapter 14's anchor. CarryForms: the output is well formed, and sets what it reads where the input does; what isn't well formed stays as it is. -/
import Derived.Test.YtgbajicpokolcaaKX
import Derived.Test.YtgbajicpokolcaaKTe
set_option linter.unusedSimpArgs false
set_option linter.unusedVariables false
set_option linter.unusedSectionVars false
namespace Go.Vm
open Cel
attribute [local simp] y7 y28 yr
def mayB : List UInt8 := [97, 98, 99, 100, 101, 102, 103, 104, 105, 106, 107, 108, 109, 110, 111, 112, 113, 114, 115, 116, 117, 118, 119, 120, 121, 122, 65, 66, 67, 68, 69, 70, 71, 72, 73, 74, 75, 76, 77, 78, 79, 80, 81, 82, 83, 84, 85, 86, 87, 88, 89, 90, 48, 49, 50, 51, 52, 53, 54, 55, 56, 57, 95, 36, 47]
theorem y2oy : ((List.range 256).all fun n => mayB.contains (UInt8.ofNat n) == okB (UInt8.ofNat n)) = true := by kernel_rfl
theorem y2ue (c : UInt8) : mayB.contains c = okB c := by
  have := ybr y2oy c.toNat c.toNat_lt
  rw [UInt8.ofNat_toNat] at this
  exact eq_of_beq this
@[simp] theorem y2y4 : E.pure 53 = true := rfl
theorem y2zk (s : List UInt8) (c : UInt8) : (y8 E).p 53 [.str s, .str [c]] = some ⟨.bool (s.contains c), [], true, [], []⟩ := by
  rw [yog, y6m, show E.fn 53 = none by kernel_rfl]
  rfl
theorem y1cd (s : List UInt8) (hs : s.length ≤ 9223372036854775807) (h : Heap) : ∀ (d i : Nat), i + d = s.length →
    yft (.str s) (.str mayB) (.int .i64 i) h = if (s.drop i).all okB then yjt (.str s) h else some ⟨.bool false, [], true, [], []⟩ := by
  intro d
  induction d with
  | zero =>
    intro i hi
    have e1 : s.drop i = [] := List.drop_eq_nil_of_le (by omega)
    have hc : ¬ ((i : Int) < (s.length : Int)) := by omega
    rw [ym0, e1]
    simp [yrw, hc]
  | succ d ih =>
    intro i hi
    have hlt : i < s.length := by omega
    have hc : ((i : Int) < (s.length : Int)) := by omega
    have ih := ih (i + 1) (by omega)
    push_cast at ih
    have e1 : (s.drop i).all okB = (okB s[i] && (s.drop (i + 1)).all okB) := by rw [List.drop_eq_getElem_cons hlt, List.all_cons]
    have hsl : yfg (.str s) (some (.int .i64 (i : Int))) (some (.int .i64 ((i : Int) + 1))) = some (.str [s[i]]) := by
      have a1 : ((0 : Int) ≤ (i : Int) + 1 ∧ (i : Int) + 1 ≤ (s.length : Int)) := by omega
      have a2 : ((0 : Int) ≤ (i : Int) ∧ (i : Int) ≤ (((i : Int) + 1).toNat : Int)) := by omega
      simp only [yfg, y7i, yd6, if_pos a1, if_pos a2]
      have e2 : ((i : Int) + 1).toNat = i + 1 := by omega
      rw [e2, Int.toNat_natCast, List.drop_take, show i + 1 - i = 1 by omega, List.drop_eq_getElem_cons hlt]
      rfl
    have hm := y2zk mayB s[i]
    rw [y2ue] at hm
    rw [ym0, e1]
    simp only [yrw, yem, y2, yh, hc, decide_true, y1f]
    cases hb : okB s[i] with
    | true =>
      rw [hb] at hm
      simp [ytz, y1a hlt hs, hsl, hm, y13m, ih]
    | false =>
      rw [hb] at hm
      simp [ytz, y1a hlt hs, hsl, hm]
@[simp] theorem y2e0 (s : List UInt8) (hs : s.length ≤ 9223372036854775807) : (y8 E).p 69 [.str s, .bool false] = some ⟨.bool (y81 s), [], true, [], []⟩ := by
  have h0 := y1cd s hs [] _ 0 (Nat.zero_add _)
  simp only [Int.ofNat_zero, List.drop_zero] at h0
  rw [y2nq]
  have e : ypr (.str s) (.bool false) [] = yft (.str s) (.str mayB) (.int .i64 0) [] := by simp [yjt, y13m, ytz, yrw, y13h, y1ro, yy9, ypr]; rfl
  rw [e, h0, y81]
  cases hal : s.all okB with
  | false => simp
  | true =>
    by_cases h1 : s = []
    · subst h1; simp [yjt]
    · have h2 : 1 ≤ s.length := by have := List.length_pos_iff.2 h1; omega
      by_cases h3 : s.length ≤ 60
      · have : ((s.length : Int) ≤ 60) := by omega
        simp [yjt, h1, h2, h3, this]
      · have : ¬ ((s.length : Int) ≤ 60) := by omega
        simp [yjt, h1, h2, h3, this]
def yhv (s : List UInt8) : Bool :=
  decide (lead s ≤ 8) && (decide (s.drop (lead s) = [73]) || decide (s.drop (lead s) = [74]) ||
    (decide (2 < (s.drop (lead s)).length) && decide ((s.drop (lead s))[0]? = some 76) && decide ((s.drop (lead s))[(s.drop (lead s)).length - 1]? = some 59) && y81 (((s.drop (lead s)).take ((s.drop (lead s)).length - 1)).drop 1)))
theorem y1d4 (s : List UInt8) (hs : s.length ≤ 9223372036854775807) (h : Heap) : ∀ (d i : Nat), i + d = lead s → yfx (.str s) (.int .i64 i) h = ymy (.str s) (.int .i64 (lead s)) h := by
  intro d
  induction d with
  | zero =>
    intro i hi
    obtain rfl : i = lead s := by omega
    rw [yma]
    have := ybw s
    by_cases hc : lead s < s.length
    · have e := List.getElem?_eq_getElem hc
      have hne := ywo e
      have hc' : ((lead s : Int) < (s.length : Int)) := by omega
      have hb : ¬ ((s[lead s].toNat : Int) = 91) := fun hh => hne ((y61 _ 91).1 hh)
      simp [yoi, hc', ixstr e, hb]
    · have hc' : ¬ ((lead s : Int) < (s.length : Int)) := by omega
      simp [yoi, hc']
  | succ d ih =>
    intro i hi
    have e := yxe (s := s) (i := i) (by omega)
    have := ybw s
    have hc' : ((i : Int) < (s.length : Int)) := by omega
    have ih := ih (i + 1) (by omega)
    push_cast at ih
    rw [yma]
    simp [yoi, hc', ixstr e, y195, y1a (show i < s.length by omega) hs, ih]
theorem y22p (s : List UInt8) (hs : s.length ≤ 9223372036854775807) : (y8 E).p 67 [.str s] = some ⟨.bool (yhv s), [], true, [], []⟩ := by
  have h0 := y1d4 s hs [] _ 0 (Nat.zero_add _)
  simp only [Int.ofNat_zero] at h0
  rw [y2rx]
  have e : ypt (.str s) [] = yfx (.str s) (.int .i64 0) [] := by simp [ykj, ye0, yux, ymy, y195, yoi, yxt, ypt]
  rw [e, h0, yhv]
  have hle := ybw s
  have hsl : yfg (.str s) (some (.int .i64 (lead s))) none = some (.str (s.drop (lead s))) := by
    have a2 : ((0 : Int) ≤ (lead s : Int) ∧ (lead s : Int) ≤ (s.length : Int)) := by omega
    simp only [yfg, y7i, yd6, if_pos a2]
    simp
  by_cases h8 : 8 < lead s
  · have h8' : ((8 : Int) < (lead s : Int)) := by omega
    have : ¬ lead s ≤ 8 := by omega
    simp [ymy, hsl, yux, h8', this]
  · have h8' : ¬ ((8 : Int) < (lead s : Int)) := by omega
    have h8n : lead s ≤ 8 := by omega
    have hrl : (s.drop (lead s)).length ≤ 9223372036854775807 := by rw [List.length_drop]; omega
    simp only [ymy, hsl, y2, yux, y3c, h8', decide_false, y1p, h8n, decide_true, Bool.true_and]
    generalize s.drop (lead s) = r at *
    by_cases c1 : r = [73]
    · simp [ye0, c1]
    by_cases c2 : r = [74]
    · simp [ye0, c2]
    by_cases c3 : 2 < r.length
    · have c3' : ((2 : Int) < (r.length : Int)) := by omega
      have k0 := List.getElem?_eq_getElem (l := r) (i := 0) (by omega)
      have k1 := List.getElem?_eq_getElem (l := r) (i := r.length - 1) (by omega)
      have i0 := ixstr k0
      have i1 := ixstr k1
      simp only [Int.ofNat_zero] at i0
      have hw : IntKind.wrap .i64 ((r.length : Int) - 1) = ((r.length - 1 : Nat) : Int) := by rw [y2b] <;> omega
      have hs2 : yfg (.str r) (some (.int .i64 1)) (some (.int .i64 ((r.length - 1 : Nat) : Int))) = some (.str ((r.take (r.length - 1)).drop 1)) := by
        have a1 : ((0 : Int) ≤ ((r.length - 1 : Nat) : Int) ∧ ((r.length - 1 : Nat) : Int) ≤ (r.length : Int)) := by omega
        have a2 : ((0 : Int) ≤ (1 : Int) ∧ (1 : Int) ≤ (((r.length - 1 : Nat) : Int).toNat : Int)) := by omega
        simp only [yfg, y7i, yd6, if_pos a1, if_pos a2]
        rfl
      have hn := y2e0 ((r.take (r.length - 1)).drop 1) (by rw [List.length_drop, List.length_take]; omega)
      rw [k0, k1]
      generalize r[0] = b0 at *
      generalize r[r.length - 1] = b1 at *
      generalize y81 ((r.take (r.length - 1)).drop 1) = N at *
      have hn' := hn
      simp only [List.drop_one] at hn'
      by_cases d0 : b0 = 76
      · by_cases d1 : b1 = 59
        · simp [ye0, ykj, c1, c2, c3, c3', i0, i1, hw, hs2, hn', d0, d1]
        · have d1' : ¬ ((b1.toNat : Int) = 59) := fun hh => d1 ((y61 _ 59).1 hh)
          simp [ye0, ykj, c1, c2, c3, c3', i0, i1, hw, d0, d1, d1']
      · have d0' : ¬ ((b0.toNat : Int) = 76) := fun hh => d0 ((y61 _ 76).1 hh)
        simp [ye0, ykj, c1, c2, c3, c3', i0, d0, d0']
    · have c3' : ¬ ((2 : Int) < (r.length : Int)) := by omega
      simp [ye0, ykj, c1, c2, c3, c3']
theorem yst {l : List UInt8} (h : y81 l = true) : 59 ∉ l ∧ 1 ≤ l.length := by
  simp only [y81, Bool.and_eq_true, decide_eq_true_eq, List.all_eq_true] at h
  refine ⟨fun hm => ?_, h.1.1⟩
  have := h.2 59 hm
  exact absurd this (by decide)
theorem y1xw (s : List UInt8) : yhv s = y8b s := by
  rw [Bool.eq_iff_iff]
  simp only [yhv, y8b, Bool.and_eq_true, Bool.or_eq_true, decide_eq_true_eq]
  have hle := ybw s
  have hdl : (s.drop (lead s)).length = s.length - lead s := List.length_drop
  by_cases hne : s = []
  · subst hne; simp [lead, yvt]
  have hpos : 0 < s.length := List.length_pos_iff.2 hne
  simp only [hne, not_false_eq_true, true_and, ne_eq]
  unfold yvt
  by_cases h8 : 8 < lead s
  · rw [if_pos (.inl h8)]
    constructor
    · rintro ⟨h, _⟩; omega
    · intro h; omega
  by_cases hl : lead s = s.length
  · rw [if_pos (.inr hl)]
    have : s.drop (lead s) = [] := List.drop_eq_nil_of_le (by omega)
    rw [this]
    constructor
    · rintro ⟨_, h⟩; simp at h
    · intro h; omega
  rw [if_neg (by omega)]
  have hlt : lead s < s.length := by omega
  have hd : s.drop (lead s) = s[lead s] :: s.drop (lead s + 1) := List.drop_eq_getElem_cons hlt
  have h8n : lead s ≤ 8 := by omega
  rw [List.getElem?_eq_getElem hlt]
  have hrl : (s.drop (lead s + 1)).length = s.length - (lead s + 1) := List.length_drop
  have htk : ∀ j, (s.take (lead s + 1 + j)).drop (lead s + 1) = (s.drop (lead s + 1)).take j := by
    intro j; rw [List.drop_take]; congr 1; omega
  simp only [htk]
  rw [hd]
  generalize s[lead s] = c at *
  generalize hr : s.drop (lead s + 1) = r at *
  simp only [h8n, true_and, Option.some.injEq, List.cons.injEq, List.length_cons, List.getElem?_cons_zero, Nat.add_sub_cancel]
  by_cases c1 : c = 73
  · subst c1
    simp only [true_or, if_true, true_and]
    have e1 : (s.length = lead s + 1) ↔ r = [] := by rw [← List.length_eq_zero_iff, hrl]; omega
    constructor
    · rintro (h | h)
      · rcases h with h | h
        · exact (e1.2 h).symm
        · exact absurd h.1 (by decide)
      · exact absurd h.1.1.2 (by decide)
    · intro h; exact .inl (.inl (e1.1 h.symm))
  by_cases c2 : c = 74
  · subst c2
    simp only [or_true, if_true, true_and]
    have e1 : (s.length = lead s + 1) ↔ r = [] := by rw [← List.length_eq_zero_iff, hrl]; omega
    constructor
    · rintro (h | h)
      · rcases h with h | h
        · exact absurd h.1 (by decide)
        · exact (e1.2 h).symm
      · exact absurd h.1.1.2 (by decide)
    · intro h; exact .inl (.inr (e1.1 h.symm))
  simp only [c1, c2, or_self, if_false, false_and, false_or]
  by_cases c3 : c = 76
  · subst c3
    simp only [if_true, true_and, and_true]
    have idx : ∀ j, j < r.length → r[j]? = some 59 → 59 ∉ r.take j → r.findIdx (· == 59) = j := by
      intro j hj h1 h2
      rw [List.getElem?_eq_getElem hj] at h1
      rw [List.findIdx_eq hj]
      refine ⟨by simpa using h1, fun k hk => ?_⟩
      have : r[k]'(by omega) ∈ r.take j := List.mem_take_iff_getElem.2 ⟨k, by omega, rfl⟩
      simp only [beq_eq_false_iff_ne, ne_eq]
      intro he
      rw [he] at this
      exact h2 this
    constructor
    · rintro ⟨⟨h1, h2⟩, h3⟩
      have e0 : (76 :: r : List UInt8)[r.length]? = r[r.length - 1]? := by
        rw [show r.length = (r.length - 1) + 1 by omega]; simp
      rw [e0] at h2
      have e1 : ((76 :: r : List UInt8).take r.length).drop 1 = r.take (r.length - 1) := by
        rw [show r.length = (r.length - 1) + 1 by omega]; simp
      rw [e1] at h3
      have := idx (r.length - 1) (by omega) h2 (yst h3).1
      rw [this, if_pos ⟨by omega, h3⟩]
      omega
    · intro h
      split at h
      · rename_i hc
        have hj : r.findIdx (· == 59) = r.length - 1 := by omega
        have hn := yst hc.2
        have hlen := hn.2
        rw [List.length_take, hj] at hlen
        have h59 : r[r.length - 1]? = some 59 := by
          have := List.findIdx_getElem (w := hc.1)
          rw [List.getElem?_eq_getElem (by omega)]
          simp only [hj] at this
          simpa using this
        rw [hj] at hc
        refine ⟨⟨by omega, ?_⟩, ?_⟩
        · rw [show r.length = (r.length - 1) + 1 by omega]; simpa using h59
        · have e1 : ((76 :: r : List UInt8).take r.length).drop 1 = r.take (r.length - 1) := by
            rw [show r.length = (r.length - 1) + 1 by omega]; simp
          rw [e1]; exact hc.2
      · omega
  · simp only [c3, if_false, and_false, false_and]
    constructor
    · intro h; exact h.elim
    · intro h; omega
theorem y2l2 (s : List UInt8) (hs : s.length ≤ 9223372036854775807) : (y8 E).p 67 [.str s] = some ⟨.bool (y8b s), [], true, [], []⟩ := by
  rw [y22p s hs, y1xw]
end Go.Vm
namespace Go.Vm
open Cel
attribute [local simp] y7 y28 yr y3p
abbrev H2 (f : Fn) (x : Ins) : Heap := [⟨1, .arr true false 5 [enc f]⟩, ⟨1, .arr true false 9 [enc x]⟩]
abbrev H3 (f : Fn) (x : Ins) : Heap := [⟨1, .arr true false 5 [enc f]⟩, ⟨1, .arr true false 9 [enc x]⟩, ⟨1, .arr false false 1 [[.int .i64 x.d], [.int .i64 x.a], [.int .i64 x.b], [.int .i64 x.c]]⟩]
abbrev Q0 : AV := .lp 0 1 0 0
abbrev Q1 : AV := .lp 1 1 0 0
def yhm (R : List Int) (x : Ins) : Bool :=
  (!decide (x.op = 24) && !decide (x.op = 25)) || (match lst x.args with
    | [] => false
    | r :: _ => decide (regK R r = 3))
def yp1 (R : List Int) (x : Ins) : Bool :=
  !((decide (x.n < 0) && !decide (x.op = 25)) || decide (21 < (lst x.args).length) || (!decide (x.d = -1) && decide (regK R x.d = 0))) && ((lst x.args).all (fun r => !decide (regK R r = 0)) && yhm R x)
theorem y1jy (f : Fn) (x : Ins) : y5u Q0 Q1 (H2 f x) = some ⟨.bool (yhm (lst f.regs) x), [], true, [], []⟩ := by
  by_cases o1 : x.op = 24
  · cases ha : lst x.args with
    | nil => simp [y5u, o1, yhm, ha, yd]
    | cons r t =>
      have k1 := y24 (o := x.args) (i := 0) (x := r) (by rw [ha]; rfl) .i64
      simp only [Int.ofNat_zero] at k1
      simp [y5u, o1, yhm, ha, k1, yd]
  · by_cases o2 : x.op = 25
    · cases ha : lst x.args with
      | nil => simp [y5u, o2, yhm, ha, yd]
      | cons r t =>
        have k1 := y24 (o := x.args) (i := 0) (x := r) (by rw [ha]; rfl) .i64
        simp only [Int.ofNat_zero] at k1
        simp [y5u, o2, yhm, ha, k1, yd]
    · simp [y5u, o1, o2, yhm, yd]
theorem y1lf (f : Fn) (x : Ins) (hl : (lst x.args).length ≤ 9223372036854775807) : ∀ (d i : Nat), i + d = (lst x.args).length →
    yjd Q0 Q1 (.int .i64 i) (H2 f x) = some ⟨.bool (((lst x.args).drop i).all (fun r => !decide (regK (lst f.regs) r = 0)) && yhm (lst f.regs) x), [], true, [], []⟩ := by
  intro d
  induction d with
  | zero =>
    intro i hi
    have e1 : (lst x.args).drop i = [] := List.drop_eq_nil_of_le (by omega)
    have hn : ¬ ((i : Int) < ((lst x.args).length : Int)) := by omega
    rw [ymb, e1]
    simp [y7g, hn, y1jy]
  | succ d ih =>
    intro i hi
    have hlt : i < (lst x.args).length := by omega
    have hn : ((i : Int) < ((lst x.args).length : Int)) := by omega
    have k1 := y24 (o := x.args) (i := i) (List.getElem?_eq_getElem hlt) .i64
    have e1 : ((lst x.args).drop i).all (fun r => !decide (regK (lst f.regs) r = 0)) = ((!decide (regK (lst f.regs) (lst x.args)[i] = 0)) && ((lst x.args).drop (i + 1)).all (fun r => !decide (regK (lst f.regs) r = 0))) := by
      rw [List.drop_eq_getElem_cons hlt, List.all_cons]
    have ih := ih (i + 1) (by omega)
    push_cast at ih
    rw [ymb, e1]
    generalize (lst x.args)[i] = r at *
    have hs := yi8 f r
    by_cases hz : regK (lst f.regs) r = 0
    · rw [hz] at hs
      simp [y7g, hn, y88, k1, hs, hz, yd]
    · generalize regK (lst f.regs) r = k at *
      simp [y7g, hn, y88, k1, hs, hz, yd, y9m, y1a hlt hl]
      exact ih
theorem y2t7 (f : Fn) (x : Ins) (hl : (lst x.args).length ≤ 9223372036854775807) : (y8 E).p 68 [.agg (enc f), .agg (enc x)] = some ⟨.bool (yp1 (lst f.regs) x), [], true, [], []⟩ := by
  rw [y2uh]
  have h0 := y1lf f x hl _ 0 (Nat.zero_add _)
  simp only [Int.ofNat_zero, List.drop_zero] at h0
  have hs := yi8 f x.d
  have e21 : ((21 : Int) < ((lst x.args).length : Int)) ↔ 21 < (lst x.args).length := by omega
  unfold yp1
  generalize ((lst x.args).all (fun r => !decide (regK (lst f.regs) r = 0)) && yhm (lst f.regs) x) = T at *
  generalize regK (lst f.regs) x.d = kd at *
  by_cases h21 : 21 < (lst x.args).length
  · have h21' := e21.2 h21
    by_cases hn : x.n < 0
    · by_cases o5 : x.op = 25 <;> simp [y5u, y9m, y88, y7g, yba, ybn, y6w, hn, o5, h21, h21', yd, yu, meets]
    · simp [y5u, y9m, y88, y7g, yba, ybn, y6w, hn, h21, h21', yd, yu, meets]
  · have h21' : ¬ ((21 : Int) < ((lst x.args).length : Int)) := by omega
    by_cases hn : x.n < 0
    · by_cases o5 : x.op = 25
      · by_cases hd : x.d = -1
        · simp [y5u, y9m, y88, y7g, yba, ybn, y6w, hn, o5, h21, h21', hd, h0, yd, yu, meets]
        · by_cases hk : kd = 0
          · simp [y5u, y9m, y88, y7g, yba, ybn, y6w, hn, o5, h21, h21', hd, hs, hk, h0, yd, yu, meets]
          · simp [y5u, y9m, y88, y7g, yba, ybn, y6w, hn, o5, h21, h21', hd, hs, hk, h0, yd, yu, meets]
      · simp [y5u, y9m, y88, y7g, yba, ybn, y6w, hn, o5, h21, h21', yd, yu, meets]
    · by_cases hd : x.d = -1
      · simp [y5u, y9m, y88, y7g, yba, ybn, y6w, hn, h21, h21', hd, h0, yd, yu, meets]
      · by_cases hk : kd = 0
        · simp [y5u, y9m, y88, y7g, yba, ybn, y6w, hn, h21, h21', hd, hs, hk, h0, yd, yu, meets]
        · simp [y5u, y9m, y88, y7g, yba, ybn, y6w, hn, h21, h21', hd, hs, hk, h0, yd, yu, meets]
end Go.Vm
namespace Go.Vm
open Cel
attribute [local simp] y7 y28 yr y3p
def y6r (f : Fn) (x : Ins) : Bool :=
  match x.op with
  | 1 => decide (regK (lst f.regs) x.d = 2) || (decide (-2147483648 ≤ x.n) && decide (x.n < 2147483648))
  | 4 => decide (regK (lst f.regs) x.d = regK (lst f.regs) x.a)
  | 5 => decide (0 < (numK x.n).2.1) && decide (regK (lst f.regs) x.d = (numK x.n).2.2) && decide (regK (lst f.regs) x.a = (numK x.n).1) && decide (regK (lst f.regs) x.b = (numK x.n).2.1)
  | 6 => decide (0 < (numK x.n).1) && decide ((numK x.n).2.1 = 0) && decide (regK (lst f.regs) x.d = (numK x.n).2.2) && decide (regK (lst f.regs) x.a = (numK x.n).1)
  | 12 => y8b x.s
  | 21 => y8b x.s
  | 22 => y8b x.s
  | 16 => decide (0 ≤ x.n)
  | 17 => decide (0 ≤ x.n)
  | 23 => yp1 (lst f.regs) x
  | 24 => yp1 (lst f.regs) x
  | 25 => yp1 (lst f.regs) x
  | 26 => yp1 (lst f.regs) x
  | 27 => y5l (lst f.code).length x.t
  | 28 => decide (0 ≤ x.n) && decide (x.n ≤ 5) && y5l (lst f.code).length x.t
  | 29 => (decide (x.n = 0) || decide (x.n = 1)) && (decide (x.b = -1) || decide (regK (lst f.regs) x.b = 3)) && y5l (lst f.code).length x.t
  | 30 => if f.ret = 0 then decide (x.a = -1) else !decide (x.a = -1) && decide (regK (lst f.regs) x.a = f.ret)
  | _ => true
def oneM (f : Fn) (x : Ins) : Bool :=
  decide (1 ≤ x.op) && decide (x.op ≤ 33) && (y5v (regK (lst f.regs) x.d) ((rowM x.op).getD 0 0) && (y5v (regK (lst f.regs) x.a) ((rowM x.op).getD 1 0) && (y5v (regK (lst f.regs) x.b) ((rowM x.op).getD 2 0) && (y5v (regK (lst f.regs) x.c) ((rowM x.op).getD 3 0) && y6r f x))))
set_option maxHeartbeats 8000000 in
theorem y2ox (f : Fn) (x : Ins) (hs : x.s.length ≤ 9223372036854775807) (hl : (lst x.args).length ≤ 9223372036854775807) (v55 : AV) (hv : v55 = .int .i64 x.op) :
    y1d Q0 Q1 (.int .i64 (numK x.n).1) (.int .i64 (numK x.n).2.1) (.int .i64 (numK x.n).2.2) v55 (H3 f x) = some ⟨.bool (y6r f x), [], true, [], []⟩ := by
  subst hv
  have hkd := yi8 f x.d
  have hka := yi8 f x.a
  have hkb := yi8 f x.b
  have hty := y2l2 x.s hs
  have hcl := y2t7 f x hl
  have hpl := y2ma f x.t
  unfold y6r
  generalize regK (lst f.regs) x.d = kd at *
  generalize regK (lst f.regs) x.a = ka at *
  generalize regK (lst f.regs) x.b = kb at *
  generalize y8b x.s = ty at *
  generalize yp1 (lst f.regs) x = cl at *
  generalize y5l (lst f.code).length x.t = pl at *
  generalize numK x.n = k at *
  obtain ⟨a, b, d⟩ := k
  simp only
  by_cases o1 : x.op = 1
  · by_cases h2 : kd = 2
    · simp [o1, y1d, y1g, hkd, h2, yd, yu, meets]
    · by_cases h3 : -2147483648 ≤ x.n <;> simp [o1, y1d, y1g, hkd, h2, h3, yd, yu, meets]
  by_cases o4 : x.op = 4
  · simp [o4, y1d, y1g, y1o, y1m, hkd, hka, yd, yu, meets]
  by_cases o5 : x.op = 5
  · by_cases h1 : 0 < b
    · by_cases h2 : kd = d
      · by_cases h3 : ka = a
        · simp [o5, h1, h2, h3, hkd, hka, hkb, y1d, y1g, y1o, y1m, y1v, y1s, y1x, y1z, y1r, y1j, y1y, y1n, y1u, y1h, y1w, y1t, y2y, y2r, y2t, y2w, y2q, y2u, y2x, y2s, y2z, yd, yu, meets]
        · simp [o5, h1, h2, h3, hkd, hka, hkb, y1d, y1g, y1o, y1m, y1v, y1s, y1x, y1z, y1r, y1j, y1y, y1n, y1u, y1h, y1w, y1t, y2y, y2r, y2t, y2w, y2q, y2u, y2x, y2s, y2z, yd, yu, meets]
      · simp [o5, h1, h2, hkd, hka, hkb, y1d, y1g, y1o, y1m, y1v, y1s, y1x, y1z, y1r, y1j, y1y, y1n, y1u, y1h, y1w, y1t, y2y, y2r, y2t, y2w, y2q, y2u, y2x, y2s, y2z, yd, yu, meets]
    · simp [o5, h1, y1d, y1g, y1o, y1m, y1v, y1s, y1x, y1z, y1r, y1j, y1y, y1n, y1u, y1h, y1w, y1t, y2y, y2r, y2t, y2w, y2q, y2u, y2x, y2s, y2z, yd, yu, meets]
  by_cases o6 : x.op = 6
  · by_cases h1 : 0 < a
    · by_cases h2 : b = 0
      · by_cases h3 : kd = d
        · simp [o6, h1, h2, h3, hkd, hka, y1d, y1g, y1o, y1m, y1v, y1s, y1x, y1z, y1r, y1j, y1y, y1n, y1u, y1h, y1w, y1t, y2y, y2r, y2t, y2w, y2q, y2u, y2x, y2s, y2z, yd, yu, meets]
        · simp [o6, h1, h2, h3, hkd, hka, y1d, y1g, y1o, y1m, y1v, y1s, y1x, y1z, y1r, y1j, y1y, y1n, y1u, y1h, y1w, y1t, y2y, y2r, y2t, y2w, y2q, y2u, y2x, y2s, y2z, yd, yu, meets]
      · simp [o6, h1, h2, y1d, y1g, y1o, y1m, y1v, y1s, y1x, y1z, y1r, y1j, y1y, y1n, y1u, y1h, y1w, y1t, y2y, y2r, y2t, y2w, y2q, y2u, y2x, y2s, y2z, yd, yu, meets]
    · simp [o6, h1, y1d, y1g, y1o, y1m, y1v, y1s, y1x, y1z, y1r, y1j, y1y, y1n, y1u, y1h, y1w, y1t, y2y, y2r, y2t, y2w, y2q, y2u, y2x, y2s, y2z, yd, yu, meets]
  by_cases o12 : x.op = 12
  · simp [o12, hty, y1d, y1g, y1o, y1m, y1v, y1s, y1x, y1z, y1r, y1j, y1y, y1n, y1u, y1h, y1w, y1t, y2y, y2r, y2t, y2w, y2q, y2u, y2x, y2s, y2z, yd, yu, meets]
  by_cases o21 : x.op = 21
  · simp [o21, hty, y1d, y1g, y1o, y1m, y1v, y1s, y1x, y1z, y1r, y1j, y1y, y1n, y1u, y1h, y1w, y1t, y2y, y2r, y2t, y2w, y2q, y2u, y2x, y2s, y2z, yd, yu, meets]
  by_cases o22 : x.op = 22
  · simp [o22, hty, y1d, y1g, y1o, y1m, y1v, y1s, y1x, y1z, y1r, y1j, y1y, y1n, y1u, y1h, y1w, y1t, y2y, y2r, y2t, y2w, y2q, y2u, y2x, y2s, y2z, yd, yu, meets]
  by_cases o16 : x.op = 16
  · simp [o16, y1d, y1g, y1o, y1m, y1v, y1s, y1x, y1z, y1r, y1j, y1y, y1n, y1u, y1h, y1w, y1t, y2y, y2r, y2t, y2w, y2q, y2u, y2x, y2s, y2z, yd, yu, meets]
  by_cases o17 : x.op = 17
  · simp [o17, y1d, y1g, y1o, y1m, y1v, y1s, y1x, y1z, y1r, y1j, y1y, y1n, y1u, y1h, y1w, y1t, y2y, y2r, y2t, y2w, y2q, y2u, y2x, y2s, y2z, yd, yu, meets]
  by_cases o23 : x.op = 23
  · simp [o23, hcl, y1d, y1g, y1o, y1m, y1v, y1s, y1x, y1z, y1r, y1j, y1y, y1n, y1u, y1h, y1w, y1t, y2y, y2r, y2t, y2w, y2q, y2u, y2x, y2s, y2z, yd, yu, meets]
  by_cases o24 : x.op = 24
  · simp [o24, hcl, y1d, y1g, y1o, y1m, y1v, y1s, y1x, y1z, y1r, y1j, y1y, y1n, y1u, y1h, y1w, y1t, y2y, y2r, y2t, y2w, y2q, y2u, y2x, y2s, y2z, yd, yu, meets]
  by_cases o25 : x.op = 25
  · simp [o25, hcl, y1d, y1g, y1o, y1m, y1v, y1s, y1x, y1z, y1r, y1j, y1y, y1n, y1u, y1h, y1w, y1t, y2y, y2r, y2t, y2w, y2q, y2u, y2x, y2s, y2z, yd, yu, meets]
  by_cases o26 : x.op = 26
  · simp [o26, hcl, y1d, y1g, y1o, y1m, y1v, y1s, y1x, y1z, y1r, y1j, y1y, y1n, y1u, y1h, y1w, y1t, y2y, y2r, y2t, y2w, y2q, y2u, y2x, y2s, y2z, yd, yu, meets]
  by_cases o28 : x.op = 28
  · by_cases h1 : 0 ≤ x.n
    · by_cases h2 : x.n ≤ 5 <;> simp [o28, h1, h2, hpl, y1d, y1g, y1o, y1m, y1v, y1s, y1x, y1z, y1r, y1j, y1y, y1n, y1u, y1h, y1w, y1t, y2y, y2r, y2t, y2w, y2q, y2u, y2x, y2s, y2z, yd, yu, meets]
    · simp [o28, h1, y1d, y1g, y1o, y1m, y1v, y1s, y1x, y1z, y1r, y1j, y1y, y1n, y1u, y1h, y1w, y1t, y2y, y2r, y2t, y2w, y2q, y2u, y2x, y2s, y2z, yd, yu, meets]
  by_cases o27 : x.op = 27
  · simp [o27, hpl, y1d, y1g, y1o, y1m, y1v, y1s, y1x, y1z, y1r, y1j, y1y, y1n, y1u, y1h, y1w, y1t, y2y, y2r, y2t, y2w, y2q, y2u, y2x, y2s, y2z, yd, yu, meets]
  by_cases o29 : x.op = 29
  · by_cases h1 : x.n = 0
    · by_cases h2 : x.b = -1
      · simp [o29, h1, h2, hpl, y1d, y1g, y1o, y1m, y1v, y1s, y1x, y1z, y1r, y1j, y1y, y1n, y1u, y1h, y1w, y1t, y2y, y2r, y2t, y2w, y2q, y2u, y2x, y2s, y2z, yd, yu, meets]
      · by_cases h3 : kb = 3 <;> simp [o29, h1, h2, h3, hpl, hkb, y1d, y1g, y1o, y1m, y1v, y1s, y1x, y1z, y1r, y1j, y1y, y1n, y1u, y1h, y1w, y1t, y2y, y2r, y2t, y2w, y2q, y2u, y2x, y2s, y2z, yd, yu, meets]
    · by_cases h1' : x.n = 1
      · by_cases h2 : x.b = -1
        · simp [o29, h1', h2, hpl, y1d, y1g, y1o, y1m, y1v, y1s, y1x, y1z, y1r, y1j, y1y, y1n, y1u, y1h, y1w, y1t, y2y, y2r, y2t, y2w, y2q, y2u, y2x, y2s, y2z, yd, yu, meets]
        · by_cases h3 : kb = 3 <;> simp [o29, h1', h2, h3, hpl, hkb, y1d, y1g, y1o, y1m, y1v, y1s, y1x, y1z, y1r, y1j, y1y, y1n, y1u, y1h, y1w, y1t, y2y, y2r, y2t, y2w, y2q, y2u, y2x, y2s, y2z, yd, yu, meets]
      · simp [o29, h1, h1', y1d, y1g, y1o, y1m, y1v, y1s, y1x, y1z, y1r, y1j, y1y, y1n, y1u, y1h, y1w, y1t, y2y, y2r, y2t, y2w, y2q, y2u, y2x, y2s, y2z, yd, yu, meets]
  by_cases o30 : x.op = 30
  · by_cases h1 : f.ret = 0
    · simp [o30, h1, y1d, y1g, y1o, y1m, y1v, y1s, y1x, y1z, y1r, y1j, y1y, y1n, y1u, y1h, y1w, y1t, y2y, y2r, y2t, y2w, y2q, y2u, y2x, y2s, y2z, yd, yu, meets]
    · by_cases h2 : x.a = -1 <;> simp [o30, h1, h2, hka, y1d, y1g, y1o, y1m, y1v, y1s, y1x, y1z, y1r, y1j, y1y, y1n, y1u, y1h, y1w, y1t, y2y, y2r, y2t, y2w, y2q, y2u, y2x, y2s, y2z, yd, yu, meets]
  · have e : (match x.op with
      | 1 => decide (kd = 2) || (decide (-2147483648 ≤ x.n) && decide (x.n < 2147483648))
      | 4 => decide (kd = ka)
      | 5 => decide (0 < b) && decide (kd = d) && decide (ka = a) && decide (kb = b)
      | 6 => decide (0 < a) && decide (b = 0) && decide (kd = d) && decide (ka = a)
      | 12 => ty
      | 21 => ty
      | 22 => ty
      | 16 => decide (0 ≤ x.n)
      | 17 => decide (0 ≤ x.n)
      | 23 => cl
      | 24 => cl
      | 25 => cl
      | 26 => cl
      | 27 => pl
      | 28 => decide (0 ≤ x.n) && decide (x.n ≤ 5) && pl
      | 29 => (decide (x.n = 0) || decide (x.n = 1)) && (decide (x.b = -1) || decide (kb = 3)) && pl
      | 30 => if f.ret = 0 then decide (x.a = -1) else !decide (x.a = -1) && decide (ka = f.ret)
      | _ => true) = true := by
      split <;> first | rfl | contradiction
    rw [show _ = true from e]
    simp [o1, o4, o5, o6, o12, o21, o22, o16, o17, o23, o24, o25, o26, o27, o28, o29, o30, y1d, y1g, y1o, y1m, y1v, y1s, y1x, y1z, y1r, y1j, y1y, y1n, y1u, y1h, y1w, y1t, y2y, y2r, y2t, y2w, y2q, y2u, y2x, y2s, y2z, yd, yu, meets]
end Go.Vm
namespace Go.Vm
open Cel
attribute [local simp] y7 y28 yr y3p
def y1rp (c : UInt8) : Bool := decide (c = 45) || decide (c = 63) || decide (c = 42) || decide (c = 61) || decide (c = 110) || decide (c = 49) || decide (c = 50) || decide (c = 51)
theorem y267 {c : UInt8} (h : y1rp c = true) : c = 45 ∨ c = 63 ∨ c = 42 ∨ c = 61 ∨ c = 110 ∨ c = 49 ∨ c = 50 ∨ c = 51 := by
  simp only [y1rp, Bool.or_eq_true, decide_eq_true_eq] at h
  simp only [or_assoc] at h
  exact h
@[simp] theorem y2uw (h : Heap) (a b c : Int) : fz h y18 (.tup [.int .i64 a, .int .i64 b, .int .i64 c]) = some ⟨.tup [.int .i64 a, .int .i64 b, .int .i64 c], true, []⟩ := rfl
theorem y1h5 : ((List.range 33).all fun i => decide ((rowM (1 + i)).length = 4) && (rowM (1 + i)).all y1rp) = true := by kernel_rfl
theorem y2tp {op : Int} (h1 : 1 ≤ op) (h2 : op ≤ 33) : (rowM op).length = 4 ∧ (rowM op).all y1rp = true := by
  have := ybr y1h5 (op - 1).toNat (by omega)
  have e : (1 + ((op - 1).toNat : Int)) = op := by omega
  simp only [e, Bool.and_eq_true, decide_eq_true_eq] at this
  exact this
theorem yf1 (f : Fn) (x : Ins) (w : List UInt8) (i : Nat) (r : Int) (c : UInt8) (hi : i < 4) (hw : w[i]? = some c) (hc : y1rp c = true) (hr : [x.d, x.a, x.b, x.c][i]? = some r) :
    y5p Q0 Q1 (.str w) (.ls 2 1 1 0 4) (.int .i64 i) (H3 f x) = if y5v (regK (lst f.regs) r) c then y5p Q0 Q1 (.str w) (.ls 2 1 1 0 4) (.int .i64 (i + 1 : Nat)) (H3 f x) else some ⟨.bool false, [], true, [], []⟩ := by
  have hn : ((i : Int) < (4 : Int)) := by omega
  have hw2 : IntKind.wrap .i64 ((i : Int) + 1) = ((i + 1 : Nat) : Int) := by rw [y2b] <;> omega
  have hs := y275 f r c (y267 hc)
  have k1 : yi 1 (.ls 2 1 1 0 4) (.int .i64 i) = some (.lp 2 1 i 0) := by simp [yi, hi, hn]
  have k2 : evLd false 1 (.lp 2 1 i 0) (H3 f x) = some (.int .i64 r) := by
    match i, hi, hr with
    | 0, _, hr => simp at hr; simp [hr]
    | 1, _, hr => simp at hr; simp [hr]
    | 2, _, hr => simp at hr; simp [hr]
    | 3, _, hr => simp at hr; simp [hr]
  have k3 := ixstr hw
  rw [yl2]
  generalize y5v (regK (lst f.regs) r) c = T at *
  simp only [yfl, yh, y2, hn, decide_true, y1f]
  generalize hZ : y5p Q0 Q1 (.str w) (.ls 2 1 1 0 4) (.int .i64 (i + 1 : Nat)) (H3 f x) = Z
  have e32 : yq9 Q0 Q1 (.str w) (.ls 2 1 1 0 4) (.int .i64 i) (H3 f x) = Z := by
    rw [← hZ]; simp only [yq9, y1q, y2, hw2]
  have e5 : evLd true 5 Q0 (H3 f x) = some (.agg (enc f)) := by simp
  simp only [yws, k1, k2, k3, e5, y2]
  cases T with
  | true => simp [hs, e32, yd]
  | false => simp [hs, yd]
set_option maxHeartbeats 1000000 in
theorem y2zo (f : Fn) (x : Ins) (hn : -9223372036854775808 ≤ x.n ∧ x.n < 9223372036854775808) (hs : x.s.length ≤ 9223372036854775807) (hl : (lst x.args).length ≤ 9223372036854775807) :
    (y8 E).p 64 [.agg (enc f), .agg (enc x)] = some ⟨.bool (oneM f x), [], true, [], []⟩ := by
  rw [y2qc]
  have hrow := y2zc x.op
  by_cases h1 : 1 ≤ x.op
  · by_cases h2 : x.op ≤ 33
    · obtain ⟨hlen, hsg⟩ := y2tp h1 h2
      rw [oneM]
      simp only [h1, h2, decide_true, Bool.true_and]
      generalize rowM x.op = w at *
      match w, hlen, hsg with
      | [c0, c1, c2, c3], _, hsg =>
        simp only [List.all_cons, List.all_nil, Bool.and_true, Bool.and_eq_true] at hsg
        have e0 : ygb (.agg (enc f)) (.agg (enc x)) [⟨0, .dead⟩, ⟨0, .dead⟩, ⟨0, .dead⟩] = y5p Q0 Q1 (.str [c0, c1, c2, c3]) (.ls 2 1 1 0 4) (.int .i64 0) (H3 f x) := by
          simp [ygb, yk3, ykq, ywe, yw5, hrow, yw, y15]
        have s0 := yf1 f x [c0, c1, c2, c3] 0 x.d c0 (by omega) rfl hsg.1 rfl
        have s1 := yf1 f x [c0, c1, c2, c3] 1 x.a c1 (by omega) rfl hsg.2.1 rfl
        have s2 := yf1 f x [c0, c1, c2, c3] 2 x.b c2 (by omega) rfl hsg.2.2.1 rfl
        have s3 := yf1 f x [c0, c1, c2, c3] 3 x.c c3 (by omega) rfl hsg.2.2.2 rfl
        simp only [Int.ofNat_zero] at s0
        have e4 : y5p Q0 Q1 (.str [c0, c1, c2, c3]) (.ls 2 1 1 0 4) (.int .i64 (3 + 1 : Nat)) (H3 f x) = some ⟨.bool (y6r f x), [], true, [], []⟩ := by
          have h25 := y2ox f x hs hl (.int .i64 x.op) rfl
          show y5p Q0 Q1 (.str [c0, c1, c2, c3]) (.ls 2 1 1 0 4) (.int .i64 4) (H3 f x) = _
          rw [yl2]
          by_cases hk0 : 0 ≤ x.n
          · by_cases hk1 : x.n < 1000
            · have hK := y25h x.n hk0 hk1
              simp [yfl, ykh, yjl, hk0, hk1, hK, yg9]
              exact h25
            · have : numK x.n = (0, 0, 0) := yhw (by omega)
              rw [this] at h25
              simp [yfl, ykh, yjl, hk0, hk1, yg9]
              exact h25
          · have : numK x.n = (0, 0, 0) := yhw (by omega)
            rw [this] at h25
            simp [yfl, ykh, yjl, hk0, yg9]
            exact h25
        rw [e0, s0]
        simp only [List.getD_cons_zero, List.getD_cons_succ]
        cases y5v (regK (lst f.regs) x.d) c0 with
        | false => simp
        | true =>
          rw [if_pos rfl, s1]
          cases y5v (regK (lst f.regs) x.a) c1 with
          | false => simp
          | true =>
            rw [if_pos rfl, s2]
            cases y5v (regK (lst f.regs) x.b) c2 with
            | false => simp
            | true =>
              rw [if_pos rfl, s3]
              cases y5v (regK (lst f.regs) x.c) c3 with
              | false => simp
              | true => rw [if_pos rfl, e4]; simp
    · have : rowM x.op = [] := by rw [rowM, if_pos (by omega)]
      rw [this] at hrow
      simp [ygb, yk3, ykq, hrow, oneM, h2]
  · have : rowM x.op = [] := by rw [rowM, if_pos (by omega)]
    rw [this] at hrow
    simp [ygb, yk3, ykq, hrow, oneM, h1]
end Go.Vm
namespace Go.Vm
theorem y1ui (n : Int) : 0 ≤ (numK n).1 ∧ 0 ≤ (numK n).2.1 ∧ 0 ≤ (numK n).2.2 ∧ (numK n).1 ≤ 2 ∧ (numK n).2.1 ≤ 2 ∧ (numK n).2.2 ≤ 2 ∧ (¬ (numK n).1 = 0 → ¬ (numK n).2.2 = 0) ∧ (¬ (numK n).2.1 = 0 → ¬ (numK n).1 = 0 ∧ ¬ (numK n).2.2 = 0) := by
  unfold numK
  repeat' split
  all_goals decide
theorem y5k {R : List Int} (hR : R.all (fun k => decide (1 ≤ k) && decide (k ≤ 3)) = true) (r : Int) : (inR R r = true ∧ (regK R r = 1 ∨ regK R r = 2 ∨ regK R r = 3)) ∨ (inR R r = false ∧ regK R r = 0) := by
  cases h : inR R r with
  | true =>
    obtain ⟨_, h1, h2⟩ := yw9 h
    rw [List.all_eq_true] at hR
    have := hR (regK R r) (List.mem_of_getElem? h2)
    simp only [Bool.and_eq_true, decide_eq_true_eq] at this
    refine .inl ⟨rfl, ?_⟩
    omega
  | false =>
    refine .inr ⟨rfl, ?_⟩
    simp only [inR, Bool.and_eq_false_iff, decide_eq_false_iff_not] at h
    unfold regK
    split
    · rfl
    · rw [List.getD_eq_getElem?_getD, List.getElem?_eq_none (by omega)]; rfl
theorem y2py {n : Int} : n = IntKind.wrap .i64 (IntKind.wrap .i32 n) ↔ -2147483648 ≤ n ∧ n < 2147483648 := by
  have h : -2147483648 ≤ IntKind.wrap .i32 n ∧ IntKind.wrap .i32 n < 2147483648 := by
    simp only [IntKind.wrap, IntKind.bits, IntKind.signed]
    simp
    omega
  rw [y2b (n := IntKind.wrap .i32 n) (by omega) (by omega)]
  constructor
  · intro e; rw [e]; exact h
  · intro e
    simp only [IntKind.wrap, IntKind.bits, IntKind.signed]
    simp
    omega
theorem ypv {R : List Int} {r : Int} : y1l R (-1) r = true := by simp [y1l]
theorem y1w5 {R : List Int} (hR : R.all (fun k => decide (1 ≤ k) && decide (k ≤ 3)) = true) (r : Int) : y1l R 0 r = decide (0 < regK R r) := by
  rcases y5k hR r with ⟨h1, h2⟩ | ⟨h1, h2⟩
  · simp [y1l, h1]; omega
  · simp [y1l, h1, h2]
theorem yda {R : List Int} (hR : R.all (fun k => decide (1 ≤ k) && decide (k ≤ 3)) = true) (r k : Int) (hk : 0 < k) : y1l R k r = decide (regK R r = k) := by
  have a1 : ¬ k < 0 := by omega
  have a2 : ¬ k ≤ 0 := by omega
  rcases y5k hR r with ⟨h1, h2⟩ | ⟨h1, h2⟩
  · simp [y1l, h1, a1, a2]
  · have : ¬ 0 = k := by omega
    simp [y1l, h1, h2, a1, a2, this]
theorem y2al {R : List Int} (hR : R.all (fun k => decide (1 ≤ k) && decide (k ≤ 3)) = true) (l : List Int) : (l.all fun r => !decide (regK R r = 0)) = l.all (inR R) := by
  congr 1
  funext r
  rcases y5k hR r with ⟨h1, h2⟩ | ⟨h1, h2⟩
  · rw [h1]; simp; omega
  · rw [h1, h2]; rfl
theorem y2nz (f : Fn) (x : Ins) (hR : (lst f.regs).all (fun k => decide (1 ≤ k) && decide (k ≤ 3)) = true) (h : x.op = 5) : oneM f x = y1c f x := by
  have hk := y1ui x.n
  have Fm := fun r => ypv (R := lst f.regs) (r := r)
  simp only [oneM, y1c, h, yl, rowM, rowT, y5v, y5c, calls, y3f, leads, y6r, Fm]
  generalize numK x.n = k at *
  obtain ⟨a, b, d⟩ := k
  simp only at hk ⊢
  by_cases hb : b = 0
  · subst hb; simp
  · rw [yda hR x.d d (by omega), yda hR x.a a (by omega), yda hR x.b b (by omega)]
    rw [Bool.eq_iff_iff]
    simp
    omega
theorem y2rp (f : Fn) (x : Ins) (hR : (lst f.regs).all (fun k => decide (1 ≤ k) && decide (k ≤ 3)) = true) (h : x.op = 6) : oneM f x = y1c f x := by
  have hk := y1ui x.n
  have Fm := fun r => ypv (R := lst f.regs) (r := r)
  simp only [oneM, y1c, h, yl, rowM, rowT, y5v, y5c, calls, y3f, leads, y6r, Fm]
  generalize numK x.n = k at *
  obtain ⟨a, b, d⟩ := k
  simp only at hk ⊢
  by_cases ha : a = 0
  · subst ha; simp
  · rw [yda hR x.d d (by omega), yda hR x.a a (by omega)]
    rw [Bool.eq_iff_iff]
    simp
    omega
theorem yw3 (f : Fn) (x : Ins) (hR : (lst f.regs).all (fun k => decide (1 ≤ k) && decide (k ≤ 3)) = true) (h : x.op = 23 ∨ x.op = 24 ∨ x.op = 25 ∨ x.op = 26) : oneM f x = y1c f x := by
  have F0 := y1w5 hR
  have Fm := fun r => ypv (R := lst f.regs) (r := r)
  have hA := y2al hR (lst x.args)
  have kd := y5k hR x.d
  have hc : yp1 (lst f.regs) x = (!((decide (x.n < 0) && !decide (x.op = 25)) || decide (21 < (lst x.args).length) || (!decide (x.d = -1) && decide (regK (lst f.regs) x.d = 0))) && ((lst x.args).all (inR (lst f.regs)) && yhm (lst f.regs) x)) := by rw [yp1, hA]
  cases ha : lst x.args with
  | nil =>
    by_cases hd : x.d = -1 <;> rcases h with h|h|h|h <;> (rw [Bool.eq_iff_iff]; simp [oneM, y1c, h, yl, rowM, rowT, y5v, y5c, calls, y3f, leads, y6r, hc, yhm, yfw, ha, hd, F0, Fm]; try omega)
  | cons r t =>
    rw [ha] at hc
    generalize hg : (r :: t).all (inR (lst f.regs)) = A at *
    generalize hl : (r :: t).length = n at *
    by_cases hd : x.d = -1 <;> rcases h with h|h|h|h <;> (rw [Bool.eq_iff_iff]; simp [oneM, y1c, h, yl, rowM, rowT, y5v, y5c, calls, y3f, leads, y6r, hc, yhm, yfw, ha, hd, F0, Fm]; first | (simp at hl hg; omega) | (simp at hl hg; grind) | skip)
theorem ypd (f : Fn) (x : Ins) (h : x.op < 1 ∨ 33 < x.op) : oneM f x = y1c f x := by
  rw [oneM, y1c, yok h]
  rcases h with h | h
  · have : ¬ 1 ≤ x.op := by omega
    simp [this]
  · have : ¬ x.op ≤ 33 := by omega
    simp [this]
set_option maxHeartbeats 4000000 in
theorem y20c (f : Fn) (x : Ins) (hR : (lst f.regs).all (fun k => decide (1 ≤ k) && decide (k ≤ 3)) = true) : oneM f x = y1c f x := by
  have F0 := y1w5 hR
  have F1 := fun r => yda hR r 1 (by omega)
  have F3 := fun r => yda hR r 3 (by omega)
  have Fm := fun r => ypv (R := lst f.regs) (r := r)
  have hA := y2al hR (lst x.args)
  have kd := y5k hR x.d
  have ka := y5k hR x.a
  have hd : 0 < regK (lst f.regs) x.d ↔ ¬ regK (lst f.regs) x.d = 0 := by rcases kd with ⟨_, h⟩ | ⟨_, h⟩ <;> omega
  have hw := @y2py x.n
  rcases yez x.op with h|h|h|h|h|h|h|h|h|h|h|h|h|h|h|h|h|h|h|h|h|h|h|h|h|h|h|h|h|h|h|h|h|h|h
  all_goals first
    | (simp [oneM, y1c, h, yl, rowM, rowT, y5v, y5c, calls, y3f, leads, y6r, F0, F1, F3, Fm, y5l, Bool.and_assoc]; done)
    | skip
  all_goals first
    | exact y2nz f x hR h
    | exact y2rp f x hR h
    | exact ypd f x (.inl h)
    | exact ypd f x (.inr h)
    | exact yw3 f x hR (.inl h)
    | exact yw3 f x hR (.inr (.inl h))
    | exact yw3 f x hR (.inr (.inr (.inl h)))
    | exact yw3 f x hR (.inr (.inr (.inr h)))
    | (rw [Bool.eq_iff_iff]; simp [oneM, y1c, h, yl, rowM, rowT, y5v, y5c, calls, y3f, leads, y6r, F0, F1, F3, Fm, y5l]; omega)
    | (rw [Bool.eq_iff_iff]; simp [oneM, y1c, h, yl, rowM, rowT, y5v, y5c, calls, y3f, leads, y6r, F0, F1, F3, Fm, y5l]; grind)
    | exact y2nz f x hR h
    | exact y2rp f x hR h
    | exact ypd f x (.inl h)
    | exact ypd f x (.inr h)
    | exact yw3 f x hR (.inl h)
    | exact yw3 f x hR (.inr (.inl h))
    | exact yw3 f x hR (.inr (.inr (.inl h)))
    | exact yw3 f x hR (.inr (.inr (.inr h)))
end Go.Vm
namespace Go.Vm
open Cel
attribute [local simp] y7 y28 yr y3p
theorem y2et (f : Fn) (o1 : AO) (n : Int) (hn : n = (lst f.code).length) (hl : (lst f.rows).length ≤ 9223372036854775807) : ∀ (d i : Nat) (o2 : AO), i + d = (lst f.rows).length →
    yfo P0 (.int .i64 n) (.int .i64 i) (HC f o1 o2) = if ((lst f.rows).drop i).all (y4p (lst f.code)) then E0 else E80 := by
  intro d
  induction d with
  | zero =>
    intro i o2 hi
    have e1 : (lst f.rows).drop i = [] := List.drop_eq_nil_of_le (by omega)
    have hn : ¬ ((i : Int) < ((lst f.rows).length : Int)) := by omega
    rw [yo1, e1]
    simp [y7b, yi2, hn]
  | succ d ih =>
    intro i o2 hi
    have hlt : i < (lst f.rows).length := by omega
    have hc : ((i : Int) < ((lst f.rows).length : Int)) := by omega
    have k1 := ygh (o := f.rows) (i := i) (List.getElem?_eq_getElem hlt) .i64
    rw [yo1]
    have e1 : ((lst f.rows).drop i).all (y4p (lst f.code)) = (y4p (lst f.code) (lst f.rows)[i] && ((lst f.rows).drop (i + 1)).all (y4p (lst f.code))) := by rw [List.drop_eq_getElem_cons hlt, List.all_cons]
    rw [e1]
    generalize hr : (lst f.rows)[i] = r at *
    have ih := fun o2 => ih (i + 1) o2 (by omega)
    push_cast at ih
    subst hn
    by_cases h1 : r.f < 0
    · simp [y7b, hc, y89, k1, y4p, h1]
    by_cases h2 : r.t ≤ r.f
    · simp [y7b, hc, y89, k1, y4p, h1, h2]
    by_cases h3 : ((lst f.code).length : Int) < r.t
    · simp [y7b, hc, y89, k1, y4p, h1, h2, h3]
    by_cases h4 : r.at_ < 0
    · have : ¬ 0 ≤ r.at_ := by omega
      simp [y7b, hc, y89, k1, y4p, h1, h2, h3, h4, y5l, this]
    by_cases h5 : ((lst f.code).length : Int) ≤ r.at_
    · have : ¬ r.at_ < ((lst f.code).length : Int) := by omega
      simp [y7b, hc, y89, k1, y4p, h1, h2, h3, h4, h5, y5l, this]
    · have hx : r.at_.toNat < (lst f.code).length := by omega
      have a1 : 0 ≤ r.at_ := by omega
      have a2 : r.at_ < ((lst f.code).length : Int) := by omega
      have k2 := y8j (o := f.code) (n := r.at_) (by omega) (List.getElem?_eq_getElem hx) .i64
      by_cases h6 : ((lst f.code)[r.at_.toNat]).op = 32
      · simp [y7b, hc, y89, k1, y4p, h1, h2, h3, h4, h5, y5l, a1, a2, k2, h6, hx, yki, y1a hlt hl, ih]
      · simp [y7b, hc, y89, k1, y4p, h1, h2, h3, h4, h5, y5l, a1, a2, k2, h6, hx]
theorem y2me (f : Fn) (o1 o2 : AO) (n : Int) (hl : (lst f.regs).length ≤ 9223372036854775807) : ∀ (d i : Nat), i + d = (lst f.regs).length →
    yc5 P0 (.int .i64 n) (.int .i64 i) (HC f o1 o2) = if ((lst f.regs).drop i).all (fun k => decide (1 ≤ k) && decide (k ≤ 3)) then ybm P0 (.int .i64 n) (HC f o1 o2) else E80 := by
  intro d
  induction d with
  | zero =>
    intro i hi
    have e1 : (lst f.regs).drop i = [] := List.drop_eq_nil_of_le (by omega)
    have hn : ¬ ((i : Int) < ((lst f.regs).length : Int)) := by omega
    rw [yka, e1]
    simp [y7q, hn]
  | succ d ih =>
    intro i hi
    have hlt : i < (lst f.regs).length := by omega
    have hc : ((i : Int) < ((lst f.regs).length : Int)) := by omega
    have k1 := y24 (o := f.regs) (i := i) (List.getElem?_eq_getElem hlt) .i64
    have e1 : ((lst f.regs).drop i).all (fun k => decide (1 ≤ k) && decide (k ≤ 3)) = ((decide (1 ≤ (lst f.regs)[i]) && decide ((lst f.regs)[i] ≤ 3)) && ((lst f.regs).drop (i + 1)).all (fun k => decide (1 ≤ k) && decide (k ≤ 3))) := by
      rw [List.drop_eq_getElem_cons hlt, List.all_cons]
    rw [yka, e1]
    generalize hr : (lst f.regs)[i] = r at *
    have ih := ih (i + 1) (by omega)
    push_cast at ih
    by_cases h1 : r < 1
    · have : ¬ 1 ≤ r := by omega
      simp [y7q, hc, y97, k1, h1, this]
    by_cases h2 : 3 < r
    · have : ¬ r ≤ 3 := by omega
      simp [y7q, hc, y97, k1, h1, h2, this]
    · have a1 : 1 ≤ r := by omega
      have a2 : r ≤ 3 := by omega
      simp [y7q, hc, y97, k1, h1, h2, a1, a2, ydp, y1a hlt hl, ih]
def parR (R : List Int) : List Int → List Int → Bool
  | _, [] => true
  | seen, p :: r => (inR R p && !seen.contains p) && parR R (seen ++ [p]) r
theorem y1z8 (f : Fn) (o1 o2 : AO) (n : Int) (hR : (lst f.regs).all (fun k => decide (1 ≤ k) && decide (k ≤ 3)) = true) (hl : (lst f.params).length ≤ 9223372036854775807) : ∀ (d i : Nat), i + d = (lst f.params).length →
    yc9 P0 (.int .i64 n) (.int .i64 i) (HC f o1 o2) = if parR (lst f.regs) ((lst f.params).take i) ((lst f.params).drop i) then ybs P0 (.int .i64 n) (HC f o1 o2) else E80 := by
  intro d
  induction d with
  | zero =>
    intro i hi
    have e1 : (lst f.params).drop i = [] := List.drop_eq_nil_of_le (by omega)
    have hn : ¬ ((i : Int) < ((lst f.params).length : Int)) := by omega
    rw [yig, e1]
    simp [y7p, hn, parR]
  | succ d ih =>
    intro i hi
    have hlt : i < (lst f.params).length := by omega
    have hc : ((i : Int) < ((lst f.params).length : Int)) := by omega
    have k1 := y24 (o := f.params) (i := i) (List.getElem?_eq_getElem hlt) .i64
    have ks := y2cs (α := Int) f.params i (by omega) .i64
    simp only [y1ft] at ks
    have hlm : lst (f.params.map (List.take i)) = (lst f.params).take i := by cases f.params <;> simp
    have e1 : parR (lst f.regs) ((lst f.params).take i) ((lst f.params).drop i) = ((inR (lst f.regs) (lst f.params)[i] && !((lst f.params).take i).contains (lst f.params)[i]) && parR (lst f.regs) ((lst f.params).take (i + 1)) ((lst f.params).drop (i + 1))) := by
      rw [List.drop_eq_getElem_cons hlt, parR, List.take_append_getElem]
    rw [yig, e1]
    have hct : (y8 E).p 42 [.int .i64 (lst f.params)[i], slA (f.params.map (List.take i))] = some ⟨.bool (((lst f.params).take i).contains (lst f.params)[i]), [], true, [], []⟩ := by
      rw [s_in _ _ (by rw [hlm, List.length_take]; omega), hlm, List.contains_eq_mem]
    generalize hr : (lst f.params)[i] = r at *
    generalize ((lst f.params).take i).contains r = B at *
    have ih := ih (i + 1) (by omega)
    push_cast at ih
    have hs := yi8 f r
    rcases y5k hR r with ⟨a1, a2⟩ | ⟨a1, a2⟩
    · have hz : ¬ regK (lst f.regs) r = 0 := by omega
      rw [a1]
      generalize regK (lst f.regs) r = k at *
      cases B with
      | true => simp [y7p, hc, y8x, k1, hs, hz, ks, hct, yd]
      | false =>
        simp [y7p, hc, y8x, k1, hs, hz, ks, hct, yd, ydg, y1a hlt hl]
        exact ih
    · rw [a2] at hs
      simp [y7p, hc, y8x, k1, hs, a1, yd]
theorem y2of (f : Fn) (o2 : AO) (n : Int) (x : Ins) (i g : Nat) (hR : (lst f.regs).all (fun k => decide (1 ≤ k) && decide (k ≤ 3)) = true) (fit : InsFit x) (hi : i < (lst f.code).length) (hl : (lst f.code).length ≤ 9223372036854775807) (hx : (lst f.code)[i]? = some x) (oc : OC) :
    y52 P0 (.int .i64 n) (.int .i64 i) (HC f ⟨g, oc⟩ o2) =
      if y1c f x && y3t (lst f.code) i x then ybd P0 (.int .i64 n) (.int .i64 i) (HC f ⟨g + 1, .arr true false 9 [enc x]⟩ o2) else E80 := by
  have k0 := y7t (o := f.code) (i := i) hx .i64
  have h1 := y2zo f x fit.n fit.s fit.a
  rw [y20c f x hR] at h1
  cases hok : y1c f x with
  | false =>
    rw [hok] at h1
    simp [y52, k0, h1]
  | true =>
    have ht := ykl (f := f) (x := x) hok
    rw [hok] at h1
    by_cases h32 : x.op = 32
    · have hld : leads 32 = false := by simp [leads]
      by_cases h0 : i = 0
      · subst h0
        simp only [Int.ofNat_zero] at k0
        simp [y52, k0, h1, h32, y3t]
      · have h0' : ¬ ((i : Int) = 0) := by omega
        have hp : i - 1 < (lst f.code).length := by omega
        have k1 := y7t (o := f.code) (i := i - 1) (List.getElem?_eq_getElem hp) .i64
        have hw : IntKind.wrap .i64 ((i : Int) - 1) = ((i - 1 : Nat) : Int) := by rw [y2b] <;> omega
        cases he : ends ((lst f.code)[i - 1]).op with
        | true => simp [y52, k0, h1, h32, y3t, h0, h0', hw, k1, hp, he, hld]
        | false => simp [y52, k0, h1, h32, y3t, h0, h0', hw, k1, hp, he]
    · cases hld : leads x.op with
      | false => simp [y52, k0, h1, h32, y3t, hld]
      | true =>
        obtain ⟨t0, t1⟩ := ht hld
        have hxt : x.t.toNat < (lst f.code).length := by omega
        have k2 := y8j (o := f.code) (n := x.t) t0 (List.getElem?_eq_getElem hxt) .i64
        by_cases h6 : ((lst f.code)[x.t.toNat]).op = 32
        · simp [y52, k0, h1, h32, y3t, hld, k2, h6, hxt]
        · simp [y52, k0, h1, h32, y3t, hld, k2, h6, hxt]
theorem y2jy (f : Fn) (o2 : AO) (n : Int) (hn : n = (lst f.code).length) (hR : (lst f.regs).all (fun k => decide (1 ≤ k) && decide (k ≤ 3)) = true) (hfit : ∀ x ∈ lst f.code, InsFit x) (hl : (lst f.code).length ≤ 9223372036854775807) : ∀ (d i : Nat) (o1 : AO), i + d = (lst f.code).length →
    ∃ o1', yfk P0 (.int .i64 n) (.int .i64 i) (HC f o1 o2) = if y4a f (lst f.code) i ((lst f.code).drop i) then ygw P0 (.int .i64 n) (HC f o1' o2) else E80 := by
  intro d
  induction d with
  | zero =>
    intro i o1 hi
    have e1 : (lst f.code).drop i = [] := List.drop_eq_nil_of_le (by omega)
    have hnl : ¬ ((i : Int) < n) := by omega
    rw [ym2, e1]
    exact ⟨o1, by simp [yat, hnl, y4a]⟩
  | succ d ih =>
    intro i o1 hi
    have hlt : i < (lst f.code).length := by omega
    have hc : ((i : Int) < n) := by omega
    have e1 : y4a f (lst f.code) i ((lst f.code).drop i) = (y1c f (lst f.code)[i] && y3t (lst f.code) i (lst f.code)[i] && y4a f (lst f.code) (i + 1) ((lst f.code).drop (i + 1))) := by
      rw [List.drop_eq_getElem_cons hlt, y4a]
    have fit := hfit _ (List.getElem_mem hlt)
    have hone := y2of f o2 n _ i o1.gen hR fit hlt hl (List.getElem?_eq_getElem hlt) o1.c
    rw [ym2, e1]
    generalize (lst f.code)[i] = x at *
    generalize (y1c f x && y3t (lst f.code) i x) = G at *
    simp only [yat, yh, y2, hc, decide_true, y1f, hone]
    cases G with
    | false => exact ⟨o1, by simp⟩
    | true =>
      obtain ⟨o1', ih⟩ := ih (i + 1) ⟨o1.gen + 1, .arr true false 9 [enc x]⟩ (by omega)
      push_cast at ih
      exact ⟨o1', by simp [ybd, y1a hlt hl, ih]⟩
theorem y03 (R : List Int) : ∀ (l : List Int) (i : Nat) (seen : List Int), i + l.length ≤ 21 → y8l R i seen l = parR R seen l
  | [], _, _, _ => rfl
  | p :: r, i, seen, h => by
    simp only [List.length_cons] at h
    have : i ≤ 20 := by omega
    rw [y8l, parR, y03 R r (i + 1) (seen ++ [p]) (by omega)]
    simp [this]
theorem y168 (R : List Int) : ∀ (l : List Int) (i : Nat) (seen : List Int), 21 < i + l.length → i ≤ 21 → y8l R i seen l = false
  | [], i, _, h, h2 => by simp at h; omega
  | p :: r, i, seen, h, h2 => by
    simp only [List.length_cons] at h
    rw [y8l]
    by_cases hi : i ≤ 20
    · rw [y168 R r (i + 1) (seen ++ [p]) (by omega) (by omega)]; simp
    · simp [hi]
set_option maxRecDepth 100000 in
set_option maxHeartbeats 1000000 in
theorem y13l (f : Fn) (hf : FnFit f) : (y8 E).p 29 [.agg (enc f)] = some ⟨.int .i64 (if wf f then 0 else 80), [], true, [], []⟩ := by
  rw [y2uk]
  by_cases h0 : (lst f.code).length = 0
  · have h0' : ((lst f.code).length : Int) = 0 := by omega
    have : ¬ 1 ≤ (lst f.code).length := by omega
    simp [y4n, y59, y4y, h0', wf, this]
  have h0' : ¬ ((lst f.code).length : Int) = 0 := by omega
  have hne : ¬ lst f.code = [] := fun h => h0 (by rw [h]; rfl)
  have g1 : 1 ≤ (lst f.code).length := by omega
  by_cases h2 : 20000 < (lst f.code).length
  · have h2' : (20000 : Int) < ((lst f.code).length : Int) := by omega
    have : ¬ (lst f.code).length ≤ 20000 := by omega
    simp [y4n, y59, y4y, h0', hne, h2', wf, this]
  have h2' : ¬ (20000 : Int) < ((lst f.code).length : Int) := by omega
  have g2 : (lst f.code).length ≤ 20000 := by omega
  by_cases h3 : 20000 < (lst f.regs).length
  · have h3' : (20000 : Int) < ((lst f.regs).length : Int) := by omega
    have : ¬ (lst f.regs).length ≤ 20000 := by omega
    simp [y4n, y59, y4y, h0', hne, h2', h3', wf, this]
  have h3' : ¬ (20000 : Int) < ((lst f.regs).length : Int) := by omega
  have g3 : (lst f.regs).length ≤ 20000 := by omega
  by_cases hp : 21 < (lst f.params).length
  · have hp' : (21 : Int) < ((lst f.params).length : Int) := by omega
    have := y168 (lst f.regs) (lst f.params) 0 [] (by omega) (by omega)
    simp [y4n, y59, y4y, h0', hne, h2', h3', hp', wf, this]
  have hp' : ¬ (21 : Int) < ((lst f.params).length : Int) := by omega
  by_cases h4 : f.ret < 0
  · have : ¬ 0 ≤ f.ret := by omega
    simp [y4n, y59, y4y, h0', hne, h2', h3', hp', h4, wf, this]
  have g4 : 0 ≤ f.ret := by omega
  by_cases h5 : 3 < f.ret
  · have : ¬ f.ret ≤ 3 := by omega
    simp [y4n, y59, y4y, h0', hne, h2', h3', hp', h4, h5, wf, this]
  have g5 : f.ret ≤ 3 := by omega
  have hpl : (lst f.code).length - 1 < (lst f.code).length := by omega
  have k1 := y7t (o := f.code) (i := (lst f.code).length - 1) (List.getElem?_eq_getElem hpl) .i64
  have hw : IntKind.wrap .i64 (((lst f.code).length : Int) - 1) = (((lst f.code).length - 1 : Nat) : Int) := by rw [y2b] <;> omega
  have hg : (lst f.code).getD ((lst f.code).length - 1) default = (lst f.code)[(lst f.code).length - 1] := by rw [List.getD_eq_getElem?_getD, List.getElem?_eq_getElem hpl]; rfl
  cases he : ends ((lst f.code)[(lst f.code).length - 1]).op with
  | false =>
    have hwf : wf f = false := by rw [wf, hg, he]; simp
    rw [hwf]
    simp [y4n, y59, y4y, h0', hne, h2', h3', hp', h4, h5, hw, k1, he]
  | true =>
    have hps := y03 (lst f.regs) (lst f.params) 0 [] (by omega)
    have hwf : wf f = ((lst f.regs).all (fun k => decide (1 ≤ k) && decide (k ≤ 3)) && parR (lst f.regs) [] (lst f.params) && y4a f (lst f.code) 0 (lst f.code) && (lst f.rows).all (y4p (lst f.code))) := by
      rw [wf, hg, he, hps]
      simp only [g1, g2, g3, g4, g5, decide_true, Bool.true_and]
    have e : y4n (.agg (enc f)) [⟨0, .dead⟩, ⟨0, .dead⟩, ⟨0, .dead⟩] = yc5 P0 (.int .i64 (lst f.code).length) (.int .i64 0) (HC f ⟨0, .dead⟩ ⟨0, .dead⟩) := by
      simp [y4n, y59, y4y, h0', hne, h2', h3', hp', h4, h5, hw, k1, he, yi2, yki, y89, y7b, ygw, ybd, y52, yat, ybs, ydg, y8x, y7p, ybm, ydp, y97, y7q, yfu, y4y, y59, y4n]
    have a1 := y2me f ⟨0, .dead⟩ ⟨0, .dead⟩ (lst f.code).length hf.regs _ 0 (Nat.zero_add _)
    simp only [Int.ofNat_zero, List.drop_zero] at a1
    rw [e, a1, hwf]
    cases hR : (lst f.regs).all (fun k => decide (1 ≤ k) && decide (k ≤ 3)) with
    | false => simp
    | true =>
      have a2 := y1z8 f ⟨0, .dead⟩ ⟨0, .dead⟩ (lst f.code).length hR hf.params _ 0 (Nat.zero_add _)
      obtain ⟨o1', a3⟩ := y2jy f ⟨0, .dead⟩ _ rfl hR hf.ins hf.code _ 0 ⟨0, .dead⟩ (Nat.zero_add _)
      have a4 := y2et f o1' _ rfl hf.rows _ 0 ⟨0, .dead⟩ (Nat.zero_add _)
      simp only [Int.ofNat_zero, List.drop_zero, List.take_zero] at a2 a3 a4
      have e2 : ybm P0 (.int .i64 (lst f.code).length) (HC f ⟨0, .dead⟩ ⟨0, .dead⟩) = yc9 P0 (.int .i64 (lst f.code).length) (.int .i64 0) (HC f ⟨0, .dead⟩ ⟨0, .dead⟩) := by simp [yi2, yki, y89, y7b, ygw, ybd, y52, yat, ybs, ydg, y8x, y7p, ybm, ydp, y97, y7q, yfu, y4y, y59, y4n]
      have e3 : ybs P0 (.int .i64 (lst f.code).length) (HC f ⟨0, .dead⟩ ⟨0, .dead⟩) = yfk P0 (.int .i64 (lst f.code).length) (.int .i64 0) (HC f ⟨0, .dead⟩ ⟨0, .dead⟩) := by simp [yi2, yki, y89, y7b, ygw, ybd, y52, yat, ybs, ydg, y8x, y7p, ybm, ydp, y97, y7q, yfu, y4y, y59, y4n]
      have e4 : ygw P0 (.int .i64 (lst f.code).length) (HC f o1' ⟨0, .dead⟩) = yfo P0 (.int .i64 (lst f.code).length) (.int .i64 0) (HC f o1' ⟨0, .dead⟩) := by simp [yi2, yki, y89, y7b, ygw, ybd, y52, yat, ybs, ydg, y8x, y7p, ybm, ydp, y97, y7q, yfu, y4y, y59, y4n]
      rw [e2, a2, e3, a3, e4, a4]
      generalize parR (lst f.regs) [] (lst f.params) = b2
      generalize y4a f (lst f.code) 0 (lst f.code) = b3
      generalize (lst f.rows).all (y4p (lst f.code)) = b4
      cases b2 <;> cases b3 <;> cases b4 <;> rfl
end Go.Vm
namespace Go.Vm
structure PassOk (f g : Fn) : Prop where
  swap : Swap f g
  mem : ∀ y ∈ lst g.code, ∃ x ∈ lst f.code, y.n = x.n ∧ y.s = x.s ∧ (lst y.args).length = (lst x.args).length
  wf : Go.Vm.wf f = true → Go.Vm.wf g = true
  set : Go.Vm.wf f = true → setM f = true → setM g = true
theorem y2mo {f : Fn} (w : Wf f) {T : FTab} (v : InvF f (T, [])) : PassOk f (carF f T) :=
  ⟨y86 f T, fun y hy => y24f hy, y1p3 w v, y24h w v⟩
theorem PassOk.fit {f g : Fn} (k : PassOk f g) (hf : FnFit f) : FnFit g := by
  refine ⟨fun y hy => ?_, by rw [k.swap.len]; exact hf.code, by rw [k.swap.regs]; exact hf.regs, by rw [k.swap.params]; exact hf.params, by rw [k.swap.rows]; exact hf.rows⟩
  obtain ⟨x, hx, e1, e2, e3⟩ := k.mem y hy
  have := hf.ins x hx
  exact ⟨by rw [e1]; exact this.n, by rw [e2]; exact this.s, by rw [e3]; exact this.a⟩
theorem PassOk.args {f g : Fn} (k : PassOk f g) (hx : y121 f) : y121 g := fun y hy => by
  obtain ⟨x, hx2, _, _, e3⟩ := k.mem y hy
  rw [e3]; exact hx x hx2
end Go.Vm
namespace Go.Vm
@[simp] theorem y2lc : (y8 E).p 148 [] = some ⟨.bool true, [], true, [], []⟩ := y14r 80 (by kernel_rfl)
end Go.Vm
namespace Go.Vm
open Cel
theorem ylp (f : Fn) (hf : FnIn f) : (y8 E).p 147 [.agg (enc f)] = some ⟨.bool true, [], true, [], []⟩ := by
  rw [y2y7]
  have n0 : newC 0 (some 0) (cellsOf (.agg (enc f))) [⟨0, .dead⟩, ⟨0, .dead⟩] = some (.lp 0 1 0 0, [AB f, D0]) := by simp
  have l0 : ∀ t : Heap, evLd true 5 (.lp 0 1 0 0) (AB f :: t) = some (.agg (enc f)) := fun t => by simp
  have l3 : ∀ t : Heap, evLd false 1 (.lp 0 1 0 3) (AB f :: t) = some (slA f.code) := fun t => by simp
  have l4 : ∀ t : Heap, evLd false 1 (.lp 0 1 0 4) (AB f :: t) = some (slA f.rows) := fun t => by simp
  have lr : ∀ t : Heap, evLd false 1 (.lp 0 1 0 0) (AB f :: t) = some (slA f.regs) := fun t => by simp
  have ch : ∀ H : Heap, y7 E (y8 E) 0 none true 148 [] H = some (.bool true, H) := fun H => y27 (fa := ⟨[], true, []⟩) rfl rfl rfl y2lc ⟨_, rfl, rfl⟩
  by_cases h1 : (400 : Int) < ((lst f.code).length : Int)
  · simp only [yx2, n0, yf, y1dt, ch, y2d, Bool.not_true, y2, y1p, y1bu, y4m, Nat.zero_add, l3, y33, y3c, h1, decide_true, ylt, y2a, y1f, y25]
  by_cases h2 : (100 : Int) < ((lst f.regs).length : Int)
  · simp only [yx2, n0, yf, y1dt, ch, y2d, Bool.not_true, y2, y1p, y1bu, y4m, Nat.zero_add, l3, lr, y33, y3c, h1, h2, decide_true, decide_false, ycn, ylt, y2p, y2a, y1f, y25]
  by_cases h3 : (50 : Int) < ((lst f.rows).length : Int)
  · simp only [yx2, n0, yf, y1dt, ch, y2d, Bool.not_true, y2, y1p, y1bu, y4m, Nat.zero_add, l3, lr, l4, y33, y3c, h1, h2, h3, decide_true, decide_false, ycn, y2p, y2a, y1f, y25]
  have hfit := hf.fit3
  have hsm := hf.sm (by omega) (by omega)
  have hck := y13l f hfit
  have c29 : ∀ H, y7 E (y8 E) 0 none true 29 [.agg (enc f)] H = some (.int .i64 (if wf f then 0 else 80), H) := fun H => y27 rfl (fz_f f H) rfl hck ⟨_, rfl, rfl⟩
  obtain ⟨d1, d2⟩ := y2if f hfit hsm (by omega) hsm.args
  have e0 : yx2 (.agg (enc f)) [⟨0, .dead⟩, ⟨0, .dead⟩] = y1ig (.lp 0 1 0 0) [AB f, D0] := by
    simp only [yx2, n0, yf, y1dt, ch, y2d, Bool.not_true, y2, y1p, y1bu, y4m, Nat.zero_add, l3, lr, l4, y33, y3c, h1, h2, h3, decide_false, ycn, y2p]
  have n1 : newC 0 (some 1) [.nils, .nils, .int .i64 0, .nils, .nils] [AB f, D0] = some (.lp 1 1 0 0, [AB f, ⟨1, .arr true false 5 [[.nils, .nils, .int .i64 0, .nils, .nils]]⟩]) := by simp
  have s1 : ∀ g : Fn, evSt 5 (.lp 1 1 0 0) (.agg (enc g)) [AB f, ⟨1, .arr true false 5 [[.nils, .nils, .int .i64 0, .nils, .nils]]⟩] = some (.tup [], [AB f, AFn g]) := fun g => by simp [y5n, y13]
  have lg : ∀ g : Fn, evLd true 5 (.lp 1 1 0 0) [AB f, AFn g] = some (.agg (enc g)) := fun g => by simp
  have lg3 : ∀ g : Fn, evLd false 1 (.lp 1 1 0 3) [AB f, AFn g] = some (slA g.code) := fun g => by simp
  have e2 : ∀ g : Fn, (y8 E).p 149 [.agg (enc f)] = some (y2n g) → y1ig (.lp 0 1 0 0) [AB f, D0] = y1e0 (.lp 0 1 0 0) (.lp 1 1 0 0) [AB f, AFn g] := fun g hg => by
    have c1 : ∀ H, y7 E (y8 E) 0 none true 149 [.agg (enc f)] H = some (.agg (enc g), H) := fun H => y27 rfl (fz_f f H) rfl hg (y1bf g)
    simp only [y1ig, l0, y2, c1, yf, n1, s1]
  rw [e0]
  cases hw : wf f with
  | false =>
    rw [hw] at c29
    rw [e2 f (d1 hw)]
    have hS := y2oq f f ⟨by have := hsm.regs; omega, by have := hsm.params; omega, by omega, by omega, fun x hx => by have := hsm.args x hx; omega⟩
    rw [yx7] at hS
    have cS : ∀ H, y7 E (y8 E) 0 none true 14 [.agg (enc f), .agg (enc f)] H = some (.bool true, H) := fun H => y27 rfl (y2xr f f H) rfl hS ⟨_, rfl, rfl⟩
    simp only [y1e0, l0, y2, c29, Bool.false_eq_true, if_false, yf, y3y, show decide ((80 : Int) ≠ 0) = true from rfl, y1f, lg, cS, y25]
  | true =>
    rw [hw] at c29
    obtain ⟨T, v, hg⟩ := d2 hw
    have k := y2mo (y1uk hw) v
    have kwf := k.wf hw
    generalize carF f T = g at *
    rw [e2 g hg]
    have w := y1uk hw
    have hp := yt4 w.pars
    have hpl : (lst f.params).length ≤ 21 := by
      rcases hp with h | h
      · rw [h]; simp
      · omega
    have hckg := y13l g (k.fit hfit)
    rw [kwf] at hckg
    have cg : ∀ H, y7 E (y8 E) 0 none true 29 [.agg (enc g)] H = some (.int .i64 0, H) := fun H => y27 rfl (fz_f g H) rfl hckg ⟨_, rfl, rfl⟩
    have hSf := y2ot f hfit hsm.args (by omega) (by omega)
    have hSg := y2ot g (k.fit hfit) (k.args hsm.args) (by rw [k.swap.rows]; omega) (by rw [k.swap.params]; omega)
    have cSf : ∀ H, y7 E (y8 E) 0 none true 77 [.agg (enc f)] H = some (.bool (setM f), H) := fun H => y27 rfl (fz_f f H) rfl hSf ⟨_, rfl, rfl⟩
    have cSg : ∀ H, y7 E (y8 E) 0 none true 77 [.agg (enc g)] H = some (.bool (setM g), H) := fun H => y27 rfl (fz_f g H) rfl hSg ⟨_, rfl, rfl⟩
    have hlen := k.swap.len
    cases hs : setM f with
    | true =>
      rw [hs] at cSf
      rw [k.set hw hs] at cSg
      simp only [y1e0, l0, y2, c29, if_true, yf, y3y, show decide ((0 : Int) ≠ 0) = false from rfl, y1p, y241, lg, cg, y2k, decide_true, ycm, y2jc, y4m, Nat.zero_add, lg3, l3, y33, hlen, y2a, cSf, y2d, Bool.not_true, ycn, y2zn, cSg, y2p, y25]
    | false =>
      rw [hs] at cSf
      simp only [y1e0, l0, y2, c29, if_true, yf, y3y, show decide ((0 : Int) ≠ 0) = false from rfl, y1p, y241, lg, cg, y2k, decide_true, ycm, y2jc, y4m, Nat.zero_add, lg3, l3, y33, hlen, y2a, cSf, y2d, Bool.not_false, ylt, y2wf, y25]
end Go.Vm
