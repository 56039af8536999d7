/- The document's answers for single operations. The document's answers for names and types: the program's own. The document's answer whether a call, an instruction is well formed. The document's answer whether an instruction is well formed. The document's answer whether an instruction is well formed, whole. The document's answer for an instruction is the program's. The document's answer whether a function is well formed: the program's own. What a function that is handed in is fit for, for a check. The pass 'dead' as laws see it. Chapter 16's anchor. The document's answer whether an operation is a call. The document's answer which registers an instruction reads, and which one it writes. The document's Next, Caught. The document's searches: where they go on, what they look for. Is a number in a list? (chapter 13) -/
import Derived.Test.YtgbajicpokolcaaBX
import Derived.Test.YtgbajicpokolcaaBTd
set_option linter.unusedSimpArgs false
set_option linter.unusedVariables false
set_option linter.unusedSectionVars false
namespace Go.Vm
open Cel
attribute [local simp] y6 y29 yl
@[simp] theorem yjx (f : Fn) (r : Int) : (y7 E).p 48 [.agg (enc f), .int .i64 r] = some ⟨.int .i64 (regK (lst f.regs) r), [], true, [], []⟩ := by
  rw [y2lr]
  by_cases h0 : r < 0
  · simp [yue, ytp, ytm, h0, regK]
  by_cases h1 : ((lst f.regs).length : Int) ≤ r
  · have : (lst f.regs)[r.toNat]? = none := List.getElem?_eq_none (by omega)
    simp [yue, ytp, ytm, h0, h1, regK, this]
  · have hin : inR (lst f.regs) r = true := by
      have a1 : 0 ≤ r := by omega
      have a2 : r < ((lst f.regs).length : Int) := by omega
      simp [inR, a1, a2]
    obtain ⟨a0, a1, a2⟩ := yx0 hin
    have k := y17z (o := f.regs) a0 a2 .i64
    simp [yue, ytp, ytm, h0, h1, k]
def y5f (k : Int) (c : UInt8) : Bool :=
  if c = 45 ∨ c = 63 then true else if c = 42 ∨ c = 61 then decide (0 < k) else if c = 110 then decide (k = 1) || decide (k = 2) else decide (k = (c.toNat : Int) - 48)
theorem y24p (f : Fn) (r : Int) (c : UInt8) (hc : c = 45 ∨ c = 63 ∨ c = 42 ∨ c = 61 ∨ c = 110 ∨ c = 49 ∨ c = 50 ∨ c = 51) :
    (y7 E).p 65 [.agg (enc f), .int .i64 r, .int .u8 c.toNat] = some ⟨.bool (y5f (regK (lst f.regs) r) c), [], true, [], []⟩ := by
  rw [y2nb]
  generalize hk : regK (lst f.regs) r = k
  have hk' := yjx f r
  rw [hk] at hk'
  rcases hc with rfl | rfl | rfl | rfl | rfl | rfl | rfl | rfl
  · simp [yc3, yaj, yc6, yai, yc7, yc4, ycb, y7c, hk', y5f]
  · simp [yc3, yaj, yc6, yai, yc7, yc4, ycb, y7c, hk', y5f]
  · simp [yc3, yaj, yc6, yai, yc7, yc4, ycb, y7c, hk', y5f]
  · simp [yc3, yaj, yc6, yai, yc7, yc4, ycb, y7c, hk', y5f]
  · by_cases h1 : k = 1 <;> simp [yc3, yaj, yc6, yai, yc7, yc4, ycb, y7c, hk', y5f, h1]
  · simp [yc3, yaj, yc6, yai, yc7, yc4, ycb, y7c, hk', y5f, IntKind.wrap, IntKind.bits, IntKind.signed]
  · simp [yc3, yaj, yc6, yai, yc7, yc4, ycb, y7c, hk', y5f, IntKind.wrap, IntKind.bits, IntKind.signed]
  · simp [yc3, yaj, yc6, yai, yc7, yc4, ycb, y7c, hk', y5f, IntKind.wrap, IntKind.bits, IntKind.signed]
@[simp] theorem y2cu (f : Fn) (i : Int) : (y7 E).p 49 [.agg (enc f), .int .i64 i] = some ⟨.bool (y51 (lst f.code).length i), [], true, [], []⟩ := by
  rw [y2ic]
  by_cases h0 : 0 ≤ i <;> simp [y1xt, h0, y51]
end Go.Vm
namespace Go.Vm
open Cel
attribute [local simp] y6 y29 yl
def mayB : List UInt8 := [97, 98, 99, 100, 101, 102, 103, 104, 105, 106, 107, 108, 109, 110, 111, 112, 113, 114, 115, 116, 117, 118, 119, 120, 121, 122, 65, 66, 67, 68, 69, 70, 71, 72, 73, 74, 75, 76, 77, 78, 79, 80, 81, 82, 83, 84, 85, 86, 87, 88, 89, 90, 48, 49, 50, 51, 52, 53, 54, 55, 56, 57, 95, 36, 47]
theorem y2me : ((List.range 256).all fun n => mayB.contains (UInt8.ofNat n) == okB (UInt8.ofNat n)) = true := by kernel_rfl
theorem y2jj (c : UInt8) : mayB.contains c = okB c := by
  have := yax y2me c.toNat c.toNat_lt
  rw [UInt8.ofNat_toNat] at this
  exact eq_of_beq this
@[simp] theorem y2sk : E.pure 53 = true := rfl
theorem y2ro (s : List UInt8) (c : UInt8) : (y7 E).p 53 [.str s, .str [c]] = some ⟨.bool (s.contains c), [], true, [], []⟩ := by
  rw [yl8, y6c, show E.fn 53 = none by kernel_rfl]
  rfl
theorem y1bw (s : List UInt8) (hs : s.length ≤ 9223372036854775807) (h : Heap) : ∀ (d i : Nat), i + d = s.length →
    yf4 (.str s) (.str mayB) (.int .i64 i) h = if (s.drop i).all okB then yhd (.str s) h else some ⟨.bool false, [], true, [], []⟩ := by
  intro d
  induction d with
  | zero =>
    intro i hi
    have e1 : s.drop i = [] := List.drop_eq_nil_of_le (by omega)
    have hc : ¬ ((i : Int) < (s.length : Int)) := by omega
    rw [ymz, e1]
    simp [ytr, hc]
  | succ d ih =>
    intro i hi
    have hlt : i < s.length := by omega
    have hc : ((i : Int) < (s.length : Int)) := by omega
    have ih := ih (i + 1) (by omega)
    push_cast at ih
    have e1 : (s.drop i).all okB = (okB s[i] && (s.drop (i + 1)).all okB) := by rw [List.drop_eq_getElem_cons hlt, List.all_cons]
    have hsl : yef (.str s) (some (.int .i64 (i : Int))) (some (.int .i64 ((i : Int) + 1))) = some (.str [s[i]]) := by
      have a1 : ((0 : Int) ≤ (i : Int) + 1 ∧ (i : Int) + 1 ≤ (s.length : Int)) := by omega
      have a2 : ((0 : Int) ≤ (i : Int) ∧ (i : Int) ≤ (((i : Int) + 1).toNat : Int)) := by omega
      simp only [yef, y98, yhq, if_pos a1, if_pos a2]
      have e2 : ((i : Int) + 1).toNat = i + 1 := by omega
      rw [e2, Int.toNat_natCast, List.drop_take, show i + 1 - i = 1 by omega, List.drop_eq_getElem_cons hlt]
      rfl
    have hm := y2ro mayB s[i]
    rw [y2jj] at hm
    rw [ymz, e1]
    simp only [ytr, y4s, y9, yj, hc, decide_true, y2i]
    cases hb : okB s[i] with
    | true =>
      rw [hb] at hm
      simp [yv9, y1f hlt hs, hsl, hm, y146, ih]
    | false =>
      rw [hb] at hm
      simp [yv9, y1f hlt hs, hsl, hm]
@[simp] theorem y2gs (s : List UInt8) (hs : s.length ≤ 9223372036854775807) : (y7 E).p 69 [.str s, .bool false] = some ⟨.bool (y7r s), [], true, [], []⟩ := by
  have h0 := y1bw s hs [] _ 0 (Nat.zero_add _)
  simp only [Int.ofNat_zero, List.drop_zero] at h0
  rw [y2ln]
  have e : ypd (.str s) (.bool false) [] = yf4 (.str s) (.str mayB) (.int .i64 0) [] := by simp [yhd, y146, yv9, ytr, yz2, y1gt, yvs, ypd]; rfl
  rw [e, h0, y7r]
  cases hal : s.all okB with
  | false => simp
  | true =>
    by_cases h1 : s = []
    · subst h1; simp [yhd]
    · have h2 : 1 ≤ s.length := by have := List.length_pos_iff.2 h1; omega
      by_cases h3 : s.length ≤ 60
      · have : ((s.length : Int) ≤ 60) := by omega
        simp [yhd, h1, h2, h3, this]
      · have : ¬ ((s.length : Int) ≤ 60) := by omega
        simp [yhd, h1, h2, h3, this]
def yh3 (s : List UInt8) : Bool :=
  decide (lead s ≤ 8) && (decide (s.drop (lead s) = [73]) || decide (s.drop (lead s) = [74]) ||
    (decide (2 < (s.drop (lead s)).length) && decide ((s.drop (lead s))[0]? = some 76) && decide ((s.drop (lead s))[(s.drop (lead s)).length - 1]? = some 59) && y7r (((s.drop (lead s)).take ((s.drop (lead s)).length - 1)).drop 1)))
theorem y1df (s : List UInt8) (hs : s.length ≤ 9223372036854775807) (h : Heap) : ∀ (d i : Nat), i + d = lead s → yfc (.str s) (.int .i64 i) h = ylz (.str s) (.int .i64 (lead s)) h := by
  intro d
  induction d with
  | zero =>
    intro i hi
    obtain rfl : i = lead s := by omega
    rw [ylp]
    have := yaa s
    by_cases hc : lead s < s.length
    · have e := List.getElem?_eq_getElem hc
      have hne := ywz e
      have hc' : ((lead s : Int) < (s.length : Int)) := by omega
      have hb : ¬ ((s[lead s].toNat : Int) = 91) := fun hh => hne ((y5m _ 91).1 hh)
      simp [ync, hc', ixstr e, hb]
    · have hc' : ¬ ((lead s : Int) < (s.length : Int)) := by omega
      simp [ync, hc']
  | succ d ih =>
    intro i hi
    have e := yvz (s := s) (i := i) (by omega)
    have := yaa s
    have hc' : ((i : Int) < (s.length : Int)) := by omega
    have ih := ih (i + 1) (by omega)
    push_cast at ih
    rw [ylp]
    simp [ync, hc', ixstr e, y15c, y1f (show i < s.length by omega) hs, ih]
theorem y20s (s : List UInt8) (hs : s.length ≤ 9223372036854775807) : (y7 E).p 67 [.str s] = some ⟨.bool (yh3 s), [], true, [], []⟩ := by
  have h0 := y1df s hs [] _ 0 (Nat.zero_add _)
  simp only [Int.ofNat_zero] at h0
  rw [y2my]
  have e : yp9 (.str s) [] = yfc (.str s) (.int .i64 0) [] := by simp [yio, yee, ysv, ylz, y15c, ync, ywe, yp9]
  rw [e, h0, yh3]
  have hle := yaa s
  have hsl : yef (.str s) (some (.int .i64 (lead s))) none = some (.str (s.drop (lead s))) := by
    have a2 : ((0 : Int) ≤ (lead s : Int) ∧ (lead s : Int) ≤ (s.length : Int)) := by omega
    simp only [yef, y98, yhq, if_pos a2]
    simp
  by_cases h8 : 8 < lead s
  · have h8' : ((8 : Int) < (lead s : Int)) := by omega
    have : ¬ lead s ≤ 8 := by omega
    simp [ylz, hsl, ysv, h8', this]
  · have h8' : ¬ ((8 : Int) < (lead s : Int)) := by omega
    have h8n : lead s ≤ 8 := by omega
    have hrl : (s.drop (lead s)).length ≤ 9223372036854775807 := by rw [List.length_drop]; omega
    simp only [ylz, hsl, y9, ysv, yjn, h8', decide_false, y39, h8n, decide_true, Bool.true_and]
    generalize s.drop (lead s) = r at *
    by_cases c1 : r = [73]
    · simp [yee, c1]
    by_cases c2 : r = [74]
    · simp [yee, c2]
    by_cases c3 : 2 < r.length
    · have c3' : ((2 : Int) < (r.length : Int)) := by omega
      have k0 := List.getElem?_eq_getElem (l := r) (i := 0) (by omega)
      have k1 := List.getElem?_eq_getElem (l := r) (i := r.length - 1) (by omega)
      have i0 := ixstr k0
      have i1 := ixstr k1
      simp only [Int.ofNat_zero] at i0
      have hw : IntKind.wrap .i64 ((r.length : Int) - 1) = ((r.length - 1 : Nat) : Int) := by rw [y2a] <;> omega
      have hs2 : yef (.str r) (some (.int .i64 1)) (some (.int .i64 ((r.length - 1 : Nat) : Int))) = some (.str ((r.take (r.length - 1)).drop 1)) := by
        have a1 : ((0 : Int) ≤ ((r.length - 1 : Nat) : Int) ∧ ((r.length - 1 : Nat) : Int) ≤ (r.length : Int)) := by omega
        have a2 : ((0 : Int) ≤ (1 : Int) ∧ (1 : Int) ≤ (((r.length - 1 : Nat) : Int).toNat : Int)) := by omega
        simp only [yef, y98, yhq, if_pos a1, if_pos a2]
        rfl
      have hn := y2gs ((r.take (r.length - 1)).drop 1) (by rw [List.length_drop, List.length_take]; omega)
      rw [k0, k1]
      generalize r[0] = b0 at *
      generalize r[r.length - 1] = b1 at *
      generalize y7r ((r.take (r.length - 1)).drop 1) = N at *
      have hn' := hn
      simp only [List.drop_one] at hn'
      by_cases d0 : b0 = 76
      · by_cases d1 : b1 = 59
        · simp [yee, yio, c1, c2, c3, c3', i0, i1, hw, hs2, hn', d0, d1]
        · have d1' : ¬ ((b1.toNat : Int) = 59) := fun hh => d1 ((y5m _ 59).1 hh)
          simp [yee, yio, c1, c2, c3, c3', i0, i1, hw, d0, d1, d1']
      · have d0' : ¬ ((b0.toNat : Int) = 76) := fun hh => d0 ((y5m _ 76).1 hh)
        simp [yee, yio, c1, c2, c3, c3', i0, d0, d0']
    · have c3' : ¬ ((2 : Int) < (r.length : Int)) := by omega
      simp [yee, yio, c1, c2, c3, c3']
theorem yve {l : List UInt8} (h : y7r l = true) : 59 ∉ l ∧ 1 ≤ l.length := by
  simp only [y7r, Bool.and_eq_true, decide_eq_true_eq, List.all_eq_true] at h
  refine ⟨fun hm => ?_, h.1.1⟩
  have := h.2 59 hm
  exact absurd this (by decide)
theorem y1fv (s : List UInt8) : yh3 s = y7k s := by
  rw [Bool.eq_iff_iff]
  simp only [yh3, y7k, Bool.and_eq_true, Bool.or_eq_true, decide_eq_true_eq]
  have hle := yaa s
  have hdl : (s.drop (lead s)).length = s.length - lead s := List.length_drop
  by_cases hne : s = []
  · subst hne; simp [lead, yqv]
  have hpos : 0 < s.length := List.length_pos_iff.2 hne
  simp only [hne, not_false_eq_true, true_and, ne_eq]
  unfold yqv
  by_cases h8 : 8 < lead s
  · rw [if_pos (.inl h8)]
    constructor
    · rintro ⟨h, _⟩; omega
    · intro h; omega
  by_cases hl : lead s = s.length
  · rw [if_pos (.inr hl)]
    have : s.drop (lead s) = [] := List.drop_eq_nil_of_le (by omega)
    rw [this]
    constructor
    · rintro ⟨_, h⟩; simp at h
    · intro h; omega
  rw [if_neg (by omega)]
  have hlt : lead s < s.length := by omega
  have hd : s.drop (lead s) = s[lead s] :: s.drop (lead s + 1) := List.drop_eq_getElem_cons hlt
  have h8n : lead s ≤ 8 := by omega
  rw [List.getElem?_eq_getElem hlt]
  have hrl : (s.drop (lead s + 1)).length = s.length - (lead s + 1) := List.length_drop
  have htk : ∀ j, (s.take (lead s + 1 + j)).drop (lead s + 1) = (s.drop (lead s + 1)).take j := by
    intro j; rw [List.drop_take]; congr 1; omega
  simp only [htk]
  rw [hd]
  generalize s[lead s] = c at *
  generalize hr : s.drop (lead s + 1) = r at *
  simp only [h8n, true_and, Option.some.injEq, List.cons.injEq, List.length_cons, List.getElem?_cons_zero, Nat.add_sub_cancel]
  by_cases c1 : c = 73
  · subst c1
    simp only [true_or, if_true, true_and]
    have e1 : (s.length = lead s + 1) ↔ r = [] := by rw [← List.length_eq_zero_iff, hrl]; omega
    constructor
    · rintro (h | h)
      · rcases h with h | h
        · exact (e1.2 h).symm
        · exact absurd h.1 (by decide)
      · exact absurd h.1.1.2 (by decide)
    · intro h; exact .inl (.inl (e1.1 h.symm))
  by_cases c2 : c = 74
  · subst c2
    simp only [or_true, if_true, true_and]
    have e1 : (s.length = lead s + 1) ↔ r = [] := by rw [← List.length_eq_zero_iff, hrl]; omega
    constructor
    · rintro (h | h)
      · rcases h with h | h
        · exact absurd h.1 (by decide)
        · exact (e1.2 h).symm
      · exact absurd h.1.1.2 (by decide)
    · intro h; exact .inl (.inr (e1.1 h.symm))
  simp only [c1, c2, or_self, if_false, false_and, false_or]
  by_cases c3 : c = 76
  · subst c3
    simp only [if_true, true_and, and_true]
    have idx : ∀ j, j < r.length → r[j]? = some 59 → 59 ∉ r.take j → r.findIdx (· == 59) = j := by
      intro j hj h1 h2
      rw [List.getElem?_eq_getElem hj] at h1
      rw [List.findIdx_eq hj]
      refine ⟨by simpa using h1, fun k hk => ?_⟩
      have : r[k]'(by omega) ∈ r.take j := List.mem_take_iff_getElem.2 ⟨k, by omega, rfl⟩
      simp only [beq_eq_false_iff_ne, ne_eq]
      intro he
      rw [he] at this
      exact h2 this
    constructor
    · rintro ⟨⟨h1, h2⟩, h3⟩
      have e0 : (76 :: r : List UInt8)[r.length]? = r[r.length - 1]? := by
        rw [show r.length = (r.length - 1) + 1 by omega]; simp
      rw [e0] at h2
      have e1 : ((76 :: r : List UInt8).take r.length).drop 1 = r.take (r.length - 1) := by
        rw [show r.length = (r.length - 1) + 1 by omega]; simp
      rw [e1] at h3
      have := idx (r.length - 1) (by omega) h2 (yve h3).1
      rw [this, if_pos ⟨by omega, h3⟩]
      omega
    · intro h
      split at h
      · rename_i hc
        have hj : r.findIdx (· == 59) = r.length - 1 := by omega
        have hn := yve hc.2
        have hlen := hn.2
        rw [List.length_take, hj] at hlen
        have h59 : r[r.length - 1]? = some 59 := by
          have := List.findIdx_getElem (w := hc.1)
          rw [List.getElem?_eq_getElem (by omega)]
          simp only [hj] at this
          simpa using this
        rw [hj] at hc
        refine ⟨⟨by omega, ?_⟩, ?_⟩
        · rw [show r.length = (r.length - 1) + 1 by omega]; simpa using h59
        · have e1 : ((76 :: r : List UInt8).take r.length).drop 1 = r.take (r.length - 1) := by
            rw [show r.length = (r.length - 1) + 1 by omega]; simp
          rw [e1]; exact hc.2
      · omega
  · simp only [c3, if_false, and_false, false_and]
    constructor
    · intro h; exact h.elim
    · intro h; omega
theorem y2er (s : List UInt8) (hs : s.length ≤ 9223372036854775807) : (y7 E).p 67 [.str s] = some ⟨.bool (y7k s), [], true, [], []⟩ := by
  rw [y20s s hs, y1fv]
end Go.Vm
namespace Go.Vm
open Cel
attribute [local simp] y6 y29 yl y3i
abbrev H2 (f : Fn) (x : Ins) : Heap := [⟨1, .arr true false 5 [enc f]⟩, ⟨1, .arr true false 9 [enc x]⟩]
abbrev H3 (f : Fn) (x : Ins) : Heap := [⟨1, .arr true false 5 [enc f]⟩, ⟨1, .arr true false 9 [enc x]⟩, ⟨1, .arr false false 1 [[.int .i64 x.d], [.int .i64 x.a], [.int .i64 x.b], [.int .i64 x.c]]⟩]
abbrev Q0 : AV := .lp 0 1 0 0
abbrev Q1 : AV := .lp 1 1 0 0
def ygl (R : List Int) (x : Ins) : Bool :=
  (!decide (x.op = 24) && !decide (x.op = 25)) || (match lst x.args with
    | [] => false
    | r :: _ => decide (regK R r = 3))
def ypo (R : List Int) (x : Ins) : Bool :=
  !((decide (x.n < 0) && !decide (x.op = 25)) || decide (21 < (lst x.args).length) || (!decide (x.d = -1) && decide (regK R x.d = 0))) && ((lst x.args).all (fun r => !decide (regK R r = 0)) && ygl R x)
theorem y1or (f : Fn) (x : Ins) : y5j Q0 Q1 (H2 f x) = some ⟨.bool (ygl (lst f.regs) x), [], true, [], []⟩ := by
  by_cases o1 : x.op = 24
  · cases ha : lst x.args with
    | nil => simp [y5j, o1, ygl, ha, yf]
    | cons r t =>
      have k1 := y3n (o := x.args) (i := 0) (x := r) (by rw [ha]; rfl) .i64
      simp only [Int.ofNat_zero] at k1
      simp [y5j, o1, ygl, ha, k1, yf]
  · by_cases o2 : x.op = 25
    · cases ha : lst x.args with
      | nil => simp [y5j, o2, ygl, ha, yf]
      | cons r t =>
        have k1 := y3n (o := x.args) (i := 0) (x := r) (by rw [ha]; rfl) .i64
        simp only [Int.ofNat_zero] at k1
        simp [y5j, o2, ygl, ha, k1, yf]
    · simp [y5j, o1, o2, ygl, yf]
theorem y1ha (f : Fn) (x : Ins) (hl : (lst x.args).length ≤ 9223372036854775807) : ∀ (d i : Nat), i + d = (lst x.args).length →
    yhf Q0 Q1 (.int .i64 i) (H2 f x) = some ⟨.bool (((lst x.args).drop i).all (fun r => !decide (regK (lst f.regs) r = 0)) && ygl (lst f.regs) x), [], true, [], []⟩ := by
  intro d
  induction d with
  | zero =>
    intro i hi
    have e1 : (lst x.args).drop i = [] := List.drop_eq_nil_of_le (by omega)
    have hn : ¬ ((i : Int) < ((lst x.args).length : Int)) := by omega
    rw [ynh, e1]
    simp [y72, hn, y1or]
  | succ d ih =>
    intro i hi
    have hlt : i < (lst x.args).length := by omega
    have hn : ((i : Int) < ((lst x.args).length : Int)) := by omega
    have k1 := y3n (o := x.args) (i := i) (List.getElem?_eq_getElem hlt) .i64
    have e1 : ((lst x.args).drop i).all (fun r => !decide (regK (lst f.regs) r = 0)) = ((!decide (regK (lst f.regs) (lst x.args)[i] = 0)) && ((lst x.args).drop (i + 1)).all (fun r => !decide (regK (lst f.regs) r = 0))) := by
      rw [List.drop_eq_getElem_cons hlt, List.all_cons]
    have ih := ih (i + 1) (by omega)
    push_cast at ih
    rw [ynh, e1]
    generalize (lst x.args)[i] = r at *
    have hs := yjx f r
    by_cases hz : regK (lst f.regs) r = 0
    · rw [hz] at hs
      simp [y72, hn, y7n, k1, hs, hz, yf]
    · generalize regK (lst f.regs) r = k at *
      simp [y72, hn, y7n, k1, hs, hz, yf, y97, y1f hlt hl]
      exact ih
theorem y2nr (f : Fn) (x : Ins) (hl : (lst x.args).length ≤ 9223372036854775807) : (y7 E).p 68 [.agg (enc f), .agg (enc x)] = some ⟨.bool (ypo (lst f.regs) x), [], true, [], []⟩ := by
  rw [y2jk]
  have h0 := y1ha f x hl _ 0 (Nat.zero_add _)
  simp only [Int.ofNat_zero, List.drop_zero] at h0
  have hs := yjx f x.d
  have e21 : ((21 : Int) < ((lst x.args).length : Int)) ↔ 21 < (lst x.args).length := by omega
  unfold ypo
  generalize ((lst x.args).all (fun r => !decide (regK (lst f.regs) r = 0)) && ygl (lst f.regs) x) = T at *
  generalize regK (lst f.regs) x.d = kd at *
  by_cases h21 : 21 < (lst x.args).length
  · have h21' := e21.2 h21
    by_cases hn : x.n < 0
    · by_cases o5 : x.op = 25 <;> simp [y5j, y97, y7n, y72, ya2, ya7, y6j, hn, o5, h21, h21', yf, yu, meets]
    · simp [y5j, y97, y7n, y72, ya2, ya7, y6j, hn, h21, h21', yf, yu, meets]
  · have h21' : ¬ ((21 : Int) < ((lst x.args).length : Int)) := by omega
    by_cases hn : x.n < 0
    · by_cases o5 : x.op = 25
      · by_cases hd : x.d = -1
        · simp [y5j, y97, y7n, y72, ya2, ya7, y6j, hn, o5, h21, h21', hd, h0, yf, yu, meets]
        · by_cases hk : kd = 0
          · simp [y5j, y97, y7n, y72, ya2, ya7, y6j, hn, o5, h21, h21', hd, hs, hk, h0, yf, yu, meets]
          · simp [y5j, y97, y7n, y72, ya2, ya7, y6j, hn, o5, h21, h21', hd, hs, hk, h0, yf, yu, meets]
      · simp [y5j, y97, y7n, y72, ya2, ya7, y6j, hn, o5, h21, h21', yf, yu, meets]
    · by_cases hd : x.d = -1
      · simp [y5j, y97, y7n, y72, ya2, ya7, y6j, hn, h21, h21', hd, h0, yf, yu, meets]
      · by_cases hk : kd = 0
        · simp [y5j, y97, y7n, y72, ya2, ya7, y6j, hn, h21, h21', hd, hs, hk, h0, yf, yu, meets]
        · simp [y5j, y97, y7n, y72, ya2, ya7, y6j, hn, h21, h21', hd, hs, hk, h0, yf, yu, meets]
end Go.Vm
namespace Go.Vm
open Cel
attribute [local simp] y6 y29 yl y3i
def y6l (f : Fn) (x : Ins) : Bool :=
  match x.op with
  | 1 => decide (regK (lst f.regs) x.d = 2) || (decide (-2147483648 ≤ x.n) && decide (x.n < 2147483648))
  | 4 => decide (regK (lst f.regs) x.d = regK (lst f.regs) x.a)
  | 5 => decide (0 < (numK x.n).2.1) && decide (regK (lst f.regs) x.d = (numK x.n).2.2) && decide (regK (lst f.regs) x.a = (numK x.n).1) && decide (regK (lst f.regs) x.b = (numK x.n).2.1)
  | 6 => decide (0 < (numK x.n).1) && decide ((numK x.n).2.1 = 0) && decide (regK (lst f.regs) x.d = (numK x.n).2.2) && decide (regK (lst f.regs) x.a = (numK x.n).1)
  | 12 => y7k x.s
  | 21 => y7k x.s
  | 22 => y7k x.s
  | 16 => decide (0 ≤ x.n)
  | 17 => decide (0 ≤ x.n)
  | 23 => ypo (lst f.regs) x
  | 24 => ypo (lst f.regs) x
  | 25 => ypo (lst f.regs) x
  | 26 => ypo (lst f.regs) x
  | 27 => y51 (lst f.code).length x.t
  | 28 => decide (0 ≤ x.n) && decide (x.n ≤ 5) && y51 (lst f.code).length x.t
  | 29 => (decide (x.n = 0) || decide (x.n = 1)) && (decide (x.b = -1) || decide (regK (lst f.regs) x.b = 3)) && y51 (lst f.code).length x.t
  | 30 => if f.ret = 0 then decide (x.a = -1) else !decide (x.a = -1) && decide (regK (lst f.regs) x.a = f.ret)
  | _ => true
def oneM (f : Fn) (x : Ins) : Bool :=
  decide (1 ≤ x.op) && decide (x.op ≤ 33) && (y5f (regK (lst f.regs) x.d) ((rowM x.op).getD 0 0) && (y5f (regK (lst f.regs) x.a) ((rowM x.op).getD 1 0) && (y5f (regK (lst f.regs) x.b) ((rowM x.op).getD 2 0) && (y5f (regK (lst f.regs) x.c) ((rowM x.op).getD 3 0) && y6l f x))))
set_option maxHeartbeats 8000000 in
theorem y2ni (f : Fn) (x : Ins) (hs : x.s.length ≤ 9223372036854775807) (hl : (lst x.args).length ≤ 9223372036854775807) (v55 : AV) (hv : v55 = .int .i64 x.op) :
    y1g Q0 Q1 (.int .i64 (numK x.n).1) (.int .i64 (numK x.n).2.1) (.int .i64 (numK x.n).2.2) v55 (H3 f x) = some ⟨.bool (y6l f x), [], true, [], []⟩ := by
  subst hv
  have hkd := yjx f x.d
  have hka := yjx f x.a
  have hkb := yjx f x.b
  have hty := y2er x.s hs
  have hcl := y2nr f x hl
  have hpl := y2cu f x.t
  unfold y6l
  generalize regK (lst f.regs) x.d = kd at *
  generalize regK (lst f.regs) x.a = ka at *
  generalize regK (lst f.regs) x.b = kb at *
  generalize y7k x.s = ty at *
  generalize ypo (lst f.regs) x = cl at *
  generalize y51 (lst f.code).length x.t = pl at *
  generalize numK x.n = k at *
  obtain ⟨a, b, d⟩ := k
  simp only
  by_cases o1 : x.op = 1
  · by_cases h2 : kd = 2
    · simp [o1, y1g, y1j, hkd, h2, yf, yu, meets]
    · by_cases h3 : -2147483648 ≤ x.n <;> simp [o1, y1g, y1j, hkd, h2, h3, yf, yu, meets]
  by_cases o4 : x.op = 4
  · simp [o4, y1g, y1j, y1p, y1o, hkd, hka, yf, yu, meets]
  by_cases o5 : x.op = 5
  · by_cases h1 : 0 < b
    · by_cases h2 : kd = d
      · by_cases h3 : ka = a
        · simp [o5, h1, h2, h3, hkd, hka, hkb, y1g, y1j, y1p, y1o, y22, y23, y1v, y1x, y20, y1k, y1y, y1q, y1w, y1i, y21, y1z, y2z, y2r, y2u, y30, y2x, y2w, y31, y2y, y2s, yf, yu, meets]
        · simp [o5, h1, h2, h3, hkd, hka, hkb, y1g, y1j, y1p, y1o, y22, y23, y1v, y1x, y20, y1k, y1y, y1q, y1w, y1i, y21, y1z, y2z, y2r, y2u, y30, y2x, y2w, y31, y2y, y2s, yf, yu, meets]
      · simp [o5, h1, h2, hkd, hka, hkb, y1g, y1j, y1p, y1o, y22, y23, y1v, y1x, y20, y1k, y1y, y1q, y1w, y1i, y21, y1z, y2z, y2r, y2u, y30, y2x, y2w, y31, y2y, y2s, yf, yu, meets]
    · simp [o5, h1, y1g, y1j, y1p, y1o, y22, y23, y1v, y1x, y20, y1k, y1y, y1q, y1w, y1i, y21, y1z, y2z, y2r, y2u, y30, y2x, y2w, y31, y2y, y2s, yf, yu, meets]
  by_cases o6 : x.op = 6
  · by_cases h1 : 0 < a
    · by_cases h2 : b = 0
      · by_cases h3 : kd = d
        · simp [o6, h1, h2, h3, hkd, hka, y1g, y1j, y1p, y1o, y22, y23, y1v, y1x, y20, y1k, y1y, y1q, y1w, y1i, y21, y1z, y2z, y2r, y2u, y30, y2x, y2w, y31, y2y, y2s, yf, yu, meets]
        · simp [o6, h1, h2, h3, hkd, hka, y1g, y1j, y1p, y1o, y22, y23, y1v, y1x, y20, y1k, y1y, y1q, y1w, y1i, y21, y1z, y2z, y2r, y2u, y30, y2x, y2w, y31, y2y, y2s, yf, yu, meets]
      · simp [o6, h1, h2, y1g, y1j, y1p, y1o, y22, y23, y1v, y1x, y20, y1k, y1y, y1q, y1w, y1i, y21, y1z, y2z, y2r, y2u, y30, y2x, y2w, y31, y2y, y2s, yf, yu, meets]
    · simp [o6, h1, y1g, y1j, y1p, y1o, y22, y23, y1v, y1x, y20, y1k, y1y, y1q, y1w, y1i, y21, y1z, y2z, y2r, y2u, y30, y2x, y2w, y31, y2y, y2s, yf, yu, meets]
  by_cases o12 : x.op = 12
  · simp [o12, hty, y1g, y1j, y1p, y1o, y22, y23, y1v, y1x, y20, y1k, y1y, y1q, y1w, y1i, y21, y1z, y2z, y2r, y2u, y30, y2x, y2w, y31, y2y, y2s, yf, yu, meets]
  by_cases o21 : x.op = 21
  · simp [o21, hty, y1g, y1j, y1p, y1o, y22, y23, y1v, y1x, y20, y1k, y1y, y1q, y1w, y1i, y21, y1z, y2z, y2r, y2u, y30, y2x, y2w, y31, y2y, y2s, yf, yu, meets]
  by_cases o22 : x.op = 22
  · simp [o22, hty, y1g, y1j, y1p, y1o, y22, y23, y1v, y1x, y20, y1k, y1y, y1q, y1w, y1i, y21, y1z, y2z, y2r, y2u, y30, y2x, y2w, y31, y2y, y2s, yf, yu, meets]
  by_cases o16 : x.op = 16
  · simp [o16, y1g, y1j, y1p, y1o, y22, y23, y1v, y1x, y20, y1k, y1y, y1q, y1w, y1i, y21, y1z, y2z, y2r, y2u, y30, y2x, y2w, y31, y2y, y2s, yf, yu, meets]
  by_cases o17 : x.op = 17
  · simp [o17, y1g, y1j, y1p, y1o, y22, y23, y1v, y1x, y20, y1k, y1y, y1q, y1w, y1i, y21, y1z, y2z, y2r, y2u, y30, y2x, y2w, y31, y2y, y2s, yf, yu, meets]
  by_cases o23 : x.op = 23
  · simp [o23, hcl, y1g, y1j, y1p, y1o, y22, y23, y1v, y1x, y20, y1k, y1y, y1q, y1w, y1i, y21, y1z, y2z, y2r, y2u, y30, y2x, y2w, y31, y2y, y2s, yf, yu, meets]
  by_cases o24 : x.op = 24
  · simp [o24, hcl, y1g, y1j, y1p, y1o, y22, y23, y1v, y1x, y20, y1k, y1y, y1q, y1w, y1i, y21, y1z, y2z, y2r, y2u, y30, y2x, y2w, y31, y2y, y2s, yf, yu, meets]
  by_cases o25 : x.op = 25
  · simp [o25, hcl, y1g, y1j, y1p, y1o, y22, y23, y1v, y1x, y20, y1k, y1y, y1q, y1w, y1i, y21, y1z, y2z, y2r, y2u, y30, y2x, y2w, y31, y2y, y2s, yf, yu, meets]
  by_cases o26 : x.op = 26
  · simp [o26, hcl, y1g, y1j, y1p, y1o, y22, y23, y1v, y1x, y20, y1k, y1y, y1q, y1w, y1i, y21, y1z, y2z, y2r, y2u, y30, y2x, y2w, y31, y2y, y2s, yf, yu, meets]
  by_cases o28 : x.op = 28
  · by_cases h1 : 0 ≤ x.n
    · by_cases h2 : x.n ≤ 5 <;> simp [o28, h1, h2, hpl, y1g, y1j, y1p, y1o, y22, y23, y1v, y1x, y20, y1k, y1y, y1q, y1w, y1i, y21, y1z, y2z, y2r, y2u, y30, y2x, y2w, y31, y2y, y2s, yf, yu, meets]
    · simp [o28, h1, y1g, y1j, y1p, y1o, y22, y23, y1v, y1x, y20, y1k, y1y, y1q, y1w, y1i, y21, y1z, y2z, y2r, y2u, y30, y2x, y2w, y31, y2y, y2s, yf, yu, meets]
  by_cases o27 : x.op = 27
  · simp [o27, hpl, y1g, y1j, y1p, y1o, y22, y23, y1v, y1x, y20, y1k, y1y, y1q, y1w, y1i, y21, y1z, y2z, y2r, y2u, y30, y2x, y2w, y31, y2y, y2s, yf, yu, meets]
  by_cases o29 : x.op = 29
  · by_cases h1 : x.n = 0
    · by_cases h2 : x.b = -1
      · simp [o29, h1, h2, hpl, y1g, y1j, y1p, y1o, y22, y23, y1v, y1x, y20, y1k, y1y, y1q, y1w, y1i, y21, y1z, y2z, y2r, y2u, y30, y2x, y2w, y31, y2y, y2s, yf, yu, meets]
      · by_cases h3 : kb = 3 <;> simp [o29, h1, h2, h3, hpl, hkb, y1g, y1j, y1p, y1o, y22, y23, y1v, y1x, y20, y1k, y1y, y1q, y1w, y1i, y21, y1z, y2z, y2r, y2u, y30, y2x, y2w, y31, y2y, y2s, yf, yu, meets]
    · by_cases h1' : x.n = 1
      · by_cases h2 : x.b = -1
        · simp [o29, h1', h2, hpl, y1g, y1j, y1p, y1o, y22, y23, y1v, y1x, y20, y1k, y1y, y1q, y1w, y1i, y21, y1z, y2z, y2r, y2u, y30, y2x, y2w, y31, y2y, y2s, yf, yu, meets]
        · by_cases h3 : kb = 3 <;> simp [o29, h1', h2, h3, hpl, hkb, y1g, y1j, y1p, y1o, y22, y23, y1v, y1x, y20, y1k, y1y, y1q, y1w, y1i, y21, y1z, y2z, y2r, y2u, y30, y2x, y2w, y31, y2y, y2s, yf, yu, meets]
      · simp [o29, h1, h1', y1g, y1j, y1p, y1o, y22, y23, y1v, y1x, y20, y1k, y1y, y1q, y1w, y1i, y21, y1z, y2z, y2r, y2u, y30, y2x, y2w, y31, y2y, y2s, yf, yu, meets]
  by_cases o30 : x.op = 30
  · by_cases h1 : f.ret = 0
    · simp [o30, h1, y1g, y1j, y1p, y1o, y22, y23, y1v, y1x, y20, y1k, y1y, y1q, y1w, y1i, y21, y1z, y2z, y2r, y2u, y30, y2x, y2w, y31, y2y, y2s, yf, yu, meets]
    · by_cases h2 : x.a = -1 <;> simp [o30, h1, h2, hka, y1g, y1j, y1p, y1o, y22, y23, y1v, y1x, y20, y1k, y1y, y1q, y1w, y1i, y21, y1z, y2z, y2r, y2u, y30, y2x, y2w, y31, y2y, y2s, yf, yu, meets]
  · have e : (match x.op with
      | 1 => decide (kd = 2) || (decide (-2147483648 ≤ x.n) && decide (x.n < 2147483648))
      | 4 => decide (kd = ka)
      | 5 => decide (0 < b) && decide (kd = d) && decide (ka = a) && decide (kb = b)
      | 6 => decide (0 < a) && decide (b = 0) && decide (kd = d) && decide (ka = a)
      | 12 => ty
      | 21 => ty
      | 22 => ty
      | 16 => decide (0 ≤ x.n)
      | 17 => decide (0 ≤ x.n)
      | 23 => cl
      | 24 => cl
      | 25 => cl
      | 26 => cl
      | 27 => pl
      | 28 => decide (0 ≤ x.n) && decide (x.n ≤ 5) && pl
      | 29 => (decide (x.n = 0) || decide (x.n = 1)) && (decide (x.b = -1) || decide (kb = 3)) && pl
      | 30 => if f.ret = 0 then decide (x.a = -1) else !decide (x.a = -1) && decide (ka = f.ret)
      | _ => true) = true := by
      split <;> first | rfl | contradiction
    rw [show _ = true from e]
    simp [o1, o4, o5, o6, o12, o21, o22, o16, o17, o23, o24, o25, o26, o27, o28, o29, o30, y1g, y1j, y1p, y1o, y22, y23, y1v, y1x, y20, y1k, y1y, y1q, y1w, y1i, y21, y1z, y2z, y2r, y2u, y30, y2x, y2w, y31, y2y, y2s, yf, yu, meets]
end Go.Vm
namespace Go.Vm
open Cel
attribute [local simp] y6 y29 yl y3i
def y1rw (c : UInt8) : Bool := decide (c = 45) || decide (c = 63) || decide (c = 42) || decide (c = 61) || decide (c = 110) || decide (c = 49) || decide (c = 50) || decide (c = 51)
theorem y236 {c : UInt8} (h : y1rw c = true) : c = 45 ∨ c = 63 ∨ c = 42 ∨ c = 61 ∨ c = 110 ∨ c = 49 ∨ c = 50 ∨ c = 51 := by
  simp only [y1rw, Bool.or_eq_true, decide_eq_true_eq] at h
  simp only [or_assoc] at h
  exact h
@[simp] theorem y2ot (h : Heap) (a b c : Int) : fz h y1a (.tup [.int .i64 a, .int .i64 b, .int .i64 c]) = some ⟨.tup [.int .i64 a, .int .i64 b, .int .i64 c], true, []⟩ := rfl
theorem y1nu : ((List.range 33).all fun i => decide ((rowM (1 + i)).length = 4) && (rowM (1 + i)).all y1rw) = true := by kernel_rfl
theorem y2n1 {op : Int} (h1 : 1 ≤ op) (h2 : op ≤ 33) : (rowM op).length = 4 ∧ (rowM op).all y1rw = true := by
  have := yax y1nu (op - 1).toNat (by omega)
  have e : (1 + ((op - 1).toNat : Int)) = op := by omega
  simp only [e, Bool.and_eq_true, decide_eq_true_eq] at this
  exact this
theorem yeb (f : Fn) (x : Ins) (w : List UInt8) (i : Nat) (r : Int) (c : UInt8) (hi : i < 4) (hw : w[i]? = some c) (hc : y1rw c = true) (hr : [x.d, x.a, x.b, x.c][i]? = some r) :
    y5e Q0 Q1 (.str w) (.ls 2 1 1 0 4) (.int .i64 i) (H3 f x) = if y5f (regK (lst f.regs) r) c then y5e Q0 Q1 (.str w) (.ls 2 1 1 0 4) (.int .i64 (i + 1 : Nat)) (H3 f x) else some ⟨.bool false, [], true, [], []⟩ := by
  have hn : ((i : Int) < (4 : Int)) := by omega
  have hw2 : IntKind.wrap .i64 ((i : Int) + 1) = ((i + 1 : Nat) : Int) := by rw [y2a] <;> omega
  have hs := y24p f r c (y236 hc)
  have k1 : yw 1 (.ls 2 1 1 0 4) (.int .i64 i) = some (.lp 2 1 i 0) := by simp [yw, hi, hn]
  have k2 : evLd false 1 (.lp 2 1 i 0) (H3 f x) = some (.int .i64 r) := by
    match i, hi, hr with
    | 0, _, hr => simp at hr; simp [hr]
    | 1, _, hr => simp at hr; simp [hr]
    | 2, _, hr => simp at hr; simp [hr]
    | 3, _, hr => simp at hr; simp [hr]
  have k3 := ixstr hw
  rw [yj3]
  generalize y5f (regK (lst f.regs) r) c = T at *
  simp only [yfr, yj, y9, hn, decide_true, y2i]
  generalize hZ : y5e Q0 Q1 (.str w) (.ls 2 1 1 0 4) (.int .i64 (i + 1 : Nat)) (H3 f x) = Z
  have e32 : yos Q0 Q1 (.str w) (.ls 2 1 1 0 4) (.int .i64 i) (H3 f x) = Z := by
    rw [← hZ]; simp only [yos, y1s, y9, hw2]
  have e5 : evLd true 5 Q0 (H3 f x) = some (.agg (enc f)) := by simp
  simp only [ywd, k1, k2, k3, e5, y9]
  cases T with
  | true => simp [hs, e32, yf]
  | false => simp [hs, yf]
set_option maxHeartbeats 1000000 in
theorem y2pc (f : Fn) (x : Ins) (hn : -9223372036854775808 ≤ x.n ∧ x.n < 9223372036854775808) (hs : x.s.length ≤ 9223372036854775807) (hl : (lst x.args).length ≤ 9223372036854775807) :
    (y7 E).p 64 [.agg (enc f), .agg (enc x)] = some ⟨.bool (oneM f x), [], true, [], []⟩ := by
  rw [y2k5]
  have hrow := y2d7 x.op
  by_cases h1 : 1 ≤ x.op
  · by_cases h2 : x.op ≤ 33
    · obtain ⟨hlen, hsg⟩ := y2n1 h1 h2
      rw [oneM]
      simp only [h1, h2, decide_true, Bool.true_and]
      generalize rowM x.op = w at *
      match w, hlen, hsg with
      | [c0, c1, c2, c3], _, hsg =>
        simp only [List.all_cons, List.all_nil, Bool.and_true, Bool.and_eq_true] at hsg
        have e0 : yeu (.agg (enc f)) (.agg (enc x)) [⟨0, .dead⟩, ⟨0, .dead⟩, ⟨0, .dead⟩] = y5e Q0 Q1 (.str [c0, c1, c2, c3]) (.ls 2 1 1 0 4) (.int .i64 0) (H3 f x) := by
          simp [yeu, yj2, yiv, yxh, ywn, hrow, yr, y13]
        have s0 := yeb f x [c0, c1, c2, c3] 0 x.d c0 (by omega) rfl hsg.1 rfl
        have s1 := yeb f x [c0, c1, c2, c3] 1 x.a c1 (by omega) rfl hsg.2.1 rfl
        have s2 := yeb f x [c0, c1, c2, c3] 2 x.b c2 (by omega) rfl hsg.2.2.1 rfl
        have s3 := yeb f x [c0, c1, c2, c3] 3 x.c c3 (by omega) rfl hsg.2.2.2 rfl
        simp only [Int.ofNat_zero] at s0
        have e4 : y5e Q0 Q1 (.str [c0, c1, c2, c3]) (.ls 2 1 1 0 4) (.int .i64 (3 + 1 : Nat)) (H3 f x) = some ⟨.bool (y6l f x), [], true, [], []⟩ := by
          have h25 := y2ni f x hs hl (.int .i64 x.op) rfl
          show y5e Q0 Q1 (.str [c0, c1, c2, c3]) (.ls 2 1 1 0 4) (.int .i64 4) (H3 f x) = _
          rw [yj3]
          by_cases hk0 : 0 ≤ x.n
          · by_cases hk1 : x.n < 1000
            · have hK := y1ym x.n hk0 hk1
              simp [yfr, yk7, yhi, hk0, hk1, hK, yeo]
              exact h25
            · have : numK x.n = (0, 0, 0) := ygy (by omega)
              rw [this] at h25
              simp [yfr, yk7, yhi, hk0, hk1, yeo]
              exact h25
          · have : numK x.n = (0, 0, 0) := ygy (by omega)
            rw [this] at h25
            simp [yfr, yk7, yhi, hk0, yeo]
            exact h25
        rw [e0, s0]
        simp only [List.getD_cons_zero, List.getD_cons_succ]
        cases y5f (regK (lst f.regs) x.d) c0 with
        | false => simp
        | true =>
          rw [if_pos rfl, s1]
          cases y5f (regK (lst f.regs) x.a) c1 with
          | false => simp
          | true =>
            rw [if_pos rfl, s2]
            cases y5f (regK (lst f.regs) x.b) c2 with
            | false => simp
            | true =>
              rw [if_pos rfl, s3]
              cases y5f (regK (lst f.regs) x.c) c3 with
              | false => simp
              | true => rw [if_pos rfl, e4]; simp
    · have : rowM x.op = [] := by rw [rowM, if_pos (by omega)]
      rw [this] at hrow
      simp [yeu, yj2, yiv, hrow, oneM, h2]
  · have : rowM x.op = [] := by rw [rowM, if_pos (by omega)]
    rw [this] at hrow
    simp [yeu, yj2, yiv, hrow, oneM, h1]
end Go.Vm
namespace Go.Vm
theorem y1rp (n : Int) : 0 ≤ (numK n).1 ∧ 0 ≤ (numK n).2.1 ∧ 0 ≤ (numK n).2.2 ∧ (numK n).1 ≤ 2 ∧ (numK n).2.1 ≤ 2 ∧ (numK n).2.2 ≤ 2 ∧ (¬ (numK n).1 = 0 → ¬ (numK n).2.2 = 0) ∧ (¬ (numK n).2.1 = 0 → ¬ (numK n).1 = 0 ∧ ¬ (numK n).2.2 = 0) := by
  unfold numK
  repeat' split
  all_goals decide
theorem y56 {R : List Int} (hR : R.all (fun k => decide (1 ≤ k) && decide (k ≤ 3)) = true) (r : Int) : (inR R r = true ∧ (regK R r = 1 ∨ regK R r = 2 ∨ regK R r = 3)) ∨ (inR R r = false ∧ regK R r = 0) := by
  cases h : inR R r with
  | true =>
    obtain ⟨_, h1, h2⟩ := yx0 h
    rw [List.all_eq_true] at hR
    have := hR (regK R r) (List.mem_of_getElem? h2)
    simp only [Bool.and_eq_true, decide_eq_true_eq] at this
    refine .inl ⟨rfl, ?_⟩
    omega
  | false =>
    refine .inr ⟨rfl, ?_⟩
    simp only [inR, Bool.and_eq_false_iff, decide_eq_false_iff_not] at h
    unfold regK
    split
    · rfl
    · rw [List.getD_eq_getElem?_getD, List.getElem?_eq_none (by omega)]; rfl
theorem y2oa {n : Int} : n = IntKind.wrap .i64 (IntKind.wrap .i32 n) ↔ -2147483648 ≤ n ∧ n < 2147483648 := by
  have h : -2147483648 ≤ IntKind.wrap .i32 n ∧ IntKind.wrap .i32 n < 2147483648 := by
    simp only [IntKind.wrap, IntKind.bits, IntKind.signed]
    simp
    omega
  rw [y2a (n := IntKind.wrap .i32 n) (by omega) (by omega)]
  constructor
  · intro e; rw [e]; exact h
  · intro e
    simp only [IntKind.wrap, IntKind.bits, IntKind.signed]
    simp
    omega
theorem yor {R : List Int} {r : Int} : y26 R (-1) r = true := by simp [y26]
theorem y1sn {R : List Int} (hR : R.all (fun k => decide (1 ≤ k) && decide (k ≤ 3)) = true) (r : Int) : y26 R 0 r = decide (0 < regK R r) := by
  rcases y56 hR r with ⟨h1, h2⟩ | ⟨h1, h2⟩
  · simp [y26, h1]; omega
  · simp [y26, h1, h2]
theorem ycs {R : List Int} (hR : R.all (fun k => decide (1 ≤ k) && decide (k ≤ 3)) = true) (r k : Int) (hk : 0 < k) : y26 R k r = decide (regK R r = k) := by
  have a1 : ¬ k < 0 := by omega
  have a2 : ¬ k ≤ 0 := by omega
  rcases y56 hR r with ⟨h1, h2⟩ | ⟨h1, h2⟩
  · simp [y26, h1, a1, a2]
  · have : ¬ 0 = k := by omega
    simp [y26, h1, h2, a1, a2, this]
theorem y27i {R : List Int} (hR : R.all (fun k => decide (1 ≤ k) && decide (k ≤ 3)) = true) (l : List Int) : (l.all fun r => !decide (regK R r = 0)) = l.all (inR R) := by
  congr 1
  funext r
  rcases y56 hR r with ⟨h1, h2⟩ | ⟨h1, h2⟩
  · rw [h1]; simp; omega
  · rw [h1, h2]; rfl
theorem y2jb (f : Fn) (x : Ins) (hR : (lst f.regs).all (fun k => decide (1 ≤ k) && decide (k ≤ 3)) = true) (h : x.op = 5) : oneM f x = y25 f x := by
  have hk := y1rp x.n
  have Fm := fun r => yor (R := lst f.regs) (r := r)
  simp only [oneM, y25, h, yq, rowM, rowT, y5f, y6u, calls, y3d, leads, y6l, Fm]
  generalize numK x.n = k at *
  obtain ⟨a, b, d⟩ := k
  simp only at hk ⊢
  by_cases hb : b = 0
  · subst hb; simp
  · rw [ycs hR x.d d (by omega), ycs hR x.a a (by omega), ycs hR x.b b (by omega)]
    rw [Bool.eq_iff_iff]
    simp
    omega
theorem y2j4 (f : Fn) (x : Ins) (hR : (lst f.regs).all (fun k => decide (1 ≤ k) && decide (k ≤ 3)) = true) (h : x.op = 6) : oneM f x = y25 f x := by
  have hk := y1rp x.n
  have Fm := fun r => yor (R := lst f.regs) (r := r)
  simp only [oneM, y25, h, yq, rowM, rowT, y5f, y6u, calls, y3d, leads, y6l, Fm]
  generalize numK x.n = k at *
  obtain ⟨a, b, d⟩ := k
  simp only at hk ⊢
  by_cases ha : a = 0
  · subst ha; simp
  · rw [ycs hR x.d d (by omega), ycs hR x.a a (by omega)]
    rw [Bool.eq_iff_iff]
    simp
    omega
theorem ysy (f : Fn) (x : Ins) (hR : (lst f.regs).all (fun k => decide (1 ≤ k) && decide (k ≤ 3)) = true) (h : x.op = 23 ∨ x.op = 24 ∨ x.op = 25 ∨ x.op = 26) : oneM f x = y25 f x := by
  have F0 := y1sn hR
  have Fm := fun r => yor (R := lst f.regs) (r := r)
  have hA := y27i hR (lst x.args)
  have kd := y56 hR x.d
  have hc : ypo (lst f.regs) x = (!((decide (x.n < 0) && !decide (x.op = 25)) || decide (21 < (lst x.args).length) || (!decide (x.d = -1) && decide (regK (lst f.regs) x.d = 0))) && ((lst x.args).all (inR (lst f.regs)) && ygl (lst f.regs) x)) := by rw [ypo, hA]
  cases ha : lst x.args with
  | nil =>
    by_cases hd : x.d = -1 <;> rcases h with h|h|h|h <;> (rw [Bool.eq_iff_iff]; simp [oneM, y25, h, yq, rowM, rowT, y5f, y6u, calls, y3d, leads, y6l, hc, ygl, yjy, ha, hd, F0, Fm]; try omega)
  | cons r t =>
    rw [ha] at hc
    generalize hg : (r :: t).all (inR (lst f.regs)) = A at *
    generalize hl : (r :: t).length = n at *
    by_cases hd : x.d = -1 <;> rcases h with h|h|h|h <;> (rw [Bool.eq_iff_iff]; simp [oneM, y25, h, yq, rowM, rowT, y5f, y6u, calls, y3d, leads, y6l, hc, ygl, yjy, ha, hd, F0, Fm]; first | (simp at hl hg; omega) | (simp at hl hg; grind) | skip)
theorem yq2 (f : Fn) (x : Ins) (h : x.op < 1 ∨ 33 < x.op) : oneM f x = y25 f x := by
  rw [oneM, y25, yof h]
  rcases h with h | h
  · have : ¬ 1 ≤ x.op := by omega
    simp [this]
  · have : ¬ x.op ≤ 33 := by omega
    simp [this]
set_option maxHeartbeats 4000000 in
theorem y1ro (f : Fn) (x : Ins) (hR : (lst f.regs).all (fun k => decide (1 ≤ k) && decide (k ≤ 3)) = true) : oneM f x = y25 f x := by
  have F0 := y1sn hR
  have F1 := fun r => ycs hR r 1 (by omega)
  have F3 := fun r => ycs hR r 3 (by omega)
  have Fm := fun r => yor (R := lst f.regs) (r := r)
  have hA := y27i hR (lst x.args)
  have kd := y56 hR x.d
  have ka := y56 hR x.a
  have hd : 0 < regK (lst f.regs) x.d ↔ ¬ regK (lst f.regs) x.d = 0 := by rcases kd with ⟨_, h⟩ | ⟨_, h⟩ <;> omega
  have hw := @y2oa x.n
  rcases y67 x.op with h|h|h|h|h|h|h|h|h|h|h|h|h|h|h|h|h|h|h|h|h|h|h|h|h|h|h|h|h|h|h|h|h|h|h
  all_goals first
    | (simp [oneM, y25, h, yq, rowM, rowT, y5f, y6u, calls, y3d, leads, y6l, F0, F1, F3, Fm, y51, Bool.and_assoc]; done)
    | skip
  all_goals first
    | exact y2jb f x hR h
    | exact y2j4 f x hR h
    | exact yq2 f x (.inl h)
    | exact yq2 f x (.inr h)
    | exact ysy f x hR (.inl h)
    | exact ysy f x hR (.inr (.inl h))
    | exact ysy f x hR (.inr (.inr (.inl h)))
    | exact ysy f x hR (.inr (.inr (.inr h)))
    | (rw [Bool.eq_iff_iff]; simp [oneM, y25, h, yq, rowM, rowT, y5f, y6u, calls, y3d, leads, y6l, F0, F1, F3, Fm, y51]; omega)
    | (rw [Bool.eq_iff_iff]; simp [oneM, y25, h, yq, rowM, rowT, y5f, y6u, calls, y3d, leads, y6l, F0, F1, F3, Fm, y51]; grind)
    | exact y2jb f x hR h
    | exact y2j4 f x hR h
    | exact yq2 f x (.inl h)
    | exact yq2 f x (.inr h)
    | exact ysy f x hR (.inl h)
    | exact ysy f x hR (.inr (.inl h))
    | exact ysy f x hR (.inr (.inr (.inl h)))
    | exact ysy f x hR (.inr (.inr (.inr h)))
end Go.Vm
namespace Go.Vm
open Cel
attribute [local simp] y6 y29 yl y3i
theorem y28k (f : Fn) (o1 : AO) (n : Int) (hn : n = (lst f.code).length) (hl : (lst f.rows).length ≤ 9223372036854775807) : ∀ (d i : Nat) (o2 : AO), i + d = (lst f.rows).length →
    yfb P0 (.int .i64 n) (.int .i64 i) (HC f o1 o2) = if ((lst f.rows).drop i).all (y4g (lst f.code)) then E0 else E80 := by
  intro d
  induction d with
  | zero =>
    intro i o2 hi
    have e1 : (lst f.rows).drop i = [] := List.drop_eq_nil_of_le (by omega)
    have hn : ¬ ((i : Int) < ((lst f.rows).length : Int)) := by omega
    rw [ymh, e1]
    simp [y70, yho, hn]
  | succ d ih =>
    intro i o2 hi
    have hlt : i < (lst f.rows).length := by omega
    have hc : ((i : Int) < ((lst f.rows).length : Int)) := by omega
    have k1 := yey (o := f.rows) (i := i) (List.getElem?_eq_getElem hlt) .i64
    rw [ymh]
    have e1 : ((lst f.rows).drop i).all (y4g (lst f.code)) = (y4g (lst f.code) (lst f.rows)[i] && ((lst f.rows).drop (i + 1)).all (y4g (lst f.code))) := by rw [List.drop_eq_getElem_cons hlt, List.all_cons]
    rw [e1]
    generalize hr : (lst f.rows)[i] = r at *
    have ih := fun o2 => ih (i + 1) o2 (by omega)
    push_cast at ih
    subst hn
    by_cases h1 : r.f < 0
    · simp [y70, hc, y7m, k1, y4g, h1]
    by_cases h2 : r.t ≤ r.f
    · simp [y70, hc, y7m, k1, y4g, h1, h2]
    by_cases h3 : ((lst f.code).length : Int) < r.t
    · simp [y70, hc, y7m, k1, y4g, h1, h2, h3]
    by_cases h4 : r.at_ < 0
    · have : ¬ 0 ≤ r.at_ := by omega
      simp [y70, hc, y7m, k1, y4g, h1, h2, h3, h4, y51, this]
    by_cases h5 : ((lst f.code).length : Int) ≤ r.at_
    · have : ¬ r.at_ < ((lst f.code).length : Int) := by omega
      simp [y70, hc, y7m, k1, y4g, h1, h2, h3, h4, h5, y51, this]
    · have hx : r.at_.toNat < (lst f.code).length := by omega
      have a1 : 0 ≤ r.at_ := by omega
      have a2 : r.at_ < ((lst f.code).length : Int) := by omega
      have k2 := y61 (o := f.code) (n := r.at_) (by omega) (List.getElem?_eq_getElem hx) .i64
      by_cases h6 : ((lst f.code)[r.at_.toNat]).op = 32
      · simp [y70, hc, y7m, k1, y4g, h1, h2, h3, h4, h5, y51, a1, a2, k2, h6, hx, yjp, y1f hlt hl, ih]
      · simp [y70, hc, y7m, k1, y4g, h1, h2, h3, h4, h5, y51, a1, a2, k2, h6, hx]
theorem y28e (f : Fn) (o1 o2 : AO) (n : Int) (hl : (lst f.regs).length ≤ 9223372036854775807) : ∀ (d i : Nat), i + d = (lst f.regs).length →
    yb7 P0 (.int .i64 n) (.int .i64 i) (HC f o1 o2) = if ((lst f.regs).drop i).all (fun k => decide (1 ≤ k) && decide (k ≤ 3)) then yaf P0 (.int .i64 n) (HC f o1 o2) else E80 := by
  intro d
  induction d with
  | zero =>
    intro i hi
    have e1 : (lst f.regs).drop i = [] := List.drop_eq_nil_of_le (by omega)
    have hn : ¬ ((i : Int) < ((lst f.regs).length : Int)) := by omega
    rw [yk5, e1]
    simp [y77, hn]
  | succ d ih =>
    intro i hi
    have hlt : i < (lst f.regs).length := by omega
    have hc : ((i : Int) < ((lst f.regs).length : Int)) := by omega
    have k1 := y3n (o := f.regs) (i := i) (List.getElem?_eq_getElem hlt) .i64
    have e1 : ((lst f.regs).drop i).all (fun k => decide (1 ≤ k) && decide (k ≤ 3)) = ((decide (1 ≤ (lst f.regs)[i]) && decide ((lst f.regs)[i] ≤ 3)) && ((lst f.regs).drop (i + 1)).all (fun k => decide (1 ≤ k) && decide (k ≤ 3))) := by
      rw [List.drop_eq_getElem_cons hlt, List.all_cons]
    rw [yk5, e1]
    generalize hr : (lst f.regs)[i] = r at *
    have ih := ih (i + 1) (by omega)
    push_cast at ih
    by_cases h1 : r < 1
    · have : ¬ 1 ≤ r := by omega
      simp [y77, hc, y8c, k1, h1, this]
    by_cases h2 : 3 < r
    · have : ¬ r ≤ 3 := by omega
      simp [y77, hc, y8c, k1, h1, h2, this]
    · have a1 : 1 ≤ r := by omega
      have a2 : r ≤ 3 := by omega
      simp [y77, hc, y8c, k1, h1, h2, a1, a2, yd2, y1f hlt hl, ih]
def parR (R : List Int) : List Int → List Int → Bool
  | _, [] => true
  | seen, p :: r => (inR R p && !seen.contains p) && parR R (seen ++ [p]) r
theorem y1ex (f : Fn) (o1 o2 : AO) (n : Int) (hR : (lst f.regs).all (fun k => decide (1 ≤ k) && decide (k ≤ 3)) = true) (hl : (lst f.params).length ≤ 9223372036854775807) : ∀ (d i : Nat), i + d = (lst f.params).length →
    ybd P0 (.int .i64 n) (.int .i64 i) (HC f o1 o2) = if parR (lst f.regs) ((lst f.params).take i) ((lst f.params).drop i) then ya4 P0 (.int .i64 n) (HC f o1 o2) else E80 := by
  intro d
  induction d with
  | zero =>
    intro i hi
    have e1 : (lst f.params).drop i = [] := List.drop_eq_nil_of_le (by omega)
    have hn : ¬ ((i : Int) < ((lst f.params).length : Int)) := by omega
    rw [yjh, e1]
    simp [y78, hn, parR]
  | succ d ih =>
    intro i hi
    have hlt : i < (lst f.params).length := by omega
    have hc : ((i : Int) < ((lst f.params).length : Int)) := by omega
    have k1 := y3n (o := f.params) (i := i) (List.getElem?_eq_getElem hlt) .i64
    have ks := y266 (α := Int) f.params i (by omega) .i64
    simp only [yuh] at ks
    have hlm : lst (f.params.map (List.take i)) = (lst f.params).take i := by cases f.params <;> simp
    have e1 : parR (lst f.regs) ((lst f.params).take i) ((lst f.params).drop i) = ((inR (lst f.regs) (lst f.params)[i] && !((lst f.params).take i).contains (lst f.params)[i]) && parR (lst f.regs) ((lst f.params).take (i + 1)) ((lst f.params).drop (i + 1))) := by
      rw [List.drop_eq_getElem_cons hlt, parR, List.take_append_getElem]
    rw [yjh, e1]
    have hct : (y7 E).p 42 [.int .i64 (lst f.params)[i], slA (f.params.map (List.take i))] = some ⟨.bool (((lst f.params).take i).contains (lst f.params)[i]), [], true, [], []⟩ := by
      rw [s_in _ _ (by rw [hlm, List.length_take]; omega), hlm, List.contains_eq_mem]
    generalize hr : (lst f.params)[i] = r at *
    generalize ((lst f.params).take i).contains r = B at *
    have ih := ih (i + 1) (by omega)
    push_cast at ih
    have hs := yjx f r
    rcases y56 hR r with ⟨a1, a2⟩ | ⟨a1, a2⟩
    · have hz : ¬ regK (lst f.regs) r = 0 := by omega
      rw [a1]
      generalize regK (lst f.regs) r = k at *
      cases B with
      | true => simp [y78, hc, y8b, k1, hs, hz, ks, hct, yf]
      | false =>
        simp [y78, hc, y8b, k1, hs, hz, ks, hct, yf, ycv, y1f hlt hl]
        exact ih
    · rw [a2] at hs
      simp [y78, hc, y8b, k1, hs, a1, yf]
theorem y2if (f : Fn) (o2 : AO) (n : Int) (x : Ins) (i g : Nat) (hR : (lst f.regs).all (fun k => decide (1 ≤ k) && decide (k ≤ 3)) = true) (fit : InsFit x) (hi : i < (lst f.code).length) (hl : (lst f.code).length ≤ 9223372036854775807) (hx : (lst f.code)[i]? = some x) (oc : OC) :
    y4y P0 (.int .i64 n) (.int .i64 i) (HC f ⟨g, oc⟩ o2) =
      if y25 f x && y3q (lst f.code) i x then yay P0 (.int .i64 n) (.int .i64 i) (HC f ⟨g + 1, .arr true false 9 [enc x]⟩ o2) else E80 := by
  have k0 := y6k (o := f.code) (i := i) hx .i64
  have h1 := y2pc f x fit.n fit.s fit.a
  rw [y1ro f x hR] at h1
  cases hok : y25 f x with
  | false =>
    rw [hok] at h1
    simp [y4y, k0, h1]
  | true =>
    have ht := ykf (f := f) (x := x) hok
    rw [hok] at h1
    by_cases h32 : x.op = 32
    · have hld : leads 32 = false := by simp [leads]
      by_cases h0 : i = 0
      · subst h0
        simp only [Int.ofNat_zero] at k0
        simp [y4y, k0, h1, h32, y3q]
      · have h0' : ¬ ((i : Int) = 0) := by omega
        have hp : i - 1 < (lst f.code).length := by omega
        have k1 := y6k (o := f.code) (i := i - 1) (List.getElem?_eq_getElem hp) .i64
        have hw : IntKind.wrap .i64 ((i : Int) - 1) = ((i - 1 : Nat) : Int) := by rw [y2a] <;> omega
        cases he : ends ((lst f.code)[i - 1]).op with
        | true => simp [y4y, k0, h1, h32, y3q, h0, h0', hw, k1, hp, he, hld]
        | false => simp [y4y, k0, h1, h32, y3q, h0, h0', hw, k1, hp, he]
    · cases hld : leads x.op with
      | false => simp [y4y, k0, h1, h32, y3q, hld]
      | true =>
        obtain ⟨t0, t1⟩ := ht hld
        have hxt : x.t.toNat < (lst f.code).length := by omega
        have k2 := y61 (o := f.code) (n := x.t) t0 (List.getElem?_eq_getElem hxt) .i64
        by_cases h6 : ((lst f.code)[x.t.toNat]).op = 32
        · simp [y4y, k0, h1, h32, y3q, hld, k2, h6, hxt]
        · simp [y4y, k0, h1, h32, y3q, hld, k2, h6, hxt]
theorem y2gz (f : Fn) (o2 : AO) (n : Int) (hn : n = (lst f.code).length) (hR : (lst f.regs).all (fun k => decide (1 ≤ k) && decide (k ≤ 3)) = true) (hfit : ∀ x ∈ lst f.code, InsFit x) (hl : (lst f.code).length ≤ 9223372036854775807) : ∀ (d i : Nat) (o1 : AO), i + d = (lst f.code).length →
    ∃ o1', yfq P0 (.int .i64 n) (.int .i64 i) (HC f o1 o2) = if y44 f (lst f.code) i ((lst f.code).drop i) then yg1 P0 (.int .i64 n) (HC f o1' o2) else E80 := by
  intro d
  induction d with
  | zero =>
    intro i o1 hi
    have e1 : (lst f.code).drop i = [] := List.drop_eq_nil_of_le (by omega)
    have hnl : ¬ ((i : Int) < n) := by omega
    rw [yo8, e1]
    exact ⟨o1, by simp [yap, hnl, y44]⟩
  | succ d ih =>
    intro i o1 hi
    have hlt : i < (lst f.code).length := by omega
    have hc : ((i : Int) < n) := by omega
    have e1 : y44 f (lst f.code) i ((lst f.code).drop i) = (y25 f (lst f.code)[i] && y3q (lst f.code) i (lst f.code)[i] && y44 f (lst f.code) (i + 1) ((lst f.code).drop (i + 1))) := by
      rw [List.drop_eq_getElem_cons hlt, y44]
    have fit := hfit _ (List.getElem_mem hlt)
    have hone := y2if f o2 n _ i o1.gen hR fit hlt hl (List.getElem?_eq_getElem hlt) o1.c
    rw [yo8, e1]
    generalize (lst f.code)[i] = x at *
    generalize (y25 f x && y3q (lst f.code) i x) = G at *
    simp only [yap, yj, y9, hc, decide_true, y2i, hone]
    cases G with
    | false => exact ⟨o1, by simp⟩
    | true =>
      obtain ⟨o1', ih⟩ := ih (i + 1) ⟨o1.gen + 1, .arr true false 9 [enc x]⟩ (by omega)
      push_cast at ih
      exact ⟨o1', by simp [yay, y1f hlt hl, ih]⟩
theorem y0p (R : List Int) : ∀ (l : List Int) (i : Nat) (seen : List Int), i + l.length ≤ 21 → ycq R i seen l = parR R seen l
  | [], _, _, _ => rfl
  | p :: r, i, seen, h => by
    simp only [List.length_cons] at h
    have : i ≤ 20 := by omega
    rw [ycq, parR, y0p R r (i + 1) (seen ++ [p]) (by omega)]
    simp [this]
theorem y19q (R : List Int) : ∀ (l : List Int) (i : Nat) (seen : List Int), 21 < i + l.length → i ≤ 21 → ycq R i seen l = false
  | [], i, _, h, h2 => by simp at h; omega
  | p :: r, i, seen, h, h2 => by
    simp only [List.length_cons] at h
    rw [ycq]
    by_cases hi : i ≤ 20
    · rw [y19q R r (i + 1) (seen ++ [p]) (by omega) (by omega)]; simp
    · simp [hi]
set_option maxRecDepth 100000 in
set_option maxHeartbeats 1000000 in
theorem y21k (f : Fn) (hf : FnFit f) : (y7 E).p 29 [.agg (enc f)] = some ⟨.int .i64 (if wf f then 0 else 80), [], true, [], []⟩ := by
  rw [y2mi]
  by_cases h0 : (lst f.code).length = 0
  · have h0' : ((lst f.code).length : Int) = 0 := by omega
    have : ¬ 1 ≤ (lst f.code).length := by omega
    simp [y4c, y4t, y4x, h0', wf, this]
  have h0' : ¬ ((lst f.code).length : Int) = 0 := by omega
  have hne : ¬ lst f.code = [] := fun h => h0 (by rw [h]; rfl)
  have g1 : 1 ≤ (lst f.code).length := by omega
  by_cases h2 : 20000 < (lst f.code).length
  · have h2' : (20000 : Int) < ((lst f.code).length : Int) := by omega
    have : ¬ (lst f.code).length ≤ 20000 := by omega
    simp [y4c, y4t, y4x, h0', hne, h2', wf, this]
  have h2' : ¬ (20000 : Int) < ((lst f.code).length : Int) := by omega
  have g2 : (lst f.code).length ≤ 20000 := by omega
  by_cases h3 : 20000 < (lst f.regs).length
  · have h3' : (20000 : Int) < ((lst f.regs).length : Int) := by omega
    have : ¬ (lst f.regs).length ≤ 20000 := by omega
    simp [y4c, y4t, y4x, h0', hne, h2', h3', wf, this]
  have h3' : ¬ (20000 : Int) < ((lst f.regs).length : Int) := by omega
  have g3 : (lst f.regs).length ≤ 20000 := by omega
  by_cases hp : 21 < (lst f.params).length
  · have hp' : (21 : Int) < ((lst f.params).length : Int) := by omega
    have := y19q (lst f.regs) (lst f.params) 0 [] (by omega) (by omega)
    simp [y4c, y4t, y4x, h0', hne, h2', h3', hp', wf, this]
  have hp' : ¬ (21 : Int) < ((lst f.params).length : Int) := by omega
  by_cases h4 : f.ret < 0
  · have : ¬ 0 ≤ f.ret := by omega
    simp [y4c, y4t, y4x, h0', hne, h2', h3', hp', h4, wf, this]
  have g4 : 0 ≤ f.ret := by omega
  by_cases h5 : 3 < f.ret
  · have : ¬ f.ret ≤ 3 := by omega
    simp [y4c, y4t, y4x, h0', hne, h2', h3', hp', h4, h5, wf, this]
  have g5 : f.ret ≤ 3 := by omega
  have hpl : (lst f.code).length - 1 < (lst f.code).length := by omega
  have k1 := y6k (o := f.code) (i := (lst f.code).length - 1) (List.getElem?_eq_getElem hpl) .i64
  have hw : IntKind.wrap .i64 (((lst f.code).length : Int) - 1) = (((lst f.code).length - 1 : Nat) : Int) := by rw [y2a] <;> omega
  have hg : (lst f.code).getD ((lst f.code).length - 1) default = (lst f.code)[(lst f.code).length - 1] := by rw [List.getD_eq_getElem?_getD, List.getElem?_eq_getElem hpl]; rfl
  cases he : ends ((lst f.code)[(lst f.code).length - 1]).op with
  | false =>
    have hwf : wf f = false := by rw [wf, hg, he]; simp
    rw [hwf]
    simp [y4c, y4t, y4x, h0', hne, h2', h3', hp', h4, h5, hw, k1, he]
  | true =>
    have hps := y0p (lst f.regs) (lst f.params) 0 [] (by omega)
    have hwf : wf f = ((lst f.regs).all (fun k => decide (1 ≤ k) && decide (k ≤ 3)) && parR (lst f.regs) [] (lst f.params) && y44 f (lst f.code) 0 (lst f.code) && (lst f.rows).all (y4g (lst f.code))) := by
      rw [wf, hg, he, hps]
      simp only [g1, g2, g3, g4, g5, decide_true, Bool.true_and]
    have e : y4c (.agg (enc f)) [⟨0, .dead⟩, ⟨0, .dead⟩, ⟨0, .dead⟩] = yb7 P0 (.int .i64 (lst f.code).length) (.int .i64 0) (HC f ⟨0, .dead⟩ ⟨0, .dead⟩) := by
      simp [y4c, y4t, y4x, h0', hne, h2', h3', hp', h4, h5, hw, k1, he, yho, yjp, y7m, y70, yg1, yay, y4y, yap, ya4, ycv, y8b, y78, yaf, yd2, y8c, y77, yek, y4x, y4t, y4c]
    have a1 := y28e f ⟨0, .dead⟩ ⟨0, .dead⟩ (lst f.code).length hf.regs _ 0 (Nat.zero_add _)
    simp only [Int.ofNat_zero, List.drop_zero] at a1
    rw [e, a1, hwf]
    cases hR : (lst f.regs).all (fun k => decide (1 ≤ k) && decide (k ≤ 3)) with
    | false => simp
    | true =>
      have a2 := y1ex f ⟨0, .dead⟩ ⟨0, .dead⟩ (lst f.code).length hR hf.params _ 0 (Nat.zero_add _)
      obtain ⟨o1', a3⟩ := y2gz f ⟨0, .dead⟩ _ rfl hR hf.ins hf.code _ 0 ⟨0, .dead⟩ (Nat.zero_add _)
      have a4 := y28k f o1' _ rfl hf.rows _ 0 ⟨0, .dead⟩ (Nat.zero_add _)
      simp only [Int.ofNat_zero, List.drop_zero, List.take_zero] at a2 a3 a4
      have e2 : yaf P0 (.int .i64 (lst f.code).length) (HC f ⟨0, .dead⟩ ⟨0, .dead⟩) = ybd P0 (.int .i64 (lst f.code).length) (.int .i64 0) (HC f ⟨0, .dead⟩ ⟨0, .dead⟩) := by simp [yho, yjp, y7m, y70, yg1, yay, y4y, yap, ya4, ycv, y8b, y78, yaf, yd2, y8c, y77, yek, y4x, y4t, y4c]
      have e3 : ya4 P0 (.int .i64 (lst f.code).length) (HC f ⟨0, .dead⟩ ⟨0, .dead⟩) = yfq P0 (.int .i64 (lst f.code).length) (.int .i64 0) (HC f ⟨0, .dead⟩ ⟨0, .dead⟩) := by simp [yho, yjp, y7m, y70, yg1, yay, y4y, yap, ya4, ycv, y8b, y78, yaf, yd2, y8c, y77, yek, y4x, y4t, y4c]
      have e4 : yg1 P0 (.int .i64 (lst f.code).length) (HC f o1' ⟨0, .dead⟩) = yfb P0 (.int .i64 (lst f.code).length) (.int .i64 0) (HC f o1' ⟨0, .dead⟩) := by simp [yho, yjp, y7m, y70, yg1, yay, y4y, yap, ya4, ycv, y8b, y78, yaf, yd2, y8c, y77, yek, y4x, y4t, y4c]
      rw [e2, a2, e3, a3, e4, a4]
      generalize parR (lst f.regs) [] (lst f.params) = b2
      generalize y44 f (lst f.code) 0 (lst f.code) = b3
      generalize (lst f.rows).all (y4g (lst f.code)) = b4
      cases b2 <;> cases b3 <;> cases b4 <;> rfl
end Go.Vm
namespace Go.Vm
theorem FnIn.fit3 {f : Fn} (h : FnIn f) : FnFit f := by
  have e : reachBytes = 140737488351232 := rfl
  refine ⟨fun x hx => ?_, ?_, ?_, ?_, ?_⟩
  · have k := h.insI x hx
    refine ⟨⟨k.n.1, ?_⟩, ?_, ?_⟩
    · have := k.n.2; omega
    · have := k.s; omega
    · have := k.len; omega
  · have := h.code; omega
  · have := h.regs; omega
  · have := h.params; omega
  · have := h.rows; omega
end Go.Vm
namespace Go.Vm
open Cel
theorem DeadOk.fit {f g : Fn} (k : DeadOk f g) (hf : FnFit f) : FnFit g := by
  refine ⟨Swap.args (fun i hi => (k.at_ i hi).imp id And.left) k.swap ⟨by decide, by decide, by decide⟩ hf.ins, by rw [k.swap.len]; exact hf.code, by rw [k.swap.regs]; exact hf.regs, by rw [k.swap.params]; exact hf.params, by rw [k.swap.rows]; exact hf.rows⟩
theorem DeadOk.args {f g : Fn} (k : DeadOk f g) (hx : ydj f) : ydj g :=
  Swap.args (P := fun x => (lst x.args).length ≤ 17592186043904) (fun i hi => (k.at_ i hi).imp id And.left) k.swap (by decide) hx
theorem fz_f (f : Fn) (H : Heap) : yo (fz H y1a) [.agg (enc f)] = some ⟨[.agg (enc f)], scal f && true, []⟩ := by
  rw [ye, y5y, yx]; rfl
theorem y2ne (f g : Fn) (H : Heap) : yo (fz H y1a) [.agg (enc f), .agg (enc g)] = some ⟨[.agg (enc f), .agg (enc g)], scal f && (scal g && true), []⟩ := by
  rw [ye, ye, y5y, y5y, yx]; rfl
theorem FnIn.sm {f : Fn} (hf : FnIn f) (h1 : (lst f.code).length ≤ 400) (h3 : (lst f.rows).length ≤ 100) : FnSm f := by
  have e : reachBytes = 140737488351232 := rfl
  have e38 : (2:Nat)^38 = 274877906944 := by decide
  refine ⟨?_, ?_, ?_, ?_, fun x hx => ?_⟩
  · have := hf.regs; omega
  · have := hf.params; omega
  · omega
  · omega
  · have := (hf.insI x hx).len; omega
abbrev AFn (f : Fn) : AO := ⟨1, .arr true false 5 [enc f]⟩
end Go.Vm
namespace Go.Vm
@[simp] theorem y2b3 : (y7 E).p 117 [] = some ⟨.bool true, [], true, [], []⟩ := y00 60 (by kernel_rfl)
end Go.Vm
namespace Go.Vm
@[simp] theorem y2od (op : Int) : (y7 E).p 7 [.int .i64 op] = some ⟨.bool (calls op), [], true, [], []⟩ := by
  rw [y2o4, y1gy]
  by_cases h1 : 23 ≤ op
  · by_cases h2 : op ≤ 26 <;> simp [h1, h2, calls]
  · simp [h1, calls]
end Go.Vm
namespace Go.Vm
open Cel
theorem y22u {s : List UInt8} {i : Nat} {b : UInt8} (h : s[i]? = some b) (k : IntKind) : y3a (.str s) (.int k (i : Int)) = some (.int .u8 b.toNat) := by
  simp [y3a, h]
def usP (W : List UInt8) (F : List Int) : Nat → List Int
  | 0 => []
  | k + 1 => usP W F k ++ if W.getD (k + 1) 45 = 45 then [] else if W.getD (k + 1) 45 = 63 ∧ F.getD (k + 1) 0 < 0 then [] else [F.getD (k + 1) 0]
theorem y1h9 (W : List UInt8) (F : List Int) : ∀ k, (usP W F k).length ≤ k
  | 0 => Nat.le_refl _
  | k + 1 => by
    have := y1h9 W F k
    rw [usP, List.length_append]
    split
    · simp; omega
    · split <;> simp <;> omega
theorem y2md {a b : UInt8} : decide ((a.toNat : Int) ≠ (b.toNat : Int)) = !decide (a = b) := by
  by_cases h : a = b
  · simp [h]
  · have : ¬ (a.toNat : Int) = (b.toNat : Int) := fun e => h (UInt8.toNat.inj (by omega))
    simp [h, this]
theorem y1ab (x : Ins) (W : List UInt8) (F : List Int) (hW : W.length = 4) (hF : F.length = 4) (o1 : AO) : ∀ (d k g : Nat) (o3 : AO), k + d = 3 →
    ycp (y2d Int 4 g (usP W F k)) (.str W) (.ls 2 1 1 0 4) (.int .i64 ((k + 1 : Nat) : Int)) [AX 1 x, o1, AI 1 F, o3, y28 g D0 (usP W F k)] = some (exO (nz (usP W F 3))) := by
  intro d
  induction d with
  | zero =>
    intro k g o3 hk
    have hk' : k = 3 := by omega
    subst hk'
    have hc : ¬ (((3 + 1 : Nat) : Int) < ((W.length : Nat) : Int)) := by omega
    have hx := y5b (H := [AX 1 x, o1, AI 1 F, o3, y28 g D0 (usP W F 3)]) (j := 4) (g := g) (o := D0) (L := usP W F 3) rfl
    rw [yfp]
    simp only [yir, y4s, y9, yj, hc, decide_false, y39, y1h0, hx]
  | succ d ih =>
    intro k g o3 hk
    have hc : (((k + 1 : Nat) : Int) < ((W.length : Nat) : Int)) := by omega
    have hw : IntKind.wrap .i64 (((k + 1 : Nat) : Int) + 1) = ((k + 1 + 1 : Nat) : Int) := by rw [y2a] <;> omega
    obtain ⟨b, hb⟩ : ∃ b, W[k + 1]? = some b := ⟨_, List.getElem?_eq_getElem (by omega)⟩
    obtain ⟨r, hr⟩ : ∃ r, F[k + 1]? = some r := ⟨_, List.getElem?_eq_getElem (by omega)⟩
    have hbd : W.getD (k + 1) 45 = b := by rw [List.getD_eq_getElem?_getD, hb]; rfl
    have hrd : F.getD (k + 1) 0 = r := by rw [List.getD_eq_getElem?_getD, hr]; rfl
    have ks := y22u hb .i64
    have kx : yw 1 (.ls 2 1 1 0 4) (.int .i64 ((k + 1 : Nat) : Int)) = some (.lp 2 1 (k + 1) 0) := by
      have := yxd (n := 4) (p := ((k + 1 : Nat) : Int)) (by omega) (by omega) 2 1 .i64
      simpa using this
    have lx : ∀ (o3 o4 : AO), evLd false 1 (.lp 2 1 (k + 1) 0) [AX 1 x, o1, AI 1 F, o3, o4] = some (.int .i64 r) := fun o3 o4 => y1br (α := Int) (id := 2) (g := 1) (v := .int .i64 r) rfl hr rfl
    have hsu : usP W F (k + 1) = usP W F k ++ if b = 45 then [] else if b = 63 ∧ r < 0 then [] else [r] := by rw [usP, hbd, hrd]
    have ih0 : ∀ g o3, ycp (y2d Int 4 g (usP W F k ++ if b = 45 then [] else if b = 63 ∧ r < 0 then [] else [r])) (.str W) (.ls 2 1 1 0 4) (.int .i64 ((k + 1 + 1 : Nat) : Int)) [AX 1 x, o1, AI 1 F, o3, y28 g D0 (usP W F k ++ if b = 45 then [] else if b = 63 ∧ r < 0 then [] else [r])] = some (exO (nz (usP W F 3))) := fun g o3 => by
      have := ih (k + 1) g o3 (by omega)
      rw [hsu] at this
      exact this
    have e45 : ((45 : UInt8).toNat : Int) = 45 := rfl
    have e63 : ((63 : UInt8).toNat : Int) = 63 := rfl
    have n45 := @y2md b 45
    have n63 := @y2md b 63
    rw [e45] at n45
    rw [e63] at n63
    rw [yfp]
    by_cases h1 : b = 45
    · have d45 : (!decide (b = 45)) = false := by simp [h1]
      have ih0 := ih0 g o3
      simp only [h1, if_true, List.append_nil] at ih0
      simp only [yir, y4s, y9, yj, hc, decide_true, y2i, yly, ks, y47, n45, d45, y79, yd8, y1e, y39, yfz, y1s, hw, ih0]
    have d45 : (!decide (b = 45)) = true := by simp [h1]
    simp only [h1, if_false] at ih0
    have fin : ∀ g o3, yfz (y2d Int 4 g (usP W F k ++ [r])) (.str W) (.ls 2 1 1 0 4) (.int .i64 ((k + 1 : Nat) : Int)) [AX 1 x, o1, AI 1 F, o3, y28 g D0 (usP W F k ++ [r])] = (if b = 63 ∧ r < 0 then yfz (y2d Int 4 g (usP W F k ++ [r])) (.str W) (.ls 2 1 1 0 4) (.int .i64 ((k + 1 : Nat) : Int)) [AX 1 x, o1, AI 1 F, o3, y28 g D0 (usP W F k ++ [r])] else some (exO (nz (usP W F 3)))) := by
      intro g o3
      split
      · rfl
      · rename_i hh
        have ih0 := ih0 g o3
        rw [if_neg hh] at ih0
        simp only [yfz, y1s, y9, hw, ih0]
    have hlen := y1h9 W F k
    obtain ⟨g', ha⟩ := ywv (H := [AX 1 x, o1, AI 1 F, ⟨o3.gen + 1, .arr false false 1 [[.int .i64 r]]⟩, y28 g D0 (usP W F k)]) (fb := 0) (j := 4) (g := g) (o := D0) (y := .ls 3 (o3.gen + 1) 1 0 1) (L := usP W F k) (n := r) (by simp) rfl (Nat.le_trans (show _ ≤ 3 by omega) (by decide))
    have ha' : y2b 0 (some 4) 1 8 (y2d Int 4 g (usP W F k)) (.ls 3 (o3.gen + 1) 1 0 1) [AX 1 x, o1, AI 1 F, ⟨o3.gen + 1, .arr false false 1 [[.int .i64 r]]⟩, y28 g D0 (usP W F k)] = some (y2d Int 4 g' (usP W F k ++ [r]), [AX 1 x, o1, AI 1 F, ⟨o3.gen + 1, .arr false false 1 [[.int .i64 r]]⟩, y28 g' D0 (usP W F k ++ [r])]) := ha
    have bs : yr 0 (some 3) 1 1 [.int .i64 0] [(0, .int .i64 r)] [AX 1 x, o1, AI 1 F, o3, y28 g D0 (usP W F k)] = some (.ls 3 (o3.gen + 1) 1 0 1, [AX 1 x, o1, AI 1 F, ⟨o3.gen + 1, .arr false false 1 [[.int .i64 r]]⟩, y28 g D0 (usP W F k)]) := by
      simp [yr, y13]
    by_cases h2 : b = 63
    · have d63 : (!decide (b = 63)) = false := by simp [h2]
      by_cases h3 : 0 ≤ r
      · have hh : ¬ (b = 63 ∧ r < 0) := fun h => absurd h.2 (by omega)
        have fin := fin g' ⟨o3.gen + 1, .arr false false 1 [[.int .i64 r]]⟩
        rw [if_neg hh] at fin
        simp only [yir, y4s, y9, yj, hc, decide_true, y2i, yly, ks, y47, n45, d45, y55, n63, d63, yf1, kx, lx, y1l, h3, y1e, y18, bs, yn, ha', fin]
      · have hh : b = 63 ∧ r < 0 := ⟨h2, by omega⟩
        have ih0 := ih0 g o3
        rw [if_pos hh, List.append_nil] at ih0
        simp only [yir, y4s, y9, yj, hc, decide_true, y2i, yly, ks, y47, n45, d45, y55, n63, d63, yf1, kx, lx, y1l, h3, decide_false, y1e, y18, y39, yfz, y1s, hw, ih0]
    · have d63 : (!decide (b = 63)) = true := by simp [h2]
      have hh : ¬ (b = 63 ∧ r < 0) := fun h => h2 h.1
      have fin := fin g' ⟨o3.gen + 1, .arr false false 1 [[.int .i64 r]]⟩
      rw [if_neg hh] at fin
      simp only [yir, y4s, y9, yj, hc, decide_true, y2i, yly, ks, y47, n45, d45, y55, n63, d63, yp4, yd8, y18, kx, lx, bs, yn, ha', fin]
def yit (op : Int) : List UInt8 := if op = 5 then [45, 42, 42, 45] else if op = 6 then [45, 42, 45, 45] else rowM op
set_option maxHeartbeats 1000000 in
theorem y23m (x : Ins) (hc : calls x.op = false) : usP (yit x.op) [x.d, x.a, x.b, x.c] 3 = lst (uses x) := by
  have hne : ¬ x.op = 23 ∧ ¬ x.op = 24 ∧ ¬ x.op = 25 ∧ ¬ x.op = 26 := by
    refine ⟨?_, ?_, ?_, ?_⟩ <;> (intro h; simp [calls, h] at hc)
  have ha : (x.a < 0 ∧ ¬ 0 ≤ x.a) ∨ (¬ x.a < 0 ∧ 0 ≤ x.a) := by omega
  have hb : x.b < 0 ∨ ¬ x.b < 0 := by omega
  rcases y67 x.op with h|h|h|h|h|h|h|h|h|h|h|h|h|h|h|h|h|h|h|h|h|h|h|h|h|h|h|h|h|h|h|h|h|h|h
  all_goals first
    | (exfalso; simp [calls, h] at hc; done)
    | (simp [uses, reads, calls, h, yit, rowM, rowT, usP]; done)
    | (rcases ha with ⟨h1, h2⟩ | ⟨h1, h2⟩ <;> rcases hb with h3 | h3 <;> simp [uses, reads, calls, h, yit, rowM, rowT, usP, h1, h2, h3]; done)
    | (have hw : yit x.op = [] := by
        rw [yit, if_neg (by omega), if_neg (by omega), rowM, if_pos (by omega)]
       rw [hw]
       simp [uses, reads, calls, lo_f h, usP]; done)
    | (have hw : yit x.op = [] := by
        rw [yit, if_neg (by omega), if_neg (by omega), rowM, if_pos (by omega)]
       rw [hw]
       simp [uses, reads, calls, hi_f h, usP]; done)
theorem y21p {op : Int} (h : ¬ (op < 1 ∨ 33 < op)) : (rowM op).length = 4 := by
  rcases y67 op with h1|h1|h1|h1|h1|h1|h1|h1|h1|h1|h1|h1|h1|h1|h1|h1|h1|h1|h1|h1|h1|h1|h1|h1|h1|h1|h1|h1|h1|h1|h1|h1|h1|h1|h1
  all_goals first
    | (subst h1; rfl)
    | (exfalso; omega)
theorem y2cx (x : Ins) (hl : (lst x.args).length ≤ 17592186043904) : (y7 E).p 15 [.agg (enc x)] = some (exO (nz (lst (uses x)))) := by
  rw [y2n6]
  have n0 : newC 0 (some 0) (cellsOf (.agg (enc x))) [D0, D0, D0, D0, D0] = some (.lp 0 1 0 0, [AX 1 x, D0, D0, D0, D0]) := by simp
  have lop : ∀ t : Heap, evLd false 1 (.lp 0 1 0 0) (AX 1 x :: t) = some (.int .i64 x.op) := fun t => by simp
  have la : ∀ t : Heap, evLd false 1 (.lp 0 1 0 8) (AX 1 x :: t) = some (slA x.args) := fun t => by simp
  have cC : ∀ h : Heap, y6 E (y7 E) 0 none true 7 [.int .i64 x.op] h = some (.bool (calls x.op), h) := fun h => by simp [y6, y29, yl]
  have cR : ∀ h : Heap, y6 E (y7 E) 0 none true 38 [.int .i64 x.op] h = some (.str (rowM x.op), h) := fun h => by simp [y6, y29, yl, y2d7]
  cases hc : calls x.op with
  | true =>
    have e : uses x = x.args := by simp [uses, hc]
    rw [e]
    rw [hc] at cC
    obtain ⟨g', a1⟩ := yq7 (α := Int) (H := [AX 1 x, D0, D0, D0, D0]) (fb := 0) (j := 1) (g := 0) (b := 8) (o := D0) (y := slA x.args) (L := []) (M := lst x.args) (by simp) rfl (by
      have : (2 * (0 + (lst x.args).length) + 512) * 8 ≤ 281474976710656 := by omega
      exact this)
    simp only [yd7, yuh, List.set_cons_succ, List.set_cons_zero, Nat.zero_add, List.nil_append] at a1
    have hx := y5b (H := [AX 1 x, y28 g' D0 (lst x.args), D0, D0, D0]) (j := 1) (g := g') (o := D0) (L := lst x.args) rfl
    simp only [yq1, n0, yn, yp1, y14, Nat.zero_add, lop, y9, cC, y2i, la, a1, hx]
  | false =>
    rw [hc] at cC
    rw [← y23m x hc]
    have lf : ∀ (j : Nat) (t : Heap), evLd false 1 (.lp 0 1 0 j) (AX 1 x :: t) = ((enc x).drop j).head? := fun j t => by simp
    have d1 : ((enc x).drop 1).head? = some (.int .i64 x.d) := rfl
    have d2 : ((enc x).drop 2).head? = some (.int .i64 x.a) := rfl
    have d3 : ((enc x).drop 3).head? = some (.int .i64 x.b) := rfl
    have d4 : ((enc x).drop 4).head? = some (.int .i64 x.c) := rfl
    have bs : yr 0 (some 2) 1 4 [.int .i64 0] [(0, .int .i64 x.d), (1, .int .i64 x.a), (2, .int .i64 x.b), (3, .int .i64 x.c)] [AX 1 x, D0, D0, D0, D0] = some (.ls 2 1 1 0 4, [AX 1 x, D0, AI 1 [x.d, x.a, x.b, x.c], D0, D0]) := by
      simp [yr, y13, List.replicate]
    have e9 : ∀ W : List UInt8, (W.length = 4 ∨ W = []) → yl7 (.lp 0 1 0 0) .nils (.str W) [AX 1 x, D0, D0, D0, D0] = some (exO (nz (usP W [x.d, x.a, x.b, x.c] 3))) := by
      intro W hW
      have e : yl7 (.lp 0 1 0 0) .nils (.str W) [AX 1 x, D0, D0, D0, D0] = y1mb .nils (.str W) (.ls 2 1 1 0 4) [AX 1 x, D0, AI 1 [x.d, x.a, x.b, x.c], D0, D0] := by
        simp only [yl7, y14, Nat.zero_add, y9, lf, d1, d2, d3, d4, bs, yn]
      rw [e]
      rcases hW with hW | rfl
      · have := y1ab x W [x.d, x.a, x.b, x.c] hW rfl D0 3 0 0 D0 rfl
        exact this
      · show ycp _ _ _ _ _ = _
        rw [yfp]
        rfl
    have hw : yfm (.lp 0 1 0 0) .nils (.str (rowM x.op)) [AX 1 x, D0, D0, D0, D0] = some (exO (nz (usP (yit x.op) [x.d, x.a, x.b, x.c] 3))) := by
      by_cases h5 : x.op = 5
      · have h6 : ¬ x.op = 6 := by omega
        have := e9 [45, 42, 42, 45] (.inl rfl)
        simp only [yfm, y14, Nat.zero_add, y9, lop, y2h, h5, decide_true, y2i, yfk, show ¬ (5 : Int) = 6 by omega, decide_false, y39, this, yit, if_true]
      · by_cases h6 : x.op = 6
        · have := e9 [45, 42, 45, 45] (.inl rfl)
          simp only [yfm, y14, Nat.zero_add, y9, lop, y2h, h6, show ¬ (6 : Int) = 5 by omega, decide_false, y39, yfk, decide_true, y2i, this, yit, if_true, if_false]
        · have hr : (rowM x.op).length = 4 ∨ rowM x.op = [] := by
            by_cases h : x.op < 1 ∨ 33 < x.op
            · right; rw [rowM, if_pos h]
            · exact .inl (y21p h)
          have := e9 _ hr
          simp only [yfm, y14, Nat.zero_add, y9, lop, y2h, h5, h6, decide_false, y39, yfk, this, yit, if_false]
    simp only [yq1, n0, yn, yp1, y14, Nat.zero_add, lop, y9, cC, y39, ywy, yx8, cR, hw]
set_option maxHeartbeats 1000000 in
theorem y2ks (x : Ins) : (y7 E).p 16 [.agg (enc x)] = some ⟨.int .i64 (defr x), [], true, [], []⟩ := by
  rw [y2m4]
  have n0 : newC 0 (some 0) (cellsOf (.agg (enc x))) [D0] = some (.lp 0 1 0 0, [AX 1 x]) := by simp
  have lop : ∀ t : Heap, evLd false 1 (.lp 0 1 0 0) (AX 1 x :: t) = some (.int .i64 x.op) := fun t => by simp
  have ld : ∀ t : Heap, evLd false 1 (.lp 0 1 0 1) (AX 1 x :: t) = some (.int .i64 x.d) := fun t => by simp
  have cR : ∀ h : Heap, y6 E (y7 E) 0 none true 38 [.int .i64 x.op] h = some (.str (rowM x.op), h) := fun h => by simp [y6, y29, yl, y2d7]
  have e : y15m (.agg (enc x)) [D0] = ymn (.lp 0 1 0 0) (.str (rowM x.op)) [AX 1 x] := by
    simp only [y15m, n0, yn, y1re, y14, Nat.zero_add, lop, y9, cR]
  rw [e]
  rcases y67 x.op with h|h|h|h|h|h|h|h|h|h|h|h|h|h|h|h|h|h|h|h|h|h|h|h|h|h|h|h|h|h|h|h|h|h|h
  all_goals first
    | (simp [ymn, yr3, h, rowM, rowT, y3a, defr, writes, calls]; done)
    | (simp [ymn, yr3, h, lo_f h, rowM, y3a, defr, writes, calls]; done)
    | (simp [ymn, yr3, h, hi_f h, rowM, y3a, defr, writes, calls]; done)
end Go.Vm
namespace Go.Vm
open Cel
attribute [local simp] y6 y29 yl
@[simp] theorem y2kw (op : Int) : (y7 E).p 19 [.int .i64 op] = some ⟨.bool (throws op), [], true, [], []⟩ := by
  rw [y2m1, y1pd]
  by_cases h1 : 7 ≤ op
  · by_cases h2 : op ≤ 12
    · simp [h1, h2, throws]
    · simp [h1, h2, yr, y13, yoz 1 0 0 0, y25v, throws]
      by_cases h3 : op = 20
      · simp [h3]
      by_cases h4 : op = 21
      · simp [h4]
      by_cases h5 : op = 31 <;> simp [h3, h4, h5]
  · have h4 : ¬ op = 20 ∧ ¬ op = 21 ∧ ¬ op = 31 := by omega
    simp [h1, yr, y13, yoz 1 0 0 0, y25v, throws, h4]
theorem y1pc (n : Int) (o : Option (List Int)) (hl : (lst o).length ≤ 9223372036854775807) (h : Heap) : ∀ (d i : Nat), i + d = (lst o).length →
    ykk (slA o) (.int .i64 n) (.int .i64 i) h = some ⟨.bool (((lst o).drop i).contains n), [], true, [], []⟩ := by
  intro d
  induction d with
  | zero =>
    intro i hi
    have e1 : (lst o).drop i = [] := List.drop_eq_nil_of_le (by omega)
    have hn : ¬ ((i : Int) < ((lst o).length : Int)) := by omega
    rw [yle, e1]
    simp [yo9, ynj, ynw, ym0, yob, yni, hn]
  | succ d ih =>
    intro i hi
    have hlt : i < (lst o).length := by omega
    have hn : ((i : Int) < ((lst o).length : Int)) := by omega
    have k1 := y3n (o := o) (i := i) (List.getElem?_eq_getElem hlt) .i64
    rw [yle, List.drop_eq_getElem_cons hlt, List.contains_cons]
    have ih := ih (i + 1) (by omega)
    push_cast at ih
    generalize (lst o)[i] = x at *
    by_cases he : x = n
    · simp [yo9, ynj, ynw, ym0, yob, yni, hn, k1, he]
    · have he' : ¬ n = x := fun h => he h.symm
      simp [yo9, ynj, ynw, ym0, yob, yni, hn, k1, he, he', y1f hlt hl, ih]
theorem y1vv (n : Int) (o : Option (List Int)) (hl : (lst o).length ≤ 9223372036854775807) : (y7 E).p 96 [slA o, .int .i64 n] = some ⟨.bool ((lst o).contains n), [], true, [], []⟩ := by
  have := y1pc n o hl [] _ 0 (Nat.zero_add _)
  simp only [Int.ofNat_zero, List.drop_zero] at this
  rw [y2kc, ← this]
  simp [yo9, ynj, ynw, ym0, yob, yni]
theorem yma (a b : Int) : (y7 E).p 96 [.rs 1 [[.int .i64 a]], .int .i64 b] = some ⟨.bool ([a].contains b), [], true, [], []⟩ := by
  have := y1vv b (some [a]) (by simp)
  exact this
theorem y1y0 (f : Fn) (i : Int) (hl : (lst f.code).length ≤ 9223372036854775807) : (y7 E).p 95 [.agg (enc f), .int .i64 i] = some (exO (nz (y1m f i))) := by
  rw [y2jm]
  by_cases h0 : i < 0
  · simp [yce, yby, ycf, yud, ytz, yvb, ylf, h0, y1m, nz]; rfl
  by_cases h1 : ((lst f.code).length : Int) ≤ i
  · simp [yce, yby, ycf, yud, ytz, yvb, ylf, h0, h1, y1m, nz]; rfl
  have g0 : 0 ≤ i := by omega
  have hx := y4a (f := f) (i := i.toNat) (by omega)
  have k1 := y61 (o := f.code) g0 hx .i64
  have hw := yta g0 (by omega) hl
  have hn : y1m f i = ypq (yd f i.toNat) i := by rw [y1m, if_neg (by omega)]
  rw [hn]
  generalize yd f i.toNat = x at *
  have e : ylf (.agg (enc f)) (.int .i64 i) [⟨0, .dead⟩, ⟨0, .dead⟩, ⟨0, .dead⟩, ⟨0, .dead⟩, ⟨0, .dead⟩] = ycf (.int .i64 i) (.lp 1 1 0 0) .nils [⟨1, .arr true false 5 [enc f]⟩, ⟨1, .arr true false 9 [enc x]⟩, ⟨0, .dead⟩, ⟨0, .dead⟩, ⟨0, .dead⟩] := by
    simp [ylf, yvb, ytz, yud, h0, h1, k1]
  rw [e, ypq]
  cases he : ends x.op with
  | true =>
    cases hd : leads x.op with
    | false => simp [ycf, yby, yce, he, hd, nz]; rfl
    | true =>
      have := y1vv x.t none (by simp)
      simp [ycf, yby, yce, he, hd, nz, slA] at this ⊢
      simp [this, yr, y13, y2b, addN]
      exact y68 (by simp)
  | false =>
    cases hd : leads x.op with
    | false =>
      simp [ycf, yby, yce, he, hd, hw, yr, y13, y2b]
      exact y68 (by simp)
    | true =>
      have hz : fz [⟨1, .arr true false 5 [enc f]⟩, ⟨1, .arr true false 9 [enc x]⟩, ⟨1, .arr false false 1 [[.int .i64 (i + 1)]]⟩, ⟨0, .dead⟩, ⟨0, .dead⟩] y1a (.ls 2 1 1 0 1) = some ⟨.rs 1 [[.int .i64 (i + 1)]], true, [2]⟩ := by
        rw [y1sp]; rfl
      generalize hxt : x.t = t at *
      by_cases hc : i + 1 = t
      · subst hc
        simp [ycf, yby, yce, he, hd, hw, yr, y13, y2b, hz, yma, addN, hxt]
        exact y68 (by simp)
      · have hc' : ¬ t = i + 1 := fun h => hc h.symm
        simp [ycf, yby, yce, he, hd, hw, yr, y13, y2b, hz, yma, hc, hc', addN, hxt]
        exact ymy (by simp)
theorem ytj (f : Fn) (i : Int) (hl : (lst f.rows).length ≤ 10000000000000) : ∀ (d k g : Nat) (L : List Int) (o1 o2 : AO), k + d = (lst f.rows).length → L.length ≤ k →
    ykj (.int .i64 i) (.lp 0 1 0 0) (y2d Int 3 g L) (.int .i64 k) [⟨1, .arr true false 5 [enc f]⟩, o1, o2, y28 g D0 L] = some (exO (nz (y32 i ((lst f.rows).drop k) L))) := by
  intro d
  induction d with
  | zero =>
    intro k g L o1 o2 hk _
    have e1 : (lst f.rows).drop k = [] := List.drop_eq_nil_of_le (by omega)
    have hn : ¬ ((k : Int) < ((lst f.rows).length : Int)) := by omega
    have hx := y5b (H := [⟨1, .arr true false 5 [enc f]⟩, o1, o2, y28 g D0 L]) (j := 3) (g := g) (o := D0) (L := L) rfl
    rw [yoa, e1]
    simp [yjj, y1tb, hn, y32, hx]
  | succ d ih =>
    intro k g L o1 o2 hk hL
    have hlt : k < (lst f.rows).length := by omega
    have hc : ((k : Int) < ((lst f.rows).length : Int)) := by omega
    have k1 := yey (o := f.rows) (i := k) (List.getElem?_eq_getElem hlt) .i64
    rw [yoa, List.drop_eq_getElem_cons hlt]
    generalize hr : (lst f.rows)[k] = r at *
    have ih0 := fun g L o1 o2 hL => ih (k + 1) g L o1 o2 (by omega) hL
    push_cast at ih0
    have hw := y1f hlt (by omega)
    have e11 : yjj (.int .i64 i) (.lp 0 1 0 0) (y2d Int 3 g L) (.int .i64 k) [⟨1, .arr true false 5 [enc f]⟩, o1, o2, y28 g D0 L] =
        yib (.int .i64 i) (.lp 0 1 0 0) (y2d Int 3 g L) (.int .i64 k) (.lp 1 (o1.gen + 1) 0 0) [⟨1, .arr true false 5 [enc f]⟩, ⟨o1.gen + 1, .arr true false 4 [enc r]⟩, o2, y28 g D0 L] := by
      simp [yjj, y1od, hc, k1]
    rw [e11]
    generalize (o1.gen + 1) = g1
    by_cases h1 : r.f ≤ i
    rotate_left
    · have : ¬ (r.f ≤ i ∧ i < r.t) := by omega
      simp [yib, yoe, ylr, h1, hw, y32, ih0 g L _ _ (by omega)]
    by_cases h2 : i < r.t
    rotate_left
    · have : ¬ (r.f ≤ i ∧ i < r.t) := by omega
      simp [yib, yoe, ylr, h1, h2, hw, y32, ih0 g L _ _ (by omega)]
    rw [y32, if_pos ⟨h1, h2⟩]
    have hz : ∀ o2, fz [⟨1, .arr true false 5 [enc f]⟩, ⟨g1, .arr true false 4 [enc r]⟩, o2, y28 g D0 L] y1a (y2d Int 3 g L) = some ⟨slA (nz L), true, ids1 (y2d Int 3 g L)⟩ := fun o2 => y13l rfl
    have hct := y1vv r.at_ (nz L) (by rw [y7i]; omega)
    rw [y7i] at hct
    have tail : ∀ g L o2, L.length ≤ k + 1 → yld (.int .i64 i) (.lp 0 1 0 0) (y2d Int 3 g L) (.int .i64 k) (.lp 1 g1 0 0) [⟨1, .arr true false 5 [enc f]⟩, ⟨g1, .arr true false 4 [enc r]⟩, o2, y28 g D0 L] =
        some (exO (nz (if r.c = [] then L else y32 i ((lst f.rows).drop (k + 1)) L))) := by
      intro g L o2 hL
      have hx := y5b (H := [⟨1, .arr true false 5 [enc f]⟩, ⟨g1, .arr true false 4 [enc r]⟩, o2, y28 g D0 L]) (j := 3) (g := g) (o := D0) (L := L) rfl
      by_cases hcl : r.c = []
      · simp [yld, hcl, hx]
      · simp [yld, ylr, hcl, hw, ih0 g L _ _ hL]
    unfold addN
    cases hb : L.contains r.at_ with
    | true =>
      rw [hb] at hct
      rw [if_pos rfl]
      have := tail g L o2 (by omega)
      simp [yib, yoe, y15o, h1, h2, hz, hct, this]
    | false =>
      rw [hb] at hct
      rw [if_neg Bool.false_ne_true]
      obtain ⟨g', ha⟩ := ywv (H := [⟨1, .arr true false 5 [enc f]⟩, ⟨g1, .arr true false 4 [enc r]⟩, ⟨o2.gen + 1, .arr false false 1 [[.int .i64 r.at_]]⟩, y28 g D0 L]) (fb := 0) (j := 3) (g := g) (o := D0) (y := .ls 2 (o2.gen + 1) 1 0 1) (L := L) (n := r.at_) (by simp) rfl (by omega)
      have ha' : y2b 0 (some 3) 1 8 (y2d Int 3 g L) (.ls 2 (o2.gen + 1) 1 0 1) [⟨1, .arr true false 5 [enc f]⟩, ⟨g1, .arr true false 4 [enc r]⟩, ⟨o2.gen + 1, .arr false false 1 [[.int .i64 r.at_]]⟩, y28 g D0 L] = some (y2d Int 3 g' (L ++ [r.at_]), [⟨1, .arr true false 5 [enc f]⟩, ⟨g1, .arr true false 4 [enc r]⟩, ⟨o2.gen + 1, .arr false false 1 [[.int .i64 r.at_]]⟩, y28 g' D0 (L ++ [r.at_])]) := ha
      have := tail g' (L ++ [r.at_]) ⟨o2.gen + 1, .arr false false 1 [[.int .i64 r.at_]]⟩ (by simp; omega)
      simp [yib, yoe, y15o, h1, h2, hz, hct, yr, y13, ha', this]
theorem y1w1 (f : Fn) (i : Int) (hl : (lst f.rows).length ≤ 10000000000000) : (y7 E).p 92 [.agg (enc f), .int .i64 i] = some (exO (nz (y10 f i))) := by
  rw [y2n7]
  by_cases h0 : i < 0
  · simp [yf6, yes, yew, h0, y10, nz]; rfl
  by_cases h1 : ((lst f.code).length : Int) ≤ i
  · simp [yf6, yes, yew, h0, h1, y10, nz]; rfl
  have g0 : 0 ≤ i := by omega
  have hx := y4a (f := f) (i := i.toNat) (by omega)
  have k1 := y61 (o := f.code) g0 hx .i64
  have hn : y10 f i = if throws (yd f i.toNat).op then y32 i (lst f.rows) [] else [] := by rw [y10, if_neg (by omega)]
  rw [hn]
  generalize yd f i.toNat = x at *
  have lp := ytj f i hl _ 0 0 [] D0 D0 (Nat.zero_add _) (Nat.zero_le _)
  simp only [yd7, yt0, List.drop_zero, Int.ofNat_zero] at lp
  have lp' : yxo (.int .i64 i) (.lp 0 1 0 0) .nils [⟨1, .arr true false 5 [enc f]⟩, D0, D0, D0] = some (exO (nz (y32 i (lst f.rows) []))) := lp
  cases ht : throws x.op with
  | false => simp [yf6, yes, yew, h0, h1, k1, ht, nz]; rfl
  | true => simp [yf6, yes, yew, h0, h1, k1, ht, lp']
end Go.Vm
namespace Go.Vm
open Cel
def nB : Nat := 20002
theorem y2qk : nB = 20002 := rfl
theorem yug {f : Fn} (w : Wf f) (r : Int) (i : Nat) : (y9u f r i).length ≤ nB := by
  rw [y2qk]
  have h1 := yea f i
  have h2 := w.caught_len i
  unfold y9u
  rw [List.length_append]
  split <;> simp <;> omega
def ywt (f : Fn) (r : Int) (i : Nat) : Bool := (yaq f i).contains r
theorem y23u (f : Fn) (r : Int) (i : Nat) : ywt f r i = (lst (uses (yd f i))).contains r := by rw [ywt, yaq]
theorem y1d7 (x : Ins) (h : (lst x.args).length ≤ 17592186043904) : (lst (uses x)).length ≤ 17592186043904 := by
  by_cases hc : calls x.op = true
  · simpa [uses, hc] using h
  · have := y234 (x := x) (by simpa using hc)
    omega
end Go.Vm
namespace Go.Vm
open Cel
theorem y1qo (n : Int) (o : Option (List Int)) (hl : (lst o).length ≤ 9223372036854775807) (h : Heap) : ∀ (d i : Nat), i + d = (lst o).length →
    yk3 (slA o) (.int .i64 n) (.int .i64 i) h = some ⟨.bool (((lst o).drop i).contains n), [], true, [], []⟩ := by
  intro d
  induction d with
  | zero =>
    intro i hi
    have e1 : (lst o).drop i = [] := List.drop_eq_nil_of_le (by omega)
    have hn : ¬ ((i : Int) < ((lst o).length : Int)) := by omega
    rw [ymi, e1]
    simp [yny, ynt, yno, yln, ymk, ymp, hn]
  | succ d ih =>
    intro i hi
    have hlt : i < (lst o).length := by omega
    have hn : ((i : Int) < ((lst o).length : Int)) := by omega
    have k1 := y3n (o := o) (i := i) (List.getElem?_eq_getElem hlt) .i64
    rw [ymi, List.drop_eq_getElem_cons hlt, List.contains_cons]
    have ih := ih (i + 1) (by omega)
    push_cast at ih
    generalize (lst o)[i] = x at *
    by_cases he : x = n
    · simp [yny, ynt, yno, yln, ymk, ymp, hn, k1, he]
    · have he' : ¬ n = x := fun h => he h.symm
      simp [yny, ynt, yno, yln, ymk, ymp, hn, k1, he, he', y1f hlt hl, ih]
theorem y2kt (n : Int) (o : Option (List Int)) (hl : (lst o).length ≤ 9223372036854775807) : (y7 E).p 94 [slA o, .int .i64 n] = some ⟨.bool ((lst o).contains n), [], true, [], []⟩ := by
  have := y1qo n o hl [] _ 0 (Nat.zero_add _)
  simp only [Int.ofNat_zero, List.drop_zero] at this
  rw [y2j7, ← this]
  simp [yny, ynt, yno, yln, ymk, ymp]
end Go.Vm
