/- 'right', whole. Whether a function is well formed: 'Check': its lists of registers, parameters, rows. flow.Set: the table is made as the plain words have it. The document's searches: where they go on, what they look for. flow.Set: its end, its beginning, and what it says. carry.Pass on the machine: the pass itself. What a function that is handed in is fit for, for a check. A pass as laws see it. Whether two lists of numbers are the same. Whether two lists of numbers, two instructions are the same; a number in a list. Whether two functions are the same. What the document says that the stack's instructions over numbers take and give. The document's answers for single operations: numbers in a list, ways, ends. The document's table of operations. The document's answers for single operations. -/
import Derived.Test.YtgbajicpokolcaaKX
import Derived.Test.YtgbajicpokolcaaKTd
set_option linter.unusedSimpArgs false
set_option linter.unusedVariables false
set_option linter.unusedSectionVars false
namespace Go.Vm
open Cel
attribute [local simp] y7 y28 yr
theorem ytn (f : Fn) (x : Ins) (a b c d : Int) (i : Nat) (r : Int) (v63 v64 : AV) :
    yl7 P0 P1 (.int .i64 i) (.int .i64 r) v63 v64 (.int .i64 i) (HR f x a b c d) =
      if inR (lst f.regs) r && (!decide (i = 0) || !(decide (x.op = 24) || decide (x.op = 25)) || decide (regK (lst f.regs) r = 3)) then y1ow P0 P1 v63 v64 (.int .i64 i) (HR f x a b c d) else some ⟨.bool false, [], true, [], []⟩ := by
  by_cases h0 : r < 0
  · have : ¬ 0 ≤ r := by omega
    simp [yl7, h0, inR, this]
  by_cases h1 : r < ((lst f.regs).length : Int)
  · have h0' : 0 ≤ r := by omega
    have h1' : ¬ ((lst f.regs).length : Int) ≤ r := by omega
    have hin : inR (lst f.regs) r = true := by simp [inR, h0', h1]
    have hr := yds hin
    by_cases hi : i = 0
    · subst hi
      by_cases o1 : x.op = 24
      · by_cases h3 : regK (lst f.regs) r = 3
        · simp [yl7, h0, h1', hin, hr, o1, h3]
        · simp [yl7, h0, h1', hin, hr, o1, h3]
      · by_cases o2 : x.op = 25
        · by_cases h3 : regK (lst f.regs) r = 3
          · simp [yl7, h0, h1', hin, hr, o2, h3]
          · simp [yl7, h0, h1', hin, hr, o2, h3]
        · simp [yl7, h0, h1', hin, o1, o2]
    · have hi' : ¬ ((i : Int) = 0) := by omega
      simp [yl7, h0, h1', hin, hi, hi']
  · have h1' : ((lst f.regs).length : Int) ≤ r := by omega
    simp [yl7, h0, h1', h1, inR]
theorem y1bz (f : Fn) (x : Ins) (a b c d : Int) (T : Bool) (hc : calls x.op = true) (hl : (lst x.args).length ≤ 9223372036854775807) (hT : yak P0 P1 (HR f x a b c d) = some ⟨.bool T, [], true, [], []⟩) :
    ∀ (k i : Nat), i + k = (lst x.args).length → 0 < i →
    yit P0 P1 (slA x.args) (.int .i64 (lst x.args).length) (.int .i64 i) (HR f x a b c d) = some ⟨.bool (((lst x.args).drop i).all (inR (lst f.regs)) && T), [], true, [], []⟩ := by
  intro k
  induction k with
  | zero =>
    intro i hi _
    have e1 : (lst x.args).drop i = [] := List.drop_eq_nil_of_le (by omega)
    have hn : ¬ ((i : Int) < ((lst x.args).length : Int)) := by omega
    rw [yk7, e1]
    simp [ykg, yir, hn, hT]
  | succ k ih =>
    intro i hi h0
    have hlt : i < (lst x.args).length := by omega
    have hn : ((i : Int) < ((lst x.args).length : Int)) := by omega
    have e1 : ((lst x.args).drop i).all (inR (lst f.regs)) = (inR (lst f.regs) (lst x.args)[i] && ((lst x.args).drop (i + 1)).all (inR (lst f.regs))) := by rw [List.drop_eq_getElem_cons hlt, List.all_cons]
    have ih := ih (i + 1) (by omega) (by omega)
    push_cast at ih
    have k1 := y24 (o := x.args) (i := i) (List.getElem?_eq_getElem hlt) .i64
    have hz : ¬ i = 0 := by omega
    rw [yk7, e1]
    simp only [ykg, yir, yh, y2, hn, decide_true, y1f]
    simp only [y1l8, k1, y2, yxo, ybi, List.head?_cons]
    simp only [y1iw]
    simp only [y38]
    simp only [ypx, ye1]
    simp only [List.getElem?_cons_zero, List.drop_zero, ype, y2]
    simp only [y7, yy8, Option.isSome_none, Bool.and_false, Bool.not_false, Bool.and_self, if_true, y28, yk, y5d, y11, ywf, yr, yp5, yf, Bool.true_or]
    simp only [y2d, y2, hc, Bool.not_true, y1p, ytn]
    cases inR (lst f.regs) (lst x.args)[i]
    · simp
    · simp [hz, y1ow, y1a hlt hl, ih]
theorem y1c2 (f : Fn) (x : Ins) (a b c d : Int) (T : Bool) (hl : (lst x.args).length ≤ 9223372036854775807) (hT : yak P0 P1 (HR f x a b c d) = some ⟨.bool T, [], true, [], []⟩) :
    yv2 P0 P1 (HR f x a b c d) = some ⟨.bool (y5c (lst f.regs) x && T), [], true, [], []⟩ := by
  have e0 : yv2 P0 P1 (HR f x a b c d) = yit P0 P1 (slA x.args) (.int .i64 (lst x.args).length) (.int .i64 0) (HR f x a b c d) := by simp [yv2]
  rw [e0, yk7]
  cases ha : lst x.args with
  | nil => simp [ykg, yir, hT, y5c, yfw, ha]
  | cons r rest =>
    have k1 := y24 (o := x.args) (i := 0) (x := r) (by rw [ha]; rfl) .i64
    have k1 : yi 1 (slA x.args) (.int .i64 0) = some (.rp [.int .i64 r]) := k1
    have hn : ((0 : Int) < ((lst x.args).length : Int)) := by rw [ha]; simp
    have hra := ytn f x a b c d 0 r (slA x.args) (.int .i64 (lst x.args).length)
    simp only [Int.ofNat_zero, decide_true, Bool.not_true, Bool.false_or] at hra
    rw [← ha]
    cases hc : calls x.op with
    | false =>
      simp only [ykg, yir, yh, y2, hn, decide_true, y1f]
      simp only [y1l8, k1, y2, yxo, ybi, List.head?_cons]
      simp only [y1iw]
      simp only [y38]
      simp only [ypx, ye1]
      simp only [List.getElem?_cons_zero, List.drop_zero, ype, y2]
      simp only [y7, yy8, Option.isSome_none, Bool.and_false, Bool.not_false, Bool.and_self, if_true, y28, yk, y5d, y11, ywf, yr, yp5, yf, Bool.true_or]
      simp only [y2d, y2, hc, Bool.not_false, y1f, hT, y5c, Bool.true_or, Bool.true_and]
    | true =>
      have hlp := y1bz f x a b c d T hc hl hT rest.length 1 (by rw [ha]; simp; omega) (by omega)
      have hd : (lst x.args).drop 1 = rest := by rw [ha]; rfl
      rw [hd] at hlp
      have hlp : yit P0 P1 (slA x.args) (.int .i64 (lst x.args).length) (.int .i64 1) (HR f x a b c d) = _ := hlp
      simp only [ykg, yir, yh, y2, hn, decide_true, y1f]
      simp only [y1l8, k1, y2, yxo, ybi, List.head?_cons]
      simp only [y1iw]
      simp only [y38]
      simp only [ypx, ye1]
      simp only [List.getElem?_cons_zero, List.drop_zero, ype, y2]
      simp only [y7, yy8, Option.isSome_none, Bool.and_false, Bool.not_false, Bool.and_self, if_true, y28, yk, y5d, y11, ywf, yr, yp5, yf, Bool.true_or]
      simp only [y2d, y2, hc, Bool.not_true, y1p, hra]
      simp only [y5c, yfw, ha, List.all_cons]
      have hw : IntKind.wrap .i64 ((0 : Int) + 1) = 1 := y2b (n := 1) (by omega) (by omega)
      generalize (!(decide (x.op = 24) || decide (x.op = 25)) || decide (regK (lst f.regs) r = 3)) = B
      have hw2 : IntKind.wrap .i64 (1 : Int) = 1 := y2b (n := 1) (by omega) (by omega)
      cases inR (lst f.regs) r with
      | false => cases B <;> simp [hc]
      | true =>
        cases B with
        | false => simp [hc]
        | true =>
          simp only [Bool.and_self, if_true, y1ow, y1q, y2]
          rw [show IntKind.wrap .i64 ((0 : Int) + 1) = 1 from hw]
          rw [← ha, hlp]
          simp [hc]
theorem y1xs (x : Ins) : (x.op = 1 → (yl x).1 = 0) ∧ (x.op = 4 → (yl x).1 = 0 ∧ (yl x).2.1 = 0) ∧ (x.op = 7 → (yl x).2.1 = 0) ∧ (x.op = 30 → x.a = -1 ∨ (yl x).2.1 = 0) := by
  refine ⟨fun h => ?_, fun h => ?_, fun h => ?_, fun h => ?_⟩ <;> simp [yl, h]
  by_cases ha : x.a = -1 <;> simp [ha]
theorem ye5 {R : List Int} {w r : Int} (h : y1l R w r = true) (hw : w = 0) : inR R r = true := by
  subst hw
  simpa [y1l] using h
set_option maxHeartbeats 1000000 in
theorem y2fp (f : Fn) (x : Ins) (hn : -9223372036854775808 ≤ x.n ∧ x.n < 9223372036854775808) (hs : x.s.length ≤ 9223372036854775807) (hl : (lst x.args).length ≤ 9223372036854775807) :
    (y8 E).p 63 [.agg (enc f), .agg (enc x)] = some ⟨.bool (y1c f x), [], true, [], []⟩ := by
  have hk := y2ep x hn hs
  obtain ⟨q1, q4, q7, q30⟩ := y1xs x
  rw [y2zh]
  have red : ∀ X : Option (Ex AV), y1c f x = y1c f x → True := fun _ _ => trivial
  have e0 : yrl (.agg (enc f)) (.agg (enc x)) [⟨0, .dead⟩, ⟨0, .dead⟩, ⟨0, .dead⟩] =
      if (yl x).2.2.2.2 = true then ydo P0 P1 P2 (.agg [.int .i64 x.d, .int .i64 x.a, .int .i64 x.b, .int .i64 x.c]) (.int .i64 0) (HR f x (yl x).1 (yl x).2.1 (yl x).2.2.1 (yl x).2.2.2.1) else some ⟨.bool false, [], true, [], []⟩ := by
    unfold exK at hk
    generalize yl x = k at *
    obtain ⟨a, b, c, d, o⟩ := k
    simp only at hk ⊢
    cases o with
    | true => simp [yrl, yyk, y16k, y1k1, hk]
    | false => simp [yrl, yyk, y16k, hk]
  rw [e0, y1c]
  cases hok : (yl x).2.2.2.2 with
  | false => simp
  | true =>
    simp only [if_true, Bool.true_and]
    have step : ∀ (i : Nat) (w r : Int), i < 4 → [(yl x).1, (yl x).2.1, (yl x).2.2.1, (yl x).2.2.2.1][i]? = some w → [x.d, x.a, x.b, x.c][i]? = some r →
        ydo P0 P1 P2 (.agg [.int .i64 x.d, .int .i64 x.a, .int .i64 x.b, .int .i64 x.c]) (.int .i64 i) (HR f x (yl x).1 (yl x).2.1 (yl x).2.2.1 (yl x).2.2.2.1) =
        if y1l (lst f.regs) w r then ydo P0 P1 P2 (.agg [.int .i64 x.d, .int .i64 x.a, .int .i64 x.b, .int .i64 x.c]) (.int .i64 (i + 1 : Nat)) (HR f x (yl x).1 (yl x).2.1 (yl x).2.2.1 (yl x).2.2.2.1) else some ⟨.bool false, [], true, [], []⟩ := by
      intro i w r hi hw hr
      have hc : ((i : Int) < (4 : Int)) := by omega
      have hv : yps false 4 1 (.agg [.int .i64 x.d, .int .i64 x.a, .int .i64 x.b, .int .i64 x.c]) (.int .i64 i) = some (.int .i64 r) := by
        match i, hi, hr with
        | 0, _, hr => simp at hr; simp [yps, hr]
        | 1, _, hr => simp at hr; simp [yps, hr]
        | 2, _, hr => simp at hr; simp [yps, hr]
        | 3, _, hr => simp at hr; simp [yps, hr]
      have hw2 : IntKind.wrap .i64 ((i : Int) + 1) = ((i + 1 : Nat) : Int) := by rw [y2b] <;> omega
      rw [yov]
      simp only [y05, yzv, yh, y2, hc, decide_true, y1f]
      simp only [y1gn, hv, y2]
      rw [yxp f x _ _ _ _ i w r _ hi hw]
      simp only [yqs, y1q, y2, hw2]
    have s0 := step 0 _ _ (by omega) rfl rfl
    have s1 := step 1 _ _ (by omega) rfl rfl
    have s2 := step 2 _ _ (by omega) rfl rfl
    have s3 := step 3 _ _ (by omega) rfl rfl
    simp only [Int.ofNat_zero] at s0
    rw [s0]
    cases f0 : y1l (lst f.regs) (yl x).1 x.d with
    | false => simp
    | true =>
      simp only [if_true, Bool.true_and]
      rw [s1]
      cases f1 : y1l (lst f.regs) (yl x).2.1 x.a with
      | false => simp
      | true =>
        simp only [if_true, Bool.true_and]
        rw [s2]
        cases f2 : y1l (lst f.regs) (yl x).2.2.1 x.b with
        | false => simp
        | true =>
          simp only [if_true, Bool.true_and]
          rw [s3]
          cases f3 : y1l (lst f.regs) (yl x).2.2.2.1 x.c with
          | false => simp
          | true =>
            simp only [if_true, Bool.true_and]
            have ht := y1c1 f x (yl x).1 (yl x).2.1 (yl x).2.2.1 (yl x).2.2.2.1 (fun h => ye5 f0 (q1 h)) (fun h => ⟨ye5 f0 (q4 h).1, ye5 f1 (q4 h).2⟩) (fun h => ye5 f1 (q7 h)) (fun h => (q30 h).imp id fun h => ye5 f1 h)
            rw [← y1c2 f x _ _ _ _ _ hl ht]
            rw [yov]
            simp [y05, yzv]
end Go.Vm
namespace Go.Vm
open Cel
attribute [local simp] y7 y28 yr
abbrev HC (f : Fn) (o1 o2 : AO) : Heap := [⟨1, .arr true false 5 [enc f]⟩, o1, o2]
abbrev E80 : Option (Ex AV) := some ⟨.int .i64 80, [], true, [], []⟩
abbrev E0 : Option (Ex AV) := some ⟨.int .i64 0, [], true, [], []⟩
theorem y1e3 (f : Fn) (o1 : AO) (n : Int) (hn : n = (lst f.code).length) (hl : (lst f.rows).length ≤ 9223372036854775807) : ∀ (d i : Nat) (o2 : AO), i + d = (lst f.rows).length →
    ynx P0 (.int .i64 n) (slA f.rows) (.int .i64 (lst f.rows).length) (.int .i64 i) (HC f o1 o2) = if ((lst f.rows).drop i).all (y4p (lst f.code)) then E0 else E80 := by
  intro d
  induction d with
  | zero =>
    intro i o2 hi
    have e1 : (lst f.rows).drop i = [] := List.drop_eq_nil_of_le (by omega)
    have hn : ¬ ((i : Int) < ((lst f.rows).length : Int)) := by omega
    rw [yu0, e1]
    simp [y269, y26i, y2jw, hn]
  | succ d ih =>
    intro i o2 hi
    have hlt : i < (lst f.rows).length := by omega
    have hc : ((i : Int) < ((lst f.rows).length : Int)) := by omega
    have k1 := ygh (o := f.rows) (i := i) (List.getElem?_eq_getElem hlt) .i64
    rw [yu0]
    have e1 : ((lst f.rows).drop i).all (y4p (lst f.code)) = (y4p (lst f.code) (lst f.rows)[i] && ((lst f.rows).drop (i + 1)).all (y4p (lst f.code))) := by rw [List.drop_eq_getElem_cons hlt, List.all_cons]
    rw [e1]
    generalize hr : (lst f.rows)[i] = r at *
    have ih := fun o2 => ih (i + 1) o2 (by omega)
    push_cast at ih
    subst hn
    simp only [y269, y26i, yh, y2, hc, decide_true, y1f]
    by_cases h1 : r.f < 0
    · simp [yq5, k1, y4p, h1]
    by_cases h2 : r.t ≤ r.f
    · simp [yq5, k1, y4p, h1, h2]
    by_cases h3 : ((lst f.code).length : Int) < r.t
    · simp [yq5, k1, y4p, h1, h2, h3]
    by_cases h4 : r.at_ < 0
    · simp [yq5, k1, y4p, h1, h2, h3, h4]
    by_cases h5 : ((lst f.code).length : Int) ≤ r.at_
    · simp [yq5, k1, y4p, h1, h2, h3, h4, h5]
    · have hx : r.at_.toNat < (lst f.code).length := by omega
      have k2 := y8j (o := f.code) (n := r.at_) (by omega) (List.getElem?_eq_getElem hx) .i64
      have hg : (lst f.code).getD r.at_.toNat default = (lst f.code)[r.at_.toNat] := by rw [List.getD_eq_getElem?_getD, List.getElem?_eq_getElem hx]; rfl
      by_cases h6 : ((lst f.code)[r.at_.toNat]).op = 32
      · simp [yq5, k1, y4p, h1, h2, h3, h4, h5, k2, h6, hx, y2fc, y1a hlt hl, ih]
      · simp [yq5, k1, y4p, h1, h2, h3, h4, h5, k2, h6, hx]
theorem y1dr (f : Fn) (o1 o2 : AO) (n : Int) (hl : (lst f.regs).length ≤ 9223372036854775807) : ∀ (d i : Nat), i + d = (lst f.regs).length →
    ygl P0 (.int .i64 n) (slA f.regs) (.int .i64 (lst f.regs).length) (.int .i64 i) (HC f o1 o2) = if ((lst f.regs).drop i).all (fun k => decide (1 ≤ k) && decide (k ≤ 3)) then ys3 P0 (.int .i64 n) (HC f o1 o2) else E80 := by
  intro d
  induction d with
  | zero =>
    intro i hi
    have e1 : (lst f.regs).drop i = [] := List.drop_eq_nil_of_le (by omega)
    have hn : ¬ ((i : Int) < ((lst f.regs).length : Int)) := by omega
    rw [yot, e1]
    simp [y167, y16r, hn]
  | succ d ih =>
    intro i hi
    have hlt : i < (lst f.regs).length := by omega
    have hc : ((i : Int) < ((lst f.regs).length : Int)) := by omega
    have k1 := y24 (o := f.regs) (i := i) (List.getElem?_eq_getElem hlt) .i64
    have e1 : ((lst f.regs).drop i).all (fun k => decide (1 ≤ k) && decide (k ≤ 3)) = ((decide (1 ≤ (lst f.regs)[i]) && decide ((lst f.regs)[i] ≤ 3)) && ((lst f.regs).drop (i + 1)).all (fun k => decide (1 ≤ k) && decide (k ≤ 3))) := by
      rw [List.drop_eq_getElem_cons hlt, List.all_cons]
    rw [yot, e1]
    generalize hr : (lst f.regs)[i] = r at *
    have ih := ih (i + 1) (by omega)
    push_cast at ih
    simp only [y167, y16r, yh, y2, hc, decide_true, y1f]
    by_cases h1 : r < 1
    · have : ¬ 1 ≤ r := by omega
      simp [yrk, k1, h1, this]
    by_cases h2 : 3 < r
    · have : ¬ r ≤ 3 := by omega
      simp [yrk, k1, h1, h2, this]
    · have a1 : 1 ≤ r := by omega
      have a2 : r ≤ 3 := by omega
      simp [yrk, k1, h1, h2, a1, a2, y1u6, y1a hlt hl, ih]
theorem yr6 (f : Fn) (o1 o2 : AO) (n : Int) (hl : (lst f.params).length ≤ 9223372036854775807) : ∀ (d i : Nat), i + d = (lst f.params).length →
    yg4 P0 (.int .i64 n) (slA f.params) (.int .i64 (lst f.params).length) (.int .i64 i) (HC f o1 o2) = if y8l (lst f.regs) i ((lst f.params).take i) ((lst f.params).drop i) then yv7 P0 (.int .i64 n) (HC f o1 o2) else E80 := by
  intro d
  induction d with
  | zero =>
    intro i hi
    have e1 : (lst f.params).drop i = [] := List.drop_eq_nil_of_le (by omega)
    have hn : ¬ ((i : Int) < ((lst f.params).length : Int)) := by omega
    rw [yol, e1]
    simp [y13d, y19i, hn, y8l]
  | succ d ih =>
    intro i hi
    have hlt : i < (lst f.params).length := by omega
    have hc : ((i : Int) < ((lst f.params).length : Int)) := by omega
    have k1 := y24 (o := f.params) (i := i) (List.getElem?_eq_getElem hlt) .i64
    have ks := y2cs (α := Int) f.params i (by omega) .i64
    simp only [y1ft] at ks
    have hlm : lst (f.params.map (List.take i)) = (lst f.params).take i := by cases f.params <;> simp
    have e1 : y8l (lst f.regs) i ((lst f.params).take i) ((lst f.params).drop i) = ((inR (lst f.regs) (lst f.params)[i] && !((lst f.params).take i).contains (lst f.params)[i] && decide (i ≤ 20)) && y8l (lst f.regs) (i + 1) ((lst f.params).take (i + 1)) ((lst f.params).drop (i + 1))) := by
      rw [List.drop_eq_getElem_cons hlt, y8l, List.take_append_getElem]
    rw [yol, e1]
    have hct : (y8 E).p 46 [slA (f.params.map (List.take i)), .int .i64 (lst f.params)[i]] = some ⟨.bool (((lst f.params).take i).contains (lst f.params)[i]), [], true, [], []⟩ := by
      rw [yce _ _ (by rw [hlm, List.length_take]; omega), hlm]
    generalize hr : (lst f.params)[i] = r at *
    generalize ((lst f.params).take i).contains r = B at *
    have ih := ih (i + 1) (by omega)
    push_cast at ih
    simp only [y13d, y19i, yh, y2, hc, decide_true, y1f]
    have e20 : ((20 : Int) < (i : Int)) ↔ ¬ i ≤ 20 := by omega
    by_cases h1 : r < 0
    · have : ¬ 0 ≤ r := by omega
      simp [yk6, k1, inR, h1, this]
    by_cases h2 : ((lst f.regs).length : Int) ≤ r
    · have : ¬ r < ((lst f.regs).length : Int) := by omega
      simp [yk6, k1, inR, h1, h2, this]
    · have a1 : 0 ≤ r := by omega
      have a2 : r < ((lst f.regs).length : Int) := by omega
      cases B with
      | true => simp [yk6, k1, inR, h1, h2, a1, a2, ks, hct]
      | false =>
        by_cases h3 : i ≤ 20
        · have h3' : ¬ ((20 : Int) < (i : Int)) := by omega
          simp [yk6, k1, inR, h1, h2, a1, a2, ks, hct, h3, h3', y1wx, y1a hlt hl, ih]
        · have h3' : ((20 : Int) < (i : Int)) := by omega
          simp [yk6, k1, inR, h1, h2, a1, a2, ks, hct, h3, h3']
theorem y1dj {R : List Int} {ret : Int} {n : Nat} {x : Ins} (h : y3f R ret n x = true) (hl : leads x.op = true) : 0 ≤ x.t ∧ x.t < n := by
  have hne : ¬ x.op = 1 ∧ ¬ x.op = 4 ∧ ¬ x.op = 7 ∧ ¬ x.op = 30 := by
    simp only [leads, Bool.or_eq_true, decide_eq_true_eq] at hl
    omega
  simp only [y3f, hne, if_false, hl, Bool.not_true, Bool.false_or, Bool.and_eq_true, decide_eq_true_eq] at h
  exact h
theorem ykl {f : Fn} {x : Ins} (h : y1c f x = true) (hl : leads x.op = true) : 0 ≤ x.t ∧ x.t < (lst f.code).length := by
  simp only [y1c, Bool.and_eq_true] at h
  exact y1dj h.2 hl
structure InsFit (x : Ins) : Prop where
  n : -9223372036854775808 ≤ x.n ∧ x.n < 9223372036854775808
  s : x.s.length ≤ 9223372036854775807
  a : (lst x.args).length ≤ 9223372036854775807
theorem y1b4 (f : Fn) (o2 : AO) (n : Int) (x : Ins) (i g : Nat) (v92 v93 v94 : AV) (hi : i < (lst f.code).length) (hl : (lst f.code).length ≤ 9223372036854775807) (ht : leads x.op = true → 0 ≤ x.t ∧ x.t < (lst f.code).length) :
    ycr P0 (.int .i64 n) (.int .i64 i) (.lp 1 g 0 0) v92 v93 v94 (HC f ⟨g, .arr true false 9 [enc x]⟩ o2) =
      if y3t (lst f.code) i x then yz1 P0 (.int .i64 n) v92 v93 v94 (HC f ⟨g, .arr true false 9 [enc x]⟩ o2) else E80 := by
  by_cases h32 : x.op = 32
  · have hld : leads x.op = false := by simp [leads, h32]
    by_cases h0 : i = 0
    · subst h0
      simp [ycr, h32, y3t]
    · have h0' : ¬ ((i : Int) = 0) := by omega
      have hp : i - 1 < (lst f.code).length := by omega
      have k1 := y7t (o := f.code) (i := i - 1) (List.getElem?_eq_getElem hp) .i64
      have hw : IntKind.wrap .i64 ((i : Int) - 1) = ((i - 1 : Nat) : Int) := by rw [y2b] <;> omega
      have hg : (lst f.code).getD (i - 1) default = (lst f.code)[i - 1] := by rw [List.getD_eq_getElem?_getD, List.getElem?_eq_getElem hp]; rfl
      have hld32 : leads 32 = false := by simp [leads]
      cases he : ends ((lst f.code)[i - 1]).op with
      | true => simp [ycr, h32, y3t, h0, h0', hw, k1, hp, he, hld32]
      | false => simp [ycr, h32, y3t, h0, h0', hw, k1, hp, he]
  · cases hld : leads x.op with
    | false => simp [ycr, h32, y3t, hld]
    | true =>
      obtain ⟨t0, t1⟩ := ht hld
      have hx : x.t.toNat < (lst f.code).length := by omega
      have k2 := y8j (o := f.code) (n := x.t) t0 (List.getElem?_eq_getElem hx) .i64
      by_cases h6 : ((lst f.code)[x.t.toNat]).op = 32
      · simp [ycr, h32, y3t, hld, k2, h6, hx]
      · simp [ycr, h32, y3t, hld, k2, h6, hx]
theorem y1dy (f : Fn) (o2 : AO) (n : Int) (hfit : ∀ x ∈ lst f.code, InsFit x) (hl : (lst f.code).length ≤ 9223372036854775807) : ∀ (d i : Nat) (o1 : AO), i + d = (lst f.code).length →
    ∃ o1', yg8 P0 (.int .i64 n) (slA f.code) (.int .i64 (lst f.code).length) (.int .i64 i) (HC f o1 o2) = if y4a f (lst f.code) i ((lst f.code).drop i) then y1kg P0 (.int .i64 n) (HC f o1' o2) else E80 := by
  intro d
  induction d with
  | zero =>
    intro i o1 hi
    have e1 : (lst f.code).drop i = [] := List.drop_eq_nil_of_le (by omega)
    have hn : ¬ ((i : Int) < ((lst f.code).length : Int)) := by omega
    rw [ynr, e1]
    exact ⟨o1, by simp [y171, y19o, hn, y4a]⟩
  | succ d ih =>
    intro i o1 hi
    have hlt : i < (lst f.code).length := by omega
    have hc : ((i : Int) < ((lst f.code).length : Int)) := by omega
    have k1 := y7t (o := f.code) (i := i) (List.getElem?_eq_getElem hlt) .i64
    have e1 : y4a f (lst f.code) i ((lst f.code).drop i) = (y1c f (lst f.code)[i] && y3t (lst f.code) i (lst f.code)[i] && y4a f (lst f.code) (i + 1) ((lst f.code).drop (i + 1))) := by
      rw [List.drop_eq_getElem_cons hlt, y4a]
    have fit := hfit _ (List.getElem_mem hlt)
    rw [ynr, e1]
    generalize hx : (lst f.code)[i] = x at *
    have hr := y2fp f x fit.n fit.s fit.a
    simp only [y171, y19o, yh, y2, hc, decide_true, y1f]
    cases hok : y1c f x with
    | false =>
      rw [hok] at hr
      exact ⟨o1, by simp [yvf, y0i, k1, hr]⟩
    | true =>
      rw [hok] at hr
      have e13 : ∀ K : Option (Ex AV), yvf P0 (.int .i64 n) (slA f.code) (.int .i64 (lst f.code).length) (.int .i64 i) (HC f o1 o2) = ycr P0 (.int .i64 n) (.int .i64 i) (.lp 1 (o1.gen + 1) 0 0) (slA f.code) (.int .i64 (lst f.code).length) (.int .i64 i) (HC f ⟨o1.gen + 1, .arr true false 9 [enc x]⟩ o2) := by
        intro _
        simp [yvf, y0i, k1, hr]
      rw [e13 none]
      rw [y1b4 f o2 n x i _ _ _ _ hlt hl (fun h => ykl hok h)]
      cases hs : y3t (lst f.code) i x with
      | false => exact ⟨o1, by simp⟩
      | true =>
        obtain ⟨o1', ih⟩ := ih (i + 1) ⟨o1.gen + 1, .arr true false 9 [enc x]⟩ (by omega)
        push_cast at ih
        exact ⟨o1', by simp [yz1, y1a hlt hl, ih]⟩
structure FnFit (f : Fn) : Prop where
  ins : ∀ x ∈ lst f.code, InsFit x
  code : (lst f.code).length ≤ 9223372036854775807
  regs : (lst f.regs).length ≤ 9223372036854775807
  params : (lst f.params).length ≤ 9223372036854775807
  rows : (lst f.rows).length ≤ 9223372036854775807
theorem y1hv (f : Fn) (hf : FnFit f) (o1 o2 : AO) (n : Int) (hn : n = (lst f.code).length) :
    ynm P0 (.int .i64 n) (HC f o1 o2) = if (lst f.regs).all (fun k => decide (1 ≤ k) && decide (k ≤ 3)) && y8l (lst f.regs) 0 [] (lst f.params) && y4a f (lst f.code) 0 (lst f.code) && (lst f.rows).all (y4p (lst f.code)) then E0 else E80 := by
  have a1 := y1dr f o1 o2 n hf.regs _ 0 (Nat.zero_add _)
  have a2 := yr6 f o1 o2 n hf.params _ 0 (Nat.zero_add _)
  obtain ⟨o1', a3⟩ := y1dy f o2 n hf.ins hf.code _ 0 o1 (Nat.zero_add _)
  have a4 := y1e3 f o1' n hn hf.rows _ 0 o2 (Nat.zero_add _)
  simp only [Int.ofNat_zero, List.drop_zero, List.take_zero] at a1 a2 a3 a4
  have e1 : ynm P0 (.int .i64 n) (HC f o1 o2) = ygl P0 (.int .i64 n) (slA f.regs) (.int .i64 (lst f.regs).length) (.int .i64 0) (HC f o1 o2) := by simp [ynm]
  have e2 : ys3 P0 (.int .i64 n) (HC f o1 o2) = yg4 P0 (.int .i64 n) (slA f.params) (.int .i64 (lst f.params).length) (.int .i64 0) (HC f o1 o2) := by simp [ys3]
  have e3 : yv7 P0 (.int .i64 n) (HC f o1 o2) = yg8 P0 (.int .i64 n) (slA f.code) (.int .i64 (lst f.code).length) (.int .i64 0) (HC f o1 o2) := by simp [yv7]
  have e4 : y1kg P0 (.int .i64 n) (HC f o1' o2) = ynx P0 (.int .i64 n) (slA f.rows) (.int .i64 (lst f.rows).length) (.int .i64 0) (HC f o1' o2) := by simp [y1kg]
  rw [e1, a1, e2, a2, e3, a3, e4, a4]
  generalize (lst f.regs).all (fun k => decide (1 ≤ k) && decide (k ≤ 3)) = b1
  generalize y8l (lst f.regs) 0 [] (lst f.params) = b2
  generalize y4a f (lst f.code) 0 (lst f.code) = b3
  generalize (lst f.rows).all (y4p (lst f.code)) = b4
  cases b1 <;> cases b2 <;> cases b3 <;> cases b4 <;> rfl
set_option maxHeartbeats 1000000 in
theorem y1pu (f : Fn) (hf : FnFit f) : (y8 E).p 8 [.agg (enc f)] = some ⟨.int .i64 (if wf f then 0 else 80), [], true, [], []⟩ := by
  rw [y2vt]
  have hall := y1hv f hf ⟨0, .dead⟩ ⟨0, .dead⟩ _ rfl
  by_cases h1 : (lst f.code).length < 1
  · have h1' : ((lst f.code).length : Int) < 1 := by omega
    have : ¬ 1 ≤ (lst f.code).length := by omega
    simp [ycx, yf3, yf5, h1', wf, this]
  have h1' : ¬ ((lst f.code).length : Int) < 1 := by omega
  have g1 : 1 ≤ (lst f.code).length := by omega
  by_cases h2 : 20000 < (lst f.code).length
  · have h2' : (20000 : Int) < ((lst f.code).length : Int) := by omega
    have : ¬ (lst f.code).length ≤ 20000 := by omega
    simp [ycx, yf3, yf5, h1', h2', wf, this]
  have h2' : ¬ (20000 : Int) < ((lst f.code).length : Int) := by omega
  have g2 : (lst f.code).length ≤ 20000 := by omega
  by_cases h3 : 20000 < (lst f.regs).length
  · have h3' : (20000 : Int) < ((lst f.regs).length : Int) := by omega
    have : ¬ (lst f.regs).length ≤ 20000 := by omega
    simp [ycx, yf3, yf5, h1', h2', h3', wf, this]
  have h3' : ¬ (20000 : Int) < ((lst f.regs).length : Int) := by omega
  have g3 : (lst f.regs).length ≤ 20000 := by omega
  by_cases h4 : f.ret < 0
  · have : ¬ 0 ≤ f.ret := by omega
    simp [ycx, yf3, yf5, h1', h2', h3', h4, wf, this]
  have g4 : 0 ≤ f.ret := by omega
  by_cases h5 : 3 < f.ret
  · have : ¬ f.ret ≤ 3 := by omega
    simp [ycx, yf3, yf5, h1', h2', h3', h4, h5, wf, this]
  have g5 : f.ret ≤ 3 := by omega
  have hp : (lst f.code).length - 1 < (lst f.code).length := by omega
  have k1 := y7t (o := f.code) (i := (lst f.code).length - 1) (List.getElem?_eq_getElem hp) .i64
  have hw : IntKind.wrap .i64 (((lst f.code).length : Int) - 1) = (((lst f.code).length - 1 : Nat) : Int) := by rw [y2b] <;> omega
  have hg : (lst f.code).getD ((lst f.code).length - 1) default = (lst f.code)[(lst f.code).length - 1] := by rw [List.getD_eq_getElem?_getD, List.getElem?_eq_getElem hp]; rfl
  cases he : ends ((lst f.code)[(lst f.code).length - 1]).op with
  | false =>
    have hwf : wf f = false := by rw [wf, hg, he]; simp
    rw [hwf]
    simp [ycx, yf3, yf5, h1', h2', h3', h4, h5, hw, k1, he]
  | true =>
    have hwf : wf f = ((lst f.regs).all (fun k => decide (1 ≤ k) && decide (k ≤ 3)) && y8l (lst f.regs) 0 [] (lst f.params) && y4a f (lst f.code) 0 (lst f.code) && (lst f.rows).all (y4p (lst f.code))) := by
      rw [wf, hg, he]
      simp only [g1, g2, g3, g4, g5, decide_true, Bool.true_and]
    have e : ycx (.agg (enc f)) [⟨0, .dead⟩, ⟨0, .dead⟩, ⟨0, .dead⟩] = ynm P0 (.int .i64 (lst f.code).length) (HC f ⟨0, .dead⟩ ⟨0, .dead⟩) := by
      simp [ycx, yf3, yf5, h1', h2', h3', h4, h5, hw, k1, he]
    rw [e, hall, hwf]
    split <;> rfl
end Go.Vm
namespace Go.Vm
open Cel
theorem yns {f : Fn} {n R ga : Nat} {s : List Bool} (hs : s.length = R) (hR : R ≤ 1000000) {l : List Int} (hl : ∀ to ∈ l, 0 ≤ to ∧ to < (n : Int)) (G : AV → Nat → Heap → Option (Ex AV))
    (step : ∀ w k to H, l[k]? = some to → G w k H = oh (y7 E (y8 E) 0 none false 80 [.ls 1 1 1 0 n, .int .i64 to, .ls 4 ga 1 0 R, w] H) fun w' H' => G w' (k + 1) H') :
    ∀ (d k : Nat) (H : Heap) (ins : Tab) (work T : List Int) (P : Nat → Nat × Nat) (gw : Nat), k + d = l.length → SRep f H ins P → TblOk n R ins → H[3]? = some (AI gw (work ++ T)) → H[4]? = some (AL ga s) → 6 ≤ H.length → 2 * pot R ins + work.length ≤ 137438953471 →
    ∃ H' P' gw' T', G (.ls 3 gw 1 0 work.length) k H = G (.ls 3 gw' 1 0 (y4g s (l.drop k) (ins, work)).2.length) l.length H' ∧ SRep f H' (y4g s (l.drop k) (ins, work)).1 P' ∧ H'[3]? = some (AI gw' ((y4g s (l.drop k) (ins, work)).2 ++ T')) ∧
      H'[4]? = some (AL ga s) ∧ 6 ≤ H'.length := by
  intro d
  induction d with
  | zero =>
    intro k H ins work T P gw hk Rp ok h3 h4 h6 hb
    have e : l.drop k = [] := List.drop_eq_nil_of_le (by omega)
    have hk' : k = l.length := by omega
    rw [e, hk']
    exact ⟨H, P, gw, T, rfl, Rp, h3, h4, h6⟩
  | succ d ih =>
    intro k H ins work T P gw hk Rp ok h3 h4 h6 hb
    have hlt : k < l.length := by omega
    have hto := hl _ (List.getElem_mem hlt)
    rw [List.drop_eq_getElem_cons hlt, y4g]
    have st := step (.ls 3 gw 1 0 work.length) k _ H (List.getElem?_eq_getElem hlt)
    generalize l[k] = to at *
    obtain ⟨H1, P1, g1, T1, e1, R1, a3, a4, a5, a6⟩ := y2od Rp ok hs hR h3 h4 h6 hto.1 hto.2 (by omega)
    obtain ⟨m1, _⟩ := ynb (n := n) (R := R) (s := s) (to := to) (p := (ins, work)) ok hs hto.1 hto.2
    rw [e1, yf] at st
    have mp := m1.pot
    have mo := m1.ok
    generalize ydn s to (ins, work) = q at *
    obtain ⟨q1, q2⟩ := q
    simp only at *
    obtain ⟨H2, P2, g2, T2, e2, r2⟩ := ih (k + 1) H1 q1 q2 T1 P1 g1 (by omega) R1 mo a3 a4 a6 (by omega)
    exact ⟨H2, P2, g2, T2, by rw [st, e2], r2⟩
theorem y2ag {f : Fn} {H : Heap} (h : H[0]? = some (AB f)) : evLd true 5 (.lp 0 1 0 0) H = some (.agg (enc f)) := by
  have hr : ym H 0 1 = some (false, 5, [enc f]) := by simp [ym, y37, h]
  simp [y38, hr]
theorem ywd {f : Fn} {H : Heap} (h : H[0]? = some (AB f)) : evLd false 1 (.lp 0 1 0 3) H = some (slA f.code) := by
  have hr : ym H 0 1 = some (false, 5, [enc f]) := by simp [ym, y37, h]
  simp [y38, hr]
theorem y2r7 (f : Fn) (i : Int) (H : Heap) : yt (fz H y18) [.agg (enc f), .int .i64 i] = some ⟨[.agg (enc f), .int .i64 i], scal f && (true && true), []⟩ := by
  rw [yk, yk, y5d, ywp, y11]; rfl
theorem fz_x (x : Ins) (H : Heap) : yt (fz H y18) [.agg (enc x)] = some ⟨[.agg (enc x)], scal x && true, []⟩ := by
  rw [yk, y5d, y11]; rfl
section
variable {f : Fn} (w : Wf f) (hr : (lst f.rows).length ≤ 10000000000000)
include w hr
theorem y22f : ∀ (k : Nat) (H : Heap) (ins : Tab) (work T : List Int) (P : Nat → Nat × Nat) (gw : Nat) (r : Tab), SInv f ins work → SRep f H ins P → H[3]? = some (AI gw (work ++ T)) → 6 ≤ H.length → 2 * pot (lst f.regs).length ins + work.length ≤ 137438953471 → yi5 f k ins work = some r →
    ∃ H' P', ygg (.lp 0 1 0 0) (.ls 1 1 1 0 (lst f.code).length) (.ls 3 gw 1 0 work.length) H = yut (.lp 0 1 0 0) (.ls 1 1 1 0 (lst f.code).length) H' ∧ SRep f H' r P' ∧ 6 ≤ H'.length := by
  have hn := w.n2
  have hR := w.regs
  intro k
  induction k with
  | zero => intro H ins work T P gw r _ _ _ _ _ h; cases h
  | succ k ih =>
    intro H ins work T P gw r I Rp h3 h6 hb h
    rw [yi5] at h
    rw [y1ax]
    cases hop : work.getLast? with
    | none =>
      rw [hop] at h
      injection h with h
      subst h
      rw [List.getLast?_eq_none_iff] at hop
      subst hop
      refine ⟨H, P, ?_, Rp, h6⟩
      simp only [yt9, List.length_nil, y4h, y2, y3c, show ¬ (0 : Int) < ((0 : Nat) : Int) by omega, decide_false, y1p]
    | some i =>
      rw [hop] at h
      simp only at h
      have Is := I.step w hop
      have e := y6d hop
      obtain ⟨i0, i1, s, hs⟩ := I.wk i (by rw [e]; simp)
      have hts : ye3 ins i.toNat = s := by simp [ye3, hs]
      rw [hts] at h Is
      obtain ⟨Is1, Is2⟩ := Is
      have hsl := I.ok.rows _ _ hs
      have ei : ((i.toNat : Nat) : Int) = i := by omega
      generalize work.dropLast = L at *
      subst e
      have q1 : ((L ++ [i]).length : Int) = (L.length : Int) + 1 := by simp
      have q2 : (L ++ [i]).length = L.length + 1 := by simp
      rw [q2] at hb Is2
      have hp : (0 : Int) < (L.length : Int) + 1 := by omega
      have hw : IntKind.wrap .i64 ((L.length : Int) + 1 - 1) = (L.length : Int) := by rw [y2b] <;> omega
      have s1 := y2bv 3 gw L.length
      have s2 := y1lb 3 gw L.length
      have s3 : evLd false 1 (.lp 3 gw L.length 0) H = some (.int .i64 i) := y2r8 (T := T) (by simp [ym, y37, h3])
      have e40 : yt9 (.lp 0 1 0 0) (.ls 1 1 1 0 (lst f.code).length) (.ls 3 gw 1 0 (L ++ [i]).length) H = y17u (.lp 0 1 0 0) (.ls 1 1 1 0 (lst f.code).length) (.ls 3 gw 1 0 L.length) (.int .i64 i) H := by
        rw [yt9, y4h, y2, q1, y3c, y2, decide_eq_true hp, y1f, y1xb, y4h, y2, q1, yeu, y2, hw, q2, s1, y2, s3, y2, y1rr, y4h, y2, ← q2, q1, yeu, y2, hw, q2, s2, y2]
      rw [e40]
      -- the copy
      obtain ⟨o4, d4⟩ : ∃ o, H[0 + 4]? = some o := ⟨_, List.getElem?_eq_getElem (by omega)⟩
      have ixI := y8c (n := (lst f.code).length) i0 i1 1 1 .i64
      have lI := ya6 Rp.tab (y90 (P := P) hs)
      have hz : fz H y18 (.ls (P i.toNat).1 (P i.toNat).2 1 0 s.length) = some ⟨slA (some s), s.all scal, [(P i.toNat).1]⟩ := y1ie (α := Bool) (k := 10) (Rp.obj _ _ hs)
      have ha : yt (fz H y18) [.ls (P i.toNat).1 (P i.toNat).2 1 0 s.length] = some ⟨[slA (some s)], s.all scal && true, [(P i.toNat).1]⟩ := by
        rw [yk, hz, y11]; rfl
      have c1 := ykv (α := Bool) (E := E) (C := y8 E) (fb := 0) (j := 4) (f := 78) (H := H) (N := some s) rfl ha (y0a (some s) (by simp only [y3b]; omega)) (by simp) d4
      simp only [ownV, ownO, yk4, Nat.zero_add] at c1
      have R1 := Rp.other (a := 4) (x := AL (o4.gen + 1) s) (.inr (.inl rfl))
      have k3 : (H.set 4 (AL (o4.gen + 1) s))[3]? = some (AI gw (L ++ (i :: T))) := by rw [yv (by omega), h3, List.append_assoc]; rfl
      have k4 : (H.set 4 (AL (o4.gen + 1) s))[4]? = some (AL (o4.gen + 1) s) := y3w (by omega)
      have k6 : 6 ≤ (H.set 4 (AL (o4.gen + 1) s)).length := by rw [List.length_set]; exact h6
      generalize H.set 4 (AL (o4.gen + 1) s) = H1 at *
      generalize o4.gen + 1 = ga at *
      -- where a fault leads
      have cC : ∀ H, y7 E (y8 E) 0 none true 79 [.agg (enc f), .int .i64 i] H = some (slA (nz (yx f i)), H) := fun H => y27 rfl (y2r7 f i H) rfl (y18b f i (by omega)) ⟨_, ybe _, rfl⟩
      have cN : ∀ H, y7 E (y8 E) 0 none true 81 [.agg (enc f), .int .i64 i] H = some (slA (nz (y2j f i)), H) := fun H => y27 rfl (y2r7 f i H) rfl (y2ct f i (by omega)) ⟨_, ybe _, rfl⟩
      have cD : ∀ H, y7 E (y8 E) 0 none true 9 [.agg (enc (yg f i.toNat))] H = some (.int .i64 (defr (yg f i.toNat)), H) := fun H => y27 rfl (fz_x _ H) rfl (y2sp _) ⟨_, rfl, rfl⟩
      obtain ⟨m1, _⟩ := ycf (n := (lst f.code).length) hsl (yx f i) (ins, L) I.ok (fun to h => w.caught h)
      have lC := w.caught_len i
      have lN := yr4 f i
      obtain ⟨H2, P2, g2, T2, e2, R2, n3, n4, n6⟩ := yns (f := f) (ga := ga) hsl (by omega) (l := yx f i) (fun to h => w.caught h)
        (fun v k H => yfr (.lp 0 1 0 0) (.ls 1 1 1 0 (lst f.code).length) v (.int .i64 i) (.ls 4 ga 1 0 (lst f.regs).length) (slA (nz (yx f i))) (.int .i64 (yx f i).length) (.int .i64 k) H)
        (fun v k to H hk => by
          have hlt := (List.getElem?_eq_some_iff.1 hk).1
          have hc : ((k : Int) < ((yx f i).length : Int)) := by omega
          have hw2 := y1a hlt (by omega)
          have kx := y24 (o := nz (yx f i)) (i := k) (by rw [y7y]; exact hk) .i64
          have lx : evLd false 1 (.rp [.int .i64 to]) H = some (.int .i64 to) := by simp
          rw [yos]
          simp only [y117, yh, y2, hc, decide_true, y14e, y1f, y1gm, kx, lx, y1kz, y1q, hw2]
          rfl)
        _ 0 H1 ins L (i :: T) P gw (Nat.zero_add _) R1 I.ok k3 k4 k6 (by omega)
      rw [List.drop_zero] at e2 R2 n3
      simp only [Int.ofNat_zero] at e2
      have mp := m1.pot
      have mo := m1.ok
      simp only at mp
      generalize y4g s (yx f i) (ins, L) = p1 at *
      obtain ⟨ins1, w1⟩ := p1
      simp only at h Is1 Is2 e2 R2 n3 mp mo
      -- what is written
      have hlt : i.toNat < (lst f.code).length := by omega
      have k9 := y8j (o := f.code) i0 (y3u hlt) .i64
      have lx : ∀ t : Heap, evLd true 9 (.rp (enc (yg f i.toNat))) t = some (.agg (enc (yg f i.toNat))) := fun t => by simp
      have e27 : yo7 (.lp 0 1 0 0) (.ls 1 1 1 0 (lst f.code).length) (.ls 3 g2 1 0 w1.length) (.int .i64 i) (.ls 4 ga 1 0 (lst f.regs).length) H2 =
          yly (.lp 0 1 0 0) (.ls 1 1 1 0 (lst f.code).length) (.ls 3 g2 1 0 w1.length) (.int .i64 i) (.ls 4 ga 1 0 (lst f.regs).length) (H2.set 4 (AL ga (y3k (defr (yg f i.toNat)) s))) := by
        by_cases hd : 0 ≤ defr (yg f i.toNat)
        · have hd2 := w.def hlt hd
          have ixD := y8c (n := (lst f.regs).length) hd hd2 4 ga .i64
          have st := ydc (α := Bool) (H := H2) (id := 4) (g := ga) (i := (defr (yg f i.toNat)).toNat) (L := s) (v := .bool true) (y := true) n4 (by omega) rfl
          simp only [yk4] at st
          simp only [yo7, y4m, Nat.zero_add, y2, ywd R2.box, k9, lx, cD, yf, y5x, hd, decide_true, y1f, ixD, st, y3k, if_true]
        · simp only [yo7, y4m, Nat.zero_add, y2, ywd R2.box, k9, lx, cD, yf, y5x, hd, decide_false, y1p, y3k, if_false, y6e n4]
      have R3 := R2.other (a := 4) (x := AL ga (y3k (defr (yg f i.toNat)) s)) (.inr (.inl rfl))
      have x3 : (H2.set 4 (AL ga (y3k (defr (yg f i.toNat)) s)))[3]? = some (AI g2 (w1 ++ T2)) := by rw [yv (by omega)]; exact n3
      have x4 : (H2.set 4 (AL ga (y3k (defr (yg f i.toNat)) s)))[4]? = some (AL ga (y3k (defr (yg f i.toNat)) s)) := y3w (by omega)
      have x6 : 6 ≤ (H2.set 4 (AL ga (y3k (defr (yg f i.toNat)) s))).length := by rw [List.length_set]; exact n6
      have hwl : (y3k (defr (yg f i.toNat)) s).length = (lst f.regs).length := by rw [yo0]; exact hsl
      generalize H2.set 4 (AL ga (y3k (defr (yg f i.toNat)) s)) = H3 at *
      generalize y3k (defr (yg f i.toNat)) s = s' at *
      have hNr : ∀ to ∈ y2j f i, 0 ≤ to ∧ to < ((lst f.code).length : Int) := fun to h => by
        rw [← ei] at h
        exact w.next hlt h
      obtain ⟨H4, P4, g4, T4, e4, R4, y3, y4, y6⟩ := yns (f := f) (ga := ga) hwl (by omega) (l := y2j f i) hNr
        (fun v k H => ydy (.lp 0 1 0 0) (.ls 1 1 1 0 (lst f.code).length) v (.ls 4 ga 1 0 (lst f.regs).length) (slA (nz (y2j f i))) (.int .i64 (y2j f i).length) (.int .i64 k) H)
        (fun v k to H hk => by
          have hlt := (List.getElem?_eq_some_iff.1 hk).1
          have hc : ((k : Int) < ((y2j f i).length : Int)) := by omega
          have hw2 := y1a hlt (by omega)
          have kx := y24 (o := nz (y2j f i)) (i := k) (by rw [y7y]; exact hk) .i64
          have lx : evLd false 1 (.rp [.int .i64 to]) H = some (.int .i64 to) := by simp
          rw [ylx]
          simp only [y16p, yh, y2, hc, decide_true, y18s, y1f, y1px, kx, lx, y1hw, y1q, hw2]
          rfl)
        _ 0 H3 ins1 w1 T2 P2 g2 (Nat.zero_add _) R3 mo x3 x4 x6 (by omega)
      rw [List.drop_zero] at e4 R4 y3
      simp only [Int.ofNat_zero] at e4
      generalize y4g s' (y2j f i) (ins1, w1) = p2 at *
      obtain ⟨ins2, w2⟩ := p2
      simp only at h Is1 Is2 e4 R4 y3
      obtain ⟨H5, P5, e5, R5, z6⟩ := ih H4 ins2 w2 T4 P4 g4 r Is1 R4 y3 y6 (by omega) h
      refine ⟨H5, P5, ?_, R5, z6⟩
      rw [← e5]
      have hc1 : ¬ (((yx f i).length : Int) < ((yx f i).length : Int)) := by omega
      have hc2 : ¬ (((y2j f i).length : Int) < ((y2j f i).length : Int)) := by omega
      have f2 : yfr (.lp 0 1 0 0) (.ls 1 1 1 0 (lst f.code).length) (.ls 3 g2 1 0 w1.length) (.int .i64 i) (.ls 4 ga 1 0 (lst f.regs).length) (slA (nz (yx f i))) (.int .i64 (yx f i).length) (.int .i64 (yx f i).length) H2 =
          yo7 (.lp 0 1 0 0) (.ls 1 1 1 0 (lst f.code).length) (.ls 3 g2 1 0 w1.length) (.int .i64 i) (.ls 4 ga 1 0 (lst f.regs).length) H2 := by
        rw [yos]
        simp only [y117, yh, y2, hc1, decide_false, y14e, y1p]
      have f4 : ydy (.lp 0 1 0 0) (.ls 1 1 1 0 (lst f.code).length) (.ls 3 g4 1 0 w2.length) (.ls 4 ga 1 0 (lst f.regs).length) (slA (nz (y2j f i))) (.int .i64 (y2j f i).length) (.int .i64 (y2j f i).length) H4 =
          ygg (.lp 0 1 0 0) (.ls 1 1 1 0 (lst f.code).length) (.ls 3 g4 1 0 w2.length) H4 := by
        rw [ylx]
        simp only [y16p, yh, y2, hc2, decide_false, y18s, y1p]
      rw [← f4, ← e4]
      have e26 : yly (.lp 0 1 0 0) (.ls 1 1 1 0 (lst f.code).length) (.ls 3 g2 1 0 w1.length) (.int .i64 i) (.ls 4 ga 1 0 (lst f.regs).length) H3 =
          ydy (.lp 0 1 0 0) (.ls 1 1 1 0 (lst f.code).length) (.ls 3 g2 1 0 w1.length) (.ls 4 ga 1 0 (lst f.regs).length) (slA (nz (y2j f i))) (.int .i64 (y2j f i).length) (.int .i64 0) H3 := by
        simp only [yly, y2ag R3.box, y2, cN, yf, y33, y7y]
      rw [← e26, ← e27, ← f2, ← e2]
      rw [hsl] at c1 lI
      simp only [y17u, ixI, y2, lI, c1, yf, y1xn, y2ag R1.box, cC, y33, y7y]
end
end Go.Vm
namespace Go.Vm
open Cel
theorem y1cv (x : Ins) (h : (lst x.args).length ≤ 17592186043904) : (lst (uses x)).length ≤ 17592186043904 := by
  by_cases hc : calls x.op = true
  · simpa [uses, hc] using h
  · have := yp7 (x := x) (by simpa using hc)
    omega
end Go.Vm
namespace Go.Vm
open Cel
def okIn : Option (Option (List Bool)) → List Int → Bool
  | some (some s), us => us.all fun u => s.getD u.toNat false
  | _, _ => true
theorem y20f (s : List Bool) (us : List Int) : okIn (some (some s)) us = us.all fun u => s.getD u.toNat false := rfl
theorem yth (us : List Int) : okIn (some none) us = true := rfl
theorem y29w (x : Option (Option (List Bool))) : okIn x [] = true := by
  match x with
  | none => rfl
  | some none => rfl
  | some (some s) => rfl
theorem y1fu (s : List Bool) (u : Int) (us : List Int) : okIn (some (some s)) (u :: us) = (s.getD u.toNat false && okIn (some (some s)) us) := rfl
def yn8 (f : Fn) (r : Tab) (i : Nat) : Bool := okIn r[i]? (yel f i)
def y6c (f : Fn) (r : Tab) : Nat → Nat → Bool
  | _, 0 => true
  | i, d + 1 => yn8 f r i && y6c f r (i + 1) d
theorem yhb (f : Fn) (r : Tab) : ∀ (d i : Nat), y6c f r i d = true ↔ ∀ j, i ≤ j → j < i + d → yn8 f r j = true
  | 0, i => by simp [y6c]; omega
  | d + 1, i => by
    rw [y6c, Bool.and_eq_true, yhb f r d (i + 1)]
    constructor
    · rintro ⟨h1, h2⟩ j a b
      by_cases e : j = i
      · rw [e]; exact h1
      · exact h2 j (by omega) (by omega)
    · intro h
      exact ⟨h i (by omega) (by omega), fun j a b => h j (by omega) (by omega)⟩
theorem ynh {f : Fn} (w : Wf f) {r : Tab} (ok : TblOk (lst f.code).length (lst f.regs).length r) {i : Nat} (hi : i < (lst f.code).length) : yn8 f r i = true ↔ ∀ u ∈ yel f i, ∀ s, r[i]? = some (some s) → s[u.toNat]? = some true := by
  unfold yn8
  have hlt : i < r.length := by rw [ok.len]; exact hi
  obtain ⟨x, hx⟩ : ∃ x, r[i]? = some x := ⟨_, List.getElem?_eq_getElem hlt⟩
  rw [hx]
  cases x with
  | none => simp [yth]
  | some s =>
    have hl := ok.rows _ _ hx
    rw [y20f]
    simp only [List.all_eq_true]
    have key : ∀ u ∈ yel f i, (s.getD u.toNat false = true ↔ s[u.toNat]? = some true) := fun u hu => by
      obtain ⟨u0, u1⟩ := w.uses hi hu
      have hlt : u.toNat < s.length := by omega
      rw [List.getD_eq_getElem?_getD, List.getElem?_eq_getElem hlt]
      simp
    constructor
    · intro h u hu s' e
      injection e with e; injection e with e; subst e
      exact (key u hu).1 (h u hu)
    · intro h u hu
      exact (key u hu).2 (h u hu s rfl)
section
variable {f : Fn} (w : Wf f) (hs : y121 f)
include w
theorem y26g {r : Tab} {P : Nat → Nat × Nat} (ok : TblOk (lst f.code).length (lst f.regs).length r) {i : Nat} (hi : i < (lst f.code).length) (hU : (lst (uses (yg f i))).length ≤ 9223372036854775807) {H : Heap} (Rp : SRep f H r P) : ∀ (d k : Nat), k + d = (lst (uses (yg f i))).length →
    yvj (.ls 1 1 1 0 (lst f.code).length) (.int .i64 (i : Int)) (slA f.code) (.int .i64 (lst f.code).length) (.int .i64 (i : Int)) (slA (uses (yg f i))) (.int .i64 (lst (uses (yg f i))).length) (.int .i64 (k : Int)) H =
      if okIn r[i]? ((lst (uses (yg f i))).drop k) then y1nl (.ls 1 1 1 0 (lst f.code).length) (slA f.code) (.int .i64 (lst f.code).length) (.int .i64 (i : Int)) H else some ⟨.bool false, [], true, [], []⟩ := by
  have hlt : i < r.length := by rw [ok.len]; exact hi
  obtain ⟨x, hx⟩ : ∃ x, r[i]? = some x := ⟨_, List.getElem?_eq_getElem hlt⟩
  have ixI := y8c (n := (lst f.code).length) (p := (i : Int)) (by omega) (by omega) 1 1 .i64
  rw [show ((i : Int)).toNat = i by omega] at ixI
  intro d
  induction d with
  | zero =>
    intro k hk
    have e : (lst (uses (yg f i))).drop k = [] := List.drop_eq_nil_of_le (by omega)
    have hc : ¬ ((k : Int) < ((lst (uses (yg f i))).length : Int)) := by omega
    rw [e, y29w, yva]
    simp only [y1bd, yh, y2, hc, decide_false, y1e9, y1p, if_true]
  | succ d ih =>
    intro k hk
    have hlt2 : k < (lst (uses (yg f i))).length := by omega
    have hc : ((k : Int) < ((lst (uses (yg f i))).length : Int)) := by omega
    have hw := y1a hlt2 (by omega)
    have hmem := List.getElem_mem hlt2
    have kx := y24 (List.getElem?_eq_getElem hlt2) .i64
    have ih1 := ih (k + 1) (by omega)
    push_cast at ih1
    rw [List.drop_eq_getElem_cons hlt2, yva]
    have hur := w.uses hi hmem
    generalize (lst (uses (yg f i)))[k] = u at *
    have lx : ∀ t : Heap, evLd false 1 (.rp [.int .i64 u]) t = some (.int .i64 u) := fun t => by simp
    rw [hx] at ih1 ⊢
    cases x with
    | none =>
      rw [yth] at ih1 ⊢
      have lI := ya6 Rp.tab (y90 (P := P) hx)
      have hE : y3n 1 true .nils .nils = some (.bool false) := rfl
      simp only [y1bd, yh, y2, hc, decide_true, y1e9, y1f, y1wq, kx, lx, ixI, lI, hE, ylj, y2p, y1p, y256, y1q, hw, ih1]
    | some s =>
      have hl := ok.rows _ _ hx
      have lI := ya6 Rp.tab (y90 (P := P) hx)
      have hE : ∀ a b n, y3n 1 true (.ls a b 1 0 n) .nils = some (.bool true) := fun _ _ _ => rfl
      have ixU := y8c (n := s.length) hur.1 (by omega) (P i).1 (P i).2 .i64
      have hut : u.toNat < s.length := by omega
      have lU := y1bo (α := Bool) (H := H) (id := (P i).1) (g := (P i).2) (i := u.toNat) (v := .bool (s.getD u.toNat false)) (Rp.obj _ _ hx) (by rw [List.getD_eq_getElem?_getD, List.getElem?_eq_getElem hut]; rfl) rfl
      rw [y1fu]
      cases hb : s.getD u.toNat false with
      | true =>
        rw [hb] at lU
        rw [Bool.true_and]
        simp only [y1bd, yh, y2, hc, decide_true, y1e9, y1f, y1wq, kx, lx, ixI, lI, hE, ycm, ixU, lU, y2d, Bool.not_true, y2a, y1p, y256, y1q, hw, ih1]
      | false =>
        rw [hb] at lU
        rw [Bool.false_and]
        simp only [y1bd, yh, y2, hc, decide_true, y1e9, y1f, y1wq, kx, lx, ixI, lI, hE, ycm, ixU, lU, y2d, Bool.not_false, y2a, y25, Bool.false_eq_true, if_false]
include hs
theorem y1qj {r : Tab} {P : Nat → Nat × Nat} (ok : TblOk (lst f.code).length (lst f.regs).length r) : ∀ (d i : Nat) (H : Heap), i + d = (lst f.code).length → SRep f H r P → 6 ≤ H.length →
    yoe (.ls 1 1 1 0 (lst f.code).length) (slA f.code) (.int .i64 (lst f.code).length) (.int .i64 (i : Int)) H = some ⟨.bool (y6c f r i d), [], true, [], []⟩ := by
  have hn := w.n2
  intro d
  induction d with
  | zero =>
    intro i H hk Rp h6
    have hc : ¬ ((i : Int) < ((lst f.code).length : Int)) := by omega
    rw [yv8]
    simp only [y11b, yh, y2, hc, decide_false, y11x, y1p, y2hf, y25, y6c]
  | succ d ih =>
    intro i H hk Rp h6
    have hlt : i < (lst f.code).length := by omega
    have hc : ((i : Int) < ((lst f.code).length : Int)) := by omega
    have hw := y1a hlt (by omega)
    have hx := y3u hlt
    have kx := y7t (o := f.code) hx .i64
    have hxa := hs _ (List.mem_of_getElem? hx)
    have lx : ∀ t : Heap, evLd true 9 (.rp (enc (yg f i))) t = some (.agg (enc (yg f i))) := fun t => by simp
    obtain ⟨o5, d5⟩ : ∃ o, H[0 + 5]? = some o := ⟨_, List.getElem?_eq_getElem (by omega)⟩
    have n5 : newC 0 (some 5) [.int .i64 0, .int .i64 0, .int .i64 0, .int .i64 0, .int .i64 0, .int .i64 0, .int .i64 0, .str [], .nils] H = some (.lp 5 (o5.gen + 1) 0 0, H.set 5 ⟨o5.gen + 1, .arr true false 9 [[.int .i64 0, .int .i64 0, .int .i64 0, .int .i64 0, .int .i64 0, .int .i64 0, .int .i64 0, .str [], .nils]]⟩) := by
      simp only [Nat.zero_add] at d5
      simp [newC, yag, place, d5]
    have hl5 : 5 < H.length := by omega
    have st5 : evSt 9 (.lp 5 (o5.gen + 1) 0 0) (.agg (enc (yg f i))) (H.set 5 ⟨o5.gen + 1, .arr true false 9 [[.int .i64 0, .int .i64 0, .int .i64 0, .int .i64 0, .int .i64 0, .int .i64 0, .int .i64 0, .str [], .nils]]⟩) =
        some (.tup [], H.set 5 ⟨o5.gen + 1, .arr true false 9 [enc (yg f i)]⟩) := by
      have hr : ym (H.set 5 ⟨o5.gen + 1, .arr true false 9 [[.int .i64 0, .int .i64 0, .int .i64 0, .int .i64 0, .int .i64 0, .int .i64 0, .int .i64 0, .str [], .nils]]⟩) 5 (o5.gen + 1) = some (false, 9, [[.int .i64 0, .int .i64 0, .int .i64 0, .int .i64 0, .int .i64 0, .int .i64 0, .int .i64 0, .str [], .nils]]) := by simp [ym, y37, hl5]
      simp [y5n, hr, y29, hl5, y13]
    have ld5 : evLd true 9 (.lp 5 (o5.gen + 1) 0 0) (H.set 5 ⟨o5.gen + 1, .arr true false 9 [enc (yg f i)]⟩) = some (.agg (enc (yg f i))) := by
      have hr : ym (H.set 5 ⟨o5.gen + 1, .arr true false 9 [enc (yg f i)]⟩) 5 (o5.gen + 1) = some (false, 9, [enc (yg f i)]) := by simp [ym, y37, hl5]
      simp [y38, hr]
    have R5 := Rp.other (a := 5) (x := ⟨o5.gen + 1, .arr true false 9 [enc (yg f i)]⟩) (.inr (.inr (.inl rfl)))
    have x6 : 6 ≤ (H.set 5 ⟨o5.gen + 1, .arr true false 9 [enc (yg f i)]⟩).length := by rw [List.length_set]; exact h6
    have us := y1cv _ hxa
    have cU : ∀ H, y7 E (y8 E) 0 none true 10 [.agg (enc (yg f i))] H = some (slA (uses (yg f i)), H) := fun H => y27 rfl (fz_x _ H) rfl (ye2 _ hxa) ⟨_, ybe _, rfl⟩
    generalize H.set 5 ⟨o5.gen + 1, .arr true false 9 [enc (yg f i)]⟩ = H1 at *
    have lp := y26g w ok hlt (by omega) R5 _ 0 (Nat.zero_add _)
    have ih1 := ih (i + 1) H1 (by omega) R5 x6
    push_cast at ih1
    have h3 : y1nl (.ls 1 1 1 0 (lst f.code).length) (slA f.code) (.int .i64 (lst f.code).length) (.int .i64 (i : Int)) H1 = some ⟨.bool (y6c f r (i + 1) d), [], true, [], []⟩ := by
      simp only [y1nl, y1q, hw, y2, ih1]
    have hg : okIn r[i]? ((lst (uses (yg f i))).drop 0) = yn8 f r i := rfl
    rw [h3, hg] at lp
    simp only [Int.ofNat_zero] at lp
    rw [yv8, y6c]
    simp only [y11b, yh, y2, hc, decide_true, y11x, y1f, y1fc, kx, lx, n5, yf, st5, y1vr, ld5, cU, y33, lp]
    cases yn8 f r i <;> simp
end
def parB (f : Fn) (k : Nat) : List Bool := (List.range (lst f.regs).length).map fun (r : Nat) => decide (((r : Nat) : Int) ∈ (lst f.params).take k)
theorem y27l (f : Fn) (k : Nat) : (parB f k).length = (lst f.regs).length := by simp [parB]
theorem y2qa (f : Fn) : parB f 0 = List.replicate (lst f.regs).length false := by
  refine List.ext_getElem (by simp [parB]) fun i h1 h2 => ?_
  simp [parB]
theorem y26k (f : Fn) : parB f (lst f.params).length = y6v f := by simp [parB, y6v]
theorem y23i {f : Fn} {k : Nat} (hk : k < (lst f.params).length) (h0 : 0 ≤ (lst f.params)[k]) : (parB f k).set ((lst f.params)[k]).toNat true = parB f (k + 1) := by
  unfold parB
  rw [List.take_succ_eq_append_getElem hk]
  refine ycg ?_ fun j hj => ?_
  · rw [decide_eq_true_eq, List.mem_append, List.mem_singleton]
    right; omega
  · have : ¬ ((j : Int) = (lst f.params)[k]) := by omega
    simp only [List.mem_append, List.mem_singleton, this, or_false]
theorem y261 {f : Fn} (w : Wf f) (hp : (lst f.params).length ≤ 9223372036854775807) (x1 o3 o4 o5 : AO) : ∀ (d k : Nat), k + d = (lst f.params).length →
    yku (.lp 0 1 0 0) (.ls 1 1 1 0 (lst f.code).length) (.ls 2 1 1 0 (lst f.regs).length) (slA f.params) (.int .i64 (lst f.params).length) (.int .i64 (k : Int)) [AB f, x1, AL 1 (parB f k), o3, o4, o5] =
      y17n (.lp 0 1 0 0) (.ls 1 1 1 0 (lst f.code).length) (.ls 2 1 1 0 (lst f.regs).length) [AB f, x1, AL 1 (y6v f), o3, o4, o5] := by
  intro d
  induction d with
  | zero =>
    intro k hk
    have hk' : k = (lst f.params).length := by omega
    have hc : ¬ (((lst f.params).length : Int) < ((lst f.params).length : Int)) := by omega
    rw [hk', y26k, yo8]
    simp only [y194, yh, y2, hc, decide_false, y127, y1p]
  | succ d ih =>
    intro k hk
    have hlt : k < (lst f.params).length := by omega
    have hc : ((k : Int) < ((lst f.params).length : Int)) := by omega
    have hw := y1a hlt (by omega)
    have kx := y24 (o := f.params) (List.getElem?_eq_getElem hlt) .i64
    have hr := y19a w.pars (List.getElem_mem hlt)
    have hset := y23i hlt hr.1
    have ih1 := ih (k + 1) (by omega)
    push_cast at ih1
    rw [yo8]
    generalize (lst f.params)[k] = p at *
    have lx : ∀ t : Heap, evLd false 1 (.rp [.int .i64 p]) t = some (.int .i64 p) := fun t => by simp
    have ixP := y8c (n := (lst f.regs).length) hr.1 hr.2 2 1 .i64
    have st := ydc (α := Bool) (H := [AB f, x1, AL 1 (parB f k), o3, o4, o5]) (id := 2) (g := 1) (i := p.toNat) (L := parB f k) (v := .bool true) (y := true) rfl (by rw [y27l]; omega) rfl
    rw [hset] at st
    simp only [yk4, List.set_cons_succ, List.set_cons_zero] at st
    simp only [y194, yh, y2, hc, decide_true, y127, y1f, y1qe, kx, lx, ixP, st, yf, y1ko, y1q, hw, ih1]
theorem y28b (H : Heap) {j : Nat} {o : AO} (h : H[j]? = some o) (n : Nat) (hn : n ≤ 1000000) : mkSC 0 (some j) 1 1 [.bool false] (.int .i64 n) (.int .i64 n) H = some (.ls j (o.gen + 1) 1 0 n, H.set j (AL (o.gen + 1) (List.replicate n false))) := by
  simp [mkSC, y42, place, h]
  refine ⟨by omega, ?_⟩
  show H.set j ⟨_, .arr false false 1 _⟩ = H.set j ⟨_, .arr false false 1 ((List.replicate n false).map enc)⟩
  rw [List.map_replicate]
  rfl
theorem y1lh (H : Heap) {j : Nat} {o : AO} (h : H[j]? = some o) (n : Nat) (hn : n ≤ 1000000) : mkSC 0 (some j) 1 24 [.nils] (.int .i64 n) (.int .i64 n) H = some (.ls j (o.gen + 1) 1 0 n, H.set j ⟨o.gen + 1, .arr false false 1 (List.replicate n [.nils])⟩) := by
  simp [mkSC, y42, place, h]
  omega
theorem y1jd (f : Fn) (hn : 1 ≤ (lst f.code).length) : (List.replicate (lst f.code).length [AV.nils]).set 0 [.ls 2 1 1 0 (lst f.regs).length] = y3q (fun _ => (2, 1)) (tab0 f) := by
  have e : List.replicate (lst f.code).length [AV.nils] = y3q (fun _ => (2, 1)) (List.replicate (lst f.code).length none) := by
    refine List.ext_getElem (by simp [y3q]) fun i h1 h2 => ?_
    simp only [List.length_replicate] at h1
    simp [y3q, yll, h1]
  rw [e, tab0, ← ydv (P := fun _ => (2, 1)) (by rw [List.length_replicate]; omega) (fun _ _ => rfl)]
  simp only [yll, yga]
theorem y1xf (f : Fn) (w : Wf f) : 2 * pot (lst f.regs).length (tab0 f) + 1 ≤ 137438953471 := by
  have key : ∀ (R : Nat) (l : Tab), (∀ s, some s ∈ l → s.length = R) → pot R l ≤ l.length * (R + 1) := by
    intro R l
    induction l with
    | nil => intro _; simp [pot]
    | cons a l ih =>
      intro h
      have := ih fun s hs => h s (by simp [hs])
      have h1 : wt R a ≤ R + 1 := by
        cases a with
        | none => exact Nat.le_refl _
        | some s =>
          have := h s (by simp)
          have hc : s.countP id ≤ s.length := List.countP_le_length
          simp only [wt]; omega
      simp only [pot, List.map_cons, List.sum_cons, List.length_cons, Nat.add_mul] at this ⊢
      omega
  have h := key (lst f.regs).length (tab0 f) fun s hs => by
    obtain ⟨i, hi⟩ := List.getElem?_of_mem hs
    exact (SInv.start w).ok.rows i s hi
  have hl : (tab0 f).length = (lst f.code).length := by simp [tab0]
  rw [hl] at h
  have h2 : (lst f.code).length * ((lst f.regs).length + 1) ≤ 20000 * 20001 := Nat.mul_le_mul w.n2 (by have := w.regs; omega)
  omega
theorem y2ot (f : Fn) (hf : FnFit f) (hs : y121 f) (hr : (lst f.rows).length ≤ 10000000000000) (hp : (lst f.params).length ≤ 9223372036854775807) : (y8 E).p 77 [.agg (enc f)] = some ⟨.bool (setM f), [], true, [], []⟩ := by
  rw [y2wp]
  have hck := y1pu f hf
  have ha : ∀ H : Heap, yt (fz H y18) [.agg (enc f)] = some ⟨[.agg (enc f)], scal f && true, []⟩ := fun H => by
    rw [yk, y5d, y11]; rfl
  have c8 : ∀ H, y7 E (y8 E) 0 none true 8 [.agg (enc f)] H = some (.int .i64 (if wf f then 0 else 80), H) := fun H => y27 rfl (ha H) rfl hck ⟨_, rfl, rfl⟩
  have l0 : ∀ t : Heap, evLd true 5 (.lp 0 1 0 0) (AB f :: t) = some (.agg (enc f)) := fun t => by simp
  have n0 : newC 0 (some 0) (cellsOf (.agg (enc f))) [D0, D0, D0, D0, D0, D0] = some (.lp 0 1 0 0, [AB f, D0, D0, D0, D0, D0]) := by simp
  cases hw : wf f with
  | false =>
    rw [hw] at c8
    have hm : setM f = false := by rw [setM, hw]; rfl
    rw [hm]
    simp only [y18h, n0, yf, y13j, l0, y2, c8, Bool.false_eq_true, if_false, y3y, show decide ((80 : Int) ≠ 0) = true from rfl, y1f, y25]
  | true =>
    rw [hw] at c8
    have w := y1uk hw
    have hn1 := w.n1
    have hn2 := w.n2
    have hR := w.regs
    have l3 : ∀ t : Heap, evLd false 1 (.lp 0 1 0 3) (AB f :: t) = some (slA f.code) := fun t => by simp
    have l1 : ∀ t : Heap, evLd false 1 (.lp 0 1 0 1) (AB f :: t) = some (slA f.params) := fun t => by simp
    have lr : ∀ t : Heap, evLd false 1 (.lp 0 1 0 0) (AB f :: t) = some (slA f.regs) := fun t => by simp
    have m1 := y1lh [AB f, D0, D0, D0, D0, D0] (j := 1) (o := D0) rfl (lst f.code).length (by omega)
    simp only [List.set_cons_succ, List.set_cons_zero] at m1
    have m2 := y28b [AB f, ⟨D0.gen + 1, .arr false false 1 (List.replicate (lst f.code).length [.nils])⟩, D0, D0, D0, D0] (j := 2) (o := D0) rfl (lst f.regs).length (by omega)
    simp only [List.set_cons_succ, List.set_cons_zero] at m2
    rw [← y2qa] at m2
    have lp := y261 w hp ⟨D0.gen + 1, .arr false false 1 (List.replicate (lst f.code).length [.nils])⟩ D0 D0 D0 _ 0 (Nat.zero_add _)
    simp only [Int.ofNat_zero] at lp
    have b3 := yoa (H := [AB f, ⟨D0.gen + 1, .arr false false 1 (List.replicate (lst f.code).length [.nils])⟩, AL 1 (y6v f), D0, D0, D0]) (fb := 0) (j := 3) (o := D0) 0 rfl
    simp only [Nat.zero_add, List.set_cons_succ, List.set_cons_zero] at b3
    have ix0 := y8c (n := (lst f.code).length) (p := 0) (by omega) (by omega) 1 1 .i64
    rw [show (0 : Int).toNat = 0 from rfl] at ix0
    have st := yud (H := [AB f, ⟨1, .arr false false 1 (List.replicate (lst f.code).length [.nils])⟩, AL 1 (y6v f), AI 1 [0], D0, D0]) (id := 1) (g := 1) (i := 0) (rows := List.replicate (lst f.code).length [.nils]) (v := .ls 2 1 1 0 (lst f.regs).length) (w := .nils) rfl (by rw [List.getElem?_replicate, if_pos (by omega)]) rfl rfl
    rw [y1jd f hn1] at st
    simp only [List.set_cons_succ, List.set_cons_zero] at st
    have R0 : SRep f [AB f, ⟨1, .arr false false 1 (y3q (fun _ => (2, 1)) (tab0 f))⟩, AL 1 (y6v f), AI 1 [0], D0, D0] (tab0 f) (fun _ => (2, 1)) := by
      have hx : ∀ (i : Nat) t, (tab0 f)[i]? = some (some t) → i = 0 ∧ t = y6v f := by
        intro i t ht
        rcases y7z ht with ⟨e, e2⟩ | ⟨_, h⟩
        · injection e2 with e2; exact ⟨e, e2⟩
        · rw [List.getElem?_replicate] at h
          split at h <;> cases h
      refine ⟨rfl, rfl, fun i s hs => by rw [(hx i s hs).2]; rfl, fun i j s t h1 h2 hij => ?_, fun i s hs => .inl rfl⟩
      have a := (hx i s h1).1
      have b := (hx j t h2).1
      omega
    obtain ⟨r, hr1, hr2⟩ := yha w (2 * pot (lst f.regs).length (tab0 f) + 1 + 1) _ _ (SInv.start w) (by simp)
    obtain ⟨H', P', e1, R1, h6⟩ := y22f w hr _ _ _ [0] [] _ 1 r (SInv.start w) R0 rfl (by simp) (y1xf f w) hr1
    have ck := y1qj w hs hr2.ok _ 0 H' (Nat.zero_add _) R1 h6
    simp only [Int.ofNat_zero] at ck
    have hm : setM f = y6c f r 0 (lst f.code).length := by
      rw [setM, hw, Bool.true_and, Bool.eq_iff_iff, @decide_eq_true_eq (setP f) (Classical.propDecidable _), yhb, ← hr2.tells w]
      constructor
      · intro h j _ hj
        have hj : j < (lst f.code).length := by omega
        exact (ynh w hr2.ok hj).2 (h j hj)
      · intro h i hi
        exact (ynh w hr2.ok hi).1 (h i (by omega) (by omega))
    rw [hm, ← ck]
    have e17 : yut (.lp 0 1 0 0) (.ls 1 1 1 0 (lst f.code).length) H' = yoe (.ls 1 1 1 0 (lst f.code).length) (slA f.code) (.int .i64 (lst f.code).length) (.int .i64 0) H' := by
      simp only [yut, y4m, Nat.zero_add, y2, ywd R1.box, y33]
    rw [← e17, ← e1]
    simp only [y18h, n0, yf, y13j, l0, y2, c8, if_true, y3y, show decide ((0 : Int) ≠ 0) = false from rfl, y1p, y1vq, y4m, Nat.zero_add, l3, y33, m1, y1qg, lr, m2, y1jr, l1, lp, y17n, b3, y1nt, ix0, st]
    rfl
end Go.Vm
namespace Go.Vm
open Cel
theorem yu4 {R : Nat} : ∀ {T : FTab}, (∀ o ∈ T, wtF R o ≤ R + 1) → potF R T ≤ T.length * (R + 1)
  | [], _ => by simp [potF]
  | o :: T, h => by
    have h1 := h o (by simp)
    have h2 := yu4 (T := T) (fun x hx => h x (by simp [hx]))
    unfold potF at h2 ⊢
    rw [List.map_cons, List.sum_cons, List.length_cons, Nat.succ_mul]
    omega
theorem y1s8 {f : Fn} (w : Wf f) : meaF f (y6f f, [0]) ≤ 1000000000 := by
  have h1 := w.n2
  have h2 := w.regs
  have hp : potF (lst f.regs).length (y6f f) ≤ (y6f f).length * ((lst f.regs).length + 1) := by
    refine yu4 fun o ho => ?_
    unfold y6f at ho
    rcases List.mem_or_eq_of_mem_set ho with h | h
    · rw [(List.mem_replicate.1 h).2]; exact Nat.le_refl _
    · subst h
      have := y1vi (List.replicate (lst f.regs).length (-1))
      rw [List.length_replicate] at this
      exact Nat.le_succ_of_le this
  have hl : (y6f f).length = (lst f.code).length := by simp [y6f]
  rw [hl] at hp
  have hm : (lst f.code).length * ((lst f.regs).length + 1) ≤ 20000 * 20001 := Nat.mul_le_mul h1 (by omega)
  unfold meaF
  simp only [List.length_singleton]
  omega
theorem y1t3 {f : Fn} : (List.replicate (lst f.code).length [AV.nils]).set 0 [slA (some (List.replicate (lst f.regs).length (-1 : Int)))] = tabF (y6f f) := by
  rw [y6f, ← yqb]
  congr 1
  rw [tabF, List.map_replicate]
  rfl
theorem y2be {H : Heap} {j : Nat} (h : H[j]? = some D0) : newC 0 (some j) [.nils] H = some (.lp j 1 0 0, H.set j ⟨1, .arr true false 1 [[.nils]]⟩) := by
  simp [h]
theorem y1x0 {f : Fn} (w : Wf f) (hR : (lst f.regs).length ≤ 1000000) {p g : Nat → Nat} {H : Heap} (D : DSt H f p g 20) (hd : ∀ k, 10 ≤ k → k < 20 → H[k]? = some D0) :
    ∃ H', y229 V1 V2 H = yl9 V1 V2 V3 V4 V5 H' ∧ CSt H' f p g (y6f f) [0] ∧ H'[15]? = some D0 ∧ H'[16]? = some D0 := by
  have hn := w.n2
  have hn1 := w.n1
  have hlen := D.len
  have lc := D.ldc
  have hov : ownV (p 2) (g 2) f.code = .ls (p 2) (g 2) 9 0 (lst f.code).length := by
    cases hc : f.code with
    | none => rw [hc] at hn1; simp at hn1
    | some L => rfl
  rw [hov] at lc
  have fa3 : evFa 3 V1 = some (.lp 0 1 0 3) := rfl
  have fa0 : evFa 0 V1 = some (.lp 0 1 0 0) := rfl
  have mk := y1lh H (j := 10) (o := D0) (hd 10 (by omega) (by omega)) (lst f.code).length (by omega)
  have D1 := D.set (a := 10) (x := ⟨D0.gen + 1, .arr false false 1 (List.replicate (lst f.code).length [.nils])⟩) (by omega)
  have a10 : (H.set 10 ⟨D0.gen + 1, .arr false false 1 (List.replicate (lst f.code).length [.nils])⟩)[10]? = some ⟨1, .arr false false 1 (List.replicate (lst f.code).length [.nils])⟩ := y3w (by omega)
  have ad : ∀ k, 11 ≤ k → k < 20 → (H.set 10 ⟨D0.gen + 1, .arr false false 1 (List.replicate (lst f.code).length [.nils])⟩)[k]? = some D0 := fun k h1 h2 => by rw [yv (by omega)]; exact hd k (by omega) h2
  generalize H.set 10 ⟨D0.gen + 1, .arr false false 1 (List.replicate (lst f.code).length [.nils])⟩ = H1 at *
  have n11 := y2be (ad 11 (by omega) (by omega))
  have hl1 := D1.len
  have s11 := y21v (H := H1.set 11 ⟨1, .arr true false 1 [[.nils]]⟩) (a := 11) (v := .nils) (w := .ls 10 (D0.gen + 1) 1 0 (lst f.code).length) (y3w (by omega)) rfl rfl
  rw [List.set_set] at s11
  have D2 := D1.set (a := 11) (x := ⟨1, .arr true false 1 [[.ls 10 (D0.gen + 1) 1 0 (lst f.code).length]]⟩) (by omega)
  have b10 : (H1.set 11 ⟨1, .arr true false 1 [[.ls 10 (D0.gen + 1) 1 0 (lst f.code).length]]⟩)[10]? = some ⟨1, .arr false false 1 (List.replicate (lst f.code).length [.nils])⟩ := by rw [yv (by omega)]; exact a10
  have b11 : (H1.set 11 ⟨1, .arr true false 1 [[.ls 10 (D0.gen + 1) 1 0 (lst f.code).length]]⟩)[11]? = some ⟨1, .arr true false 1 [[.ls 10 1 1 0 (lst f.code).length]]⟩ := y3w (by omega)
  have bd : ∀ k, 12 ≤ k → k < 20 → (H1.set 11 ⟨1, .arr true false 1 [[.ls 10 (D0.gen + 1) 1 0 (lst f.code).length]]⟩)[k]? = some D0 := fun k h1 h2 => by rw [yv (by omega)]; exact ad k (by omega) h2
  generalize H1.set 11 ⟨1, .arr true false 1 [[.ls 10 (D0.gen + 1) 1 0 (lst f.code).length]]⟩ = H2 at *
  have l11 := yhl b11
  have hl2 := D2.len
  have b12 := yoa (H := H2) (fb := 0) (j := 12) (o := D0) (-1) (by rw [Nat.zero_add]; exact bd 12 (by omega) (by omega))
  rw [Nat.zero_add] at b12
  have D3 := D2.set (a := 12) (x := AI (D0.gen + 1) [-1]) (by omega)
  have c10 : (H2.set 12 (AI (D0.gen + 1) [-1]))[10]? = some ⟨1, .arr false false 1 (List.replicate (lst f.code).length [.nils])⟩ := by rw [yv (by omega)]; exact b10
  have c11 : (H2.set 12 (AI (D0.gen + 1) [-1]))[11]? = some ⟨1, .arr true false 1 [[.ls 10 1 1 0 (lst f.code).length]]⟩ := by rw [yv (by omega)]; exact b11
  have c12 : (H2.set 12 (AI (D0.gen + 1) [-1]))[12]? = some (AI 1 [-1]) := y3w (by omega)
  have cd : ∀ k, 13 ≤ k → k < 20 → (H2.set 12 (AI (D0.gen + 1) [-1]))[k]? = some D0 := fun k h1 h2 => by rw [yv (by omega)]; exact bd k (by omega) h2
  generalize H2.set 12 (AI (D0.gen + 1) [-1]) = H3 at *
  have lr : evLd false 1 (.lp 0 1 0 0) H3 = some (ownV (p 0) (g 0) f.regs) := y17g D3.box rfl
  have ln : yq 1 (ownV (p 0) (g 0) f.regs) H3 = some (.int .i64 (lst f.regs).length) := yvb ..
  have hz : fz H3 y18 (.ls 12 (D0.gen + 1) 1 0 1) = some ⟨slA (some [(-1 : Int)]), true, [12]⟩ := y1ie (α := Int) (k := 10) (L := [-1]) c12
  have ha : yt (fz H3 y18) [.ls 12 (D0.gen + 1) 1 0 1, .int .i64 ((lst f.regs).length : Int)] = some ⟨[slA (some [(-1 : Int)]), .int .i64 ((lst f.regs).length : Int)], true && (true && true), [12] ++ ([] ++ [])⟩ := by
    rw [yk, yk, hz, ywp, y11]
  have hrep := y291 (n := (lst f.regs).length) hR
  have hfr : (exO (some (List.replicate (lst f.regs).length (-1 : Int)))).fresh = true := by rw [y6x]; simp
  have c150 : y7 E (y8 E) 0 none true 150 [.ls 12 (D0.gen + 1) 1 0 1, .int .i64 ((lst f.regs).length : Int)] H3 = some (slA (some (List.replicate (lst f.regs).length (-1 : Int))), H3) := ydk (E := E) (C := y8 E) (fb := 0) (f := 150) rfl ha hfr hrep ⟨_, ybe _, rfl⟩
  have f150 : y3p E (y8 E) 0 none true 150 [.ls 12 (D0.gen + 1) 1 0 1, .int .i64 ((lst f.regs).length : Int)] H3 = some ([12], []) := by
    simp [y3p, ha, hrep, hfr]
  have ix0 := y8c (n := (lst f.code).length) (p := 0) (by omega) (by omega) 10 1 .i64
  rw [show Int.toNat 0 = 0 from rfl] at ix0
  have hrow : (List.replicate (lst f.code).length [AV.nils])[0]? = some [AV.nils] := by
    rw [List.getElem?_replicate, if_pos (by omega)]
  have st := yud (v := slA (some (List.replicate (lst f.regs).length (-1 : Int)))) c10 hrow rfl rfl
  rw [y1t3] at st
  have D4 := D3.set (a := 10) (x := ⟨1, .arr false false 1 (tabF (y6f f))⟩) (by omega)
  have hl3 := D3.len
  have d10 : (H3.set 10 ⟨1, .arr false false 1 (tabF (y6f f))⟩)[10]? = some ⟨1, .arr false false 1 (tabF (y6f f))⟩ := y3w (by omega)
  have d11 : (H3.set 10 ⟨1, .arr false false 1 (tabF (y6f f))⟩)[11]? = some ⟨1, .arr true false 1 [[.ls 10 1 1 0 (lst f.code).length]]⟩ := by rw [yv (by omega)]; exact c11
  have dd : ∀ k, 13 ≤ k → k < 20 → (H3.set 10 ⟨1, .arr false false 1 (tabF (y6f f))⟩)[k]? = some D0 := fun k h1 h2 => by rw [yv (by omega)]; exact cd k (by omega) h2
  generalize H3.set 10 ⟨1, .arr false false 1 (tabF (y6f f))⟩ = H4 at *
  have hl4 := D4.len
  have b13 := yoa (H := H4) (fb := 0) (j := 13) (o := D0) 0 (by rw [Nat.zero_add]; exact dd 13 (by omega) (by omega))
  rw [Nat.zero_add] at b13
  have D5 := D4.set (a := 13) (x := AI (D0.gen + 1) [0]) (by omega)
  have e10 : (H4.set 13 (AI (D0.gen + 1) [0]))[10]? = some ⟨1, .arr false false 1 (tabF (y6f f))⟩ := by rw [yv (by omega)]; exact d10
  have e11 : (H4.set 13 (AI (D0.gen + 1) [0]))[11]? = some ⟨1, .arr true false 1 [[.ls 10 1 1 0 (lst f.code).length]]⟩ := by rw [yv (by omega)]; exact d11
  have e13 : (H4.set 13 (AI (D0.gen + 1) [0]))[13]? = some (AI 1 [0]) := y3w (by omega)
  have ed : ∀ k, 14 ≤ k → k < 20 → (H4.set 13 (AI (D0.gen + 1) [0]))[k]? = some D0 := fun k h1 h2 => by rw [yv (by omega)]; exact dd k (by omega) h2
  generalize H4.set 13 (AI (D0.gen + 1) [0]) = H5 at *
  have hl5 := D5.len
  have n14 := y2be (ed 14 (by omega) (by omega))
  have s14 := y21v (H := H5.set 14 ⟨1, .arr true false 1 [[.nils]]⟩) (a := 14) (v := .nils) (w := .ls 13 (D0.gen + 1) 1 0 1) (y3w (by omega)) rfl rfl
  rw [List.set_set] at s14
  have D6 := D5.set (a := 14) (x := ⟨1, .arr true false 1 [[.ls 13 (D0.gen + 1) 1 0 1]]⟩) (by omega)
  have hT : (y6f f).length = (lst f.code).length := by simp [y6f]
  refine ⟨_, ?_, ⟨D6, by rw [yv (by omega)]; exact e10, by rw [yv (by omega), hT]; exact e11, 1, [], by rw [yv (by omega)]; exact e13, y3w (by omega)⟩, by rw [yv (by omega)]; exact ed 15 (by omega) (by omega), by rw [yv (by omega)]; exact ed 16 (by omega) (by omega)⟩
  have hp0 : f.regs ≠ none → p 0 ≠ 12 := fun h => by
    have := D.lo 0 (by omega) (by simp only [hasL]; cases hq : f.regs with | none => exact (h hq).elim | some L => rfl)
    omega
  have hp : yd [(ids1 V3, []), ([], [0 + 12]), ([], []), (ids1 (.lp 0 1 0 0), []), (ids1 (ownV (p 0) (g 0) f.regs), []), ([12], []), ([], []), ([], ids1 (.lp 10 1 0 0))] [(0, 1), (1, 3), (1, 4), (0, 5)] = true := by
    cases hq : f.regs with
    | none => rfl
    | some L =>
      have := hp0 (by rw [hq]; simp)
      simp [yd, yu, meets, ids1, ownV]
      omega
  rw [y229, fa3, y2, lc, y2, y4h, y2, mk, yf, n11, yf, s11, yf, y2f7, l11, y2, b12, yf, fa0, y2, lr, y2, ln, y2, f150, yek, c150, yf, ix0, y2, st, yf, y1xc hp,
    y2kf, b13, yf, n14, yf, s14, yf, y2j5, y2]
theorem y2if (f : Fn) (hf : FnFit f) (hs : FnSm f) (hr : (lst f.rows).length ≤ 1000000) (hA : ∀ x ∈ lst f.code, (lst x.args).length ≤ 17592186043904) :
    (wf f = false → (y8 E).p 149 [.agg (enc f)] = some (y2n f)) ∧ (wf f = true → ∃ T, InvF f (T, []) ∧ (y8 E).p 149 [.agg (enc f)] = some (y2n (carF f T))) := by
  have n0 : newC 0 (some 0) (cellsOf (.agg (enc f))) (List.replicate 20 ⟨0, .dead⟩) = some (.lp 0 1 0 0, AB f :: List.replicate 19 D0) := by simp [List.replicate]
  have n1 : newC 0 (some 1) [.nils, .nils, .int .i64 0, .nils, .nils] (AB f :: List.replicate 19 D0) = some (.lp 1 1 0 0, AB f :: ⟨1, .arr true false 5 [[.nils, .nils, .int .i64 0, .nils, .nils]]⟩ :: List.replicate 18 D0) := by simp [List.replicate]
  have l0 : ∀ t : Heap, evLd true 5 (.lp 0 1 0 0) (AB f :: t) = some (.agg (enc f)) := fun t => by simp
  obtain ⟨H1, H2, p, g, e1, e2, D, hl2, hk2⟩ := y1e1 hs (H := AB f :: ⟨1, .arr true false 5 [[.nils, .nils, .int .i64 0, .nils, .nils]]⟩ :: List.replicate 18 D0) rfl ⟨_, rfl, rfl⟩ (n := 20) (by omega) (by simp)
  have hck := y1pu f hf
  have c8 := D.call (E := E) (C := y8 E) (fb := 0) (sl := none) (k := 8) rfl rfl hck ⟨_, rfl, rfl⟩
  have e24 : (y8 E).p 149 [.agg (enc f)] = y1pl V1 V2 H2 := by
    rw [x_q1]
    show y227 _ (List.replicate 20 ⟨0, .dead⟩) = _
    rw [y227, n0, yf, n1, yf, y2fm, l0, y2, e1, yf, e2, yf]
  refine ⟨fun hw => ?_, fun hw => ?_⟩
  · rw [hw] at c8
    obtain ⟨H3, o1, o2, o3⟩ := D.out
    have z : y5 .neq (.int .i64 (if false = true then (0 : Int) else 80)) (.int .i64 0) = some (.bool true) := rfl
    rw [e24, y1pl, D.ld, y2, c8, yf, z, y2, y1f, D.ld, y2, o1, yf, o2, y2, o3]
  · rw [hw] at c8
    have w := y1uk hw
    have hn := w.n2
    have hR : (lst f.regs).length ≤ 1000000 := by have := w.regs; omega
    obtain ⟨L, hL⟩ : ∃ L, f.code = some L := by
      cases hc : f.code with
      | none => have := w.n1; rw [hc] at this; simp at this
      | some L => exact ⟨L, rfl⟩
    have hlL : lst f.code = L := by rw [hL]; rfl
    obtain ⟨H3, q1, S3, k15, k16⟩ := y1x0 w hR D (fun k h1 h2 => by
      rw [hk2 k (by omega)]
      rw [show k = (k - 2) + 2 by omega, List.getElem?_cons_succ, List.getElem?_cons_succ, List.getElem?_replicate, if_pos (by omega)])
    obtain ⟨H4, T, q2, S4, v⟩ := y1r5 hR w hr _ H3 (y6f f) [0] (Nat.le_refl _) S3 (y1mm w) (y1s8 w)
    refine ⟨T, v, ?_⟩
    have hl4 := S4.d.len
    obtain ⟨o, ho⟩ : ∃ o, H4[0 + 15]? = some o := ⟨_, List.getElem?_eq_getElem (by omega)⟩
    have mk := y2qi vB ho
    rw [Nat.zero_add] at mk ho
    have S5 := S4.set (a := 15) (x := AM vB (o.gen + 1) []) (by omega)
    have h15 : (H4.set 15 (AM vB (o.gen + 1) []))[15]? = some (AM vB (o.gen + 1) []) := y3w (y3d ho)
    generalize H4.set 15 (AM vB (o.gen + 1) []) = H5 at *
    have hHd := y2g6 f (by omega) hr
    have hfr : (exO (nz (y69 f))).fresh = true := by rw [y6x, y7y]; simp
    have cH := S5.d.call (E := E) (C := y8 E) (fb := 0) (k := 102) rfl hfr hHd ⟨_, ybe _, rfl⟩
    have hhl : (y69 f).length ≤ 20000 := Nat.le_trans (ygc f _) hn
    obtain ⟨H6, m', r1, r2, S6, r4⟩ := y1u3 (gh := o.gen + 1) (y69 f) (by omega) _ 0 H5 [] (Nat.zero_add _) (fun r => by simp [aget]) S5 h15
    have hle : yq 1 (slA (nz (y69 f))) H5 = some (.int .i64 (y69 f).length) := by rw [y33, y7y]
    have hl6 := S6.d.len
    obtain ⟨o16, ho16⟩ : ∃ o, H6[16]? = some o := ⟨_, List.getElem?_eq_getElem (by omega)⟩
    have hp2 := S6.d.lo 2 (by omega) (by simp [hasL, hL])
    have cl := y1km (S6.d.at_.code L hL) ho16 (by omega) (by omega) (by rw [← hlL]; omega)
    have lc := S6.d.ldc
    have hov : ownV (p 2) (g 2) f.code = .ls (p 2) (g 2) 9 0 L.length := by rw [hL]; rfl
    rw [hov] at lc
    have S7 := S6.set (a := 16) (x := ⟨o16.gen + 1 + 1, .arr false false 9 (L.map enc)⟩) (by omega)
    have h16 : (H6.set 16 ⟨o16.gen + 1 + 1, .arr false false 9 (L.map enc)⟩)[16]? = some ⟨o16.gen + 1 + 1, .arr false false 9 (L.map enc)⟩ := y3w (by omega)
    have h15' : (H6.set 16 ⟨o16.gen + 1 + 1, .arr false false 9 (L.map enc)⟩)[15]? = some (AM vB (o.gen + 1) m') := by rw [yv (by omega)]; exact r4
    generalize H6.set 16 ⟨o16.gen + 1 + 1, .arr false false 9 (L.map enc)⟩ = H7 at *
    have hself : y7l f (y66 f T 0) = f := by rw [y2ld, hlL, yod hL]
    have R0 : RSt H7 (y7l f (y66 f T 0)) p g T m' (o.gen + 1) (o16.gen + 1 + 1) (lst f.code) :=
      ⟨by rw [hself]; exact S7.d, S7.tab, S7.tbx, h15', by rw [hlL]; exact h16⟩
    obtain ⟨H8, t1, D8⟩ := y262 w v hR hr hA r1 _ 0 (Nat.zero_add _) H7 T R0 v.ok.len (fun j => by rw [yaj, if_neg (fun h => by omega)])
    obtain ⟨H9, o1, o2, o3⟩ := D8.out
    have z : y5 .neq (.int .i64 (if true = true then (0 : Int) else 80)) (.int .i64 0) = some (.bool false) := rfl
    have fa3 : evFa 3 V1 = some (.lp 0 1 0 3) := rfl
    have z0 : ((0 : Nat) : Int) = 0 := rfl
    rw [z0] at r2 t1
    rw [hlL] at t1
    rw [e24, y1pl, D.ld, y2, c8, yf, z, y2, y1p, q1, q2, y23c, mk, yf, y2e3, S5.d.ld, y2, cH, yf, hle, y2, r2, y21y, fa3, y2, lc, y2, cl, yf, y2mt, y4h, y2, t1, q1_1, D8.ld, y2, o1, yf, o2, y2, o3]
end Go.Vm
namespace Go.Vm
theorem FnIn.fit3 {f : Fn} (h : FnIn f) : FnFit f := by
  have e : reachBytes = 140737488351232 := rfl
  refine ⟨fun x hx => ?_, ?_, ?_, ?_, ?_⟩
  · have k := h.insI x hx
    refine ⟨⟨k.n.1, ?_⟩, ?_, ?_⟩
    · have := k.n.2; omega
    · have := k.s; omega
    · have := k.len; omega
  · have := h.code; omega
  · have := h.regs; omega
  · have := h.params; omega
  · have := h.rows; omega
end Go.Vm
namespace Go.Vm
open Cel
theorem fz_f (f : Fn) (H : Heap) : yt (fz H y18) [.agg (enc f)] = some ⟨[.agg (enc f)], scal f && true, []⟩ := by
  rw [yk, y5d, y11]; rfl
theorem y2xr (f g : Fn) (H : Heap) : yt (fz H y18) [.agg (enc f), .agg (enc g)] = some ⟨[.agg (enc f), .agg (enc g)], scal f && (scal g && true), []⟩ := by
  rw [yk, yk, y5d, y5d, y11]; rfl
theorem FnIn.sm {f : Fn} (hf : FnIn f) (h1 : (lst f.code).length ≤ 400) (h3 : (lst f.rows).length ≤ 100) : FnSm f := by
  have e : reachBytes = 140737488351232 := rfl
  have e38 : (2:Nat)^38 = 274877906944 := by decide
  refine ⟨?_, ?_, ?_, ?_, fun x hx => ?_⟩
  · have := hf.regs; omega
  · have := hf.params; omega
  · omega
  · omega
  · have := (hf.insI x hx).len; omega
abbrev AFn (f : Fn) : AO := ⟨1, .arr true false 5 [enc f]⟩
end Go.Vm
namespace Go.Vm
open Cel
attribute [local simp] y7 y28 yr
theorem y1sm (a b : Option (List Int)) (hn : (lst a).length = (lst b).length) (hl : (lst a).length ≤ 9223372036854775807) (h : Heap) : ∀ (d i : Nat), i + d = (lst a).length →
    ygd (slA a) (slA b) (.int .i64 i) h = some ⟨.bool (decide ((lst a).drop i = (lst b).drop i)), [], true, [], []⟩ := by
  intro d
  induction d with
  | zero =>
    intro i hi
    have e1 : (lst a).drop i = [] := List.drop_eq_nil_of_le (by omega)
    have e2 : (lst b).drop i = [] := List.drop_eq_nil_of_le (by omega)
    rw [yno, e1, e2]
    have : ¬ ((i : Int) < ((lst a).length : Int)) := by omega
    simp [yk5, ykp, yih, yil, yl4, yi6, ydb, this]
  | succ d ih =>
    intro i hi
    have h1 : i < (lst a).length := by omega
    have h2 : i < (lst b).length := by omega
    have hc : ((i : Int) < ((lst a).length : Int)) := by omega
    have k1 := y24 (o := a) (i := i) (List.getElem?_eq_getElem h1) .i64
    have k2 := y24 (o := b) (i := i) (List.getElem?_eq_getElem h2) .i64
    rw [yno, y13y h1 h2]
    by_cases he : (lst a)[i] = (lst b)[i]
    · have := ih (i + 1) (by omega)
      push_cast at this
      simp [yk5, ykp, yih, yil, yl4, yi6, ydb, hc, k1, k2, he, y1a h1 hl, this]
    · simp [yk5, ykp, yih, yil, yl4, yi6, ydb, hc, k1, k2, he]
@[simp] theorem y1pc (a b : Option (List Int)) (hl : (lst a).length ≤ 9223372036854775807) : (y8 E).p 11 [slA a, slA b] = some ⟨.bool (decide (lst a = lst b)), [], true, [], []⟩ := by
  rw [y2pa]
  by_cases hn : (lst a).length = (lst b).length
  · have := y1sm a b hn hl [] (lst a).length 0 (by omega)
    simp only [Int.ofNat_zero, List.drop_zero] at this
    have hn' : ((lst a).length : Int) = ((lst b).length : Int) := by omega
    simp [yk5, ykp, yih, yil, yl4, yi6, ydb, hn', show ygd (slA a) (slA b) (.int .i64 0) [] = _ from this]
  · have hn' : ¬ ((lst a).length : Int) = ((lst b).length : Int) := by omega
    have : ¬ lst a = lst b := fun h => hn (by rw [h])
    simp [yk5, ykp, yih, yil, yl4, yi6, ydb, hn', this]
end Go.Vm
namespace Go.Vm
open Cel
attribute [local simp] y7 y28 yr
def y5m (x y : Ins) : Bool := decide (x.op = y.op) && decide (x.d = y.d) && decide (x.a = y.a) && decide (x.b = y.b) && decide (x.c = y.c) && decide (x.n = y.n) && decide (x.t = y.t) && decide (x.s = y.s) && decide (lst x.args = lst y.args)
set_option maxHeartbeats 1000000 in
@[simp] theorem y1z9 (x y : Ins) (hl : (lst x.args).length ≤ 9223372036854775807) : (y8 E).p 28 [.agg (enc x), .agg (enc y)] = some ⟨.bool (y5m x y), [], true, [], []⟩ := by
  rw [y2r9]
  have hi := y1pc x.args y.args hl
  by_cases h1 : x.op = y.op
  · by_cases h2 : x.d = y.d
    · by_cases h3 : x.a = y.a
      · by_cases h4 : x.b = y.b
        · by_cases h5 : x.c = y.c
          · by_cases h6 : x.n = y.n
            · by_cases h7 : x.t = y.t
              · by_cases h8 : x.s = y.s
                · simp [yb3, y5m, h1, h2, h3, h4, h5, h6, h7, h8, hi]
                · simp [yb3, y5m, h1, h2, h3, h4, h5, h6, h7, h8]
              · simp [yb3, y5m, h1, h2, h3, h4, h5, h6, h7]
            · simp [yb3, y5m, h1, h2, h3, h4, h5, h6]
          · simp [yb3, y5m, h1, h2, h3, h4, h5]
        · simp [yb3, y5m, h1, h2, h3, h4]
      · simp [yb3, y5m, h1, h2, h3]
    · simp [yb3, y5m, h1, h2]
  · simp [yb3, y5m, h1]
end Go.Vm
namespace Go.Vm
open Cel
attribute [local simp] y7 y28 yr
def y55 : List Ins → List Ins → Bool
  | [], [] => true
  | x :: xs, y :: ys => y5m x y && y55 xs ys
  | _, _ => false
def y15a (a b : Fn) : Bool := decide (lst a.regs = lst b.regs) && decide (lst a.params = lst b.params) && decide (a.ret = b.ret) && y55 (lst a.code) (lst b.code) && decide (lst a.rows = lst b.rows)
theorem yh5 : ∀ {a b : List Ins}, y55 a b = true → a.length = b.length
  | [], [], _ => rfl
  | x :: a, y :: b, h => by
    simp only [y55, Bool.and_eq_true] at h
    simp [yh5 h.2]
  | [], _ :: _, h => by cases h
  | _ :: _, [], h => by cases h
theorem yfe : ∀ (a : List Ins), y55 a a = true
  | [] => rfl
  | x :: a => by simp [y55, yfe a, y5m]
theorem yx7 (f : Fn) : y15a f f = true := by simp [y15a, yfe]
theorem y1ht (r s : Row) : y1rj true [0, 0, 0, 2] (.agg (enc r)) (.agg (enc s)) = some (.bool (decide (¬ r = s))) := by
  obtain ⟨a, b, c, d⟩ := r
  obtain ⟨a', b', c', d'⟩ := s
  simp [y1rj, y2iv, y4j, y5a]
  by_cases h1 : a = a' <;> by_cases h2 : b = b' <;> by_cases h3 : c = c' <;> by_cases h4 : d = d' <;> simp [h1, h2, h3, h4]
abbrev HS2 (a b : Fn) : Heap := [⟨1, .arr true false 5 [enc a]⟩, ⟨1, .arr true false 5 [enc b]⟩]
theorem y1fw (a b : Fn) (hn : (lst a.rows).length = (lst b.rows).length) (hl : (lst a.rows).length ≤ 9223372036854775807) : ∀ (d i : Nat), i + d = (lst a.rows).length →
    yjk (.lp 0 1 0 0) (.lp 1 1 0 0) (.int .i64 i) (HS2 a b) = some ⟨.bool (decide ((lst a.rows).drop i = (lst b.rows).drop i)), [], true, [], []⟩ := by
  intro d
  induction d with
  | zero =>
    intro i hi
    have e1 : (lst a.rows).drop i = [] := List.drop_eq_nil_of_le (by omega)
    have e2 : (lst b.rows).drop i = [] := List.drop_eq_nil_of_le (by omega)
    have hc : ¬ ((i : Int) < ((lst a.rows).length : Int)) := by omega
    rw [yn2, e1, e2]
    simp [yv3, y1o9, hc]
  | succ d ih =>
    intro i hi
    have h1 : i < (lst a.rows).length := by omega
    have h2 : i < (lst b.rows).length := by omega
    have hc : ((i : Int) < ((lst a.rows).length : Int)) := by omega
    have k1 := ygh (o := a.rows) (i := i) (List.getElem?_eq_getElem h1) .i64
    have k2 := ygh (o := b.rows) (i := i) (List.getElem?_eq_getElem h2) .i64
    rw [yn2, y13y h1 h2]
    generalize (lst a.rows)[i] = r at *
    generalize (lst b.rows)[i] = s at *
    have q := y1ht r s
    have ih := ih (i + 1) (by omega)
    push_cast at ih
    by_cases he : r = s
    · simp [yv3, y123, y17v, hc, k1, k2, he, y1a h1 hl, ih, y1ht]
    · simp [yv3, y123, y17v, hc, k1, k2, he, q]
theorem y1kp (a b : Fn) (hn : (lst a.code).length = (lst b.code).length) (hl : (lst a.code).length ≤ 9223372036854775807) (ha : ∀ x ∈ lst a.code, (lst x.args).length ≤ 9223372036854775807) (R : Bool)
    (hR : y1ge (.lp 0 1 0 0) (.lp 1 1 0 0) (HS2 a b) = some ⟨.bool R, [], true, [], []⟩) : ∀ (d i : Nat), i + d = (lst a.code).length →
    yiy (.lp 0 1 0 0) (.lp 1 1 0 0) (.int .i64 i) (HS2 a b) = some ⟨.bool (y55 ((lst a.code).drop i) ((lst b.code).drop i) && R), [], true, [], []⟩ := by
  intro d
  induction d with
  | zero =>
    intro i hi
    have e1 : (lst a.code).drop i = [] := List.drop_eq_nil_of_le (by omega)
    have e2 : (lst b.code).drop i = [] := List.drop_eq_nil_of_le (by omega)
    have hc : ¬ ((i : Int) < ((lst a.code).length : Int)) := by omega
    rw [ymo, e1, e2]
    simp [yic, hR, hc, y55]
  | succ d ih =>
    intro i hi
    have h1 : i < (lst a.code).length := by omega
    have h2 : i < (lst b.code).length := by omega
    have hc : ((i : Int) < ((lst a.code).length : Int)) := by omega
    have k1 := y7t (o := a.code) (i := i) (List.getElem?_eq_getElem h1) .i64
    have k2 := y7t (o := b.code) (i := i) (List.getElem?_eq_getElem h2) .i64
    have hx := ha _ (List.getElem_mem h1)
    rw [ymo, List.drop_eq_getElem_cons h1, List.drop_eq_getElem_cons h2, y55]
    generalize (lst a.code)[i] = x at *
    generalize (lst b.code)[i] = y at *
    have q := y1z9 x y hx
    have ih := ih (i + 1) (by omega)
    push_cast at ih
    cases hs : y5m x y with
    | true =>
      rw [hs] at q
      simp [yic, yq8, yxn, hc, k1, k2, q, y1a h1 hl, ih]
    | false =>
      rw [hs] at q
      simp [yic, yq8, hc, k1, k2, q]
structure FnLen (f : Fn) : Prop where
  regs : (lst f.regs).length ≤ 9223372036854775807
  params : (lst f.params).length ≤ 9223372036854775807
  code : (lst f.code).length ≤ 9223372036854775807
  rows : (lst f.rows).length ≤ 9223372036854775807
  args : ∀ x ∈ lst f.code, (lst x.args).length ≤ 9223372036854775807
set_option maxHeartbeats 1000000 in
theorem y2oq (a b : Fn) (hl : FnLen a) : (y8 E).p 14 [.agg (enc a), .agg (enc b)] = some ⟨.bool (y15a a b), [], true, [], []⟩ := by
  rw [y2sb]
  have i1 := y1pc a.regs b.regs hl.regs
  have i2 := y1pc a.params b.params hl.params
  unfold y15a
  by_cases h1 : lst a.regs = lst b.regs
  rotate_left
  · simp [yb2, yas, h1, i1]
  by_cases h2 : lst a.params = lst b.params
  rotate_left
  · simp [yb2, yas, h1, i1, h2, i2]
  by_cases h3 : a.ret = b.ret
  rotate_left
  · simp [yb2, yas, h1, i1, h2, i2, h3]
  by_cases h4 : (lst a.code).length = (lst b.code).length
  rotate_left
  · have h4' : ¬ ((lst a.code).length : Int) = ((lst b.code).length : Int) := by omega
    have hs : y55 (lst a.code) (lst b.code) = false := by
      cases hs : y55 (lst a.code) (lst b.code) with
      | false => rfl
      | true => exact (h4 (yh5 hs)).elim
    simp [yb2, yas, h1, i1, h2, i2, h3, h4', hs]
  have h4' : ((lst a.code).length : Int) = ((lst b.code).length : Int) := by omega
  by_cases h5 : (lst a.rows).length = (lst b.rows).length
  rotate_left
  · have h5' : ¬ ((lst a.rows).length : Int) = ((lst b.rows).length : Int) := by omega
    have hs : ¬ lst a.rows = lst b.rows := fun h => h5 (by rw [h])
    simp [yb2, yas, h1, i1, h2, i2, h3, h4', h5', hs]
  have h5' : ((lst a.rows).length : Int) = ((lst b.rows).length : Int) := by omega
  have r := y1fw a b h5 hl.rows _ 0 (Nat.zero_add _)
  simp only [List.drop_zero, Int.ofNat_zero] at r
  have c := y1kp a b h4 hl.code hl.args _ r _ 0 (Nat.zero_add _)
  simp only [List.drop_zero, Int.ofNat_zero] at c
  have c' : yy7 (.lp 0 1 0 0) (.lp 1 1 0 0) (HS2 a b) = _ := c
  simp [yb2, yas, h1, i1, h2, i2, h3, h4', h5', c']
end Go.Vm
namespace Go.Vm
open Cel
attribute [local simp] y7 y28 yr
theorem y2lu : ((List.range 60).all fun i => y08 ((both E 30).1.p 66 [.int .i64 (95 + i)]) (numK (95 + i))) = true := by kernel_rfl
theorem y25h (c : Int) (h1 : 0 ≤ c) (h2 : c < 1000) : (y8 E).p 66 [.int .i64 c] = some ⟨.tup [.int .i64 (numK c).1, .int .i64 (numK c).2.1, .int .i64 (numK c).2.2], [], true, [], []⟩ := by
  by_cases h : c < 96 ∨ 148 < c
  · rw [yhw h, y2x8]
    have h2 : ∀ k : Int, 96 ≤ k → k ≤ 148 → ¬ c = k := by omega
    rcases h with h | h
    · have a1 : ¬ 96 ≤ c := by omega
      have a2 : ¬ 120 ≤ c := by omega
      have a3 : ¬ 145 ≤ c := by omega
      simp [y23y, y27w, y21b, y231, h2, a1, a2, a3]
      rfl
    · have a1 : 96 ≤ c := by omega
      have a2 : 120 ≤ c := by omega
      have a3 : 145 ≤ c := by omega
      have b1 : ¬ c ≤ 113 := by omega
      have b2 : ¬ c ≤ 131 := by omega
      have b3 : ¬ c ≤ 147 := by omega
      simp [y23y, y27w, y21b, y231, h2, a1, a2, a3, b1, b2, b3]
      rfl
  · have := ybr y2lu (c - 95).toNat (by omega)
    have e : (95 + ((c - 95).toNat : Int)) = c := by omega
    simp only [e] at this
    exact y14r 30 (yrh this)
end Go.Vm
namespace Go.Vm
open Cel
attribute [local simp] y7 y28 yr
theorem y2gs (op : Int) (o : Option (List Int)) (hl : (lst o).length ≤ 9223372036854775807) (h : Heap) : ∀ (d i : Nat), i + d = (lst o).length →
    yla (.int .i64 op) (slA o) (.int .i64 i) h = some ⟨.bool (decide (op ∈ (lst o).drop i)), [], true, [], []⟩ := by
  intro d
  induction d with
  | zero =>
    intro i hi
    have e1 : (lst o).drop i = [] := List.drop_eq_nil_of_le (by omega)
    have hn : ¬ ((i : Int) < ((lst o).length : Int)) := by omega
    rw [yo6, e1]
    simp [ymp, ymf, ynd, ymx, ylw, ymv, hn]
  | succ d ih =>
    intro i hi
    have hlt : i < (lst o).length := by omega
    have hn : ((i : Int) < ((lst o).length : Int)) := by omega
    have k1 := y24 (o := o) (i := i) (List.getElem?_eq_getElem hlt) .i64
    have hm : op ∈ (lst o).drop i ↔ op = (lst o)[i] ∨ op ∈ (lst o).drop (i + 1) := by rw [List.drop_eq_getElem_cons hlt, List.mem_cons]
    rw [yo6]
    simp only [hm]
    have ih := ih (i + 1) (by omega)
    push_cast at ih
    by_cases he : (lst o)[i] = op
    · simp [ymp, ymf, ynd, ymx, ylw, ymv, hn, k1, he]
    · have he' : ¬ op = (lst o)[i] := fun h => he h.symm
      simp [ymp, ymf, ynd, ymx, ylw, ymv, hn, k1, he, he', y1a hlt hl, ih]
theorem s_in (op : Int) (o : Option (List Int)) (hl : (lst o).length ≤ 9223372036854775807) : (y8 E).p 42 [.int .i64 op, slA o] = some ⟨.bool (decide (op ∈ lst o)), [], true, [], []⟩ := by
  have := y2gs op o hl [] _ 0 (Nat.zero_add _)
  simp only [Int.ofNat_zero, List.drop_zero] at this
  rw [y2nl, ← this]
  simp [ymp, ymf, ynd, ymx, ylw, ymv]
theorem y2oh (op a b c : Int) : (y8 E).p 42 [.int .i64 op, .rs 1 [[.int .i64 a], [.int .i64 b], [.int .i64 c]]] = some ⟨.bool (decide (op ∈ [a, b, c])), [], true, [], []⟩ :=
  s_in op (some [a, b, c]) (by simp)
theorem y1y7 (g a b c : Nat) (x y z : Int) (t : Heap) : fz (⟨g, .arr false false 1 [[.int .i64 x], [.int .i64 y], [.int .i64 z]]⟩ :: t) y18 (.ls 0 g 1 0 3) = some ⟨.rs 1 [[.int .i64 x], [.int .i64 y], [.int .i64 z]], true, [0]⟩ := by
  rw [y29h, ye1]; rfl
@[simp] theorem y2v1 (op : Int) : (y8 E).p 23 [.int .i64 op] = some ⟨.bool (leads op), [], true, [], []⟩ := by
  rw [y2un, y1hp]
  simp [yw, y15, y1y7 1 0 0 0, y2oh, leads, Bool.or_assoc]
@[simp] theorem y2wy (op : Int) : (y8 E).p 25 [.int .i64 op] = some ⟨.bool (ends op), [], true, [], []⟩ := by
  rw [y2oe, y1gv]
  simp [yw, y15, y1y7 1 0 0 0, y2oh, ends, Bool.or_assoc]
end Go.Vm
namespace Go.Vm
open Cel
attribute [local simp] y7 y28 yr
def rowT : List (List UInt8) := [[], [110, 45, 45, 45], [51, 45, 45, 45], [51, 45, 45, 45], [42, 61, 45, 45], [63, 63, 63, 63], [63, 63, 63, 63], [45, 110, 45, 45], [45, 51, 45, 45], [45, 51, 49, 45], [45, 49, 45, 45], [45, 51, 51, 45], [45, 51, 45, 45], [42, 51, 49, 45], [45, 51, 49, 42], [49, 51, 45, 45], [42, 51, 45, 45], [45, 51, 42, 45], [42, 45, 45, 45], [45, 42, 45, 45], [51, 45, 45, 45], [51, 49, 45, 45], [49, 51, 45, 45], [63, 63, 63, 63], [63, 63, 63, 63], [63, 63, 63, 63], [63, 63, 63, 63], [45, 45, 45, 45], [45, 49, 49, 45], [45, 51, 63, 45], [45, 63, 45, 45], [45, 51, 45, 45], [51, 45, 45, 45], [45, 45, 45, 45]]
def rowM (op : Int) : List UInt8 := if op < 1 ∨ 33 < op then [] else rowT.getD op.toNat []
def y1nm (r : Option (Ex AV)) (s : List UInt8) : Bool :=
  match r with
  | some ⟨.str a, [], true, [], []⟩ => a == s
  | _ => false
theorem y1qp {r : Option (Ex AV)} {s : List UInt8} (h : y1nm r s = true) : r = some ⟨.str s, [], true, [], []⟩ := by
  unfold y1nm at h
  split at h
  · rw [eq_of_beq h]
  · cases h
theorem y2ol : ((List.range 33).all fun i => y1nm ((both E 30).1.p 38 [.int .i64 (1 + i)]) (rowM (1 + i))) = true := by kernel_rfl
set_option maxHeartbeats 2000000 in
theorem y2zc (op : Int) : (y8 E).p 38 [.int .i64 op] = some ⟨.str (rowM op), [], true, [], []⟩ := by
  by_cases h : op < 1 ∨ 33 < op
  · rw [rowM, if_pos h, y2tl]
    simp only [y1zd, y1pf, y1qi, y1s0]
    generalize hb : yw 0 (some 0) 1 34 _ _ _ = B
    have hB : ∃ v t, B = some (.ls 0 1 1 0 34, ⟨1, .arr false false 1 v⟩ :: t) := by
      rw [← hb]; exact ⟨_, _, rfl⟩
    obtain ⟨v, t, rfl⟩ := hB
    rcases h with h | h
    · simp [h]
    · have h1 : ¬ op < 1 := by omega
      have h2 : 34 ≤ op := by omega
      simp [h1, h2]
  · have := ybr y2ol (op - 1).toNat (by omega)
    have e : (1 + ((op - 1).toNat : Int)) = op := by omega
    simp only [e] at this
    exact y14r 30 (y1qp this)
end Go.Vm
namespace Go.Vm
open Cel
attribute [local simp] y7 y28 yr
@[simp] theorem yi8 (f : Fn) (r : Int) : (y8 E).p 48 [.agg (enc f), .int .i64 r] = some ⟨.int .i64 (regK (lst f.regs) r), [], true, [], []⟩ := by
  rw [y2qs]
  by_cases h0 : r < 0
  · simp [yrp, yrr, yuu, h0, regK]
  by_cases h1 : ((lst f.regs).length : Int) ≤ r
  · have : (lst f.regs)[r.toNat]? = none := List.getElem?_eq_none (by omega)
    simp [yrp, yrr, yuu, h0, h1, regK, this]
  · have hin : inR (lst f.regs) r = true := by
      have a1 : 0 ≤ r := by omega
      have a2 : r < ((lst f.regs).length : Int) := by omega
      simp [inR, a1, a2]
    obtain ⟨a0, a1, a2⟩ := yw9 hin
    have k := ypb (o := f.regs) a0 a2 .i64
    simp [yrp, yrr, yuu, h0, h1, k]
def y5v (k : Int) (c : UInt8) : Bool :=
  if c = 45 ∨ c = 63 then true else if c = 42 ∨ c = 61 then decide (0 < k) else if c = 110 then decide (k = 1) || decide (k = 2) else decide (k = (c.toNat : Int) - 48)
theorem y275 (f : Fn) (r : Int) (c : UInt8) (hc : c = 45 ∨ c = 63 ∨ c = 42 ∨ c = 61 ∨ c = 110 ∨ c = 49 ∨ c = 50 ∨ c = 51) :
    (y8 E).p 65 [.agg (enc f), .int .i64 r, .int .u8 c.toNat] = some ⟨.bool (y5v (regK (lst f.regs) r) c), [], true, [], []⟩ := by
  rw [y2rl]
  generalize hk : regK (lst f.regs) r = k
  have hk' := yi8 f r
  rw [hk] at hk'
  rcases hc with rfl | rfl | rfl | rfl | rfl | rfl | rfl | rfl
  · simp [yct, ybq, ycv, ybp, ycq, ycz, yd4, y7n, hk', y5v]
  · simp [yct, ybq, ycv, ybp, ycq, ycz, yd4, y7n, hk', y5v]
  · simp [yct, ybq, ycv, ybp, ycq, ycz, yd4, y7n, hk', y5v]
  · simp [yct, ybq, ycv, ybp, ycq, ycz, yd4, y7n, hk', y5v]
  · by_cases h1 : k = 1 <;> simp [yct, ybq, ycv, ybp, ycq, ycz, yd4, y7n, hk', y5v, h1]
  · simp [yct, ybq, ycv, ybp, ycq, ycz, yd4, y7n, hk', y5v, IntKind.wrap, IntKind.bits, IntKind.signed]
  · simp [yct, ybq, ycv, ybp, ycq, ycz, yd4, y7n, hk', y5v, IntKind.wrap, IntKind.bits, IntKind.signed]
  · simp [yct, ybq, ycv, ybp, ycq, ycz, yd4, y7n, hk', y5v, IntKind.wrap, IntKind.bits, IntKind.signed]
@[simp] theorem y2ma (f : Fn) (i : Int) : (y8 E).p 49 [.agg (enc f), .int .i64 i] = some ⟨.bool (y5l (lst f.code).length i), [], true, [], []⟩ := by
  rw [y2r2]
  by_cases h0 : 0 ≤ i <;> simp [y1ik, h0, y5l]
end Go.Vm
