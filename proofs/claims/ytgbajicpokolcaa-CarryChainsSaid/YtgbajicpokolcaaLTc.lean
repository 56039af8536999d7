/- 'right', whole. A number in a list: the library's 'Contains'. Whether a function is well formed: 'Check': its lists of registers, parameters, rows. Functions whose lists are not too long. What the pass 'carry' leaves is fit. A row of copies, and what the pass 'carry' leaves of it. Clones of lists of numbers. What a callee made, as the caller's own: a list, or nothing. Heaps that grow: what lies where, behind one more object, behind one that is turned. Clones of lists of instructions, of rows. ins.Copy: a function's copy. A function whose lists lie in objects of one's own: how it reads, how it is handed out, how a copy comes to lie so. The register that an instruction writes. The facts of the pass 'carry' on the machine. A pass: a function as a variable of one's own, its lists in objects of one's own. -/
import Derived.Test.YtgbajicpokolcaaLX
import Derived.KernelRfl
import Derived.Test.YtgbajicpokolcaaLTb
set_option linter.unusedSimpArgs false
set_option linter.unusedVariables false
set_option linter.unusedSectionVars false
namespace Go.Vm
open Cel
attribute [local simp] y4 y20 yp
theorem yrr (f : Fn) (x : Ins) (a b c d : Int) (i : Nat) (r : Int) (v63 v64 : AV) :
    yhx P0 P1 (.int .i64 i) (.int .i64 r) v63 v64 (.int .i64 i) (HR f x a b c d) =
      if inR (lst f.regs) r && (!decide (i = 0) || !(decide (x.op = 24) || decide (x.op = 25)) || decide (regK (lst f.regs) r = 3)) then y1qj P0 P1 v63 v64 (.int .i64 i) (HR f x a b c d) else some ⟨.bool false, [], true, [], []⟩ := by
  by_cases h0 : r < 0
  · have : ¬ 0 ≤ r := by omega
    simp [yhx, h0, inR, this]
  by_cases h1 : r < ((lst f.regs).length : Int)
  · have h0' : 0 ≤ r := by omega
    have h1' : ¬ ((lst f.regs).length : Int) ≤ r := by omega
    have hin : inR (lst f.regs) r = true := by simp [inR, h0', h1]
    have hr := yc4 hin
    by_cases hi : i = 0
    · subst hi
      by_cases o1 : x.op = 24
      · by_cases h3 : regK (lst f.regs) r = 3
        · simp [yhx, h0, h1', hin, hr, o1, h3]
        · simp [yhx, h0, h1', hin, hr, o1, h3]
      · by_cases o2 : x.op = 25
        · by_cases h3 : regK (lst f.regs) r = 3
          · simp [yhx, h0, h1', hin, hr, o2, h3]
          · simp [yhx, h0, h1', hin, hr, o2, h3]
        · simp [yhx, h0, h1', hin, o1, o2]
    · have hi' : ¬ ((i : Int) = 0) := by omega
      simp [yhx, h0, h1', hin, hi, hi']
  · have h1' : ((lst f.regs).length : Int) ≤ r := by omega
    simp [yhx, h0, h1', h1, inR]
theorem y17q (f : Fn) (x : Ins) (a b c d : Int) (T : Bool) (hc : calls x.op = true) (hl : (lst x.args).length ≤ 9223372036854775807) (hT : y9l P0 P1 (HR f x a b c d) = some ⟨.bool T, [], true, [], []⟩) :
    ∀ (k i : Nat), i + k = (lst x.args).length → 0 < i →
    yi2 P0 P1 (slA x.args) (.int .i64 (lst x.args).length) (.int .i64 i) (HR f x a b c d) = some ⟨.bool (((lst x.args).drop i).all (inR (lst f.regs)) && T), [], true, [], []⟩ := by
  intro k
  induction k with
  | zero =>
    intro i hi _
    have e1 : (lst x.args).drop i = [] := List.drop_eq_nil_of_le (by omega)
    have hn : ¬ ((i : Int) < ((lst x.args).length : Int)) := by omega
    rw [yh5, e1]
    simp [yjf, yh1, hn, hT]
  | succ k ih =>
    intro i hi h0
    have hlt : i < (lst x.args).length := by omega
    have hn : ((i : Int) < ((lst x.args).length : Int)) := by omega
    have e1 : ((lst x.args).drop i).all (inR (lst f.regs)) = (inR (lst f.regs) (lst x.args)[i] && ((lst x.args).drop (i + 1)).all (inR (lst f.regs))) := by rw [List.drop_eq_getElem_cons hlt, List.all_cons]
    have ih := ih (i + 1) (by omega) (by omega)
    push_cast at ih
    have k1 := y2b (o := x.args) (i := i) (List.getElem?_eq_getElem hlt) .i64
    have hz : ¬ i = 0 := by omega
    rw [yh5, e1]
    simp only [yjf, yh1, yi, y2, hn, decide_true, y25]
    simp only [y1mo, k1, y2, yum, y7z, List.head?_cons]
    simp only [y1j6]
    simp only [y34]
    simp only [yn3, ydw]
    simp only [List.getElem?_cons_zero, List.drop_zero, yn7, y2]
    simp only [y4, yut, Option.isSome_none, Bool.and_false, Bool.not_false, Bool.and_self, if_true, y20, ym, y7k, yw, ytk, yp, ymx, yb, Bool.true_or]
    simp only [y4f, y2, hc, Bool.not_true, y2e, yrr]
    cases inR (lst f.regs) (lst x.args)[i]
    · simp
    · simp [hz, y1qj, y21 hlt hl, ih]
theorem y15g (f : Fn) (x : Ins) (a b c d : Int) (T : Bool) (hl : (lst x.args).length ≤ 9223372036854775807) (hT : y9l P0 P1 (HR f x a b c d) = some ⟨.bool T, [], true, [], []⟩) :
    yq4 P0 P1 (HR f x a b c d) = some ⟨.bool (y4t (lst f.regs) x && T), [], true, [], []⟩ := by
  have e0 : yq4 P0 P1 (HR f x a b c d) = yi2 P0 P1 (slA x.args) (.int .i64 (lst x.args).length) (.int .i64 0) (HR f x a b c d) := by simp [yq4]
  rw [e0, yh5]
  cases ha : lst x.args with
  | nil => simp [yjf, yh1, hT, y4t, yea, ha]
  | cons r rest =>
    have k1 := y2b (o := x.args) (i := 0) (x := r) (by rw [ha]; rfl) .i64
    have k1 : yg 1 (slA x.args) (.int .i64 0) = some (.rp [.int .i64 r]) := k1
    have hn : ((0 : Int) < ((lst x.args).length : Int)) := by rw [ha]; simp
    have hra := yrr f x a b c d 0 r (slA x.args) (.int .i64 (lst x.args).length)
    simp only [Int.ofNat_zero, decide_true, Bool.not_true, Bool.false_or] at hra
    rw [← ha]
    cases hc : calls x.op with
    | false =>
      simp only [yjf, yh1, yi, y2, hn, decide_true, y25]
      simp only [y1mo, k1, y2, yum, y7z, List.head?_cons]
      simp only [y1j6]
      simp only [y34]
      simp only [yn3, ydw]
      simp only [List.getElem?_cons_zero, List.drop_zero, yn7, y2]
      simp only [y4, yut, Option.isSome_none, Bool.and_false, Bool.not_false, Bool.and_self, if_true, y20, ym, y7k, yw, ytk, yp, ymx, yb, Bool.true_or]
      simp only [y4f, y2, hc, Bool.not_false, y25, hT, y4t, Bool.true_or, Bool.true_and]
    | true =>
      have hlp := y17q f x a b c d T hc hl hT rest.length 1 (by rw [ha]; simp; omega) (by omega)
      have hd : (lst x.args).drop 1 = rest := by rw [ha]; rfl
      rw [hd] at hlp
      have hlp : yi2 P0 P1 (slA x.args) (.int .i64 (lst x.args).length) (.int .i64 1) (HR f x a b c d) = _ := hlp
      simp only [yjf, yh1, yi, y2, hn, decide_true, y25]
      simp only [y1mo, k1, y2, yum, y7z, List.head?_cons]
      simp only [y1j6]
      simp only [y34]
      simp only [yn3, ydw]
      simp only [List.getElem?_cons_zero, List.drop_zero, yn7, y2]
      simp only [y4, yut, Option.isSome_none, Bool.and_false, Bool.not_false, Bool.and_self, if_true, y20, ym, y7k, yw, ytk, yp, ymx, yb, Bool.true_or]
      simp only [y4f, y2, hc, Bool.not_true, y2e, hra]
      simp only [y4t, yea, ha, List.all_cons]
      have hw : IntKind.wrap .i64 ((0 : Int) + 1) = 1 := y1a (n := 1) (by omega) (by omega)
      generalize (!(decide (x.op = 24) || decide (x.op = 25)) || decide (regK (lst f.regs) r = 3)) = B
      have hw2 : IntKind.wrap .i64 (1 : Int) = 1 := y1a (n := 1) (by omega) (by omega)
      cases inR (lst f.regs) r with
      | false => cases B <;> simp [hc]
      | true =>
        cases B with
        | false => simp [hc]
        | true =>
          simp only [Bool.and_self, if_true, y1qj, y27, y2]
          rw [show IntKind.wrap .i64 ((0 : Int) + 1) = 1 from hw]
          rw [← ha, hlp]
          simp [hc]
theorem y1lc (x : Ins) : (x.op = 1 → (ye x).1 = 0) ∧ (x.op = 4 → (ye x).1 = 0 ∧ (ye x).2.1 = 0) ∧ (x.op = 7 → (ye x).2.1 = 0) ∧ (x.op = 30 → x.a = -1 ∨ (ye x).2.1 = 0) := by
  refine ⟨fun h => ?_, fun h => ?_, fun h => ?_, fun h => ?_⟩ <;> simp [ye, h]
  by_cases ha : x.a = -1 <;> simp [ha]
theorem ydl {R : List Int} {w r : Int} (h : y1f R w r = true) (hw : w = 0) : inR R r = true := by
  subst hw
  simpa [y1f] using h
set_option maxHeartbeats 1000000 in
theorem y27a (f : Fn) (x : Ins) (hn : -9223372036854775808 ≤ x.n ∧ x.n < 9223372036854775808) (hs : x.s.length ≤ 9223372036854775807) (hl : (lst x.args).length ≤ 9223372036854775807) :
    (y5 E).p 63 [.agg (enc f), .agg (enc x)] = some ⟨.bool (y15 f x), [], true, [], []⟩ := by
  have hk := y2bd x hn hs
  obtain ⟨q1, q4, q7, q30⟩ := y1lc x
  rw [y2lh]
  have red : ∀ X : Option (Ex AV), y15 f x = y15 f x → True := fun _ _ => trivial
  have e0 : yp1 (.agg (enc f)) (.agg (enc x)) [⟨0, .dead⟩, ⟨0, .dead⟩, ⟨0, .dead⟩] =
      if (ye x).2.2.2.2 = true then ycn P0 P1 P2 (.agg [.int .i64 x.d, .int .i64 x.a, .int .i64 x.b, .int .i64 x.c]) (.int .i64 0) (HR f x (ye x).1 (ye x).2.1 (ye x).2.2.1 (ye x).2.2.2.1) else some ⟨.bool false, [], true, [], []⟩ := by
    unfold exK at hk
    generalize ye x = k at *
    obtain ⟨a, b, c, d, o⟩ := k
    simp only at hk ⊢
    cases o with
    | true => simp [yp1, yxb, yxi, y1dt, hk]
    | false => simp [yp1, yxb, yxi, hk]
  rw [e0, y15]
  cases hok : (ye x).2.2.2.2 with
  | false => simp
  | true =>
    simp only [if_true, Bool.true_and]
    have step : ∀ (i : Nat) (w r : Int), i < 4 → [(ye x).1, (ye x).2.1, (ye x).2.2.1, (ye x).2.2.2.1][i]? = some w → [x.d, x.a, x.b, x.c][i]? = some r →
        ycn P0 P1 P2 (.agg [.int .i64 x.d, .int .i64 x.a, .int .i64 x.b, .int .i64 x.c]) (.int .i64 i) (HR f x (ye x).1 (ye x).2.1 (ye x).2.2.1 (ye x).2.2.2.1) =
        if y1f (lst f.regs) w r then ycn P0 P1 P2 (.agg [.int .i64 x.d, .int .i64 x.a, .int .i64 x.b, .int .i64 x.c]) (.int .i64 (i + 1 : Nat)) (HR f x (ye x).1 (ye x).2.1 (ye x).2.2.1 (ye x).2.2.2.1) else some ⟨.bool false, [], true, [], []⟩ := by
      intro i w r hi hw hr
      have hc : ((i : Int) < (4 : Int)) := by omega
      have hv : yng false 4 1 (.agg [.int .i64 x.d, .int .i64 x.a, .int .i64 x.b, .int .i64 x.c]) (.int .i64 i) = some (.int .i64 r) := by
        match i, hi, hr with
        | 0, _, hr => simp at hr; simp [yng, hr]
        | 1, _, hr => simp at hr; simp [yng, hr]
        | 2, _, hr => simp at hr; simp [yng, hr]
        | 3, _, hr => simp at hr; simp [yng, hr]
      have hw2 : IntKind.wrap .i64 ((i : Int) + 1) = ((i + 1 : Nat) : Int) := by rw [y1a] <;> omega
      rw [ym3]
      simp only [y15a, y04, yi, y2, hc, decide_true, y25]
      simp only [y1oi, hv, y2]
      rw [yv3 f x _ _ _ _ i w r _ hi hw]
      simp only [yrq, y27, y2, hw2]
    have s0 := step 0 _ _ (by omega) rfl rfl
    have s1 := step 1 _ _ (by omega) rfl rfl
    have s2 := step 2 _ _ (by omega) rfl rfl
    have s3 := step 3 _ _ (by omega) rfl rfl
    simp only [Int.ofNat_zero] at s0
    rw [s0]
    cases f0 : y1f (lst f.regs) (ye x).1 x.d with
    | false => simp
    | true =>
      simp only [if_true, Bool.true_and]
      rw [s1]
      cases f1 : y1f (lst f.regs) (ye x).2.1 x.a with
      | false => simp
      | true =>
        simp only [if_true, Bool.true_and]
        rw [s2]
        cases f2 : y1f (lst f.regs) (ye x).2.2.1 x.b with
        | false => simp
        | true =>
          simp only [if_true, Bool.true_and]
          rw [s3]
          cases f3 : y1f (lst f.regs) (ye x).2.2.2.1 x.c with
          | false => simp
          | true =>
            simp only [if_true, Bool.true_and]
            have ht := y15s f x (ye x).1 (ye x).2.1 (ye x).2.2.1 (ye x).2.2.2.1 (fun h => ydl f0 (q1 h)) (fun h => ⟨ydl f0 (q4 h).1, ydl f1 (q4 h).2⟩) (fun h => ydl f1 (q7 h)) (fun h => (q30 h).imp id fun h => ydl f1 h)
            rw [← y15g f x _ _ _ _ _ hl ht]
            rw [ym3]
            simp [y15a, y04]
end Go.Vm
namespace Go.Vm
open Cel
attribute [local simp] y4 y20 yp
theorem y20r {α : Type} [Cel α] (o : Option (List α)) (i : Nat) (h : i ≤ (lst o).length) (k : IntKind) : y5s (es α) (slA o) none (some (.int k i)) = some (slA (o.map (List.take i))) := by
  have h2 : (0 : Int) ≤ (i : Int) ∧ (i : Int) ≤ ((lst o).length : Int) := by omega
  cases o with
  | none =>
    have : i = 0 := by simpa using h
    subst this
    simp [y5s, slA, yny, y6t, ycb]
  | some L =>
    simp only [y3j] at h2
    simp [y5s, slA, yny, y6t, ycb, h2, List.map_take]
theorem y15y (o : Option (List Int)) (r : Int) (hl : (lst o).length ≤ 9223372036854775807) (h : Heap) : ∀ (d i : Nat), i + d = (lst o).length →
    ∃ k : Int, yik (slA o) (.int .i64 r) (.int .i64 (lst o).length) (.int .i64 i) h = some ⟨.int .i64 k, [], true, [], []⟩ ∧ (0 ≤ k ↔ r ∈ (lst o).drop i) := by
  intro d
  induction d with
  | zero =>
    intro i hi
    have e1 : (lst o).drop i = [] := List.drop_eq_nil_of_le (by omega)
    have hn : ¬ ((i : Int) < ((lst o).length : Int)) := by omega
    rw [yk5, e1]
    exact ⟨-1, by simp [ykq, yjy, ykd, ykl, ykt, yl4, yem, hn], by simp⟩
  | succ d ih =>
    intro i hi
    have hlt : i < (lst o).length := by omega
    have hn : ((i : Int) < ((lst o).length : Int)) := by omega
    have k1 := y2b (o := o) (i := i) (List.getElem?_eq_getElem hlt) .i64
    have hm : r ∈ (lst o).drop i ↔ r = (lst o)[i] ∨ r ∈ (lst o).drop (i + 1) := by rw [List.drop_eq_getElem_cons hlt, List.mem_cons]
    rw [yk5, hm]
    by_cases he : r = (lst o)[i]
    · exact ⟨i, by simp [ykq, yjy, ykd, ykl, ykt, yl4, yem, hn, k1, he], by simp [he]⟩
    · obtain ⟨k, h1, h2⟩ := ih (i + 1) (by omega)
      push_cast at h1
      refine ⟨k, ?_, ?_⟩
      · simp [ykq, yjy, ykd, ykl, ykt, yl4, yem, hn, k1, he, y21 hlt hl, h1]
      · rw [h2]; simp [he]
@[simp] theorem yb9 (o : Option (List Int)) (r : Int) (hl : (lst o).length ≤ 9223372036854775807) : (y5 E).p 46 [slA o, .int .i64 r] = some ⟨.bool ((lst o).contains r), [], true, [], []⟩ := by
  obtain ⟨k, h1, h2⟩ := y15y o r hl [] (lst o).length 0 (by omega)
  simp only [Int.ofNat_zero, List.drop_zero] at h1 h2
  have hi : (y5 E).p 45 [slA o, .int .i64 r] = some ⟨.int .i64 k, [], true, [], []⟩ := by
    rw [y2cu, ← h1]
    simp [ykq, yjy, ykd, ykl, ykt, yl4, yem]
  rw [y2jg]
  by_cases h0 : 0 ≤ k
  · have := h2.1 h0
    simp [yzq, hi, h0, this]
  · have : r ∉ lst o := fun h => h0 (h2.2 h)
    simp [yzq, hi, h0, this]
end Go.Vm
namespace Go.Vm
open Cel
attribute [local simp] y4 y20 yp
abbrev HC (f : Fn) (o1 o2 : AO) : Heap := [⟨1, .arr true false 5 [enc f]⟩, o1, o2]
abbrev E80 : Option (Ex AV) := some ⟨.int .i64 80, [], true, [], []⟩
abbrev E0 : Option (Ex AV) := some ⟨.int .i64 0, [], true, [], []⟩
theorem y16o (f : Fn) (o1 : AO) (n : Int) (hn : n = (lst f.code).length) (hl : (lst f.rows).length ≤ 9223372036854775807) : ∀ (d i : Nat) (o2 : AO), i + d = (lst f.rows).length →
    ykb P0 (.int .i64 n) (slA f.rows) (.int .i64 (lst f.rows).length) (.int .i64 i) (HC f o1 o2) = if ((lst f.rows).drop i).all (y43 (lst f.code)) then E0 else E80 := by
  intro d
  induction d with
  | zero =>
    intro i o2 hi
    have e1 : (lst f.rows).drop i = [] := List.drop_eq_nil_of_le (by omega)
    have hn : ¬ ((i : Int) < ((lst f.rows).length : Int)) := by omega
    rw [yor, e1]
    simp [y1sl, y1xf, y29p, hn]
  | succ d ih =>
    intro i o2 hi
    have hlt : i < (lst f.rows).length := by omega
    have hc : ((i : Int) < ((lst f.rows).length : Int)) := by omega
    have k1 := yo5 (o := f.rows) (i := i) (List.getElem?_eq_getElem hlt) .i64
    rw [yor]
    have e1 : ((lst f.rows).drop i).all (y43 (lst f.code)) = (y43 (lst f.code) (lst f.rows)[i] && ((lst f.rows).drop (i + 1)).all (y43 (lst f.code))) := by rw [List.drop_eq_getElem_cons hlt, List.all_cons]
    rw [e1]
    generalize hr : (lst f.rows)[i] = r at *
    have ih := fun o2 => ih (i + 1) o2 (by omega)
    push_cast at ih
    subst hn
    simp only [y1sl, y1xf, yi, y2, hc, decide_true, y25]
    by_cases h1 : r.f < 0
    · simp [ynw, k1, y43, h1]
    by_cases h2 : r.t ≤ r.f
    · simp [ynw, k1, y43, h1, h2]
    by_cases h3 : ((lst f.code).length : Int) < r.t
    · simp [ynw, k1, y43, h1, h2, h3]
    by_cases h4 : r.at_ < 0
    · simp [ynw, k1, y43, h1, h2, h3, h4]
    by_cases h5 : ((lst f.code).length : Int) ≤ r.at_
    · simp [ynw, k1, y43, h1, h2, h3, h4, h5]
    · have hx : r.at_.toNat < (lst f.code).length := by omega
      have k2 := ybd (o := f.code) (n := r.at_) (by omega) (List.getElem?_eq_getElem hx) .i64
      have hg : (lst f.code).getD r.at_.toNat default = (lst f.code)[r.at_.toNat] := by rw [List.getD_eq_getElem?_getD, List.getElem?_eq_getElem hx]; rfl
      by_cases h6 : ((lst f.code)[r.at_.toNat]).op = 32
      · simp [ynw, k1, y43, h1, h2, h3, h4, h5, k2, h6, hx, y254, y21 hlt hl, ih]
      · simp [ynw, k1, y43, h1, h2, h3, h4, h5, k2, h6, hx]
theorem y17z (f : Fn) (o1 o2 : AO) (n : Int) (hl : (lst f.regs).length ≤ 9223372036854775807) : ∀ (d i : Nat), i + d = (lst f.regs).length →
    yey P0 (.int .i64 n) (slA f.regs) (.int .i64 (lst f.regs).length) (.int .i64 i) (HC f o1 o2) = if ((lst f.regs).drop i).all (fun k => decide (1 ≤ k) && decide (k ≤ 3)) then yr1 P0 (.int .i64 n) (HC f o1 o2) else E80 := by
  intro d
  induction d with
  | zero =>
    intro i hi
    have e1 : (lst f.regs).drop i = [] := List.drop_eq_nil_of_le (by omega)
    have hn : ¬ ((i : Int) < ((lst f.regs).length : Int)) := by omega
    rw [ylv, e1]
    simp [y15c, yxo, hn]
  | succ d ih =>
    intro i hi
    have hlt : i < (lst f.regs).length := by omega
    have hc : ((i : Int) < ((lst f.regs).length : Int)) := by omega
    have k1 := y2b (o := f.regs) (i := i) (List.getElem?_eq_getElem hlt) .i64
    have e1 : ((lst f.regs).drop i).all (fun k => decide (1 ≤ k) && decide (k ≤ 3)) = ((decide (1 ≤ (lst f.regs)[i]) && decide ((lst f.regs)[i] ≤ 3)) && ((lst f.regs).drop (i + 1)).all (fun k => decide (1 ≤ k) && decide (k ≤ 3))) := by
      rw [List.drop_eq_getElem_cons hlt, List.all_cons]
    rw [ylv, e1]
    generalize hr : (lst f.regs)[i] = r at *
    have ih := ih (i + 1) (by omega)
    push_cast at ih
    simp only [y15c, yxo, yi, y2, hc, decide_true, y25]
    by_cases h1 : r < 1
    · have : ¬ 1 ≤ r := by omega
      simp [ypk, k1, h1, this]
    by_cases h2 : 3 < r
    · have : ¬ r ≤ 3 := by omega
      simp [ypk, k1, h1, h2, this]
    · have a1 : 1 ≤ r := by omega
      have a2 : r ≤ 3 := by omega
      simp [ypk, k1, h1, h2, a1, a2, y1a4, y21 hlt hl, ih]
theorem yot (f : Fn) (o1 o2 : AO) (n : Int) (hl : (lst f.params).length ≤ 9223372036854775807) : ∀ (d i : Nat), i + d = (lst f.params).length →
    yei P0 (.int .i64 n) (slA f.params) (.int .i64 (lst f.params).length) (.int .i64 i) (HC f o1 o2) = if yci (lst f.regs) i ((lst f.params).take i) ((lst f.params).drop i) then yp3 P0 (.int .i64 n) (HC f o1 o2) else E80 := by
  intro d
  induction d with
  | zero =>
    intro i hi
    have e1 : (lst f.params).drop i = [] := List.drop_eq_nil_of_le (by omega)
    have hn : ¬ ((i : Int) < ((lst f.params).length : Int)) := by omega
    rw [yl5, e1]
    simp [y12y, yzl, hn, yci]
  | succ d ih =>
    intro i hi
    have hlt : i < (lst f.params).length := by omega
    have hc : ((i : Int) < ((lst f.params).length : Int)) := by omega
    have k1 := y2b (o := f.params) (i := i) (List.getElem?_eq_getElem hlt) .i64
    have ks := y20r (α := Int) f.params i (by omega) .i64
    simp only [y1a6] at ks
    have hlm : lst (f.params.map (List.take i)) = (lst f.params).take i := by cases f.params <;> simp
    have e1 : yci (lst f.regs) i ((lst f.params).take i) ((lst f.params).drop i) = ((inR (lst f.regs) (lst f.params)[i] && !((lst f.params).take i).contains (lst f.params)[i] && decide (i ≤ 20)) && yci (lst f.regs) (i + 1) ((lst f.params).take (i + 1)) ((lst f.params).drop (i + 1))) := by
      rw [List.drop_eq_getElem_cons hlt, yci, List.take_append_getElem]
    rw [yl5, e1]
    have hct : (y5 E).p 46 [slA (f.params.map (List.take i)), .int .i64 (lst f.params)[i]] = some ⟨.bool (((lst f.params).take i).contains (lst f.params)[i]), [], true, [], []⟩ := by
      rw [yb9 _ _ (by rw [hlm, List.length_take]; omega), hlm]
    generalize hr : (lst f.params)[i] = r at *
    generalize ((lst f.params).take i).contains r = B at *
    have ih := ih (i + 1) (by omega)
    push_cast at ih
    simp only [y12y, yzl, yi, y2, hc, decide_true, y25]
    have e20 : ((20 : Int) < (i : Int)) ↔ ¬ i ≤ 20 := by omega
    by_cases h1 : r < 0
    · have : ¬ 0 ≤ r := by omega
      simp [yiz, k1, inR, h1, this]
    by_cases h2 : ((lst f.regs).length : Int) ≤ r
    · have : ¬ r < ((lst f.regs).length : Int) := by omega
      simp [yiz, k1, inR, h1, h2, this]
    · have a1 : 0 ≤ r := by omega
      have a2 : r < ((lst f.regs).length : Int) := by omega
      cases B with
      | true => simp [yiz, k1, inR, h1, h2, a1, a2, ks, hct]
      | false =>
        by_cases h3 : i ≤ 20
        · have h3' : ¬ ((20 : Int) < (i : Int)) := by omega
          simp [yiz, k1, inR, h1, h2, a1, a2, ks, hct, h3, h3', y1qe, y21 hlt hl, ih]
        · have h3' : ((20 : Int) < (i : Int)) := by omega
          simp [yiz, k1, inR, h1, h2, a1, a2, ks, hct, h3, h3']
theorem y178 {R : List Int} {ret : Int} {n : Nat} {x : Ins} (h : y30 R ret n x = true) (hl : leads x.op = true) : 0 ≤ x.t ∧ x.t < n := by
  have hne : ¬ x.op = 1 ∧ ¬ x.op = 4 ∧ ¬ x.op = 7 ∧ ¬ x.op = 30 := by
    simp only [leads, Bool.or_eq_true, decide_eq_true_eq] at hl
    omega
  simp only [y30, hne, if_false, hl, Bool.not_true, Bool.false_or, Bool.and_eq_true, decide_eq_true_eq] at h
  exact h
theorem yi8 {f : Fn} {x : Ins} (h : y15 f x = true) (hl : leads x.op = true) : 0 ≤ x.t ∧ x.t < (lst f.code).length := by
  simp only [y15, Bool.and_eq_true] at h
  exact y178 h.2 hl
structure InsFit (x : Ins) : Prop where
  n : -9223372036854775808 ≤ x.n ∧ x.n < 9223372036854775808
  s : x.s.length ≤ 9223372036854775807
  a : (lst x.args).length ≤ 9223372036854775807
theorem y15v (f : Fn) (o2 : AO) (n : Int) (x : Ins) (i g : Nat) (v92 v93 v94 : AV) (hi : i < (lst f.code).length) (hl : (lst f.code).length ≤ 9223372036854775807) (ht : leads x.op = true → 0 ≤ x.t ∧ x.t < (lst f.code).length) :
    ybv P0 (.int .i64 n) (.int .i64 i) (.lp 1 g 0 0) v92 v93 v94 (HC f ⟨g, .arr true false 9 [enc x]⟩ o2) =
      if y3e (lst f.code) i x then yv7 P0 (.int .i64 n) v92 v93 v94 (HC f ⟨g, .arr true false 9 [enc x]⟩ o2) else E80 := by
  by_cases h32 : x.op = 32
  · have hld : leads x.op = false := by simp [leads, h32]
    by_cases h0 : i = 0
    · subst h0
      simp [ybv, h32, y3e]
    · have h0' : ¬ ((i : Int) = 0) := by omega
      have hp : i - 1 < (lst f.code).length := by omega
      have k1 := yas (o := f.code) (i := i - 1) (List.getElem?_eq_getElem hp) .i64
      have hw : IntKind.wrap .i64 ((i : Int) - 1) = ((i - 1 : Nat) : Int) := by rw [y1a] <;> omega
      have hg : (lst f.code).getD (i - 1) default = (lst f.code)[i - 1] := by rw [List.getD_eq_getElem?_getD, List.getElem?_eq_getElem hp]; rfl
      have hld32 : leads 32 = false := by simp [leads]
      cases he : ends ((lst f.code)[i - 1]).op with
      | true => simp [ybv, h32, y3e, h0, h0', hw, k1, hp, he, hld32]
      | false => simp [ybv, h32, y3e, h0, h0', hw, k1, hp, he]
  · cases hld : leads x.op with
    | false => simp [ybv, h32, y3e, hld]
    | true =>
      obtain ⟨t0, t1⟩ := ht hld
      have hx : x.t.toNat < (lst f.code).length := by omega
      have k2 := ybd (o := f.code) (n := x.t) t0 (List.getElem?_eq_getElem hx) .i64
      by_cases h6 : ((lst f.code)[x.t.toNat]).op = 32
      · simp [ybv, h32, y3e, hld, k2, h6, hx]
      · simp [ybv, h32, y3e, hld, k2, h6, hx]
theorem y187 (f : Fn) (o2 : AO) (n : Int) (hfit : ∀ x ∈ lst f.code, InsFit x) (hl : (lst f.code).length ≤ 9223372036854775807) : ∀ (d i : Nat) (o1 : AO), i + d = (lst f.code).length →
    ∃ o1', yec P0 (.int .i64 n) (slA f.code) (.int .i64 (lst f.code).length) (.int .i64 i) (HC f o1 o2) = if y3v f (lst f.code) i ((lst f.code).drop i) then y1qm P0 (.int .i64 n) (HC f o1' o2) else E80 := by
  intro d
  induction d with
  | zero =>
    intro i o1 hi
    have e1 : (lst f.code).drop i = [] := List.drop_eq_nil_of_le (by omega)
    have hn : ¬ ((i : Int) < ((lst f.code).length : Int)) := by omega
    rw [ymb, e1]
    exact ⟨o1, by simp [y122, y148, hn, y3v]⟩
  | succ d ih =>
    intro i o1 hi
    have hlt : i < (lst f.code).length := by omega
    have hc : ((i : Int) < ((lst f.code).length : Int)) := by omega
    have k1 := yas (o := f.code) (i := i) (List.getElem?_eq_getElem hlt) .i64
    have e1 : y3v f (lst f.code) i ((lst f.code).drop i) = (y15 f (lst f.code)[i] && y3e (lst f.code) i (lst f.code)[i] && y3v f (lst f.code) (i + 1) ((lst f.code).drop (i + 1))) := by
      rw [List.drop_eq_getElem_cons hlt, y3v]
    have fit := hfit _ (List.getElem_mem hlt)
    rw [ymb, e1]
    generalize hx : (lst f.code)[i] = x at *
    have hr := y27a f x fit.n fit.s fit.a
    simp only [y122, y148, yi, y2, hc, decide_true, y25]
    cases hok : y15 f x with
    | false =>
      rw [hok] at hr
      exact ⟨o1, by simp [yps, y13x, k1, hr]⟩
    | true =>
      rw [hok] at hr
      have e13 : ∀ K : Option (Ex AV), yps P0 (.int .i64 n) (slA f.code) (.int .i64 (lst f.code).length) (.int .i64 i) (HC f o1 o2) = ybv P0 (.int .i64 n) (.int .i64 i) (.lp 1 (o1.gen + 1) 0 0) (slA f.code) (.int .i64 (lst f.code).length) (.int .i64 i) (HC f ⟨o1.gen + 1, .arr true false 9 [enc x]⟩ o2) := by
        intro _
        simp [yps, y13x, k1, hr]
      rw [e13 none]
      rw [y15v f o2 n x i _ _ _ _ hlt hl (fun h => yi8 hok h)]
      cases hs : y3e (lst f.code) i x with
      | false => exact ⟨o1, by simp⟩
      | true =>
        obtain ⟨o1', ih⟩ := ih (i + 1) ⟨o1.gen + 1, .arr true false 9 [enc x]⟩ (by omega)
        push_cast at ih
        exact ⟨o1', by simp [yv7, y21 hlt hl, ih]⟩
structure FnFit (f : Fn) : Prop where
  ins : ∀ x ∈ lst f.code, InsFit x
  code : (lst f.code).length ≤ 9223372036854775807
  regs : (lst f.regs).length ≤ 9223372036854775807
  params : (lst f.params).length ≤ 9223372036854775807
  rows : (lst f.rows).length ≤ 9223372036854775807
theorem y19g (f : Fn) (hf : FnFit f) (o1 o2 : AO) (n : Int) (hn : n = (lst f.code).length) :
    yl6 P0 (.int .i64 n) (HC f o1 o2) = if (lst f.regs).all (fun k => decide (1 ≤ k) && decide (k ≤ 3)) && yci (lst f.regs) 0 [] (lst f.params) && y3v f (lst f.code) 0 (lst f.code) && (lst f.rows).all (y43 (lst f.code)) then E0 else E80 := by
  have a1 := y17z f o1 o2 n hf.regs _ 0 (Nat.zero_add _)
  have a2 := yot f o1 o2 n hf.params _ 0 (Nat.zero_add _)
  obtain ⟨o1', a3⟩ := y187 f o2 n hf.ins hf.code _ 0 o1 (Nat.zero_add _)
  have a4 := y16o f o1' n hn hf.rows _ 0 o2 (Nat.zero_add _)
  simp only [Int.ofNat_zero, List.drop_zero, List.take_zero] at a1 a2 a3 a4
  have e1 : yl6 P0 (.int .i64 n) (HC f o1 o2) = yey P0 (.int .i64 n) (slA f.regs) (.int .i64 (lst f.regs).length) (.int .i64 0) (HC f o1 o2) := by simp [yl6]
  have e2 : yr1 P0 (.int .i64 n) (HC f o1 o2) = yei P0 (.int .i64 n) (slA f.params) (.int .i64 (lst f.params).length) (.int .i64 0) (HC f o1 o2) := by simp [yr1]
  have e3 : yp3 P0 (.int .i64 n) (HC f o1 o2) = yec P0 (.int .i64 n) (slA f.code) (.int .i64 (lst f.code).length) (.int .i64 0) (HC f o1 o2) := by simp [yp3]
  have e4 : y1qm P0 (.int .i64 n) (HC f o1' o2) = ykb P0 (.int .i64 n) (slA f.rows) (.int .i64 (lst f.rows).length) (.int .i64 0) (HC f o1' o2) := by simp [y1qm]
  rw [e1, a1, e2, a2, e3, a3, e4, a4]
  generalize (lst f.regs).all (fun k => decide (1 ≤ k) && decide (k ≤ 3)) = b1
  generalize yci (lst f.regs) 0 [] (lst f.params) = b2
  generalize y3v f (lst f.code) 0 (lst f.code) = b3
  generalize (lst f.rows).all (y43 (lst f.code)) = b4
  cases b1 <;> cases b2 <;> cases b3 <;> cases b4 <;> rfl
set_option maxHeartbeats 1000000 in
theorem y25l (f : Fn) (hf : FnFit f) : (y5 E).p 8 [.agg (enc f)] = some ⟨.int .i64 (if wf f then 0 else 80), [], true, [], []⟩ := by
  rw [y2o0]
  have hall := y19g f hf ⟨0, .dead⟩ ⟨0, .dead⟩ _ rfl
  by_cases h1 : (lst f.code).length < 1
  · have h1' : ((lst f.code).length : Int) < 1 := by omega
    have : ¬ 1 ≤ (lst f.code).length := by omega
    simp [yc2, ycv, ydo, h1', wf, this]
  have h1' : ¬ ((lst f.code).length : Int) < 1 := by omega
  have g1 : 1 ≤ (lst f.code).length := by omega
  by_cases h2 : 20000 < (lst f.code).length
  · have h2' : (20000 : Int) < ((lst f.code).length : Int) := by omega
    have : ¬ (lst f.code).length ≤ 20000 := by omega
    simp [yc2, ycv, ydo, h1', h2', wf, this]
  have h2' : ¬ (20000 : Int) < ((lst f.code).length : Int) := by omega
  have g2 : (lst f.code).length ≤ 20000 := by omega
  by_cases h3 : 20000 < (lst f.regs).length
  · have h3' : (20000 : Int) < ((lst f.regs).length : Int) := by omega
    have : ¬ (lst f.regs).length ≤ 20000 := by omega
    simp [yc2, ycv, ydo, h1', h2', h3', wf, this]
  have h3' : ¬ (20000 : Int) < ((lst f.regs).length : Int) := by omega
  have g3 : (lst f.regs).length ≤ 20000 := by omega
  by_cases h4 : f.ret < 0
  · have : ¬ 0 ≤ f.ret := by omega
    simp [yc2, ycv, ydo, h1', h2', h3', h4, wf, this]
  have g4 : 0 ≤ f.ret := by omega
  by_cases h5 : 3 < f.ret
  · have : ¬ f.ret ≤ 3 := by omega
    simp [yc2, ycv, ydo, h1', h2', h3', h4, h5, wf, this]
  have g5 : f.ret ≤ 3 := by omega
  have hp : (lst f.code).length - 1 < (lst f.code).length := by omega
  have k1 := yas (o := f.code) (i := (lst f.code).length - 1) (List.getElem?_eq_getElem hp) .i64
  have hw : IntKind.wrap .i64 (((lst f.code).length : Int) - 1) = (((lst f.code).length - 1 : Nat) : Int) := by rw [y1a] <;> omega
  have hg : (lst f.code).getD ((lst f.code).length - 1) default = (lst f.code)[(lst f.code).length - 1] := by rw [List.getD_eq_getElem?_getD, List.getElem?_eq_getElem hp]; rfl
  cases he : ends ((lst f.code)[(lst f.code).length - 1]).op with
  | false =>
    have hwf : wf f = false := by rw [wf, hg, he]; simp
    rw [hwf]
    simp [yc2, ycv, ydo, h1', h2', h3', h4, h5, hw, k1, he]
  | true =>
    have hwf : wf f = ((lst f.regs).all (fun k => decide (1 ≤ k) && decide (k ≤ 3)) && yci (lst f.regs) 0 [] (lst f.params) && y3v f (lst f.code) 0 (lst f.code) && (lst f.rows).all (y43 (lst f.code))) := by
      rw [wf, hg, he]
      simp only [g1, g2, g3, g4, g5, decide_true, Bool.true_and]
    have e : yc2 (.agg (enc f)) [⟨0, .dead⟩, ⟨0, .dead⟩, ⟨0, .dead⟩] = yl6 P0 (.int .i64 (lst f.code).length) (HC f ⟨0, .dead⟩ ⟨0, .dead⟩) := by
      simp [yc2, ycv, ydo, h1', h2', h3', h4, h5, hw, k1, he]
    rw [e, hall, hwf]
    split <;> rfl
end Go.Vm
namespace Go.Vm
structure FnSm (f : Fn) : Prop where
  regs : (lst f.regs).length ≤ 17592186043904
  params : (lst f.params).length ≤ 17592186043904
  code : (lst f.code).length ≤ 2 ^ 38
  rows : (lst f.rows).length ≤ 2 ^ 38
  args : ∀ x ∈ lst f.code, (lst x.args).length ≤ 17592186043904
abbrev y20o (f : Fn) : Prop := ∀ x ∈ lst f.code, (lst x.args).length ≤ 17592186043904
end Go.Vm
namespace Go.Vm
structure PassOk (f g : Fn) : Prop where
  swap : Swap f g
  mem : ∀ y ∈ lst g.code, ∃ x ∈ lst f.code, y.n = x.n ∧ y.s = x.s ∧ (lst y.args).length = (lst x.args).length
  wf : Go.Vm.wf f = true → Go.Vm.wf g = true
  set : Go.Vm.wf f = true → setM f = true → setM g = true
theorem y287 {f : Fn} (w : Wf f) {T : FTab} (v : InvF f (T, [])) : PassOk f (carF f T) :=
  ⟨y7n f T, fun y hy => y1yl hy, y1ef w v, y1tx w v⟩
theorem PassOk.fit {f g : Fn} (k : PassOk f g) (hf : FnFit f) : FnFit g := by
  refine ⟨fun y hy => ?_, by rw [k.swap.len]; exact hf.code, by rw [k.swap.regs]; exact hf.regs, by rw [k.swap.params]; exact hf.params, by rw [k.swap.rows]; exact hf.rows⟩
  obtain ⟨x, hx, e1, e2, e3⟩ := k.mem y hy
  have := hf.ins x hx
  exact ⟨by rw [e1]; exact this.n, by rw [e2]; exact this.s, by rw [e3]; exact this.a⟩
theorem PassOk.args {f g : Fn} (k : PassOk f g) (hx : y20o f) : y20o g := fun y hy => by
  obtain ⟨x, hx2, _, _, e3⟩ := k.mem y hy
  rw [e3]; exact hx x hx2
end Go.Vm
namespace Go.Vm
def movI (d a : Int) : Ins := ⟨4, d, a, 0, 0, 0, 0, [], none⟩
def retI (a : Int) : Ins := ⟨30, 0, a, 0, 0, 0, 0, [], none⟩
def chnM (n : Nat) : List Ins := (List.range n).map fun (i : Nat) => movI ((i : Int) + 1) i
def mvF (n : Nat) (k : Int) : Fn := ⟨some (List.replicate (n + 1) k), some [0], k, some (chnM n ++ [retI n]), none⟩
theorem y7r (n : Nat) : (chnM n).length = n := by simp [chnM]
theorem y1pw (n : Nat) : chnM (n + 1) = chnM n ++ [movI ((n : Int) + 1) n] := by simp [chnM, List.range_succ]
theorem ymt (n : Nat) (k : Int) : (lst (mvF n k).code).length = n + 1 := by
  show (chnM n ++ [retI n]).length = _
  simp [y7r]
theorem y143 (n : Nat) (k : Int) : (lst (mvF n k).regs).length = n + 1 := by
  show (List.replicate (n + 1) k).length = _
  simp
theorem y2h5 {n : Nat} {k : Int} (h1 : 1 ≤ n) (h2 : n ≤ 40) (k1 : 1 ≤ k) (k2 : k ≤ 3) : wf (mvF n k) = true := by
  have all : (List.range 41).all (fun n => (List.range 4).all fun k => decide (n = 0) || decide (k = 0) || wf (mvF n (k : Int))) = true := by kernel_rfl
  rw [List.all_eq_true] at all
  have a1 := all n (List.mem_range.2 (by omega))
  rw [List.all_eq_true] at a1
  have a2 := a1 k.toNat (List.mem_range.2 (by omega))
  rw [Int.toNat_of_nonneg (by omega), decide_eq_false (by omega), decide_eq_false (by omega)] at a2
  simpa using a2
theorem y14b {n : Nat} {k : Int} {i : Nat} (h : i < n) : yk (mvF n k) i = movI ((i : Int) + 1) i := by
  rw [yk, List.getD_eq_getElem?_getD]
  show ((chnM n ++ [retI n])[i]?).getD default = _
  rw [List.getElem?_append_left (by rw [y7r]; exact h)]
  simp [chnM, h]
theorem y272 {n : Nat} {k : Int} : yk (mvF n k) n = retI n := by
  rw [yk, List.getD_eq_getElem?_getD]
  show ((chnM n ++ [retI n])[n]?).getD default = _
  rw [List.getElem?_append_right (by rw [y7r]; omega), y7r, Nat.sub_self]
  rfl
theorem yth {n : Nat} {k : Int} {x : Ins} (h : x ∈ lst (mvF n k).code) : (∃ i : Nat, i < n ∧ x = movI ((i : Int) + 1) i) ∨ x = retI n := by
  have h' : x ∈ chnM n ++ [retI n] := h
  rw [List.mem_append, List.mem_singleton] at h'
  refine h'.imp (fun h => ?_) id
  unfold chnM at h
  obtain ⟨i, hi, rfl⟩ := List.mem_map.1 h
  exact ⟨i, List.mem_range.1 hi, rfl⟩
theorem y1ws {n : Nat} {k : Int} {i : Nat} (h0 : 0 < i) (h : i ≤ n) : y3w (mvF n k) i = false := by
  have hn : ¬ y3w (mvF n k) i = true := by
    rw [yf2]
    rintro (h1 | h1 | ⟨x, h1, h2, _⟩ | ⟨r, h1, _⟩)
    · omega
    · rw [y14b (by omega)] at h1; cases h1
    · rcases yth h1 with ⟨j, _, rfl⟩ | rfl <;> cases h2
    · cases h1
  simpa using hn
theorem y1ui {n : Nat} {k : Int} {i : Nat} (h : i < n) : y4r (mvF n k) i = [(i : Int) + 1] := by
  rw [y4r, ymt, if_neg (by omega), show ((i : Int)).toNat = i by omega, y14b h]
  rfl
section
variable {n : Nat} {k : Int} (w : Wf (mvF n k)) {T : FTab} (v : InvF (mvF n k) (T, []))
include w v
theorem yub : ∀ i : Nat, i ≤ n → fAt T i ≠ none
  | 0, _ => by
    have hz := v.ok.zero
    simp only at hz
    rw [hz]; simp
  | i + 1, h => by
    obtain ⟨t, ht⟩ := y52 (yub i (by omega))
    obtain ⟨s, hs, _⟩ := (v.shut w ht).2 ((i : Int) + 1) (by rw [y1ui (by omega)]; simp)
    have e : ((i : Int) + 1).toNat = i + 1 := by omega
    rw [e] at hs
    rw [hs]; simp
theorem y20x : ∀ i : Nat, i ≤ n → ∀ u : Nat, u ≤ n → (rowC (mvF n k) T i).getD u (-1) = if 1 ≤ u ∧ u ≤ i then 0 else -1
  | 0, _, u, hu => by
    have hz := v.ok.zero
    simp only at hz
    have e : rowC (mvF n k) T 0 = List.replicate (lst (mvF n k).regs).length (-1) := by rw [rowC, tF, hz]; rfl
    rw [e, if_neg (by omega), List.getD_eq_getElem?_getD, List.getElem?_replicate]
    split <;> rfl
  | i + 1, h, u, hu => by
    have ih := y20x i (by omega)
    obtain ⟨hl, _⟩ := ye7 w v i (yub w v i (by omega))
    rw [y143] at hl
    rw [rowC, if_neg (by rw [y1ws (by omega) h]; simp), y14b (by omega)]
    generalize rowC (mvF n k) T i = s at *
    have hd : defr (movI ((i : Int) + 1) i) = (i : Int) + 1 := rfl
    have key : behM s (movI ((i : Int) + 1) i) = (wrtL s ((i : Int) + 1)).set (i + 1) 0 := by
      unfold behM
      rw [hd]
      have e1 : ((i : Int) + 1).toNat = i + 1 := by omega
      have ea : (movI ((i : Int) + 1) i).a = i := rfl
      have eo : (movI ((i : Int) + 1) i).op = 4 := rfl
      have hi := ih i (by omega)
      rw [ea, eo, e1, Int.toNat_natCast, if_neg (by omega), if_pos rfl]
      by_cases h1 : 1 ≤ i
      · rw [if_pos ⟨h1, Nat.le_refl _⟩] at hi
        rw [hi, if_pos (by omega)]
      · rw [if_neg (fun h => h1 h.1)] at hi
        rw [hi, if_neg (by omega), if_neg (by omega)]
        have : i = 0 := by omega
        subst this
        rfl
    have hu' : u < (wrtL s ((i : Int) + 1)).length := by rw [ycz]; omega
    rw [key, yb4 hu']
    by_cases e : i + 1 = u
    · rw [if_pos e, if_pos (by omega)]
    · rw [if_neg e, wrtL, y1or, yb4 (by omega), show ((i : Int) + 1).toNat = i + 1 by omega, if_neg e, ih u hu]
      by_cases h2 : 1 ≤ u ∧ u ≤ i
      · rw [if_pos h2, if_neg (by omega), if_pos (by omega)]
      · rw [if_neg h2, if_neg (by omega), if_neg (by omega)]
theorem mv_a (hn : 1 ≤ n) : ∀ x ∈ lst (carF (mvF n k) T).code, x.a = 0 := by
  intro x hx
  have hx' : x ∈ carL (mvF n k) T := hx
  unfold carL at hx'
  obtain ⟨i, hi, rfl⟩ := List.mem_map.1 hx'
  rw [List.mem_range, ymt] at hi
  have hr := y20x w v i (by omega) i (by omega)
  rw [carI, if_neg (yub w v i (by omega))]
  have hs : subC (rowC (mvF n k) T i) (i : Int) = 0 := by
    rw [subC, Int.toNat_natCast]
    by_cases h1 : 1 ≤ i
    · rw [if_pos ⟨h1, Nat.le_refl _⟩] at hr
      rw [hr]; rfl
    · rw [if_neg (fun h => h1 h.1)] at hr
      rw [hr, if_neg (by omega)]; omega
  generalize subC (rowC (mvF n k) T i) = σ at *
  by_cases e : i = n
  · subst e
    rw [y272, y7l (by rfl)]
    have : lst (uses (retI (i : Int))) = [(i : Int)] := by
      have : (0 : Int) ≤ i := by omega
      simp [uses, retI, calls, this]
    rw [this]
    exact hs
  · rw [y14b (by omega), y7l (by rfl)]
    exact hs
end
theorem ytq (x : Ins) (l : List Int) : (y4b x l).args = x.args := by
  unfold y4b
  split <;> rfl
theorem y26j {n : Nat} {k : Int} {T : FTab} : ∀ x ∈ lst (carF (mvF n k) T).code, x.args = none := by
  intro x hx
  have hx' : x ∈ carL (mvF n k) T := hx
  unfold carL at hx'
  obtain ⟨i, hi, rfl⟩ := List.mem_map.1 hx'
  rw [List.mem_range] at hi
  have hm := yth (List.mem_of_getElem? (y3i hi))
  unfold carI
  split
  · rcases hm with ⟨j, _, e⟩ | e <;> rw [e] <;> rfl
  · rcases hm with ⟨j, _, e⟩ | e <;> rw [e, y7l (by rfl), ytq] <;> rfl
theorem y25p {n : Nat} {k : Int} (h : n ≤ 40) : FnFit (mvF n k) ∧ FnSm (mvF n k) := by
  have e38 : (2:Nat)^38 = 274877906944 := by decide
  have hx : ∀ x ∈ lst (mvF n k).code, x.n = 0 ∧ x.s = [] ∧ x.args = none := fun x hx => by
    rcases yth hx with ⟨i, _, rfl⟩ | rfl <;> exact ⟨rfl, rfl, rfl⟩
  have hl := ymt n k
  have hr := y143 n k
  have hp : (lst (mvF n k).params).length = 1 := rfl
  have hrr : (lst (mvF n k).rows).length = 0 := rfl
  refine ⟨⟨fun x h => ?_, by omega, by omega, by omega, by omega⟩, ⟨by omega, by omega, by omega, by omega, fun x h => ?_⟩⟩
  · obtain ⟨h1, h2, h3⟩ := hx x h
    refine ⟨by rw [h1]; decide, by rw [h2]; exact Nat.zero_le _, by rw [h3]; exact Nat.zero_le _⟩
  · rw [(hx x h).2.2]; exact Nat.zero_le _
end Go.Vm
namespace Go.Vm
open Cel
attribute [local simp] y4 y20 yp
theorem y0i {n b : Nat} (hb : b ≤ 200) (h : n ≤ 2 ^ 38) : (2 * n + 512) * b ≤ 281474976710656 := by
  have e : (2:Nat)^38 = 274877906944 := by decide
  have h1 : (2 * n + 512) ≤ 549755814400 := by omega
  have : (2 * n + 512) * b ≤ 549755814400 * 200 := Nat.mul_le_mul h1 hb
  omega
@[simp] theorem y60 (o : Option (List Int)) (h : (lst o).length ≤ 17592186043904) : (y5 E).p 39 [slA o] = some (exO o) := by
  rw [y2e0]
  cases o with
  | none => simp [y127, y115, yv9]; rfl
  | some L =>
    simp only [y3j] at h
    have h1 : (2 * L.length + 512) * 8 ≤ 281474976710656 := by omega
    simp [y127, y115, yv9, yj, yy, y2y, h1]
    exact y1y (α := Int) (by simp)
end Go.Vm
namespace Go.Vm
open Cel
section
variable {α : Type} [Cel α]
def ownV (j g : Nat) : Option (List α) → AV
  | none => .nils
  | some L => .ls j g (es α) 0 L.length
def ownO (g : Nat) (d : AO) : Option (List α) → AO
  | none => d
  | some L => ⟨g, .arr false false (es α) (L.map enc)⟩
def exV (k : Nat) : Option (List α) → AV
  | none => .nils
  | some L => .ls k 0 (es α) 0 L.length
def exOs : Option (List α) → List OC
  | none => []
  | some L => [.arr false false (es α) (L.map enc)]
def ownI (j : Nat) : Option (List α) → List Nat
  | none => []
  | some _ => [j]
@[simp] theorem y29g (j g : Nat) (o : Option (List α)) : cellsOf (ownV j g o) = [ownV j g o] := by cases o <;> rfl
@[simp] theorem y2fo (j g : Nat) (o : Option (List α)) : y11 (ownV j g o) = true := by cases o <;> rfl
@[simp] theorem y2ga (j g : Nat) (o : Option (List α)) : known (ownV j g o) = true := by cases o <;> rfl
@[simp] theorem yqe (j g : Nat) (o : Option (List α)) (H : Heap) : yt 1 (ownV j g o) H = some (.int .i64 (lst o).length) := by cases o <;> rfl
theorem ybh {H : Heap} {i : Nat} {o : AO} (h : H[i]? = some o) : H.set i o = H := by
  refine List.ext_getElem? fun k => ?_
  rw [List.getElem?_set]
  split
  · rename_i e; subst e
    rw [if_pos (List.getElem?_eq_some_iff.1 h).1, h]
  · rfl
theorem y82 {E : Env} {C : Calls2} {fb j f : Nat} {args : List AV} {H : Heap} {fa : Fz (List AV)} {N : Option (List α)} {o : AO} (hE : E.pure f = true) (ha : yo (fz H y1d) args = some fa) (hc : C.p f fa.v = some (exO N))
    (hf : fa.ids = []) (ho : H[fb + j]? = some o) : y4 E C fb (some j) false f args H = some (ownV (fb + j) (o.gen + 1) N, H.set (fb + j) (ownO (o.gen + 1) o N)) := by
  simp only [y4, hE, Bool.false_and, Bool.not_false, Bool.and_self, if_true, y20, ha, hc]
  have hfr : ((exO N).fresh || fa.ids.isEmpty) = true := by rw [hf]; simp
  simp only [hfr, if_true]
  cases N with
  | none =>
    simp only [exO, y23, Bool.false_eq_true, if_false, ownV, ownO, ybh ho]
    rfl
  | some L => simp only [Bool.false_eq_true, if_false, yw6, ho, y14l, ownV, ownO]
theorem yzx {E : Env} {C : Calls2} {fb j f : Nat} {args : List AV} {H : Heap} {fa : Fz (List AV)} {N : Option (List α)} (hE : E.pure f = true) (ha : yo (fz H y1d) args = some fa) (hc : C.p f fa.v = some (exO N))
    (hf : fa.ids = []) : y38 E C fb (some j) false f args H = some ([], ownI (fb + j) N) := by
  cases N with
  | none => simp [y38, hE, ha, hc, hf, exO, ownI]
  | some L => simp [y38, hE, ha, hc, hf, exO, ownI]
theorem y153 {H : Heap} {j g : Nat} {d : AO} {L : List α} (h : H[j]? = some (ownO g d (some L))) : yh H j g = some (false, es α, L.map enc) := by
  simp [yh, y32, h, ownO]
theorem y1co {H : Heap} {j g k : Nat} {d : AO} {o : Option (List α)} (h : H[j]? = some (ownO g d o)) : fz H (k + 2) (ownV j g o) = some ⟨slA o, (lst o).all scal, ownI j o⟩ := by
  cases o with
  | none => rfl
  | some L =>
    rw [ownV, y20y, y153 h]
    simp only [List.drop_zero, Nat.zero_add, List.length_map, Nat.le_refl, and_self, if_true, y61, yw3]
    simp [slA, ownI]
theorem yds {H : Heap} {j g k : Nat} {d : AO} {o : Option (List α)} (h : H[j]? = some (ownO g d o)) (os : List OC) :
    expo H (k + 1) (ownV j g o) os = some ⟨exV os.length o, os ++ exOs o, (lst o).all scal, ownI j o, []⟩ := by
  cases o with
  | none => simp [ownV, expo, pure1, exV, exOs, ownI]
  | some L =>
    rw [ownV, y1bh, y153 h]
    simp only [List.drop_zero, Nat.zero_add, List.length_map, Nat.le_refl, and_self, if_true, y61, y1ij]
    rfl
end
theorem y1xs {rows : List (List AV)} {i : Nat} {r : List AV} (h : rows[i]? = some r) : rows.set i r = rows := by
  refine List.ext_getElem? fun k => ?_
  rw [List.getElem?_set]
  split
  · rename_i e; subst e
    rw [if_pos (List.getElem?_eq_some_iff.1 h).1, h]
  · rfl
theorem yrz {H : Heap} {id g es : Nat} {fz : Bool} {rows : List (List AV)} (h : yh H id g = some (fz, es, rows)) : y1x H id rows = H := by
  unfold yh y32 at h
  cases ho : H[id]? with
  | none => rw [ho] at h; simp at h
  | some o =>
    obtain ⟨g', c⟩ := o
    rw [ho] at h
    by_cases hg : g' = g
    · cases c with
      | arr bx fz' es' rows' =>
        simp only [hg, if_true, Option.some.injEq, Prod.mk.injEq] at h
        obtain ⟨rfl, rfl, rfl⟩ := h
        simp only [y1x, ho]
        exact ybh ho
      | dead => simp [hg] at h
      | map _ _ => simp [hg] at h
    · simp [hg] at h
def y29 (f : Fn) : Ex AV :=
  ⟨.agg [exV 0 f.regs, exV (exOs f.regs).length f.params, .int .i64 f.ret, exV (exOs f.regs ++ exOs f.params).length f.code, exV (exOs f.regs ++ exOs f.params ++ exOs f.code).length f.rows],
    exOs f.regs ++ exOs f.params ++ exOs f.code ++ exOs f.rows, (lst f.code).all scal && (lst f.rows).all scal, [], []⟩
theorem y2a9 {α : Type} [Cel α] (o : Option (List α)) (A B : List OC) (L : List α) (h : o = some L) : (y22 (A ++ exOs o ++ B))[A.length]? = some (ownO 0 ⟨0, .dead⟩ o) := by
  subst h
  simp [y22, exOs, ownO]
theorem y14o {α : Type} [Cel α] (o : Option (List α)) (A B : List OC) (k : Nat) : fz (y22 (A ++ exOs o ++ B)) (k + 2) (exV A.length o) = some ⟨slA o, (lst o).all scal, ownI A.length o⟩ := by
  cases ho : o with
  | none => rfl
  | some L => exact y1co (g := 0) (o := some L) (by have := y2a9 o A B L ho; rwa [ho] at this)
theorem y18c (f : Fn) : ytl (y29 f) (.agg (enc f)) := by
  have h1 := y14o f.regs [] (exOs f.params ++ exOs f.code ++ exOs f.rows) 9
  have h2 := y14o f.params (exOs f.regs) (exOs f.code ++ exOs f.rows) 9
  have h3 := y14o f.code (exOs f.regs ++ exOs f.params) (exOs f.rows) 9
  have h4 := y14o f.rows (exOs f.regs ++ exOs f.params ++ exOs f.code) [] 9
  simp only [List.nil_append, List.append_nil, List.append_assoc, List.length_nil, List.length_append] at h1 h2 h3 h4
  have hi : fz (y22 (y29 f).objs) 11 (.int .i64 f.ret) = some ⟨.int .i64 f.ret, true, []⟩ := rfl
  refine ⟨_, (ydj _ 11 _).trans (by
    simp only [y29, ym, List.append_assoc, List.length_append] at hi ⊢
    simp only [h1, h2, h3, h4, hi, yw]
    rfl), rfl⟩
theorem y5v {E : Env} {C : Calls2} {fb f : Nat} {args : List AV} {h : Heap} {fa : Fz (List AV)} {r : Ex AV} {v : AV} (hE : E.pure f = true) (ha : yo (fz h y1d) args = some fa) (hf : fa.ids = [])
    (hc : C.p f fa.v = some r) (hr : ytl r v) (sl : Option Nat := none) (hsl : sl = none := by rfl) : y4 E C fb sl true f args h = some (v, h) := by
  subst hsl
  obtain ⟨q, h1, h2⟩ := hr
  simp [y4, hE, y20, ha, hc, hf, h1, h2]
theorem y13s {E : Env} {C : Calls2} {fb f : Nat} {args : List AV} {h : Heap} {fa : Fz (List AV)} {r : Ex AV} (hE : E.pure f = true) (ha : yo (fz h y1d) args = some fa) (hf : fa.ids = [])
    (hc : C.p f fa.v = some r) (sl : Option Nat := none) (hsl : sl = none := by rfl) : y38 E C fb sl true f args h = some ([], []) := by
  subst hsl
  simp [y38, hE, ha, hc, hf]
end Go.Vm
namespace Go.Vm
open Cel
theorem y35 {H : Heap} {a : Nat} {x : AO} (h : a < H.length) : (H.set a x)[a]? = some x := by simp [h]
theorem yn {H : Heap} {a b : Nat} {x : AO} (h : a ≠ b) : (H.set a x)[b]? = H[b]? := List.getElem?_set_ne h
theorem y2nq {H : Heap} {n j : Nat} (h : j < n) : (H ++ yv n)[H.length + j]? = some ⟨0, .dead⟩ := by
  rw [List.getElem?_append_right (by omega), Nat.add_sub_cancel_left, yv, List.getElem?_replicate, if_pos h]
theorem y4q {H : Heap} {a : Nat} {x : AO} (h : H[a]? = some x) : a < H.length := (List.getElem?_eq_some_iff.1 h).1
theorem yxy {H : Heap} {fb j : Nat} {o : AO} (n : Int) (h : H[fb + j]? = some o) : yj fb (some j) 1 1 [.int .i64 0] [(0, .int .i64 n)] H = some (.ls (fb + j) (o.gen + 1) 1 0 1, H.set (fb + j) (AI (o.gen + 1) [n])) := by
  simp [yj, yy, y3g, place, h]
  rfl
theorem yh8 {α : Type} [Cel α] {H : Heap} {id g : Nat} {L : List α} (h : H[id]? = some ⟨g, .arr false false (es α) (L.map enc)⟩) : y33 H (es α) (.ls id g (es α) 0 L.length) = some (L.map enc) := by
  simp [y33, yh, y32, h]
theorem y2jk {α : Type} [Cel α] {H : Heap} {id g k : Nat} {L : List α} (h : H[id]? = some ⟨g, .arr false false (es α) (L.map enc)⟩) : fz H (k + 2) (.ls id g (es α) 0 L.length) = some ⟨slA (some L), L.all scal, [id]⟩ :=
  y1co (o := some L) (d := ⟨0, .dead⟩) h
theorem y1gr {α : Type} [Cel α] {E : Env} {C : Calls2} {fb j f : Nat} {args : List AV} {H : Heap} {fa : Fz (List AV)} {N : Option (List α)} {o : AO} (hE : E.pure f = true) (ha : yo (fz H y1d) args = some fa) (hc : C.p f fa.v = some (exO N))
    (hf : (lst N).all scal = true) (ho : H[fb + j]? = some o) : y4 E C fb (some j) false f args H = some (ownV (fb + j) (o.gen + 1) N, H.set (fb + j) (ownO (o.gen + 1) o N)) := by
  simp only [y4, hE, Bool.false_and, Bool.not_false, Bool.and_self, if_true, y20, ha, hc]
  have hfr : ((exO N).fresh || fa.ids.isEmpty) = true := by rw [y6h, hf]; rfl
  simp only [hfr, if_true]
  cases N with
  | none =>
    simp only [exO, y23, Bool.false_eq_true, if_false, ownV, ownO, ybh ho]
    rfl
  | some L => simp only [Bool.false_eq_true, if_false, yw6, ho, y14l, ownV, ownO]
theorem yk3 {H : Heap} {id g i es : Nat} {rows : List (List AV)} {v : AV} (h : H[id]? = some ⟨g, .arr false false es rows⟩) (hx : rows[i]? = some [v]) : evLd false 1 (.lp id g i 0) H = some v := by
  have hr : yh H id g = some (false, es, rows) := by simp [yh, y32, h]
  rw [y34, hr]
  simp [hx]
theorem y1jh {H : Heap} {id g i : Nat} {rows : List (List AV)} {v w : AV} (h : H[id]? = some ⟨g, .arr false false 1 rows⟩) (hx : rows[i]? = some [w]) (hv : cellsOf v = [v]) (hl : y11 v = true) :
    evSt 1 (.lp id g i 0) v H = some (.tup [], H.set id ⟨g, .arr false false 1 (rows.set i [v])⟩) := by
  have hr : yh H id g = some (false, 1, rows) := by simp [yh, y32, h]
  rw [y5g, hr]
  simp only [hx, hv]
  rw [if_pos ⟨rfl, Nat.le_refl _, by simp [hl]⟩]
  rw [show yx 0 [v] [w] = [v] from rfl, y1x, h]
end Go.Vm
namespace Go.Vm
open Cel
attribute [local simp] y4 y20 yp
@[simp] theorem yuu (o : Option (List Ins)) (h : (lst o).length ≤ 2 ^ 38) : (y5 E).p 40 [slA o] = some (exO o) := by
  rw [y2i4]
  cases o with
  | none => simp [y13b, yys, y126]; rfl
  | some L =>
    have h1 := y0i (b := 96) (by omega) h
    simp only [y3j] at h1
    simp [y13b, yys, y126, yj, yy, y2y, h1]
    exact y1y (α := Ins) (by simp)
@[simp] theorem yte (o : Option (List Row)) (h : (lst o).length ≤ 2 ^ 38) : (y5 E).p 41 [slA o] = some (exO o) := by
  rw [y2iz]
  cases o with
  | none => simp [y125, yyd, y14h]; rfl
  | some L =>
    have h1 := y0i (b := 40) (by omega) h
    simp only [y3j] at h1
    simp [y125, yyd, y14h, yj, yy, y2y, h1]
    exact y1y (α := Row) (by simp)
end Go.Vm
namespace Go.Vm
open Cel
attribute [local simp] yp
abbrev fnA (f : Fn) : AV := .agg [ownV 2 1 f.regs, ownV 3 1 f.params, .int .i64 f.ret, ownV 4 1 f.code, ownV 5 1 f.rows]
abbrev HCp (f : Fn) (o1 : AO) : Heap := [⟨1, .arr true false 5 [enc f]⟩, o1, ownO 1 ⟨0, .dead⟩ f.regs, ownO 1 ⟨0, .dead⟩ f.params, ownO 1 ⟨0, .dead⟩ f.code, ownO 1 ⟨0, .dead⟩ f.rows, ⟨1, .arr true false 5 [cellsOf (fnA f)]⟩]
theorem y1oy (f : Fn) (hs : FnSm f) (v2 : AV) (o1 : AO) : ∀ (d i : Nat), i + d = (lst f.code).length →
    yq7 v2 (.lp 6 1 0 0) (.int .i64 (lst f.code).length) (.int .i64 i) (HCp f o1) = y1i5 v2 (.lp 6 1 0 0) (HCp f o1) := by
  have e38 : (2:Nat) ^ 38 = 274877906944 := by decide
  intro d
  induction d with
  | zero =>
    intro i hi
    have hn : ¬ ((i : Int) < ((lst f.code).length : Int)) := by omega
    rw [yql]
    simp [y1xw, y1ug, hn]
  | succ d ih =>
    intro i hi
    have hlt : i < (lst f.code).length := by omega
    have hc : ((i : Int) < ((lst f.code).length : Int)) := by omega
    have hl : (lst f.code).length ≤ 9223372036854775807 := by have := hs.code; omega
    have hw := y21 hlt hl
    obtain ⟨L, hL⟩ : ∃ L, f.code = some L := by
      cases hf : f.code with
      | none => rw [hf] at hlt; exact absurd hlt (Nat.not_lt_zero _)
      | some L => exact ⟨L, rfl⟩
    have ih := ih (i + 1) (by omega)
    push_cast at ih
    have hx : L[i]? = some (lst f.code)[i] := by
      simp only [hL, y3j] at hlt ⊢
      exact List.getElem?_eq_getElem hlt
    have ha := hs.args _ (List.getElem_mem hlt)
    generalize (lst f.code)[i] = x at *
    have k39 := y60 x.args ha
    have lA : evLd false 1 (.lp 6 1 0 3) (HCp f o1) = some (ownV 4 1 f.code) := rfl
    have ix : yg 9 (ownV 4 1 f.code) (.int .i64 (i : Int)) = some (.lp 4 1 i 0) := by
      have : i < L.length := (List.getElem?_eq_some_iff.1 hx).1
      simp [hL, ownV, yg, this]
    have hr : yh (HCp f o1) 4 1 = some (false, 9, L.map enc) := by
      simp [yh, y32, hL, ownO]
    have hg : (L.map (enc (α := Ins)))[i]? = some (enc x) := by simp [hx]
    have lB : evLd false 1 (.lp 4 1 i 8) (HCp f o1) = some (slA x.args) := by
      rw [y34, hr]
      simp only [hg, y7z]
      rfl
    have ha1 : yo (fz (HCp f o1) y1d) [slA x.args] = some ⟨[slA x.args], (lst x.args).isEmpty && true, []⟩ := by
      rw [ym, ymh, yw]; rfl
    have c1 := y5v (E := E) (C := y5 E) (fb := 0) (sl := none) (f := 39) (v := slA x.args) rfl ha1 rfl k39 ⟨_, yfl _, rfl⟩
    have f1 := y13s (E := E) (C := y5 E) (fb := 0) (sl := none) (f := 39) rfl ha1 rfl k39
    have st : evSt 1 (.lp 4 1 i 8) (slA x.args) (HCp f o1) = some (.tup [], HCp f o1) := by
      rw [y5g, hr]
      simp only [hg, y175]
      rw [if_pos ⟨rfl, by rw [len]; exact Nat.le_refl _, by simp⟩]
      rw [show yx 8 [slA x.args] (enc x) = enc x from rfl, y1xs hg]
      rw [yrz hr]
    have hp : y9 [([], []), (ids1 (.lp 6 1 0 3), []), ([], []), ([], []), (ids1 (.lp 6 1 0 3), []), ([], []), ([], []), ([], []), (ids1 (.lp 4 1 i 8), []), ([], []), ([], []), ([], []), ([], ids1 (.lp 4 1 i 8))] [(1, 9)] = true := by simp [y9, yl, meets]
    rw [yql]
    simp only [y1xw, yi, y2, y1ug, hc, decide_true, y25, y24n, ygs, lA, ix, lB, f1, ydp, c1, yb, st, hp, y2ex, y24o, y27, hw, ih, Nat.zero_add]
theorem y2fk (f : Fn) (hs : FnSm f) : (y5 E).p 13 [.agg (enc f)] = some (y29 f) := by
  rw [y2mt]
  have k1 := y60 f.regs hs.regs
  have k2 := y60 f.params hs.params
  have k3 := yuu f.code hs.code
  have k4 := yte f.rows hs.rows
  have lp := y1oy f hs (.lp 1 1 0 0) ⟨1, .arr true false 5 [[.nils, .nils, .int .i64 0, .nils, .nils]]⟩ _ 0 (Nat.zero_add _)
  have ha1 : ∀ (o : Option (List Int)) (H : Heap), yo (fz H y1d) [slA o] = some ⟨[slA o], (lst o).isEmpty && true, []⟩ := fun o H => by
    rw [ym, ymh, yw]; rfl
  have ha2 : ∀ (o : Option (List Ins)) (H : Heap), yo (fz H y1d) [slA o] = some ⟨[slA o], (lst o).isEmpty && true, []⟩ := fun o H => by
    rw [ym, ymh, yw]; rfl
  have ha3 : ∀ (o : Option (List Row)) (H : Heap), yo (fz H y1d) [slA o] = some ⟨[slA o], (lst o).isEmpty && true, []⟩ := fun o H => by
    rw [ym, ymh, yw]; rfl
  have l0 : ∀ (j : Nat) (t : Heap), evLd false 1 (.lp 0 1 0 j) (⟨1, .arr true false 5 [enc f]⟩ :: t) = ((enc f).drop j).head? := fun j t => by simp [evLd]
  have e11 : yzr (.agg (enc f)) [⟨0, .dead⟩, ⟨0, .dead⟩, ⟨0, .dead⟩, ⟨0, .dead⟩, ⟨0, .dead⟩, ⟨0, .dead⟩, ⟨0, .dead⟩] =
      yqt (.lp 0 1 0 0) (.lp 1 1 0 0) [⟨1, .arr true false 5 [enc f]⟩, ⟨1, .arr true false 5 [[.nils, .nils, .int .i64 0, .nils, .nils]]⟩, ⟨0, .dead⟩, ⟨0, .dead⟩, ⟨0, .dead⟩, ⟨0, .dead⟩, ⟨0, .dead⟩] := by
    simp [yzr]
  rw [e11]
  have c1 := y82 (E := E) (C := y5 E) (fb := 0) (j := 2) (f := 39) (H := [⟨1, .arr true false 5 [enc f]⟩, ⟨1, .arr true false 5 [[.nils, .nils, .int .i64 0, .nils, .nils]]⟩, ⟨0, .dead⟩, ⟨0, .dead⟩, ⟨0, .dead⟩, ⟨0, .dead⟩, ⟨0, .dead⟩]) rfl (ha1 f.regs _) k1 rfl rfl
  have f1 := fun H => yzx (E := E) (C := y5 E) (fb := 0) (j := 2) (f := 39) (H := H) rfl (ha1 f.regs H) k1 rfl
  have c2 := y82 (E := E) (C := y5 E) (fb := 0) (j := 3) (f := 39) (H := [⟨1, .arr true false 5 [enc f]⟩, ⟨1, .arr true false 5 [[.nils, .nils, .int .i64 0, .nils, .nils]]⟩, ownO 1 ⟨0, .dead⟩ f.regs, ⟨0, .dead⟩, ⟨0, .dead⟩, ⟨0, .dead⟩, ⟨0, .dead⟩]) rfl (ha1 f.params _) k2 rfl rfl
  have f2 := fun H => yzx (E := E) (C := y5 E) (fb := 0) (j := 3) (f := 39) (H := H) rfl (ha1 f.params H) k2 rfl
  have c3 := y82 (E := E) (C := y5 E) (fb := 0) (j := 4) (f := 40) (H := [⟨1, .arr true false 5 [enc f]⟩, ⟨1, .arr true false 5 [[.nils, .nils, .int .i64 0, .nils, .nils]]⟩, ownO 1 ⟨0, .dead⟩ f.regs, ownO 1 ⟨0, .dead⟩ f.params, ⟨0, .dead⟩, ⟨0, .dead⟩, ⟨0, .dead⟩]) rfl (ha2 f.code _) k3 rfl rfl
  have f3 := fun H => yzx (E := E) (C := y5 E) (fb := 0) (j := 4) (f := 40) (H := H) rfl (ha2 f.code H) k3 rfl
  have c4 := y82 (E := E) (C := y5 E) (fb := 0) (j := 5) (f := 41) (H := [⟨1, .arr true false 5 [enc f]⟩, ⟨1, .arr true false 5 [[.nils, .nils, .int .i64 0, .nils, .nils]]⟩, ownO 1 ⟨0, .dead⟩ f.regs, ownO 1 ⟨0, .dead⟩ f.params, ownO 1 ⟨0, .dead⟩ f.code, ⟨0, .dead⟩, ⟨0, .dead⟩]) rfl (ha3 f.rows _) k4 rfl rfl
  have f4 := fun H => yzx (E := E) (C := y5 E) (fb := 0) (j := 5) (f := 41) (H := H) rfl (ha3 f.rows H) k4 rfl
  simp only [Nat.zero_add, List.set_cons_zero, List.set_cons_succ] at c1 c2 c3 c4 f1 f2 f3 f4
  have hb : y10 [.nils, .nils, .int .i64 0, .nils, .nils] [(0, 1, ownV 2 1 f.regs), (1, 1, ownV 3 1 f.params), (2, 1, .int .i64 f.ret), (3, 1, ownV 4 1 f.code), (4, 1, ownV 5 1 f.rows)] = some (fnA f) := by
    simp [y10, y5a, yx]
    rfl
  have nc : ∀ (h0 : AO) (o1 : AO) (o2 o3 o4 o5 : AO), newC 0 (some 6) [.nils, .nils, .int .i64 0, .nils, .nils] [h0, o1, o2, o3, o4, o5, ⟨0, .dead⟩] = some (.lp 6 1 0 0, [h0, o1, o2, o3, o4, o5, ⟨1, .arr true false 5 [[.nils, .nils, .int .i64 0, .nils, .nils]]⟩]) := fun _ _ _ _ _ _ => rfl
  have st : ∀ (h0 : AO) (o1 : AO) (o2 o3 o4 o5 : AO), evSt 5 (.lp 6 1 0 0) (fnA f) [h0, o1, o2, o3, o4, o5, ⟨1, .arr true false 5 [[.nils, .nils, .int .i64 0, .nils, .nils]]⟩] = some (.tup [], [h0, o1, o2, o3, o4, o5, ⟨1, .arr true false 5 [cellsOf (fnA f)]⟩]) := by
    intro h0 o1 o2 o3 o4 o5
    simp [y5g, yx]
  have hp : y9 [([], []), (ids1 (.lp 0 1 0 0), []), ([], ownI 2 f.regs), ([], []), (ids1 (.lp 0 1 0 1), []), ([], ownI 3 f.params), ([], []), (ids1 (.lp 0 1 0 2), []), ([], []), (ids1 (.lp 0 1 0 3), []), ([], ownI 4 f.code), ([], []), (ids1 (.lp 0 1 0 4), []), ([], ownI 5 f.rows), ([], []), ([], [6]), ([], ids1 (.lp 6 1 0 0))]
      [(2, 4), (2, 7), (5, 7), (2, 9), (5, 9), (7, 10), (2, 12), (5, 12), (10, 12), (7, 13), (1, 15), (2, 15), (4, 15), (5, 15), (7, 15), (9, 15), (10, 15), (12, 15), (13, 15)] = true := by
    cases f.regs <;> cases f.params <;> cases f.code <;> cases f.rows <;> rfl
  have e10 : yqt (.lp 0 1 0 0) (.lp 1 1 0 0) [⟨1, .arr true false 5 [enc f]⟩, ⟨1, .arr true false 5 [[.nils, .nils, .int .i64 0, .nils, .nils]]⟩, ⟨0, .dead⟩, ⟨0, .dead⟩, ⟨0, .dead⟩, ⟨0, .dead⟩, ⟨0, .dead⟩] =
      y1g6 (.lp 1 1 0 0) (.lp 6 1 0 0) (HCp f ⟨1, .arr true false 5 [[.nils, .nils, .int .i64 0, .nils, .nils]]⟩) := by
    have d0 : ((enc f).drop 0).head? = some (slA f.regs) := rfl
    have d1 : ((enc f).drop 1).head? = some (slA f.params) := rfl
    have d2 : ((enc f).drop 2).head? = some (.int .i64 f.ret) := rfl
    have d3 : ((enc f).drop 3).head? = some (slA f.code) := rfl
    have d4 : ((enc f).drop 4).head? = some (slA f.rows) := rfl
    simp only [yqt, ygs, y2, Nat.zero_add, l0, d0, d1, d2, d3, d4, f1, ydp, c1, yb, f2, c2, f3, c3, f4, c4, hb, nc, st, hp, y2ex]
  have lC : evLd false 1 (.lp 6 1 0 3) (HCp f ⟨1, .arr true false 5 [[.nils, .nils, .int .i64 0, .nils, .nils]]⟩) = some (ownV 4 1 f.code) := rfl
  have e8 : y1g6 (.lp 1 1 0 0) (.lp 6 1 0 0) (HCp f ⟨1, .arr true false 5 [[.nils, .nils, .int .i64 0, .nils, .nils]]⟩) = y1i5 (.lp 1 1 0 0) (.lp 6 1 0 0) (HCp f ⟨1, .arr true false 5 [[.nils, .nils, .int .i64 0, .nils, .nils]]⟩) := by
    rw [← lp]
    simp only [y1g6, ygs, y2, Nat.zero_add, lC, yqe]
    rfl
  rw [e10, e8]
  have l6 : ∀ o1, evLd true 5 (.lp 6 1 0 0) (HCp f o1) = some (fnA f) := fun o1 => rfl
  have st1 : evSt 5 (.lp 1 1 0 0) (fnA f) (HCp f ⟨1, .arr true false 5 [[.nils, .nils, .int .i64 0, .nils, .nils]]⟩) = some (.tup [], HCp f ⟨1, .arr true false 5 [cellsOf (fnA f)]⟩) := by
    simp [y5g, yx]
  have l7 : evLd true 5 (.lp 1 1 0 0) (HCp f ⟨1, .arr true false 5 [cellsOf (fnA f)]⟩) = some (fnA f) := rfl
  simp only [y1i5, l6, y2, st1, yb, l7]
  have x1 := fun os => yds (α := Int) (H := HCp f ⟨1, .arr true false 5 [cellsOf (fnA f)]⟩) (j := 2) (g := 1) (k := 10) (d := ⟨0, .dead⟩) (o := f.regs) rfl os
  have x2 := fun os => yds (α := Int) (H := HCp f ⟨1, .arr true false 5 [cellsOf (fnA f)]⟩) (j := 3) (g := 1) (k := 10) (d := ⟨0, .dead⟩) (o := f.params) rfl os
  have x3 := fun os => yds (α := Ins) (H := HCp f ⟨1, .arr true false 5 [cellsOf (fnA f)]⟩) (j := 4) (g := 1) (k := 10) (d := ⟨0, .dead⟩) (o := f.code) rfl os
  have x4 := fun os => yds (α := Row) (H := HCp f ⟨1, .arr true false 5 [cellsOf (fnA f)]⟩) (j := 5) (g := 1) (k := 10) (d := ⟨0, .dead⟩) (o := f.rows) rfl os
  have xi := fun os => yp8 (v := .int .i64 f.ret) rfl (HCp f ⟨1, .arr true false 5 [cellsOf (fnA f)]⟩) 10 os
  rw [ydd]
  simp only [y4v, x1, x2, x3, x4, xi, List.nil_append]
  have ap : y3y (ownI 2 f.regs ++ (ownI 3 f.params ++ ([] ++ (ownI 4 f.code ++ (ownI 5 f.rows ++ []))))) ([] ++ ([] ++ ([] ++ ([] ++ ([] ++ []))))) = true := by
    cases f.regs <;> cases f.params <;> cases f.code <;> cases f.rows <;> rfl
  have sc : (lst f.regs).all scal = true := by simp
  have sc2 : (lst f.params).all scal = true := by simp
  simp only [List.nil_append] at ap
  rw [if_pos ap]
  simp [y29, sc, sc2]
end Go.Vm
namespace Go.Vm
open Cel
def hasL (f : Fn) : Nat → Bool
  | 0 => f.regs.isSome
  | 1 => f.params.isSome
  | 2 => f.code.isSome
  | _ => f.rows.isSome
structure FnAt (H : Heap) (f : Fn) (p g : Nat → Nat) : Prop where
  regs : ∀ L, f.regs = some L → H[p 0]? = some ⟨g 0, .arr false false 1 (L.map enc)⟩
  params : ∀ L, f.params = some L → H[p 1]? = some ⟨g 1, .arr false false 1 (L.map enc)⟩
  code : ∀ L, f.code = some L → H[p 2]? = some ⟨g 2, .arr false false 9 (L.map enc)⟩
  rows : ∀ L, f.rows = some L → H[p 3]? = some ⟨g 3, .arr false false 4 (L.map enc)⟩
  ne : ∀ i j, i < 4 → j < 4 → i ≠ j → hasL f i = true → hasL f j = true → p i ≠ p j
def fnC (f : Fn) (p g : Nat → Nat) : List AV := [ownV (p 0) (g 0) f.regs, ownV (p 1) (g 1) f.params, .int .i64 f.ret, ownV (p 2) (g 2) f.code, ownV (p 3) (g 3) f.rows]
abbrev fnV (f : Fn) (p g : Nat → Nat) : AV := .agg (fnC f p g)
section
variable {α : Type} [Cel α]
theorem yj3 {H : Heap} {j g k : Nat} {o : Option (List α)} (h : ∀ L, o = some L → H[j]? = some ⟨g, .arr false false (es α) (L.map enc)⟩) : fz H (k + 2) (ownV j g o) = some ⟨slA o, (lst o).all scal, ownI j o⟩ := by
  cases o with
  | none => rfl
  | some L => exact y1co (d := ⟨0, .dead⟩) (o := some L) (h L rfl)
theorem ycx {H : Heap} {j g k : Nat} {o : Option (List α)} (h : ∀ L, o = some L → H[j]? = some ⟨g, .arr false false (es α) (L.map enc)⟩) (os : List OC) :
    expo H (k + 1) (ownV j g o) os = some ⟨exV os.length o, os ++ exOs o, (lst o).all scal, ownI j o, []⟩ := by
  cases o with
  | none => simp [ownV, expo, pure1, exV, exOs, ownI]
  | some L => exact yds (d := ⟨0, .dead⟩) (o := some L) (h L rfl) os
end
section
variable {H : Heap} {f : Fn} {p g : Nat → Nat} (A : FnAt H f p g)
include A
theorem FnAt.fz : ∃ fr ids, fz H y1d (fnV f p g) = some ⟨.agg (enc f), fr, ids⟩ := by
  have h1 := yj3 (k := 9) A.regs
  have h2 := yj3 (k := 9) A.params
  have h3 := yj3 (k := 9) A.code
  have h4 := yj3 (k := 9) A.rows
  have hi : Go.Vm.fz H 11 (.int .i64 f.ret) = some ⟨.int .i64 f.ret, true, []⟩ := rfl
  refine ⟨_, _, (ydj _ 11 _).trans (by
    simp only [fnC, ym, h1, h2, h3, h4, hi, yw]
    rfl)⟩
theorem FnAt.expo : y8 H (fnV f p g) = some (y29 f) := by
  have x1 := fun os => ycx (k := 10) A.regs os
  have x2 := fun os => ycx (k := 10) A.params os
  have x3 := fun os => ycx (k := 10) A.code os
  have x4 := fun os => ycx (k := 10) A.rows os
  have xi := fun os => yp8 (v := .int .i64 f.ret) rfl H 10 os
  rw [ydd]
  simp only [fnC, y4v, x1, x2, x3, x4, xi, List.nil_append]
  have ap : y3y (ownI (p 0) f.regs ++ (ownI (p 1) f.params ++ ([] ++ (ownI (p 2) f.code ++ (ownI (p 3) f.rows ++ []))))) ([] ++ ([] ++ ([] ++ ([] ++ ([] ++ []))))) = true := by
    have n := A.ne
    have n01 := n 0 1 (by omega) (by omega) (by omega)
    have n02 := n 0 2 (by omega) (by omega) (by omega)
    have n03 := n 0 3 (by omega) (by omega) (by omega)
    have n12 := n 1 2 (by omega) (by omega) (by omega)
    have n13 := n 1 3 (by omega) (by omega) (by omega)
    have n23 := n 2 3 (by omega) (by omega) (by omega)
    simp only [hasL] at n01 n02 n03 n12 n13 n23
    cases h1 : f.regs <;> cases h2 : f.params <;> cases h3 : f.code <;> cases h4 : f.rows <;>
      (rw [h1, h2] at n01; rw [h1, h3] at n02; rw [h1, h4] at n03; rw [h2, h3] at n12; rw [h2, h4] at n13; rw [h3, h4] at n23; simp [ownI, y3y] at *; try simp_all)
  have sc : (lst f.regs).all scal = true := by simp
  have sc2 : (lst f.params).all scal = true := by simp
  simp only [List.nil_append] at ap
  rw [if_pos ap]
  simp [y29, sc, sc2]
theorem FnAt.set {a : Nat} {x : AO} (h : ∀ i, i < 4 → hasL f i = true → p i ≠ a) : FnAt (H.set a x) f p g := by
  refine ⟨fun L e => ?_, fun L e => ?_, fun L e => ?_, fun L e => ?_, A.ne⟩
  · rw [yn (fun e' => h 0 (by omega) (by simp [hasL, e]) e'.symm)]; exact A.regs L e
  · rw [yn (fun e' => h 1 (by omega) (by simp [hasL, e]) e'.symm)]; exact A.params L e
  · rw [yn (fun e' => h 2 (by omega) (by simp [hasL, e]) e'.symm)]; exact A.code L e
  · rw [yn (fun e' => h 3 (by omega) (by simp [hasL, e]) e'.symm)]; exact A.rows L e
theorem FnAt.setCode {L L' : List Ins} (hL : f.code = some L) : FnAt (H.set (p 2) ⟨g 2, .arr false false 9 (L'.map enc)⟩) { f with code := some L' } p g := by
  have hc : hasL f 2 = true := by simp [hasL, hL]
  have hk : ∀ i, hasL { f with code := some L' } i = hasL f i := by
    intro i
    match i with
    | 0 => rfl
    | 1 => rfl
    | 2 => simp [hasL, hL]
    | i + 3 => rfl
  refine ⟨fun L e => ?_, fun L e => ?_, fun L e => ?_, fun L e => ?_, fun i j h1 h2 h3 h4 h5 => A.ne i j h1 h2 h3 (by rw [← hk]; exact h4) (by rw [← hk]; exact h5)⟩
  · rw [yn (A.ne 2 0 (by omega) (by omega) (by omega) hc (by have e' : f.regs = some L := e; simp [hasL, e']))]; exact A.regs L e
  · rw [yn (A.ne 2 1 (by omega) (by omega) (by omega) hc (by have e' : f.params = some L := e; simp [hasL, e']))]; exact A.params L e
  · have : L' = L := by simpa using e
    subst this
    exact y35 (y4q (A.code _ hL))
  · rw [yn (A.ne 2 3 (by omega) (by omega) (by omega) hc (by have e' : f.rows = some L := e; simp [hasL, e']))]; exact A.rows L e
end
def gAt (H : Heap) (k : Nat) : Nat := ((H[k]?).getD ⟨0, .dead⟩).gen + 1
def okO (o : OC) : Prop := okOC o = true ∧ ∀ tab, y5d tab o = o
theorem yf8 {fb : Nat} : ∀ (O : List OC) (j : Nat) (tab : List (Nat × Nat)) (H : Heap), (∀ o ∈ O, okO o) → fb + j + O.length ≤ H.length →
    ∃ H', y23 fb (some j) O tab H = some (tab ++ (List.range O.length).map (fun i => (fb + j + i, gAt H (fb + j + i))), H') ∧ H'.length = H.length ∧
      (∀ i o, O[i]? = some o → H'[fb + j + i]? = some ⟨gAt H (fb + j + i), o⟩) ∧ ∀ k, k < fb + j ∨ fb + j + O.length ≤ k → H'[k]? = H[k]?
  | [], j, tab, H, _, _ => ⟨H, by simp [y23], rfl, fun i o h => by simp at h, fun _ _ => rfl⟩
  | o :: O, j, tab, H, ho, hl => by
    have h0 := ho o (by simp)
    simp only [List.length_cons] at hl
    obtain ⟨x, hx⟩ : ∃ x, H[fb + j]? = some x := ⟨_, List.getElem?_eq_getElem (by omega)⟩
    have hg : gAt H (fb + j) = x.gen + 1 := by simp [gAt, hx]
    obtain ⟨H', e1, e2, e3, e4⟩ := yf8 (fb := fb) O (j + 1) (tab ++ [(fb + j, x.gen + 1)]) (H.set (fb + j) ⟨x.gen + 1, o⟩) (fun o h => ho o (by simp [h])) (by rw [List.length_set]; omega)
    have hgs : ∀ i, gAt (H.set (fb + j) ⟨x.gen + 1, o⟩) (fb + (j + 1) + i) = gAt H (fb + j + (i + 1)) := by
      intro i
      unfold gAt
      rw [yn (by omega), show fb + (j + 1) + i = fb + j + (i + 1) by omega]
    refine ⟨H', ?_, by rw [e2, List.length_set], fun i o' hi => ?_, fun k hk => ?_⟩
    · rw [y23, h0.2, h0.1]
      simp only [if_true, place, hx, Option.map_some]
      rw [e1]
      simp only [List.length_cons, List.range_succ_eq_map, List.map_cons, List.map_map, Nat.add_zero, hg, List.append_assoc, List.singleton_append, Option.some.injEq, Prod.mk.injEq, and_true]
      congr 2
      refine List.map_congr_left fun i _ => ?_
      simp only [Function.comp, hgs]
      rw [show fb + (j + 1) + i = fb + j + (i + 1) by omega]
    · cases i with
      | zero =>
        simp only [List.getElem?_cons_zero, Option.some.injEq] at hi
        subst hi
        rw [e4 _ (.inl (by omega))]
        simp only [Nat.add_zero]
        rw [y35 (by omega), hg]
      | succ i =>
        simp only [List.getElem?_cons_succ] at hi
        have := e3 i o' hi
        rw [hgs] at this
        rw [show fb + j + (i + 1) = fb + (j + 1) + i by omega]
        rw [show fb + j + (i + 1) = fb + (j + 1) + i by omega] at this
        exact this
    · simp only [List.length_cons] at hk
      rw [e4 k (by omega), yn (by omega)]
section
variable {α : Type} [Cel α]
theorem yne (o : Option (List α)) : ∀ x ∈ exOs o, okO x := by
  cases o with
  | none => intro x h; cases h
  | some L =>
    intro x h
    simp only [exOs, List.mem_singleton] at h
    subst h
    exact ⟨rfl, fun _ => rfl⟩
theorem ydx {tab : List (Nat × Nat)} {o : Option (List α)} {k id g : Nat} (h : ∀ L, o = some L → tab[k]? = some (id, g)) : y2a tab (exV k o) = ownV id g o := by
  cases o with
  | none => rfl
  | some L => simp [exV, y2a, h L rfl, ownV]
theorem ygb (o : Option (List α)) : (exOs o).length = if o.isSome then 1 else 0 := by cases o <;> rfl
end
def cnt (f : Fn) : Nat → Nat
  | 0 => 0
  | 1 => (exOs f.regs).length
  | 2 => (exOs f.regs ++ exOs f.params).length
  | _ => (exOs f.regs ++ exOs f.params ++ exOs f.code).length
theorem yuf {α : Type} (A B C : List α) (x : α) (h : B = [x]) : (A ++ B ++ C)[A.length]? = some x := by
  subst h; simp
theorem y1a3 {f : Fn} (hs : FnSm f) {H : Heap} {fb j : Nat} (hl : fb + j + 4 ≤ H.length) : ∃ H' p g, y4 E (y5 E) fb (some j) false 13 [.agg (enc f)] H = some (fnV f p g, H') ∧ FnAt H' f p g ∧ H'.length = H.length ∧
    (∀ i, i < 4 → hasL f i = true → fb + j ≤ p i ∧ p i < fb + j + 4) ∧ ∀ k, k < fb + j ∨ fb + j + 4 ≤ k → H'[k]? = H[k]? := by
  have ha : yo (fz H y1d) [.agg (enc f)] = some ⟨[.agg (enc f)], scal f && true, []⟩ := by
    rw [ym, y7k, yw]; rfl
  have hlen : (y29 f).objs.length ≤ 4 := by
    simp only [y29, List.length_append, ygb]
    repeat' split
    all_goals omega
  obtain ⟨H', e1, e2, e3, e4⟩ := yf8 (fb := fb) (y29 f).objs j [] H (by
    intro o ho
    simp only [y29, List.mem_append] at ho
    rcases ho with ((ho | ho) | ho) | ho
    · exact yne _ o ho
    · exact yne _ o ho
    · exact yne _ o ho
    · exact yne _ o ho) (by omega)
  have ob : ∀ (i : Nat) (x : OC), (y29 f).objs[cnt f i]? = some x → H'[fb + j + cnt f i]? = some ⟨gAt H (fb + j + cnt f i), x⟩ := fun i x h => e3 _ x h
  have o0 : ∀ L, f.regs = some L → (y29 f).objs[cnt f 0]? = some (.arr false false 1 (L.map enc)) := fun L h => by
    simp only [y29, cnt, h, exOs]; rfl
  have o1 : ∀ L, f.params = some L → (y29 f).objs[cnt f 1]? = some (.arr false false 1 (L.map enc)) := fun L h => by
    simp only [y29, cnt]
    rw [List.append_assoc, List.append_assoc, ← List.append_assoc]
    exact yuf _ _ _ _ (by rw [h]; rfl)
  have o2 : ∀ L, f.code = some L → (y29 f).objs[cnt f 2]? = some (.arr false false 9 (L.map enc)) := fun L h => by
    simp only [y29, cnt]
    exact yuf _ _ _ _ (by rw [h]; rfl)
  have o3 : ∀ L, f.rows = some L → (y29 f).objs[cnt f 3]? = some (.arr false false 4 (L.map enc)) := fun L h => by
    simp only [y29, cnt]
    have := yuf (exOs f.regs ++ exOs f.params ++ exOs f.code) (exOs f.rows) [] (.arr false false 4 (L.map enc)) (by rw [h]; rfl)
    rwa [List.append_nil] at this
  have hlt : ∀ i, i < 4 → hasL f i = true → cnt f i < (y29 f).objs.length := by
    intro i hi hh
    have key : ∀ {x : OC}, (y29 f).objs[cnt f i]? = some x → cnt f i < (y29 f).objs.length := fun h => (List.getElem?_eq_some_iff.1 h).1
    match i, hi with
    | 0, _ => obtain ⟨L, h⟩ := Option.isSome_iff_exists.1 hh; exact key (o0 L h)
    | 1, _ => obtain ⟨L, h⟩ := Option.isSome_iff_exists.1 hh; exact key (o1 L h)
    | 2, _ => obtain ⟨L, h⟩ := Option.isSome_iff_exists.1 hh; exact key (o2 L h)
    | 3, _ => obtain ⟨L, h⟩ := Option.isSome_iff_exists.1 hh; exact key (o3 L h)
  have tb : ∀ k, k < (y29 f).objs.length → ([] ++ (List.range (y29 f).objs.length).map fun i => (fb + j + i, gAt H (fb + j + i)))[k]? = some (fb + j + k, gAt H (fb + j + k)) := fun k hk => by simp [hk]
  refine ⟨H', fun i => fb + j + cnt f i, fun i => gAt H (fb + j + cnt f i), ?_, ⟨fun L h => ob 0 _ (o0 L h), fun L h => ob 1 _ (o1 L h), fun L h => ob 2 _ (o2 L h), fun L h => ob 3 _ (o3 L h), ?_⟩, e2, fun i hi hh => ⟨by show fb + j ≤ fb + j + cnt f i; omega, by have := hlt i hi hh; show fb + j + cnt f i < fb + j + 4; omega⟩, fun k hk => e4 k (by omega)⟩
  · simp only [y4, show E.pure 13 = true from rfl, Bool.false_and, Bool.not_false, Bool.and_self, if_true, y20, ha, y2fk f hs, List.isEmpty_nil, Bool.or_true, Bool.false_eq_true, if_false, e1]
    generalize hT : ([] ++ (List.range (y29 f).objs.length).map fun i => (fb + j + i, gAt H (fb + j + i))) = T at *
    have r0 := ydx (tab := T) (o := f.regs) (k := cnt f 0) (id := fb + j + cnt f 0) (g := gAt H (fb + j + cnt f 0)) (fun L h => tb _ (hlt 0 (by omega) (by simp [hasL, h])))
    have r1 := ydx (tab := T) (o := f.params) (k := cnt f 1) (id := fb + j + cnt f 1) (g := gAt H (fb + j + cnt f 1)) (fun L h => tb _ (hlt 1 (by omega) (by simp [hasL, h])))
    have r2 := ydx (tab := T) (o := f.code) (k := cnt f 2) (id := fb + j + cnt f 2) (g := gAt H (fb + j + cnt f 2)) (fun L h => tb _ (hlt 2 (by omega) (by simp [hasL, h])))
    have r3 := ydx (tab := T) (o := f.rows) (k := cnt f 3) (id := fb + j + cnt f 3) (g := gAt H (fb + j + cnt f 3)) (fun L h => tb _ (hlt 3 (by omega) (by simp [hasL, h])))
    have ri : y2a T (.int .i64 f.ret) = .int .i64 f.ret := rfl
    have hv : (y29 f).v = .agg [exV (cnt f 0) f.regs, exV (cnt f 1) f.params, .int .i64 f.ret, exV (cnt f 2) f.code, exV (cnt f 3) f.rows] := rfl
    rw [hv]
    simp only [reloc, y8b, List.map_cons, List.map_nil, r0, r1, r2, r3, ri]
    rfl
  · have h1 := ygb f.regs
    have h2 := ygb f.params
    have h3 := ygb f.code
    intro i k hi hk hne h4 h5
    have c0 : cnt f 0 = 0 := rfl
    have c1 : cnt f 1 = (exOs f.regs).length := rfl
    have c2 : cnt f 2 = (exOs f.regs).length + (exOs f.params).length := by simp [cnt]
    have c3 : cnt f 3 = (exOs f.regs).length + (exOs f.params).length + (exOs f.code).length := by simp [cnt]; omega
    show fb + j + cnt f i ≠ fb + j + cnt f k
    have a0 : hasL f 0 = true → (exOs f.regs).length = 1 := fun h => h1.trans (if_pos h)
    have a1 : hasL f 1 = true → (exOs f.params).length = 1 := fun h => h2.trans (if_pos h)
    have a2 : hasL f 2 = true → (exOs f.code).length = 1 := fun h => h3.trans (if_pos h)
    match i, k, hi, hk with
    | 0, 0, _, _ => omega
    | 0, 1, _, _ => have := a0 h4; omega
    | 0, 2, _, _ => have := a0 h4; omega
    | 0, 3, _, _ => have := a0 h4; omega
    | 1, 0, _, _ => have := a0 h5; omega
    | 1, 1, _, _ => omega
    | 1, 2, _, _ => have := a1 h4; omega
    | 1, 3, _, _ => have := a1 h4; omega
    | 2, 0, _, _ => have := a0 h5; omega
    | 2, 1, _, _ => have := a1 h5; omega
    | 2, 2, _, _ => omega
    | 2, 3, _, _ => have := a2 h4; omega
    | 3, 0, _, _ => have := a0 h5; omega
    | 3, 1, _, _ => have := a1 h5; omega
    | 3, 2, _, _ => have := a2 h5; omega
    | 3, 3, _, _ => omega
theorem yam {E : Env} {C : Calls2} {fb f : Nat} {args : List AV} {h : Heap} {fa : Fz (List AV)} {r : Ex AV} {v : AV} (hE : E.pure f = true) (ha : yo (fz h y1d) args = some fa) (hf : r.fresh = true)
    (hc : C.p f fa.v = some r) (hr : ytl r v) (sl : Option Nat := none) (hsl : sl = none := by rfl) : y4 E C fb sl true f args h = some (v, h) := by
  subst hsl
  obtain ⟨q, h1, h2⟩ := hr
  simp [y4, hE, y20, ha, hc, hf, h1, h2]
end Go.Vm
namespace Go.Vm
open Cel
attribute [local simp] y4 y20 yp
@[simp] theorem y2m0 (x : Ins) : (y5 E).p 9 [.agg (enc x)] = some ⟨.int .i64 (defr x), [], true, [], []⟩ := by
  rw [y2mh]
  rcases ycu x.op with h|h|h|h|h|h|h|h|h|h|h|h|h|h|h|h|h|h|h|h|h|h|h|h|h|h|h|h|h|h|h|h|h|h|h <;> first | (simp [h, defr, writes, calls, y1eq, y1mp, y9m, y1es, y1hm, y1c1]; done) | (simp [lo_f h, defr, writes, calls, y1eq, y1mp, y9m, y1es, y1hm, y1c1]; done) | simp [hi_f h, defr, writes, calls, y1eq, y1mp, y9m, y1es, y1hm, y1c1]
end Go.Vm
namespace Go.Vm
open Cel
theorem yme (o : Option Fx) (h : (lst o).length ≤ 17592186043904) : (y5 E).p 153 [slA o] = some (exO o) := by
  rw [y2d0]
  cases o with
  | none => rfl
  | some L =>
    simp only [y3j] at h
    have h1 : (2 * L.length + 512) * 8 ≤ 281474976710656 := by omega
    simp [y1da, y1k8, y1pm, yj, yy, y2y, h1]
    exact y1y (α := Int) (by simp)
theorem y5f {k n : Nat} (h : k < n) (hn : n ≤ 9223372036854775807) : y3 .add (.int .i64 (k : Int)) (.int .i64 1) = some (.int .i64 ((k + 1 : Nat) : Int)) := by
  rw [y27]
  congr 2
  rw [y1a] <;> omega
theorem yk7 (a b : Fx) (h : a.length = b.length) (hn : a.length ≤ 9223372036854775807) : ∀ (d k : Nat), k + d = a.length → ∀ H : Heap, yir (slA (some a)) (slA (some b)) (.int .i64 a.length) (.int .i64 k) H = some ⟨.bool (decide (a.drop k = b.drop k)), [], true, [], []⟩
  | 0, k, hk, H => by
    have : k = a.length := by omega
    subst this
    have hb : b.drop a.length = [] := by rw [h]; exact List.drop_length
    have hc : ¬ (a.length : Int) < (a.length : Int) := by omega
    rw [ylu, List.drop_length, hb]
    simp only [yw9, yi, y2, hc, decide_false, y135, y2e, y1e4]
    rfl
  | d + 1, k, hk, H => by
    have hk1 : k < a.length := by omega
    have hk2 : k < b.length := by omega
    have hlt : (k : Int) < (a.length : Int) := by omega
    have xa : yg 1 (slA (some a)) (.int .i64 (k : Int)) = some (.rp [.int .i64 a[k]]) := y2b (o := some a) (List.getElem?_eq_getElem hk1) .i64
    have xb : yg 1 (slA (some b)) (.int .i64 (k : Int)) = some (.rp [.int .i64 b[k]]) := y2b (o := some b) (List.getElem?_eq_getElem hk2) .i64
    have l1 : ∀ (v : Int), evLd false 1 (.rp [.int .i64 v]) H = some (.int .i64 v) := fun v => rfl
    have ih := yk7 a b h hn d (k + 1) (by omega) H
    rw [ylu, List.drop_eq_getElem_cons hk1, List.drop_eq_getElem_cons hk2]
    generalize a[k] = x at *
    generalize b[k] = y at *
    rw [yw9, yi, y2, decide_eq_true hlt, y135, y25, y1lz, xa, y2, l1, y2, xb, y2, l1, y2, y7c, y2]
    by_cases e : x = y
    · subst e
      rw [decide_eq_false (by simp), y2e, y1g7, y5f hk1 hn, y2, ih]
      simp
    · rw [decide_eq_true e, y25]
      simp [e]
theorem y1uj (a b : Fx) (h : a.length = b.length) (hn : a.length ≤ 9223372036854775807) : (y5 E).p 156 [slA (some a), slA (some b)] = some ⟨.bool (decide (a = b)), [], true, [], []⟩ := by
  rw [y2dp]
  have e := yk7 a b h hn _ 0 (Nat.zero_add _) []
  have l : ∀ o : Fx, yt 1 (slA (some o)) [] = some (.int .i64 o.length) := fun o => by rw [y6o]; rfl
  have ne : y3 .neq (.int .i64 (a.length : Int)) (.int .i64 (b.length : Int)) = some (.bool false) := by rw [h, y7c]; simp
  rw [ytv, ytd, l, y2, l, y2, ne, y2, y2e, y1ds, l, y2]
  exact e
theorem ym7 {id g n k : Nat} (h : k < n) : yg 1 (.ls id g 1 0 n) (.int .i64 (k : Int)) = some (.lp id g k 0) := by
  have := yjo (n := n) (p := (k : Int)) (by omega) (by omega) id g .i64
  rwa [Int.toNat_natCast] at this
theorem y1ad {H : Heap} {id g k : Nat} {L : Fx} (h : H[id]? = some (AI g L)) (hk : k < L.length) : evLd false 1 (.lp id g k 0) H = some (.int .i64 L[k]) :=
  y23e (α := Int) (H := H) (id := id) (g := g) (i := k) (x := L[k]) h (List.getElem?_eq_getElem hk) rfl
theorem yzb {H : Heap} {id g k : Nat} {L : Fx} (v : Int) (h : H[id]? = some (AI g L)) (hk : k < L.length) : evSt 1 (.lp id g k 0) (.int .i64 v) H = some (.tup [], H.set id (AI g (L.set k v))) :=
  yna (α := Int) (H := H) (id := id) (g := g) (i := k) (L := L) (v := .int .i64 v) (y := v) h hk rfl
theorem y11e (a b : Fx) (h : a.length = b.length) (hn : a.length ≤ 9223372036854775807) (g : Nat) : ∀ (d k : Nat), k + d = a.length → ∀ H : Heap, H[1]? = some (AI g (metK k a b)) →
    y1kt (slA (some b)) (.ls 1 g 1 0 a.length) (.int .i64 a.length) (.int .i64 k) H = q5_1 (.ls 1 g 1 0 a.length) (H.set 1 (AI g (metL a b)))
  | 0, k, hk, H, hH => by
    have : k = a.length := by omega
    subst this
    have hc : ¬ (a.length : Int) < (a.length : Int) := by omega
    rw [y1uy h] at hH
    rw [ywa, ybh hH, q5_6, yi, y2, decide_eq_false hc, q5_5, y2e]
  | d + 1, k, hk, H, hH => by
    have hk1 : k < a.length := by omega
    have hk2 : k < b.length := by omega
    have hk3 : k < (metK k a b).length := by rw [yvp h]; exact hk1
    have hlt : (k : Int) < (a.length : Int) := by omega
    have e1 : (metK k a b)[k] = a[k] := by
      have := y29j h hk1
      rw [List.getElem?_eq_getElem hk3] at this
      exact Option.some.inj this
    have la := y1ad hH hk3
    rw [e1] at la
    have st := yzb (-1) hH hk3
    have xb : yg 1 (slA (some b)) (.int .i64 (k : Int)) = some (.rp [.int .i64 b[k]]) := y2b (o := some b) (List.getElem?_eq_getElem hk2) .i64
    have l1 : ∀ (v : Int), evLd false 1 (.rp [.int .i64 v]) H = some (.int .i64 v) := fun v => rfl
    have ih := y11e a b h hn g d (k + 1) (by omega)
    have hs := y1kx h hk1
    have hl1 : 1 < H.length := (List.getElem?_eq_some_iff.1 hH).1
    rw [ywa, q5_6, yi, y2, decide_eq_true hlt, q5_5, y25, q5_4, ym7 hk1, y2, la, y2, xb, y2, l1, y2, y7c, y2]
    by_cases e : a[k] = b[k]
    · rw [if_pos e] at hs
      have hs2 : metK (k + 1) a b = metK k a b := by
        have e2 : (metK k a b).set k (metK k a b)[k] = metK k a b := List.set_getElem_self hk3
        rw [e1] at e2
        rw [hs, e2]
      rw [decide_eq_false (by simp [e]), y2e, q5_3, y5f hk1 hn, y2, ih H (by rw [hs2]; exact hH)]
    · rw [if_neg e] at hs
      rw [decide_eq_true e, y25, y2, st, yb, q5_3, y5f hk1 hn, y2, ih _ (by rw [List.getElem?_set_self hl1, hs]), List.set_set]
theorem y196 (o : Option Fx) (H : Heap) : yo (fz H y1d) [slA o] = some ⟨[slA o], (lst o).isEmpty && true, []⟩ := by
  rw [ym, ymh, yw]; rfl
theorem y2ln (o : Option Fx) (b : Fx) (h : o ≠ none → (lst o).length = b.length) (hn : b.length ≤ 1000000) : (y5 E).p 155 [slA o, slA (some b)] = some (exO (some (metM o b))) := by
  rw [x_q5]
  cases o with
  | none =>
    have c := y82 (E := E) (C := y5 E) (fb := 0) (j := 0) (f := 153) (args := [slA (some b)]) (H := [D0, D0]) (N := some b) (o := D0) rfl (y196 _ _) (yme (some b) (by simp only [y3j]; omega)) rfl rfl
    have c' : y4 E (y5 E) 0 (some 0) false 153 [slA (some b)] [D0, D0] = some (.ls 0 1 1 0 b.length, [AI 1 b, D0]) := c
    have e0 : y4u 1 false (slA (none : Option Fx)) AV.nils = some (.bool true) := rfl
    rw [y1zb, y1w5, e0, y2, y25, c', yb]
    exact y1y (α := Int) (L := b) (by simp [yh, y32])
  | some a =>
    have h := h (by simp)
    simp only [y3j] at h
    have c := y82 (E := E) (C := y5 E) (fb := 0) (j := 1) (f := 153) (args := [slA (some a)]) (H := [D0, D0]) (N := some a) (o := D0) rfl (y196 _ _) (yme (some a) (by simp only [y3j]; omega)) rfl rfl
    have c' : y4 E (y5 E) 0 (some 1) false 153 [slA (some a)] [D0, D0] = some (.ls 1 1 1 0 a.length, [D0, AI 1 a]) := c
    have e0 : y4u 1 false (slA (some a)) AV.nils = some (.bool false) := rfl
    have lp := y11e a b h (by omega) 1 _ 0 (Nat.zero_add _) [D0, AI 1 a] (by rw [y2h1]; rfl)
    have l : yt 1 (.ls 1 1 1 0 a.length) [D0, AI 1 a] = some (.int .i64 a.length) := rfl
    rw [y1zb, y1w5, e0, y2, y2e, y2an, c', yb, q5_8, l, y2]
    refine lp.trans ?_
    rw [q5_1]
    have : a.length = (metL a b).length := by rw [y146 h]
    rw [this]
    exact y1y (α := Int) (L := metL a b) (by simp [yh, y32])
theorem y129 (fb id g : Nat) (r : Int) (s : Fx) (hn : s.length ≤ 9223372036854775807) : ∀ (d k : Nat), k + d = s.length → ∀ H : Heap, H[id]? = some (AI g (unK k r s)) →
    y1j3 fb (.ls id g 1 0 s.length) (.int .i64 r) (.int .i64 s.length) (.int .i64 k) H = some (.tup [], H.set id (AI g (unq r s)))
  | 0, k, hk, H, hH => by
    have : k = s.length := by omega
    subst this
    have hc : ¬ (s.length : Int) < (s.length : Int) := by omega
    rw [y24w] at hH
    rw [yvw, ybh hH, q4_5, yi, y2, decide_eq_false hc, q4_4, y2e]
  | d + 1, k, hk, H, hH => by
    have hk1 : k < s.length := by omega
    have hk3 : k < (unK k r s).length := by rw [y1ez]; exact hk1
    have hlt : (k : Int) < (s.length : Int) := by omega
    have e1 : (unK k r s)[k] = s[k] := by
      have := y2fq (r := r) hk1
      rw [List.getElem?_eq_getElem hk3] at this
      exact Option.some.inj this
    have la := y1ad hH hk3
    rw [e1] at la
    have st := yzb (-1) hH hk3
    have ih := y129 fb id g r s hn d (k + 1) (by omega)
    have hs := y1zu (r := r) hk1
    have hl1 : id < H.length := (List.getElem?_eq_some_iff.1 hH).1
    rw [yvw, q4_5, yi, y2, decide_eq_true hlt, q4_4, y25, q4_3, ym7 hk1, y2, la, y2, y2t, y2]
    by_cases e : s[k] = r
    · rw [if_pos e] at hs
      rw [decide_eq_true e, y25, y2, st, yb, q4_2, y5f hk1 hn, y2, ih _ (by rw [List.getElem?_set_self hl1, hs]), List.set_set]
    · rw [if_neg e] at hs
      have hs2 : unK (k + 1) r s = unK k r s := by
        have e2 : (unK k r s).set k (unK k r s)[k] = unK k r s := List.set_getElem_self hk3
        rw [e1] at e2
        rw [hs, e2]
      rw [decide_eq_false e, y2e, q4_2, y5f hk1 hn, y2, ih H (by rw [hs2]; exact hH)]
theorem y1nh {id g : Nat} {r : Int} {s : Fx} {H : Heap} (hH : H[id]? = some (AI g s)) (h0 : 0 ≤ r) (h1 : r < s.length) (hn : s.length ≤ 9223372036854775807) :
    y4 E (y5 E) 0 none false 154 [.ls id g 1 0 s.length, .int .i64 r] H = some (.tup [], H.set id (AI g (wrtL s r))) := by
  have hd : H ++ yv 0 = H := by simp [yv]
  have hk : r.toNat < s.length := by omega
  have ix : yg 1 (.ls id g 1 0 s.length) (.int .i64 r) = some (.lp id g r.toNat 0) := by
    have := ym7 (id := id) (g := g) hk
    rwa [Int.toNat_of_nonneg h0] at this
  have st := yzb (-1) hH hk
  have hl1 : id < H.length := (List.getElem?_eq_some_iff.1 hH).1
  have lp := y129 H.length id g r (s.set r.toNat (-1)) (by rw [List.length_set]; exact hn) _ 0 (Nat.zero_add _) (H.set id (AI g (s.set r.toNat (-1)))) (by rw [List.getElem?_set_self hl1, y2ls])
  rw [List.length_set, List.set_set] at lp
  have l : ∀ H : Heap, yt 1 (.ls id g 1 0 s.length) H = some (.int .i64 s.length) := fun H => rfl
  rw [y4, if_neg (by simp), x_q4, if_pos rfl, hd, q4_8, ix, y2, st, yb, q4_7, l, y2]
  exact lp
abbrev HBe (x : Ins) (s : Fx) : Heap := [AX 1 x, AI 1 s]
theorem ytc (x : Ins) (s : Fx) (q : Int) (h0 : 0 ≤ defr x) (h1 : defr x < s.length) (hn : s.length ≤ 1000000) :
    q3_1 (.ls 1 1 1 0 s.length) (.int .i64 (defr x)) (.int .i64 q) (HBe x s) = some (exO (some ((wrtL s (defr x)).set (defr x).toNat q))) := by
  have w := y1nh (H := HBe x s) (id := 1) (g := 1) (r := defr x) (s := s) rfl h0 h1 (by omega)
  have hw : (HBe x s).set 1 (AI 1 (wrtL s (defr x))) = HBe x (wrtL s (defr x)) := rfl
  rw [hw] at w
  have hk : (defr x).toNat < s.length := by omega
  have ix : yg 1 (.ls 1 1 1 0 s.length) (.int .i64 (defr x)) = some (.lp 1 1 (defr x).toNat 0) := by
    have := ym7 (id := 1) (g := 1) hk
    rwa [Int.toNat_of_nonneg h0] at this
  have st := yzb (H := HBe x (wrtL s (defr x))) (id := 1) (g := 1) (k := (defr x).toNat) q rfl (by rw [ycz]; exact hk)
  have hs : (HBe x (wrtL s (defr x))).set 1 (AI 1 ((wrtL s (defr x)).set (defr x).toNat q)) = HBe x ((wrtL s (defr x)).set (defr x).toNat q) := rfl
  rw [hs] at st
  rw [q3_1, w, yb, ix, y2, st, yb]
  have hl : s.length = ((wrtL s (defr x)).set (defr x).toNat q).length := by rw [List.length_set, ycz]
  rw [hl]
  exact y1y (α := Int) (L := (wrtL s (defr x)).set (defr x).toNat q) (by simp [yh, y32])
theorem ynv (x : Ins) (s : Fx) : y8 (HBe x s) (.ls 1 1 1 0 s.length) = some (exO (some s)) := y1y (α := Int) (L := s) (by simp [yh, y32])
theorem y1s8 (x : Ins) (s : Fx) (hn : s.length ≤ 1000000) (h1 : defr x < s.length) (ha : x.op = 4 → 0 ≤ x.a ∧ x.a < s.length) : (y5 E).p 152 [slA (some s), .agg (enc x)] = some (exO (some (behM s x))) := by
  rw [x_q3]
  have n0 : newC 0 (some 0) (cellsOf (.agg (enc x))) [D0, D0] = some (.lp 0 1 0 0, [AX 1 x, D0]) := by simp
  have c := y82 (E := E) (C := y5 E) (fb := 0) (j := 1) (f := 153) (args := [slA (some s)]) (H := [AX 1 x, D0]) (N := some s) (o := D0) rfl (y196 _ _) (yme (some s) (by simp only [y3j]; omega)) rfl rfl
  have c' : y4 E (y5 E) 0 (some 1) false 153 [slA (some s)] [AX 1 x, D0] = some (.ls 1 1 1 0 s.length, HBe x s) := c
  have lx : evLd true 9 (.lp 0 1 0 0) (HBe x s) = some (.agg (enc x)) := by simp
  have cD : y4 E (y5 E) 0 none true 9 [.agg (enc x)] (HBe x s) = some (.int .i64 (defr x), HBe x s) := y5v (fa := ⟨[.agg (enc x)], scal x && true, []⟩) rfl (by rw [ym, y7k, yw]; rfl) rfl (y2m0 x) ⟨_, rfl, rfl⟩
  have f0 : evFa 0 (.lp 0 1 0 0) = some (.lp 0 1 0 0) := rfl
  have f2 : evFa 2 (.lp 0 1 0 0) = some (.lp 0 1 0 2) := rfl
  have l0 : evLd false 1 (.lp 0 1 0 0) (HBe x s) = some (.int .i64 x.op) := by simp
  have l2 : evLd false 1 (.lp 0 1 0 2) (HBe x s) = some (.int .i64 x.a) := by simp
  rw [q3_7, n0, yb, q3_6, c', yb, q3_5, lx, y2, cD, yb, q3_4, yi, y2]
  unfold behM
  by_cases hd : defr x < 0
  · rw [if_pos (.inl hd), decide_eq_true hd]
    simp only [ytf, y3m, y2, y25]
    exact ynv x s
  have hd0 : 0 ≤ defr x := by omega
  rw [decide_eq_false hd]
  by_cases h4 : x.op = 4
  · obtain ⟨a0, a1⟩ := ha h4
    by_cases hq : x.a = defr x
    · rw [if_pos (.inr ⟨h4, hq⟩)]
      simp only [yg2, f0, y2, l0, y2t, h4, decide_true, ybm, f2, l2, hq, y3m, y41, y25]
      exact ynv x s
    · have nq : ¬ (defr x < 0 ∨ (x.op = 4 ∧ x.a = defr x)) := by rintro (h | h); exact hd h; exact hq h.2
      have hk : x.a.toNat < s.length := by omega
      have ix : yg 1 (.ls 1 1 1 0 s.length) (.int .i64 x.a) = some (.lp 1 1 x.a.toNat 0) := by
        have := ym7 (id := 1) (g := 1) hk
        rwa [Int.toNat_of_nonneg a0] at this
      have ls := y1ad (H := HBe x s) (id := 1) (g := 1) (L := s) rfl hk
      have hg : s.getD x.a.toNat (-1) = s[x.a.toNat] := by rw [List.getD_eq_getElem?_getD, List.getElem?_eq_getElem hk]; rfl
      rw [if_neg nq, if_pos h4, hg]
      generalize s[x.a.toNat] = q at *
      have hq' : decide (x.a = defr x) = false := decide_eq_false hq
      have hq2 : decide (x.a ≠ defr x) = true := decide_eq_true hq
      simp only [yg2, f0, y2, l0, y2t, h4, decide_true, ybm, f2, l2, hq', y3m, y41, y2e, q3_3, q3_2, y7c, hq2, y25, ix, ls, y7e]
      by_cases g0 : 0 ≤ q
      · by_cases g1 : q = defr x
        · rw [decide_eq_true g0]
          have z : decide (q ≠ defr x) = false := by simp [g1]
          simp only [ybm, y2, ix, ls, y7c, z, y3m, y2e, decide_eq_true g1, y25]
          rw [if_neg (fun h => h.2 g1), if_pos g1]
          exact ynv x s
        · rw [decide_eq_true g0]
          have z : decide (q ≠ defr x) = true := decide_eq_true g1
          simp only [ybm, y2, ix, ls, y7c, z, y3m, y25]
          rw [if_pos ⟨g0, g1⟩]
          exact ytc x s q hd0 h1 hn
      · have g1 : ¬ q = defr x := by omega
        rw [decide_eq_false g0]
        simp only [ysf, y41, y2, y2e, ix, ls, decide_eq_false g1]
        rw [if_neg (fun h => g0 h.1), if_neg g1]
        exact ytc x s x.a hd0 h1 hn
  · have nq : ¬ (defr x < 0 ∨ (x.op = 4 ∧ x.a = defr x)) := by rintro (h | h); exact hd h; exact h4 h.1
    rw [if_neg nq, if_neg h4]
    simp only [yg2, f0, y2, l0, y2t, decide_eq_false h4, ysf, y41, y2e, q3_3, q3_2]
    exact ytc x s (-1) hd0 h1 hn
end Go.Vm
namespace Go.Vm
open Cel
theorem y1s4 {f : Fn} {L L' : List Ins} (p g : Nat → Nat) (h : L.length = L'.length) : fnC (y70 f L) p g = fnC (y70 f L') p g := by
  simp [fnC, y70, ownV, h]
structure DSt (H : Heap) (f : Fn) (p g : Nat → Nat) (n : Nat) : Prop where
  at_ : FnAt H f p g
  box : H[0]? = some ⟨1, .arr true false 5 [fnC f p g]⟩
  res : ∃ c, H[1]? = some ⟨1, .arr true false 5 [c]⟩ ∧ c.length = 5
  len : n ≤ H.length
  lo : ∀ i, i < 4 → hasL f i = true → 2 ≤ p i ∧ p i < 6
theorem ymv (f : Fn) (p g : Nat → Nat) : (fnC f p g).length = 5 := rfl
theorem ywg (f : Fn) (p g : Nat → Nat) : (fnC f p g).all y11 = true := by simp [fnC]
theorem ymm {H : Heap} {a : Nat} {c : List AV} (h : H[a]? = some ⟨1, .arr true false 5 [c]⟩) (hl : c.length = 5) : evLd true 5 (.lp a 1 0 0) H = some (.agg c) := by
  have hr : yh H a 1 = some (false, 5, [c]) := by simp [yh, y32, h]
  rw [y34, hr]
  simp only [List.getElem?_cons_zero, List.drop_zero, y69, if_true, hl, Nat.le_refl]
  rw [List.take_of_length_le (by omega)]
theorem yb0 {H : Heap} {a k : Nat} {c : List AV} {v : AV} (h : H[a]? = some ⟨1, .arr true false 5 [c]⟩) (hv : c[k]? = some v) : evLd false 1 (.lp a 1 0 k) H = some v := by
  have hr : yh H a 1 = some (false, 5, [c]) := by simp [yh, y32, h]
  rw [y34, hr]
  simp only [List.getElem?_cons_zero, y7z, List.head?_drop, hv]
theorem y27l {H : Heap} {a : Nat} {c d : List AV} {v : AV} (h : H[a]? = some ⟨1, .arr true false 5 [c]⟩) (hl : c.length = 5) (hv : cellsOf v = d) (hd : d.length = 5) (hf : d.all y11 = true) :
    evSt 5 (.lp a 1 0 0) v H = some (.tup [], H.set a ⟨1, .arr true false 5 [d]⟩) := by
  have hr : yh H a 1 = some (false, 5, [c]) := by simp [yh, y32, h]
  rw [y5g, hr]
  simp only [List.getElem?_cons_zero, hv]
  rw [if_pos ⟨hd, by omega, hf⟩, yev (by rw [hd, hl]), y1x, h]
  rfl
theorem yu4 {H : Heap} {a : Nat} {c d : List AV} (h : H[a]? = some ⟨1, .arr true false 5 [c]⟩) (hl : c.length = 5) (hd : d.length = 5) (hf : d.all y11 = true) :
    evSt 5 (.lp a 1 0 0) (.agg d) H = some (.tup [], H.set a ⟨1, .arr true false 5 [d]⟩) := y27l h hl rfl hd hf
theorem y1q5 {H : Heap} {id g i : Nat} {L : List Ins} {x : Ins} (h : H[id]? = some ⟨g, .arr false false 9 (L.map enc)⟩) (hx : L[i]? = some x) : evLd true 9 (.lp id g i 0) H = some (.agg (enc x)) := by
  have hr : yh H id g = some (false, 9, L.map enc) := by simp [yh, y32, h]
  have hg : (L.map (enc (α := Ins)))[i]? = some (enc x) := by simp [hx]
  rw [y34, hr]
  simp only [hg, List.drop_zero, yn7]
theorem yy7 {n i : Nat} (h : i < n) (id g e : Nat) (k : IntKind) : yg e (.ls id g e 0 n) (.int k i) = some (.lp id g i 0) := by
  have : (i : Int) < (n : Int) := by omega
  simp [yg, this]
section
variable {H : Heap} {f : Fn} {p g : Nat → Nat} {n : Nat} (D : DSt H f p g n)
include D
theorem DSt.ld : evLd true 5 (.lp 0 1 0 0) H = some (fnV f p g) := ymm D.box (ymv f p g)
theorem DSt.ldc : evLd false 1 (.lp 0 1 0 3) H = some (ownV (p 2) (g 2) f.code) := yb0 D.box rfl
theorem DSt.set {a : Nat} {x : AO} (ha : 6 ≤ a) : DSt (H.set a x) f p g n := by
  refine ⟨D.at_.set fun i hi hh => ?_, by rw [yn (by omega)]; exact D.box, ?_, by rw [List.length_set]; exact D.len, D.lo⟩
  · have := D.lo i hi hh; omega
  · obtain ⟨c, h1, h2⟩ := D.res
    exact ⟨c, by rw [yn (by omega)]; exact h1, h2⟩
theorem DSt.setCode {L L' : List Ins} (hL : f.code = some L) (hl : L.length = L'.length) : DSt (H.set (p 2) ⟨g 2, .arr false false 9 (L'.map enc)⟩) (y70 f L') p g n := by
  have hc : hasL f 2 = true := by simp [hasL, hL]
  have h2 := D.lo 2 (by omega) hc
  refine ⟨D.at_.setCode hL, ?_, ?_, by rw [List.length_set]; exact D.len, fun i hi hh => D.lo i hi ?_⟩
  · rw [yn (by omega), D.box]
    have := y1s4 (f := f) p g hl
    rw [ylg hL] at this
    rw [this]
  · obtain ⟨c, h1, h2⟩ := D.res
    exact ⟨c, by rw [yn (by omega)]; exact h1, h2⟩
  · match i, hh with
    | 0, hh => exact hh
    | 1, hh => exact hh
    | 2, _ => exact hc
    | i + 3, hh => exact hh
theorem DSt.out : ∃ H', evSt 5 (.lp 1 1 0 0) (fnV f p g) H = some (.tup [], H') ∧ evLd true 5 (.lp 1 1 0 0) H' = some (fnV f p g) ∧ y8 H' (fnV f p g) = some (y29 f) := by
  obtain ⟨c, h1, h2⟩ := D.res
  refine ⟨_, yu4 h1 h2 (ymv f p g) (ywg f p g), ymm (y35 (y4q h1)) (ymv f p g), FnAt.expo (D.at_.set fun i hi hh => ?_)⟩
  have := D.lo i hi hh; omega
theorem DSt.ix {L : List Ins} (hL : f.code = some L) {i : Nat} {x : Ins} (hx : L[i]? = some x) : evLd true 9 (.lp (p 2) (g 2) i 0) H = some (.agg (enc x)) := y1q5 (D.at_.code L hL) hx
theorem DSt.st {L : List Ins} (hL : f.code = some L) {i : Nat} (hi : i < L.length) (y : Ins) : evSt 9 (.lp (p 2) (g 2) i 0) (.agg (enc y)) H = some (.tup [], H.set (p 2) ⟨g 2, .arr false false 9 ((L.set i y).map enc)⟩) :=
  yna (α := Ins) (D.at_.code L hL) hi rfl
theorem DSt.call {E : Env} {C : Calls2} {fb k : Nat} {r : Ex AV} {v : AV} (hE : E.pure k = true) (hf : r.fresh = true) (hc : C.p k [.agg (enc f)] = some r) (hr : ytl r v) (sl : Option Nat := none) (hsl : sl = none := by rfl) : y4 E C fb sl true k [fnV f p g] H = some (v, H) := by
  subst hsl
  obtain ⟨fr, ids, hz⟩ := D.at_.fz
  refine yam (fa := ⟨[.agg (enc f)], fr && true, ids ++ []⟩) hE ?_ hf hc hr
  rw [ym, hz, yw]
theorem DSt.call2 {E : Env} {C : Calls2} {fb k : Nat} {r : Ex AV} {v : AV} {i : Int} (hE : E.pure k = true) (hf : r.fresh = true) (hc : C.p k [.agg (enc f), .int .i64 i] = some r) (hr : ytl r v) (sl : Option Nat := none) (hsl : sl = none := by rfl) : y4 E C fb sl true k [fnV f p g, .int .i64 i] H = some (v, H) := by
  subst hsl
  obtain ⟨fr, ids, hz⟩ := D.at_.fz
  refine yam (fa := ⟨[.agg (enc f), .int .i64 i], fr && (true && true), ids ++ ([] ++ [])⟩) hE ?_ hf hc hr
  rw [ym, ym, hz, y1gu, yw]
end
theorem yjn {H T : Heap} {a : Nat} {x : AO} (h : H[a]? = some x) : (H ++ T)[a]? = some x := by
  rw [List.getElem?_append_left (y4q h)]; exact h
theorem FnAt.grow {H : Heap} {f : Fn} {p g : Nat → Nat} (A : FnAt H f p g) (T : Heap) : FnAt (H ++ T) f p g :=
  ⟨fun L e => yjn (A.regs L e), fun L e => yjn (A.params L e), fun L e => yjn (A.code L e), fun L e => yjn (A.rows L e), A.ne⟩
theorem DSt.grow {H : Heap} {f : Fn} {p g : Nat → Nat} {n : Nat} (D : DSt H f p g n) (T : Heap) : DSt (H ++ T) f p g n := by
  obtain ⟨c, h1, h2⟩ := D.res
  exact ⟨D.at_.grow T, yjn D.box, ⟨c, yjn h1, h2⟩, by rw [List.length_append]; have := D.len; omega, D.lo⟩
theorem y17s {f : Fn} (hs : FnSm f) {H : Heap} (h0 : H[0]? = some (AB f)) (h1 : ∃ c, H[1]? = some ⟨1, .arr true false 5 [c]⟩ ∧ c.length = 5) {n : Nat} (hn : 6 ≤ n) (hl : n ≤ H.length) :
    ∃ H1 H2 p g, y4 E (y5 E) 0 (some 2) false 13 [.agg (enc f)] H = some (fnV f p g, H1) ∧ evSt 5 (.lp 0 1 0 0) (fnV f p g) H1 = some (.tup [], H2) ∧ DSt H2 f p g n ∧ H2.length = H.length ∧ ∀ k, 6 ≤ k → H2[k]? = H[k]? := by
  obtain ⟨H1, p, g, e1, A, e2, e3, e4⟩ := y1a3 hs (H := H) (fb := 0) (j := 2) (by omega)
  have hb : H1[0]? = some ⟨1, .arr true false 5 [enc f]⟩ := by rw [e4 0 (.inl (by omega)), h0]
  refine ⟨H1, _, p, g, e1, yu4 hb rfl (ymv f p g) (ywg f p g), ⟨A.set fun i hi hh => ?_, y35 (y4q hb), ?_, by rw [List.length_set, e2]; exact hl, fun i hi hh => by have := e3 i hi hh; omega⟩, by rw [List.length_set, e2], fun k hk => ?_⟩
  · have := e3 i hi hh; omega
  · obtain ⟨c, c1, c2⟩ := h1
    exact ⟨c, by rw [yn (by omega), e4 1 (.inl (by omega))]; exact c1, c2⟩
  · rw [yn (by omega), e4 k (.inr (by omega))]
end Go.Vm
