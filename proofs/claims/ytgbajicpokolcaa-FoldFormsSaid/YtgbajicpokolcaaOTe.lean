/- The document's answer whether a function is well formed: the program's own. What the pass 'fold' leaves is fit. Chapter 15's anchor. The table of what is set tells whether each register is written ahead of all that reads it. Clones of lists of marks. flow.meet: what is set on one way more to a place. Which instructions may throw. flow.Next, flow.Caught. What 'Uses' answers. flow.Set: the table is made as the plain words have it. The document's searches: where they go on, what they look for. flow.Set: its end, its beginning, and what it says. -/
import Derived.Test.YtgbajicpokolcaaOX
import Derived.Test.YtgbajicpokolcaaOTd
set_option linter.unusedSimpArgs false
set_option linter.unusedVariables false
set_option linter.unusedSectionVars false
namespace Go.Vm
open Cel
attribute [local simp] y5 y26 yj y3y
theorem y2e3 (f : Fn) (o1 : AO) (n : Int) (hn : n = (lst f.code).length) (hl : (lst f.rows).length ≤ 9223372036854775807) : ∀ (d i : Nat) (o2 : AO), i + d = (lst f.rows).length →
    yge P0 (.int .i64 n) (.int .i64 i) (HC f o1 o2) = if ((lst f.rows).drop i).all (y46 (lst f.code)) then E0 else E80 := by
  intro d
  induction d with
  | zero =>
    intro i o2 hi
    have e1 : (lst f.rows).drop i = [] := List.drop_eq_nil_of_le (by omega)
    have hn : ¬ ((i : Int) < ((lst f.rows).length : Int)) := by omega
    rw [yo5, e1]
    simp [y78, yl1, hn]
  | succ d ih =>
    intro i o2 hi
    have hlt : i < (lst f.rows).length := by omega
    have hc : ((i : Int) < ((lst f.rows).length : Int)) := by omega
    have k1 := yfo (o := f.rows) (i := i) (List.getElem?_eq_getElem hlt) .i64
    rw [yo5]
    have e1 : ((lst f.rows).drop i).all (y46 (lst f.code)) = (y46 (lst f.code) (lst f.rows)[i] && ((lst f.rows).drop (i + 1)).all (y46 (lst f.code))) := by rw [List.drop_eq_getElem_cons hlt, List.all_cons]
    rw [e1]
    generalize hr : (lst f.rows)[i] = r at *
    have ih := fun o2 => ih (i + 1) o2 (by omega)
    push_cast at ih
    subst hn
    by_cases h1 : r.f < 0
    · simp [y78, hc, y7v, k1, y46, h1]
    by_cases h2 : r.t ≤ r.f
    · simp [y78, hc, y7v, k1, y46, h1, h2]
    by_cases h3 : ((lst f.code).length : Int) < r.t
    · simp [y78, hc, y7v, k1, y46, h1, h2, h3]
    by_cases h4 : r.at_ < 0
    · have : ¬ 0 ≤ r.at_ := by omega
      simp [y78, hc, y7v, k1, y46, h1, h2, h3, h4, y55, this]
    by_cases h5 : ((lst f.code).length : Int) ≤ r.at_
    · have : ¬ r.at_ < ((lst f.code).length : Int) := by omega
      simp [y78, hc, y7v, k1, y46, h1, h2, h3, h4, h5, y55, this]
    · have hx : r.at_.toNat < (lst f.code).length := by omega
      have a1 : 0 ≤ r.at_ := by omega
      have a2 : r.at_ < ((lst f.code).length : Int) := by omega
      have k2 := y8e (o := f.code) (n := r.at_) (by omega) (List.getElem?_eq_getElem hx) .i64
      by_cases h6 : ((lst f.code)[r.at_.toNat]).op = 32
      · simp [y78, hc, y7v, k1, y46, h1, h2, h3, h4, h5, y55, a1, a2, k2, h6, hx, yjz, y17 hlt hl, ih]
      · simp [y78, hc, y7v, k1, y46, h1, h2, h3, h4, h5, y55, a1, a2, k2, h6, hx]
theorem y2g4 (f : Fn) (o1 o2 : AO) (n : Int) (hl : (lst f.regs).length ≤ 9223372036854775807) : ∀ (d i : Nat), i + d = (lst f.regs).length →
    ybt P0 (.int .i64 n) (.int .i64 i) (HC f o1 o2) = if ((lst f.regs).drop i).all (fun k => decide (1 ≤ k) && decide (k ≤ 3)) then yan P0 (.int .i64 n) (HC f o1 o2) else E80 := by
  intro d
  induction d with
  | zero =>
    intro i hi
    have e1 : (lst f.regs).drop i = [] := List.drop_eq_nil_of_le (by omega)
    have hn : ¬ ((i : Int) < ((lst f.regs).length : Int)) := by omega
    rw [yk7, e1]
    simp [y7g, hn]
  | succ d ih =>
    intro i hi
    have hlt : i < (lst f.regs).length := by omega
    have hc : ((i : Int) < ((lst f.regs).length : Int)) := by omega
    have k1 := y3e (o := f.regs) (i := i) (List.getElem?_eq_getElem hlt) .i64
    have e1 : ((lst f.regs).drop i).all (fun k => decide (1 ≤ k) && decide (k ≤ 3)) = ((decide (1 ≤ (lst f.regs)[i]) && decide ((lst f.regs)[i] ≤ 3)) && ((lst f.regs).drop (i + 1)).all (fun k => decide (1 ≤ k) && decide (k ≤ 3))) := by
      rw [List.drop_eq_getElem_cons hlt, List.all_cons]
    rw [yk7, e1]
    generalize hr : (lst f.regs)[i] = r at *
    have ih := ih (i + 1) (by omega)
    push_cast at ih
    by_cases h1 : r < 1
    · have : ¬ 1 ≤ r := by omega
      simp [y7g, hc, y8d, k1, h1, this]
    by_cases h2 : 3 < r
    · have : ¬ r ≤ 3 := by omega
      simp [y7g, hc, y8d, k1, h1, h2, this]
    · have a1 : 1 ≤ r := by omega
      have a2 : r ≤ 3 := by omega
      simp [y7g, hc, y8d, k1, h1, h2, a1, a2, yd3, y17 hlt hl, ih]
def parR (R : List Int) : List Int → List Int → Bool
  | _, [] => true
  | seen, p :: r => (inR R p && !seen.contains p) && parR R (seen ++ [p]) r
theorem y1k5 (f : Fn) (o1 o2 : AO) (n : Int) (hR : (lst f.regs).all (fun k => decide (1 ≤ k) && decide (k ≤ 3)) = true) (hl : (lst f.params).length ≤ 9223372036854775807) : ∀ (d i : Nat), i + d = (lst f.params).length →
    ybl P0 (.int .i64 n) (.int .i64 i) (HC f o1 o2) = if parR (lst f.regs) ((lst f.params).take i) ((lst f.params).drop i) then yam P0 (.int .i64 n) (HC f o1 o2) else E80 := by
  intro d
  induction d with
  | zero =>
    intro i hi
    have e1 : (lst f.params).drop i = [] := List.drop_eq_nil_of_le (by omega)
    have hn : ¬ ((i : Int) < ((lst f.params).length : Int)) := by omega
    rw [yj9, e1]
    simp [y7m, hn, parR]
  | succ d ih =>
    intro i hi
    have hlt : i < (lst f.params).length := by omega
    have hc : ((i : Int) < ((lst f.params).length : Int)) := by omega
    have k1 := y3e (o := f.params) (i := i) (List.getElem?_eq_getElem hlt) .i64
    have ks := y28q (α := Int) f.params i (by omega) .i64
    simp only [y28u] at ks
    have hlm : lst (f.params.map (List.take i)) = (lst f.params).take i := by cases f.params <;> simp
    have e1 : parR (lst f.regs) ((lst f.params).take i) ((lst f.params).drop i) = ((inR (lst f.regs) (lst f.params)[i] && !((lst f.params).take i).contains (lst f.params)[i]) && parR (lst f.regs) ((lst f.params).take (i + 1)) ((lst f.params).drop (i + 1))) := by
      rw [List.drop_eq_getElem_cons hlt, parR, List.take_append_getElem]
    rw [yj9, e1]
    have hct : (y7 E).p 42 [.int .i64 (lst f.params)[i], slA (f.params.map (List.take i))] = some ⟨.bool (((lst f.params).take i).contains (lst f.params)[i]), [], true, [], []⟩ := by
      rw [s_in _ _ (by rw [hlm, List.length_take]; omega), hlm, List.contains_eq_mem]
    generalize hr : (lst f.params)[i] = r at *
    generalize ((lst f.params).take i).contains r = B at *
    have ih := ih (i + 1) (by omega)
    push_cast at ih
    have hs := yim f r
    rcases y51 hR r with ⟨a1, a2⟩ | ⟨a1, a2⟩
    · have hz : ¬ regK (lst f.regs) r = 0 := by omega
      rw [a1]
      generalize regK (lst f.regs) r = k at *
      cases B with
      | true => simp [y7m, hc, y8z, k1, hs, hz, ks, hct, yd]
      | false =>
        simp [y7m, hc, y8z, k1, hs, hz, ks, hct, yd, yd9, y17 hlt hl]
        exact ih
    · rw [a2] at hs
      simp [y7m, hc, y8z, k1, hs, a1, yd]
theorem y2qi (f : Fn) (o2 : AO) (n : Int) (x : Ins) (i g : Nat) (hR : (lst f.regs).all (fun k => decide (1 ≤ k) && decide (k ≤ 3)) = true) (fit : InsFit x) (hi : i < (lst f.code).length) (hl : (lst f.code).length ≤ 9223372036854775807) (hx : (lst f.code)[i]? = some x) (oc : OC) :
    y4m P0 (.int .i64 n) (.int .i64 i) (HC f ⟨g, oc⟩ o2) =
      if y14 f x && y3f (lst f.code) i x then yao P0 (.int .i64 n) (.int .i64 i) (HC f ⟨g + 1, .arr true false 9 [enc x]⟩ o2) else E80 := by
  have k0 := y7i (o := f.code) (i := i) hx .i64
  have h1 := y2u2 f x fit.n fit.s fit.a
  rw [y1yh f x hR] at h1
  cases hok : y14 f x with
  | false =>
    rw [hok] at h1
    simp [y4m, k0, h1]
  | true =>
    have ht := yj2 (f := f) (x := x) hok
    rw [hok] at h1
    by_cases h32 : x.op = 32
    · have hld : leads 32 = false := by simp [leads]
      by_cases h0 : i = 0
      · subst h0
        simp only [Int.ofNat_zero] at k0
        simp [y4m, k0, h1, h32, y3f]
      · have h0' : ¬ ((i : Int) = 0) := by omega
        have hp : i - 1 < (lst f.code).length := by omega
        have k1 := y7i (o := f.code) (i := i - 1) (List.getElem?_eq_getElem hp) .i64
        have hw : IntKind.wrap .i64 ((i : Int) - 1) = ((i - 1 : Nat) : Int) := by rw [y2v] <;> omega
        cases he : ends ((lst f.code)[i - 1]).op with
        | true => simp [y4m, k0, h1, h32, y3f, h0, h0', hw, k1, hp, he, hld]
        | false => simp [y4m, k0, h1, h32, y3f, h0, h0', hw, k1, hp, he]
    · cases hld : leads x.op with
      | false => simp [y4m, k0, h1, h32, y3f, hld]
      | true =>
        obtain ⟨t0, t1⟩ := ht hld
        have hxt : x.t.toNat < (lst f.code).length := by omega
        have k2 := y8e (o := f.code) (n := x.t) t0 (List.getElem?_eq_getElem hxt) .i64
        by_cases h6 : ((lst f.code)[x.t.toNat]).op = 32
        · simp [y4m, k0, h1, h32, y3f, hld, k2, h6, hxt]
        · simp [y4m, k0, h1, h32, y3f, hld, k2, h6, hxt]
theorem y2d9 (f : Fn) (o2 : AO) (n : Int) (hn : n = (lst f.code).length) (hR : (lst f.regs).all (fun k => decide (1 ≤ k) && decide (k ≤ 3)) = true) (hfit : ∀ x ∈ lst f.code, InsFit x) (hl : (lst f.code).length ≤ 9223372036854775807) : ∀ (d i : Nat) (o1 : AO), i + d = (lst f.code).length →
    ∃ o1', ygi P0 (.int .i64 n) (.int .i64 i) (HC f o1 o2) = if y40 f (lst f.code) i ((lst f.code).drop i) then yh4 P0 (.int .i64 n) (HC f o1' o2) else E80 := by
  intro d
  induction d with
  | zero =>
    intro i o1 hi
    have e1 : (lst f.code).drop i = [] := List.drop_eq_nil_of_le (by omega)
    have hnl : ¬ ((i : Int) < n) := by omega
    rw [yn5, e1]
    exact ⟨o1, by simp [yb8, hnl, y40]⟩
  | succ d ih =>
    intro i o1 hi
    have hlt : i < (lst f.code).length := by omega
    have hc : ((i : Int) < n) := by omega
    have e1 : y40 f (lst f.code) i ((lst f.code).drop i) = (y14 f (lst f.code)[i] && y3f (lst f.code) i (lst f.code)[i] && y40 f (lst f.code) (i + 1) ((lst f.code).drop (i + 1))) := by
      rw [List.drop_eq_getElem_cons hlt, y40]
    have fit := hfit _ (List.getElem_mem hlt)
    have hone := y2qi f o2 n _ i o1.gen hR fit hlt hl (List.getElem?_eq_getElem hlt) o1.c
    rw [yn5, e1]
    generalize (lst f.code)[i] = x at *
    generalize (y14 f x && y3f (lst f.code) i x) = G at *
    simp only [yb8, yo, yb, hc, decide_true, y1p, hone]
    cases G with
    | false => exact ⟨o1, by simp⟩
    | true =>
      obtain ⟨o1', ih⟩ := ih (i + 1) ⟨o1.gen + 1, .arr true false 9 [enc x]⟩ (by omega)
      push_cast at ih
      exact ⟨o1', by simp [yao, y17 hlt hl, ih]⟩
theorem y160 (R : List Int) : ∀ (l : List Int) (i : Nat) (seen : List Int), i + l.length ≤ 21 → y8x R i seen l = parR R seen l
  | [], _, _, _ => rfl
  | p :: r, i, seen, h => by
    simp only [List.length_cons] at h
    have : i ≤ 20 := by omega
    rw [y8x, parR, y160 R r (i + 1) (seen ++ [p]) (by omega)]
    simp [this]
theorem yxz (R : List Int) : ∀ (l : List Int) (i : Nat) (seen : List Int), 21 < i + l.length → i ≤ 21 → y8x R i seen l = false
  | [], i, _, h, h2 => by simp at h; omega
  | p :: r, i, seen, h, h2 => by
    simp only [List.length_cons] at h
    rw [y8x]
    by_cases hi : i ≤ 20
    · rw [yxz R r (i + 1) (seen ++ [p]) (by omega) (by omega)]; simp
    · simp [hi]
set_option maxRecDepth 100000 in
set_option maxHeartbeats 1000000 in
theorem y15q (f : Fn) (hf : FnFit f) : (y7 E).p 29 [.agg (enc f)] = some ⟨.int .i64 (if wf f then 0 else 80), [], true, [], []⟩ := by
  rw [y2jy]
  by_cases h0 : (lst f.code).length = 0
  · have h0' : ((lst f.code).length : Int) = 0 := by omega
    have : ¬ 1 ≤ (lst f.code).length := by omega
    simp [y4a, y4q, y4p, h0', wf, this]
  have h0' : ¬ ((lst f.code).length : Int) = 0 := by omega
  have hne : ¬ lst f.code = [] := fun h => h0 (by rw [h]; rfl)
  have g1 : 1 ≤ (lst f.code).length := by omega
  by_cases h2 : 20000 < (lst f.code).length
  · have h2' : (20000 : Int) < ((lst f.code).length : Int) := by omega
    have : ¬ (lst f.code).length ≤ 20000 := by omega
    simp [y4a, y4q, y4p, h0', hne, h2', wf, this]
  have h2' : ¬ (20000 : Int) < ((lst f.code).length : Int) := by omega
  have g2 : (lst f.code).length ≤ 20000 := by omega
  by_cases h3 : 20000 < (lst f.regs).length
  · have h3' : (20000 : Int) < ((lst f.regs).length : Int) := by omega
    have : ¬ (lst f.regs).length ≤ 20000 := by omega
    simp [y4a, y4q, y4p, h0', hne, h2', h3', wf, this]
  have h3' : ¬ (20000 : Int) < ((lst f.regs).length : Int) := by omega
  have g3 : (lst f.regs).length ≤ 20000 := by omega
  by_cases hp : 21 < (lst f.params).length
  · have hp' : (21 : Int) < ((lst f.params).length : Int) := by omega
    have := yxz (lst f.regs) (lst f.params) 0 [] (by omega) (by omega)
    simp [y4a, y4q, y4p, h0', hne, h2', h3', hp', wf, this]
  have hp' : ¬ (21 : Int) < ((lst f.params).length : Int) := by omega
  by_cases h4 : f.ret < 0
  · have : ¬ 0 ≤ f.ret := by omega
    simp [y4a, y4q, y4p, h0', hne, h2', h3', hp', h4, wf, this]
  have g4 : 0 ≤ f.ret := by omega
  by_cases h5 : 3 < f.ret
  · have : ¬ f.ret ≤ 3 := by omega
    simp [y4a, y4q, y4p, h0', hne, h2', h3', hp', h4, h5, wf, this]
  have g5 : f.ret ≤ 3 := by omega
  have hpl : (lst f.code).length - 1 < (lst f.code).length := by omega
  have k1 := y7i (o := f.code) (i := (lst f.code).length - 1) (List.getElem?_eq_getElem hpl) .i64
  have hw : IntKind.wrap .i64 (((lst f.code).length : Int) - 1) = (((lst f.code).length - 1 : Nat) : Int) := by rw [y2v] <;> omega
  have hg : (lst f.code).getD ((lst f.code).length - 1) default = (lst f.code)[(lst f.code).length - 1] := by rw [List.getD_eq_getElem?_getD, List.getElem?_eq_getElem hpl]; rfl
  cases he : ends ((lst f.code)[(lst f.code).length - 1]).op with
  | false =>
    have hwf : wf f = false := by rw [wf, hg, he]; simp
    rw [hwf]
    simp [y4a, y4q, y4p, h0', hne, h2', h3', hp', h4, h5, hw, k1, he]
  | true =>
    have hps := y160 (lst f.regs) (lst f.params) 0 [] (by omega)
    have hwf : wf f = ((lst f.regs).all (fun k => decide (1 ≤ k) && decide (k ≤ 3)) && parR (lst f.regs) [] (lst f.params) && y40 f (lst f.code) 0 (lst f.code) && (lst f.rows).all (y46 (lst f.code))) := by
      rw [wf, hg, he, hps]
      simp only [g1, g2, g3, g4, g5, decide_true, Bool.true_and]
    have e : y4a (.agg (enc f)) [⟨0, .dead⟩, ⟨0, .dead⟩, ⟨0, .dead⟩] = ybt P0 (.int .i64 (lst f.code).length) (.int .i64 0) (HC f ⟨0, .dead⟩ ⟨0, .dead⟩) := by
      simp [y4a, y4q, y4p, h0', hne, h2', h3', hp', h4, h5, hw, k1, he, yl1, yjz, y7v, y78, yh4, yao, y4m, yb8, yam, yd9, y8z, y7m, yan, yd3, y8d, y7g, yfx, y4p, y4q, y4a]
    have a1 := y2g4 f ⟨0, .dead⟩ ⟨0, .dead⟩ (lst f.code).length hf.regs _ 0 (Nat.zero_add _)
    simp only [Int.ofNat_zero, List.drop_zero] at a1
    rw [e, a1, hwf]
    cases hR : (lst f.regs).all (fun k => decide (1 ≤ k) && decide (k ≤ 3)) with
    | false => simp
    | true =>
      have a2 := y1k5 f ⟨0, .dead⟩ ⟨0, .dead⟩ (lst f.code).length hR hf.params _ 0 (Nat.zero_add _)
      obtain ⟨o1', a3⟩ := y2d9 f ⟨0, .dead⟩ _ rfl hR hf.ins hf.code _ 0 ⟨0, .dead⟩ (Nat.zero_add _)
      have a4 := y2e3 f o1' _ rfl hf.rows _ 0 ⟨0, .dead⟩ (Nat.zero_add _)
      simp only [Int.ofNat_zero, List.drop_zero, List.take_zero] at a2 a3 a4
      have e2 : yan P0 (.int .i64 (lst f.code).length) (HC f ⟨0, .dead⟩ ⟨0, .dead⟩) = ybl P0 (.int .i64 (lst f.code).length) (.int .i64 0) (HC f ⟨0, .dead⟩ ⟨0, .dead⟩) := by simp [yl1, yjz, y7v, y78, yh4, yao, y4m, yb8, yam, yd9, y8z, y7m, yan, yd3, y8d, y7g, yfx, y4p, y4q, y4a]
      have e3 : yam P0 (.int .i64 (lst f.code).length) (HC f ⟨0, .dead⟩ ⟨0, .dead⟩) = ygi P0 (.int .i64 (lst f.code).length) (.int .i64 0) (HC f ⟨0, .dead⟩ ⟨0, .dead⟩) := by simp [yl1, yjz, y7v, y78, yh4, yao, y4m, yb8, yam, yd9, y8z, y7m, yan, yd3, y8d, y7g, yfx, y4p, y4q, y4a]
      have e4 : yh4 P0 (.int .i64 (lst f.code).length) (HC f o1' ⟨0, .dead⟩) = yge P0 (.int .i64 (lst f.code).length) (.int .i64 0) (HC f o1' ⟨0, .dead⟩) := by simp [yl1, yjz, y7v, y78, yh4, yao, y4m, yb8, yam, yd9, y8z, y7m, yan, yd3, y8d, y7g, yfx, y4p, y4q, y4a]
      rw [e2, a2, e3, a3, e4, a4]
      generalize parR (lst f.regs) [] (lst f.params) = b2
      generalize y40 f (lst f.code) 0 (lst f.code) = b3
      generalize (lst f.rows).all (y46 (lst f.code)) = b4
      cases b2 <;> cases b3 <;> cases b4 <;> rfl
end Go.Vm
namespace Go.Vm
theorem FnFit.num {f : Fn} (hf : FnFit f) : ∀ x ∈ lst f.code, y4v x.n ∧ x.s.length ≤ 9223372036854775807 := fun x hx => ⟨(hf.ins x hx).n, (hf.ins x hx).s⟩
theorem FoldOk.mem {f g : Fn} (k : FoldOk f g) {y : Ins} (hy : y ∈ lst g.code) : ∃ x ∈ lst f.code, Fold1 f x y := by
  obtain ⟨i, hi, e⟩ := List.getElem_of_mem hy
  have hi' : i < (lst f.code).length := by rw [← k.swap.len]; exact hi
  have F := k.at_ i hi'
  have ey : yt g i = y := by rw [yt, List.getD_eq_getElem?_getD, List.getElem?_eq_getElem hi, e]; rfl
  rw [ey] at F
  exact ⟨_, List.mem_of_getElem? (y61 hi'), F⟩
theorem FoldOk.fit {f g : Fn} (k : FoldOk f g) (hf : FnFit f) : FnFit g := by
  refine ⟨fun y hy => ?_, by rw [k.swap.len]; exact hf.code, by rw [k.swap.regs]; exact hf.regs, by rw [k.swap.params]; exact hf.params, by rw [k.swap.rows]; exact hf.rows⟩
  obtain ⟨x, hx, F⟩ := k.mem hy
  refine ⟨F.n, F.s, ?_⟩
  rcases F.args with e | e
  · rw [e]; exact (hf.ins x hx).a
  · rw [e]; exact Nat.zero_le _
theorem FoldOk.args {f g : Fn} (k : FoldOk f g) (hx : y16k f) : y16k g := fun y hy => by
  obtain ⟨x, hx2, F⟩ := k.mem hy
  rcases F.args with e | e
  · rw [e]; exact hx x hx2
  · rw [e]; exact Nat.zero_le _
end Go.Vm
namespace Go.Vm
@[simp] theorem y2eb : (y7 E).p 124 [] = some ⟨.bool true, [], true, [], []⟩ := y16m 60 (by kernel_rfl)
end Go.Vm
namespace Go.Vm
def y6e (f : Fn) : List Bool := (List.range (lst f.regs).length).map fun (r : Nat) => decide (((r : Nat) : Int) ∈ lst f.params)
theorem yg3 (f : Fn) : (y6e f).length = (lst f.regs).length := by simp [y6e]
theorem yng {f : Fn} {r : Nat} (h : r < (lst f.regs).length) : (y6e f)[r]? = some (decide ((r : Int) ∈ lst f.params)) := by simp [y6e, h]
theorem yni (d : Int) (s : List Bool) : (y38 d s).length = s.length := by unfold y38; split <;> simp
theorem yrh {d : Int} {s : List Bool} {r : Nat} (h : (y38 d s)[r]? = some false) : d ≠ r ∧ s[r]? = some false := by
  unfold y38 at h
  split at h
  · rename_i hd
    rw [List.getElem?_set] at h
    split at h
    · split at h <;> cases h
    · exact ⟨by omega, h⟩
  · exact ⟨by omega, h⟩
theorem yvr {d : Int} {s : List Bool} {r : Nat} (h : (y38 d s)[r]? = some true) (hd : d ≠ r) : s[r]? = some true := by
  unfold y38 at h
  split at h
  · rw [List.getElem?_set] at h
    split at h
    · omega
    · exact h
  · exact h
section
variable (f : Fn)
def y1xe (ins : Tab) (i : Nat) (s : List Bool) : Prop := (∀ to ∈ y19 f i, LeAt ins to s) ∧ ∀ to ∈ y3j f i, LeAt ins to (y38 (defr (yt f i)) s)
structure SInv (ins : Tab) (work : List Int) : Prop where
  ok : TblOk (lst f.code).length (lst f.regs).length ins
  src : ∀ (i r : Nat) t, ins[i]? = some (some t) → t[r]? = some false → Rch (lst f.code).length (yhl f r) [0] i ∧ (r : Int) ∉ lst f.params
  cl : ∀ (i : Nat) s, ins[i]? = some (some s) → (i : Int) ∈ work ∨ y1xe f ins i s
  st : LeAt ins 0 (y6e f)
  wk : ∀ j ∈ work, 0 ≤ j ∧ j < (lst f.code).length ∧ ∃ t, ins[j.toNat]? = some (some t)
def tab0 : Tab := (List.replicate (lst f.code).length none).set 0 (some (y6e f))
variable {f}
theorem y1xe.mono {a b : Tab} (h : LeT a b) {i : Nat} {s : List Bool} (hf : y1xe f a i s) : y1xe f b i s :=
  ⟨fun to ht => (hf.1 to ht).mono h, fun to ht => (hf.2 to ht).mono h⟩
theorem SInv.start (w : Wf f) : SInv f (tab0 f) [0] := by
  have hn := w.n1
  have h0 : (tab0 f)[0]? = some (some (y6e f)) := y56 (by rw [List.length_replicate]; omega)
  have hx : ∀ (i : Nat) t, (tab0 f)[i]? = some (some t) → i = 0 ∧ t = y6e f := by
    intro i t ht
    rcases y84 ht with ⟨e, e2⟩ | ⟨_, h⟩
    · injection e2 with e2; exact ⟨e, e2⟩
    · rw [List.getElem?_replicate] at h
      split at h <;> cases h
  refine ⟨⟨by simp [tab0], fun i s hs => by rw [(hx i s hs).2, yg3]⟩, fun i r t ht hr => ?_, fun i s hs => .inl (by rw [(hx i s hs).1]; simp), ⟨_, h0, .refl _⟩, fun j hj => ?_⟩
  · obtain ⟨rfl, rfl⟩ := hx i t ht
    have hr1 : r < (lst f.regs).length := by rw [← yg3]; exact (List.getElem?_eq_some_iff.1 hr).1
    rw [yng hr1] at hr
    refine ⟨Rch.base (j := 0) (by simp) (by omega) (by omega), ?_⟩
    simpa using hr
  · rw [List.mem_singleton] at hj
    subst hj
    exact ⟨by omega, by omega, _, h0⟩
theorem SInv.step (w : Wf f) {ins : Tab} {work : List Int} (I : SInv f ins work) {i : Int} (hi : work.getLast? = some i) :
    SInv f (y3z (y38 (defr (yt f i.toNat)) (yeh ins i.toNat)) (y3j f i) (y3z (yeh ins i.toNat) (y19 f i) (ins, work.dropLast))).1
      (y3z (y38 (defr (yt f i.toNat)) (yeh ins i.toNat)) (y3j f i) (y3z (yeh ins i.toNat) (y19 f i) (ins, work.dropLast))).2 ∧
    2 * pot (lst f.regs).length (y3z (y38 (defr (yt f i.toNat)) (yeh ins i.toNat)) (y3j f i) (y3z (yeh ins i.toNat) (y19 f i) (ins, work.dropLast))).1 +
      (y3z (y38 (defr (yt f i.toNat)) (yeh ins i.toNat)) (y3j f i) (y3z (yeh ins i.toNat) (y19 f i) (ins, work.dropLast))).2.length + 1 ≤ 2 * pot (lst f.regs).length ins + work.length := by
  have e := y65 hi
  obtain ⟨i0, i1, s, hs⟩ := I.wk i (by rw [e]; simp)
  have hts : yeh ins i.toNat = s := by simp [yeh, hs]
  rw [hts]
  have hsl := I.ok.rows _ _ hs
  have ei : ((i.toNat : Nat) : Int) = i := by omega
  obtain ⟨a1, a2⟩ := ybo (n := (lst f.code).length) hsl (y19 f i) (ins, work.dropLast) I.ok (fun to h => w.caught h)
  generalize y3z s (y19 f i) (ins, work.dropLast) = p1 at *
  obtain ⟨b1, b2⟩ := ybo (n := (lst f.code).length) (s := y38 (defr (yt f i.toNat)) s) (by rw [yni]; exact hsl) (y3j f i) p1 a1.ok (fun to h => by
    rw [← ei] at h
    exact w.next (by omega) h)
  generalize y3z (y38 (defr (yt f i.toNat)) s) (y3j f i) p1 = p2 at *
  refine ⟨⟨b1.ok, fun j r t ht hr => ?_, fun j t ht => ?_, (I.st.mono a1.le).mono b1.le, fun j hj => ?_⟩, ?_⟩
  · -- what isn't set
    have old : ∀ u, ins[j]? = some (some u) → u[r]? = some false → Rch (lst f.code).length (yhl f r) [0] j ∧ (r : Int) ∉ lst f.params := fun u h1 h2 => I.src j r u h1 h2
    have hjlt : j < (lst f.code).length := by rw [← b1.ok.len]; exact (List.getElem?_eq_some_iff.1 ht).1
    rcases b1.src j r t ht hr with ⟨u, h1, h2⟩ | ⟨h1, h2⟩
    · rcases a1.src j r u h1 h2 with ⟨v, h3, h4⟩ | ⟨h3, h4⟩
      · exact old v h3 h4
      · obtain ⟨k1, k2⟩ := I.src _ _ _ hs h3
        refine ⟨?_, k2⟩
        have := Rch.step (j := (j : Int)) k1 (by rw [yhl, ei]; exact List.mem_append_left _ h4) (by omega) (by omega)
        simpa using this
    · obtain ⟨h3, h4⟩ := yrh h1
      obtain ⟨k1, k2⟩ := I.src _ _ _ hs h4
      refine ⟨?_, k2⟩
      have := Rch.step (j := (j : Int)) k1 (by rw [yhl, if_neg h3, ei]; exact List.mem_append_right _ h2) (by omega) (by omega)
      simpa using this
  · -- closed but for the work
    rcases b1.work j t ht with h | h
    · rcases a1.work j t h with h | h
      · simp only at h
        rcases I.cl j t h with hw | hw
        · rw [e, List.mem_append, List.mem_singleton] at hw
          rcases hw with hw | hw
          · exact .inl (b1.keep _ (a1.keep _ hw))
          · right
            have ej : j = i.toNat := by omega
            subst ej
            rw [hs] at h
            injection h with h; injection h with h
            subst h
            rw [y1xe, ei]
            exact ⟨fun to hto => (a2 to hto).mono b1.le, fun to hto => b2 to hto⟩
        · exact .inr ((hw.mono a1.le).mono b1.le)
      · exact .inl (b1.keep _ h)
    · exact .inl h
  · rcases b1.fresh j hj with h | h
    · rcases a1.fresh j h with h | ⟨k1, k2, t, k3⟩
      · obtain ⟨k1, k2, t, k3⟩ := I.wk j (ybh h)
        obtain ⟨t2, k4, _⟩ := a1.le _ _ k3
        obtain ⟨t3, k5, _⟩ := b1.le _ _ k4
        exact ⟨k1, k2, t3, k5⟩
      · obtain ⟨t2, k4, _⟩ := b1.le _ _ k3
        exact ⟨k1, k2, t2, k4⟩
    · exact h
  · have h1 := a1.pot
    have h2 := b1.pot
    have h3 : work.length = work.dropLast.length + 1 := by rw [e]; simp
    simp only at h1
    omega
theorem ygw (w : Wf f) : ∀ (k : Nat) (ins : Tab) (work : List Int), SInv f ins work → 2 * pot (lst f.regs).length ins + work.length < k → ∃ r, yjv f k ins work = some r ∧ SInv f r []
  | 0, _, _, _, h => by omega
  | k + 1, ins, work, I, h => by
    rw [yjv]
    cases hw : work.getLast? with
    | none =>
      rw [List.getLast?_eq_none_iff] at hw
      subst hw
      exact ⟨ins, rfl, I⟩
    | some i =>
      obtain ⟨I2, hp⟩ := I.step w hw
      exact ygw w k _ _ I2 (Nat.le_trans hp (Nat.le_of_lt_succ h))
theorem SInv.tells (w : Wf f) {ins : Tab} (I : SInv f ins []) : (∀ i, i < (lst f.code).length → ∀ u ∈ yj7 f i, ∀ s, ins[i]? = some (some s) → s[u.toNat]? = some true) ↔ setP f := by
  constructor
  · intro h r r0 r1 hp ⟨i, hi, hu⟩
    have er : ((r.toNat : Nat) : Int) = r := by omega
    have hle : ∀ {to : Int} {s : List Bool}, LeAt ins to s → s[r.toNat]? ≠ some true → ∃ t, ins[to.toNat]? = some (some t) ∧ t[r.toNat]? = some false := by
      intro to s ⟨t, h1, h2⟩ hne
      refine ⟨t, h1, ?_⟩
      have hl := I.ok.rows _ _ h1
      have hlt : r.toNat < t.length := by omega
      rw [List.getElem?_eq_getElem hlt]
      cases hb : t[r.toNat] with
      | false => rfl
      | true => exact (hne (h2 _ (by rw [List.getElem?_eq_getElem hlt, hb]))).elim
    have key : ∀ {i : Nat}, Rch (lst f.code).length (yhl f r) [0] i → ∃ t, ins[i]? = some (some t) ∧ t[r.toNat]? = some false := by
      intro i hr
      induction hr with
      | base hj j0 j1 =>
        rw [List.mem_singleton] at hj
        subst hj
        refine hle I.st ?_
        rw [yng (by omega), er]
        simpa using hp
      | step hr hj j0 j1 ih =>
        rename_i i j
        obtain ⟨t, h1, h2⟩ := ih
        rcases I.cl _ _ h1 with hw | ⟨c1, c2⟩
        · cases hw
        · rw [yhl, List.mem_append] at hj
          rcases hj with hj | hj
          · exact hle (c1 _ hj) (by rw [h2]; simp)
          · split at hj
            · cases hj
            · rename_i hd
              refine hle (c2 _ hj) fun ht => ?_
              have := yvr ht (by rw [er]; exact hd)
              rw [h2] at this
              cases this
    obtain ⟨t, h1, h2⟩ := key hi
    have := h i hi.lt r hu t h1
    rw [h2] at this
    cases this
  · intro h i hi u hu s hs
    obtain ⟨u0, u1⟩ := w.uses hi hu
    have hl := I.ok.rows _ _ hs
    have hlt : u.toNat < s.length := by omega
    rw [List.getElem?_eq_getElem hlt]
    cases hb : s[u.toNat] with
    | true => rfl
    | false =>
      obtain ⟨k1, k2⟩ := I.src i u.toNat s hs (by rw [List.getElem?_eq_getElem hlt, hb])
      have eu : ((u.toNat : Nat) : Int) = u := by omega
      rw [eu] at k1 k2
      exact (h u u0 u1 k2 ⟨i, k1, hu⟩).elim
end
end Go.Vm
namespace Go.Vm
open Cel
attribute [local simp] y5 y26 yj
theorem y1bn (o : Option (List Bool)) (h : Heap) : y3k h 1 (slA o) = some ((lst o).map enc) := ydw o h
theorem y16x (o : Option (List Bool)) (h : (lst o).length ≤ 1000000) : (y7 E).p 78 [slA o] = some (exO o) := by
  rw [y2p6]
  cases o with
  | none => rfl
  | some L =>
    simp only [y63] at h
    have h1 : 2 * L.length ≤ 281474976710144 := by omega
    simp [y1tw, y1fj, y1py, yx, y18, y3t, y1bn, h1]
    exact y33 (α := Bool) (L := L) (by simp)
end Go.Vm
namespace Go.Vm
open Cel
def yl9 (P : Nat → Nat × Nat) (i : Nat) : Option (List Bool) → List AV
  | none => [.nils]
  | some s => [.ls (P i).1 (P i).2 1 0 s.length]
def y3b (P : Nat → Nat × Nat) (ins : Tab) : List (List AV) := (List.range ins.length).map fun i => yl9 P i (ins[i]?.join)
structure SRep (f : Fn) (H : Heap) (ins : Tab) (P : Nat → Nat × Nat) : Prop where
  box : H[0]? = some (AB f)
  tab : H[1]? = some ⟨1, .arr false false 1 (y3b P ins)⟩
  obj : ∀ (i : Nat) s, ins[i]? = some (some s) → H[(P i).1]? = some (AL (P i).2 s)
  inj : ∀ (i j : Nat) s t, ins[i]? = some (some s) → ins[j]? = some (some t) → i ≠ j → (P i).1 ≠ (P j).1
  far : ∀ (i : Nat) s, ins[i]? = some (some s) → (P i).1 = 2 ∨ 6 ≤ (P i).1
theorem y96 {P : Nat → Nat × Nat} {ins : Tab} {i : Nat} {x : Option (List Bool)} (h : ins[i]? = some x) : (y3b P ins)[i]? = some (yl9 P i x) := by
  have hi := (List.getElem?_eq_some_iff.1 h).1
  simp only [y3b, List.getElem?_map, List.getElem?_range hi, Option.map_some, h, Option.join]
  rfl
theorem yd0 {P P' : Nat → Nat × Nat} {ins : Tab} {i : Nat} {x : Option (List Bool)} (hi : i < ins.length) (hP : ∀ j, j ≠ i → P' j = P j) : (y3b P ins).set i (yl9 P' i x) = y3b P' (ins.set i x) := by
  unfold y3b
  rw [List.length_set]
  refine ygh ?_ fun j hj => ?_
  · simp [hi]
  · rw [List.getElem?_set_ne (fun e => hj e.symm)]
    cases h : ins[j]?.join with
    | none => rfl
    | some s => simp only [yl9, hP j hj]
theorem SRep.other {f : Fn} {H : Heap} {ins : Tab} {P : Nat → Nat × Nat} (R : SRep f H ins P) {a : Nat} {x : AO} (ha : a = 3 ∨ a = 4 ∨ a = 5 ∨ H.length ≤ a) : SRep f (H.set a x) ins P := by
  have h0 := y4x R.box
  have h1 := y4x R.tab
  refine ⟨by rw [y13 (by omega)]; exact R.box, by rw [y13 (by omega)]; exact R.tab, fun i s hs => ?_, R.inj, R.far⟩
  have := R.far i s hs
  have h2 := y4x (R.obj i s hs)
  rw [y13 (by omega)]
  exact R.obj i s hs
theorem SRep.more {f : Fn} {H : Heap} {ins : Tab} {P : Nat → Nat × Nat} (R : SRep f H ins P) (n : Nat) : SRep f (H ++ yk n) ins P :=
  ⟨by rw [y1b5 (y4x R.box)]; exact R.box, by rw [y1b5 (y4x R.tab)]; exact R.tab, fun i s hs => by rw [y1b5 (y4x (R.obj i s hs))]; exact R.obj i s hs, R.inj, R.far⟩
theorem SRep.beyond {f : Fn} {H : Heap} {ins : Tab} {P : Nat → Nat × Nat} (R : SRep f H ins P) {a : Nat} {x : AO} (h0 : a ≠ 0) (h1 : a ≠ 1) (ha : ∀ (i : Nat) s, ins[i]? = some (some s) → (P i).1 ≠ a) : SRep f (H.set a x) ins P :=
  ⟨by rw [y13 h0]; exact R.box, by rw [y13 h1]; exact R.tab, fun i s hs => by rw [y13 (fun e => ha i s hs e.symm)]; exact R.obj i s hs, R.inj, R.far⟩
def andK (k : Nat) (t s : List Bool) : List Bool := (List.range t.length).map fun j => if j < k then t.getD j false && s.getD j false else t.getD j false
def yl8 (k : Nat) (t s : List Bool) : Bool := (List.range k).any fun j => t.getD j false && !s.getD j false
theorem y21x (k : Nat) (t s : List Bool) : (andK k t s).length = t.length := by simp [andK]
theorem y28v (t s : List Bool) : andK 0 t s = t := by
  refine List.ext_getElem (by simp [andK]) fun i h1 h2 => ?_
  simp [andK, h2]
theorem y28a {k : Nat} {t s : List Bool} {j : Nat} (h : j < t.length) : (andK k t s)[j]? = some (if j < k then t.getD j false && s.getD j false else t.getD j false) := by simp [andK, h]
theorem yzw {t s : List Bool} (h : t.length = s.length) : andK t.length t s = andB t s := by
  refine List.ext_getElem (by simp [andK, andB, h]) fun i h1 h2 => ?_
  have hi : i < t.length := by simpa [andK] using h1
  have hi2 : i < s.length := by omega
  simp [andK, andB, hi, hi2]
theorem y1qk {t s : List Bool} (h : t.length = s.length) : yl8 t.length t s = yv8 t s := by
  rw [Bool.eq_iff_iff, yfg, yl8, List.any_eq_true]
  constructor
  · rintro ⟨j, hj, hb⟩
    rw [List.mem_range] at hj
    have hj2 : j < s.length := by omega
    simp only [List.getD_eq_getElem?_getD, List.getElem?_eq_getElem hj, List.getElem?_eq_getElem hj2, Option.getD_some, Bool.and_eq_true, Bool.not_eq_true'] at hb
    exact ⟨j, by rw [List.getElem?_eq_getElem hj, hb.1], by rw [List.getElem?_eq_getElem hj2, hb.2]⟩
  · rintro ⟨j, h1, h2⟩
    have hj := (List.getElem?_eq_some_iff.1 h1).1
    exact ⟨j, List.mem_range.2 hj, by simp [List.getD_eq_getElem?_getD, h1, h2]⟩
theorem y261 {k : Nat} {t s : List Bool} (ht : t.getD k false = true) (hs : s.getD k false = false) : (andK k t s).set k false = andK (k + 1) t s := by
  unfold andK
  refine ygh ?_ fun j hj => ?_
  · rw [if_pos (by omega), ht, hs]; rfl
  · by_cases h1 : j < k
    · rw [if_pos (by omega), if_pos h1]
    · rw [if_neg (by omega), if_neg h1]
theorem yrr {k : Nat} {t s : List Bool} (h : (t.getD k false && !s.getD k false) = false) : andK (k + 1) t s = andK k t s := by
  refine List.map_congr_left fun j _ => ?_
  by_cases e : j = k
  · subst e
    rw [if_pos (by omega), if_neg (by omega)]
    cases ht : t.getD j false <;> cases hs : s.getD j false <;> simp_all
  · by_cases h1 : j < k
    · rw [if_pos (by omega), if_pos h1]
    · rw [if_neg (by omega), if_neg h1]
theorem yom (k : Nat) (t s : List Bool) : yl8 (k + 1) t s = (yl8 k t s || (t.getD k false && !s.getD k false)) := by
  simp [yl8, List.range_succ]
theorem y1yb (fb : Nat) (v3 : AV) (n to : Nat) (hto : to < n) (id g ga : Nat) (t s : List Bool) (hl : t.length = s.length) (hn : t.length ≤ 9223372036854775806) (hid1 : id ≠ 1) (hid4 : id ≠ 4) (rows : List (List AV)) (hrow : rows[to]? = some [.ls id g 1 0 t.length]) :
    ∀ (d k : Nat) (H : Heap), k + d = t.length → H[1]? = some ⟨1, .arr false false 1 rows⟩ → H[id]? = some (AL g (andK k t s)) → H[4]? = some (AL ga s) →
    ysw fb (.ls 1 1 1 0 n) (.int .i64 (to : Int)) (.ls 4 ga 1 0 s.length) v3 (.bool (yl8 k t s)) (.ls id g 1 0 t.length) (.int .i64 t.length) (.int .i64 k) H =
      y19z fb (.int .i64 (to : Int)) v3 (.bool (yv8 t s)) (H.set id (AL g (andB t s))) := by
  intro d
  induction d with
  | zero =>
    intro k H hk h1 hi h4
    have hk' : k = t.length := by omega
    subst hk'
    have hc : ¬ ((t.length : Int) < (t.length : Int)) := by omega
    rw [ytv]
    simp only [y1dl, yo, hc, decide_false, yb, y1cp, y24, y1qk hl]
    rw [← yzw hl, ybm hi]
  | succ d ih =>
    intro k H hk h1 hi h4
    have hlt : k < t.length := by omega
    have hlt2 : k < s.length := by omega
    have hc : ((k : Int) < (t.length : Int)) := by omega
    have hw := y17 hlt (by omega)
    have ixT := yll (n := t.length) (p := (k : Int)) (by omega) hc id g .i64
    have ixS := yll (n := s.length) (p := (k : Int)) (by omega) (by omega) 4 ga .i64
    have ixI := yll (n := n) (p := (to : Int)) (by omega) (by omega) 1 1 .i64
    rw [show ((k : Int)).toNat = k by omega] at ixT ixS
    rw [show ((to : Int)).toNat = to by omega] at ixI
    have gT := y28a (k := k) (s := s) hlt
    rw [if_neg (Nat.lt_irrefl _)] at gT
    have lT := y2gh (α := Bool) (H := H) (id := id) (g := g) (i := k) (v := .bool (t.getD k false)) hi gT rfl
    have lS := y2gh (α := Bool) (H := H) (id := 4) (g := ga) (i := k) (v := .bool (s.getD k false)) h4 (by rw [List.getD_eq_getElem?_getD, List.getElem?_eq_getElem hlt2]; rfl) rfl
    have lI := ym4 (i := to) h1 hrow
    have ih0 := fun H => ih (k + 1) H (by omega)
    rw [ytv]
    cases hb : (t.getD k false && !s.getD k false) with
    | true =>
      rw [Bool.and_eq_true, Bool.not_eq_true'] at hb
      obtain ⟨b1, b2⟩ := hb
      have hidl := y4x hi
      have st := yib (α := Bool) (H := H) (id := id) (g := g) (i := k) (L := andK k t s) (v := .bool false) (y := false) hi (by rw [y21x]; exact hlt) rfl
      rw [y261 b1 b2] at st
      simp only [yis] at st
      have ls : yl8 (k + 1) t s = true := by rw [yom, b1, b2]; simp
      have := ih0 (H.set id (AL g (andK (k + 1) t s))) (by rw [y13 hid1]; exact h1) (y6q hidl) (by rw [y13 hid4]; exact h4)
      rw [List.set_set, ls] at this
      push_cast at this
      rw [b1] at lT
      rw [b2] at lS
      simp only [y1dl, yo, hc, decide_true, yb, y1cp, y1p, y1vc, ixT, lT, yc6, ixS, lS, y2h, Bool.not_false, y2b, ixI, lI, st, yy, y1co, y1f, hw, this]
    | false =>
      have ls : yl8 (k + 1) t s = yl8 k t s := by rw [yom, hb, Bool.or_false]
      have := ih0 H h1 (by rw [yrr hb]; exact hi) h4
      rw [ls] at this
      push_cast at this
      cases b1 : t.getD k false with
      | false =>
        rw [b1] at lT
        simp only [y1dl, yo, hc, decide_true, yb, y1cp, y1p, y1vc, ixT, lT, ykd, ymm, y35, y24, y1co, y1f, hw, this]
      | true =>
        rw [b1] at lT
        have b2 : s.getD k false = true := by
          rw [b1] at hb
          simpa using hb
        rw [b2] at lS
        simp only [y1dl, yo, hc, decide_true, yb, y1cp, y1p, y1vc, ixT, lT, yc6, ixS, lS, y2h, Bool.not_true, y2b, y24, y1co, y1f, hw, this]
theorem y2al {H : Heap} {fb j gw g2 : Nat} {work T : List Int} {to : Int} (h3 : H[3]? = some (AI gw (work ++ T))) (hl : H[fb + j]? = some (AI g2 [to])) (hb : work.length + 1 ≤ 137438953472) (sl : Option Nat) :
    y3t fb sl 1 8 (.ls 3 gw 1 0 work.length) (.ls (fb + j) g2 1 0 1) H = some (.ls 3 (gw + 1) 1 0 (work ++ [to]).length, H.set 3 (AI (gw + 1) (work ++ [to]))) :=
  y2il (α := Int) (M := [to]) (y2da (α := Int) (L := [to]) hl) h3 (y1lh (by simpa using hb))
theorem y2kx {f : Fn} {H : Heap} {ins : Tab} {P : Nat → Nat × Nat} (Rp : SRep f H ins P) {n R : Nat} (ok : TblOk n R ins) {s : List Bool} {work T : List Int} {gw ga : Nat} {to : Int} (hs : s.length = R) (hR : R ≤ 1000000) (h3 : H[3]? = some (AI gw (work ++ T))) (h4 : H[4]? = some (AL ga s)) (h6 : 6 ≤ H.length)
    (t0 : 0 ≤ to) (t1 : to < n) (hb : work.length + 1 ≤ 137438953472) :
    ∃ H' P' gw' T', y5 E (y7 E) 0 none false 80 [.ls 1 1 1 0 n, .int .i64 to, .ls 4 ga 1 0 R, .ls 3 gw 1 0 work.length] H = some (.ls 3 gw' 1 0 (yd8 s to (ins, work)).2.length, H') ∧
      SRep f H' (yd8 s to (ins, work)).1 P' ∧ H'[3]? = some (AI gw' ((yd8 s to (ins, work)).2 ++ T')) ∧ H'[4]? = some (AL ga s) ∧ H'[5]? = H[5]? ∧ 6 ≤ H'.length := by
  have R0 := Rp.more 5
  have g3 : (H ++ yk 5)[3]? = some (AI gw (work ++ T)) := by rw [y1b5 (by omega)]; exact h3
  have g4 : (H ++ yk 5)[4]? = some (AL ga s) := by rw [y1b5 (by omega)]; exact h4
  have g5 : (H ++ yk 5)[5]? = H[5]? := y1b5 (by omega)
  have ecall : y5 E (y7 E) 0 none false 80 [.ls 1 1 1 0 n, .int .i64 to, .ls 4 ga 1 0 R, .ls 3 gw 1 0 work.length] H =
      ymx H.length (.ls 1 1 1 0 n) (.int .i64 to) (.ls 4 ga 1 0 R) (.ls 3 gw 1 0 work.length) (H ++ yk 5) := by
    rw [y5, if_neg (by simp), y2sj, if_pos rfl]
    rfl
  rw [ecall]
  have hlen : (H ++ yk 5).length = H.length + 5 := by simp [yk]
  have d0 : (H ++ yk 5)[H.length + 0]? = some ⟨0, .dead⟩ := y2h4 (by omega)
  have d1 : (H ++ yk 5)[H.length + 1]? = some ⟨0, .dead⟩ := y2h4 (by omega)
  have d3 : (H ++ yk 5)[H.length + 3]? = some ⟨0, .dead⟩ := y2h4 (by omega)
  have dead : ∀ (i : Nat) u, ins[i]? = some (some u) → (P i).1 < H.length := fun i u hu => y4x (Rp.obj i u hu)
  generalize hH0 : H ++ yk 5 = H0 at *
  have ixI := yll (n := n) (p := to) t0 (by omega) 1 1 .i64
  have hlt : to.toNat < ins.length := by rw [ok.len]; omega
  obtain ⟨x, hx⟩ : ∃ x, ins[to.toNat]? = some x := ⟨_, List.getElem?_eq_getElem hlt⟩
  have hrow := y96 (P := P) hx
  cases x with
  | none =>
    have hm : yd8 s to (ins, work) = (ins.set to.toNat (some s), work ++ [to]) := by rw [yd8, hx]
    rw [hm]
    have lI := ym4 (i := to.toNat) R0.tab hrow
    have hE : y86 1 false .nils .nils = some (.bool true) := rfl
    have ha : yn (fz H0 y1t) [.ls 4 ga 1 0 R] = some ⟨[slA (some s)], true, [4]⟩ := by
      have hz := y2a8 (α := Bool) (k := 10) g4
      rw [hs] at hz
      have hz' : fz H0 y1t (.ls 4 ga 1 0 R) = some ⟨slA (some s), s.all scal, [4]⟩ := hz
      rw [yz, hz', y1b]
      simp
    have c1 := ysd (α := Bool) (E := E) (C := y7 E) (fb := H.length) (j := 0) (f := 78) (H := H0) (N := some s) rfl ha (y16x (some s) (by simp only [y63]; omega)) (by simp) d0
    simp only [ownV, ownO, yis, hs] at c1
    have st1 := y28r (H := H0.set (H.length + 0) (AL 1 s)) (id := 1) (g := 1) (i := to.toNat) (rows := y3b P ins) (v := .ls (H.length + 0) 1 1 0 R) (w := .nils) (by rw [y13 (by omega)]; exact R0.tab) hrow rfl rfl
    have hrows : (y3b P ins).set to.toNat [.ls (H.length + 0) 1 1 0 R] = y3b (fun j => if j = to.toNat then (H.length + 0, 1) else P j) (ins.set to.toNat (some s)) := by
      rw [← yd0 (P := P) (P' := fun j => if j = to.toNat then (H.length + 0, 1) else P j) (x := some s) hlt (fun j hj => by rw [if_neg hj])]
      simp only [yl9, if_true, hs]
    rw [hrows] at st1
    have b1 := y1jt (H := (H0.set (H.length + 0) (AL 1 s)).set 1 ⟨1, .arr false false 1 (y3b (fun j => if j = to.toNat then (H.length + 0, 1) else P j) (ins.set to.toNat (some s)))⟩) (fb := H.length) (j := 1) (o := ⟨0, .dead⟩) to (by
      rw [y13 (by omega), y13 (by omega)]; exact d1)
    have a1 := y2al (H := ((H0.set (H.length + 0) (AL 1 s)).set 1 ⟨1, .arr false false 1 (y3b (fun j => if j = to.toNat then (H.length + 0, 1) else P j) (ins.set to.toNat (some s)))⟩).set (H.length + 1) (AI 1 [to])) (fb := H.length) (j := 1) (gw := gw) (g2 := 1) (work := work) (T := T) (to := to)
      (by rw [y13 (by omega), y13 (by omega), y13 (by omega)]; exact g3) (y6q (by rw [List.length_set, List.length_set]; omega)) hb (some 2)
    simp only [Nat.zero_add] at b1
    refine ⟨(((H0.set (H.length + 0) (AL 1 s)).set 1 ⟨1, .arr false false 1 (y3b (fun j => if j = to.toNat then (H.length + 0, 1) else P j) (ins.set to.toNat (some s)))⟩).set (H.length + 1) (AI 1 [to])).set 3 (AI (gw + 1) (work ++ [to])), fun j => if j = to.toNat then (H.length + 0, 1) else P j, gw + 1, [], ?_, ?_, ?_, ?_, ?_, ?_⟩
    · simp only [ymx, ixI, yb, lI, hE, y1p, c1, yy, st1, b1, a1]
    · have nf : ∀ (i : Nat) u, (ins.set to.toNat (some s))[i]? = some (some u) → (i = to.toNat ∧ u = s) ∨ (i ≠ to.toNat ∧ ins[i]? = some (some u)) := fun i u hu => by
        rcases y84 hu with ⟨e, e2⟩ | h
        · injection e2 with e2; exact .inl ⟨e, e2⟩
        · exact .inr h
      refine ⟨?_, ?_, fun i u hu => ?_, fun i j u v hu hv hij => ?_, fun i u hu => ?_⟩
      · rw [y13 (by omega), y13 (by omega), y13 (by omega), y13 (by omega)]; exact R0.box
      · rw [y13 (by omega), y13 (by omega), y6q (by rw [List.length_set]; omega)]
      · rcases nf i u hu with ⟨e, e2⟩ | ⟨e, h⟩
        · subst e2
          rw [if_pos e, y13 (by omega), y13 (by omega), y13 (by omega), y6q (by omega)]
        · have h1 := Rp.far i u h
          have h2 := dead i u h
          rw [if_neg e, y13 (by omega), y13 (by omega), y13 (by omega), y13 (by omega)]
          exact R0.obj i u h
      · rcases nf i u hu with ⟨e, _⟩ | ⟨e, h⟩
        · rcases nf j v hv with ⟨e', _⟩ | ⟨e', h'⟩
          · omega
          · have := dead j v h'
            rw [if_pos e, if_neg e']; simp only; omega
        · rcases nf j v hv with ⟨e', _⟩ | ⟨e', h'⟩
          · have := dead i u h
            rw [if_neg e, if_pos e']; simp only; omega
          · rw [if_neg e, if_neg e']; exact Rp.inj i j u v h h' hij
      · rcases nf i u hu with ⟨e, _⟩ | ⟨e, h⟩
        · rw [if_pos e]; right; simp only; omega
        · rw [if_neg e]; exact Rp.far i u h
    · rw [y6q (by simp only [List.length_set]; omega), List.append_nil]
    · rw [y13 (by omega), y13 (by omega), y13 (by omega), y13 (by omega)]; exact g4
    · rw [y13 (by omega), y13 (by omega), y13 (by omega), y13 (by omega)]; exact g5
    · simp only [List.length_set]; omega
  | some t =>
    have ht := ok.rows _ _ hx
    have lI := ym4 (i := to.toNat) R0.tab hrow
    have hE : y86 1 false (.ls (P to.toNat).1 (P to.toNat).2 1 0 t.length) .nils = some (.bool false) := rfl
    have hfar := Rp.far _ _ hx
    have hobj := R0.obj _ _ hx
    have hid := dead _ _ hx
    have eto : ((to.toNat : Nat) : Int) = to := by omega
    have lp := y1yb H.length (.ls 3 gw 1 0 work.length) n to.toNat (by omega) (P to.toNat).1 (P to.toNat).2 ga t s (by omega) (by omega) (by omega) (by omega) (y3b P ins) hrow _ 0 H0 (Nat.zero_add _) R0.tab (by rw [y28v]; exact hobj) g4
    have lk0 : yl8 0 t s = false := rfl
    rw [lk0, eto, hs] at lp
    simp only [Int.ofNat_zero] at lp
    have e12 : ymx H.length (.ls 1 1 1 0 n) (.int .i64 to) (.ls 4 ga 1 0 R) (.ls 3 gw 1 0 work.length) H0 = y19z H.length (.int .i64 to) (.ls 3 gw 1 0 work.length) (.bool (yv8 t s)) (H0.set (P to.toNat).1 (AL (P to.toNat).2 (andB t s))) := by
      rw [← lp]
      simp only [ymx, ixI, yb, lI, hE, y24, y1iz, y2hu, yby]
    rw [e12]
    have hal : (andB t s).length = t.length := y18r (by omega)
    have RA : SRep f (H0.set (P to.toNat).1 (AL (P to.toNat).2 (andB t s))) (ins.set to.toNat (some (andB t s))) P := by
      refine ⟨by rw [y13 (by omega)]; exact R0.box, ?_, fun i u hu => ?_, fun i j u v hu hv hij => ?_, fun i u hu => ?_⟩
      · rw [y13 (by omega), R0.tab]
        congr 3
        rw [← yd0 (P := P) (P' := P) hlt (fun _ _ => rfl)]
        have : yl9 P to.toNat (some (andB t s)) = yl9 P to.toNat (some t) := by simp only [yl9, hal]
        rw [this, y179 hrow]
      · rcases y84 hu with ⟨e, e2⟩ | ⟨e, h⟩
        · injection e2 with e2; subst e2; subst e
          exact y6q (by omega)
        · rw [y13 (fun e3 => Rp.inj _ _ _ _ hx h (fun e4 => e e4.symm) e3)]
          exact R0.obj i u h
      · have key : ∀ (i : Nat) u, (ins.set to.toNat (some (andB t s)))[i]? = some (some u) → ∃ u', ins[i]? = some (some u') := fun i u hu => by
          rcases y84 hu with ⟨e, _⟩ | ⟨_, h⟩
          · subst e; exact ⟨t, hx⟩
          · exact ⟨u, h⟩
        obtain ⟨u', h1⟩ := key i u hu
        obtain ⟨v', h2⟩ := key j v hv
        exact Rp.inj i j u' v' h1 h2 hij
      · rcases y84 hu with ⟨e, _⟩ | ⟨_, h⟩
        · subst e; exact hfar
        · exact Rp.far i u h
    have k3 : (H0.set (P to.toNat).1 (AL (P to.toNat).2 (andB t s)))[3]? = some (AI gw (work ++ T)) := by rw [y13 (by omega)]; exact g3
    have k4 : (H0.set (P to.toNat).1 (AL (P to.toNat).2 (andB t s)))[4]? = some (AL ga s) := by rw [y13 (by omega)]; exact g4
    have k5 : (H0.set (P to.toNat).1 (AL (P to.toNat).2 (andB t s)))[5]? = H[5]? := by rw [y13 (by omega)]; exact g5
    cases hb2 : yv8 t s with
    | true =>
      have hm : yd8 s to (ins, work) = (ins.set to.toNat (some (andB t s)), work ++ [to]) := by rw [yd8, hx]; simp [hb2]
      rw [hm]
      have b1 := y1jt (H := H0.set (P to.toNat).1 (AL (P to.toNat).2 (andB t s))) (fb := H.length) (j := 3) (o := ⟨0, .dead⟩) to (by rw [y13 (by omega)]; exact d3)
      have a1 := y2al (H := (H0.set (P to.toNat).1 (AL (P to.toNat).2 (andB t s))).set (H.length + 3) (AI 1 [to])) (fb := H.length) (j := 3) (gw := gw) (g2 := 1) (work := work) (T := T) (to := to)
        (by rw [y13 (by omega)]; exact k3) (y6q (by rw [List.length_set]; omega)) hb (some 4)
      simp only [Nat.zero_add] at b1
      refine ⟨((H0.set (P to.toNat).1 (AL (P to.toNat).2 (andB t s))).set (H.length + 3) (AI 1 [to])).set 3 (AI (gw + 1) (work ++ [to])), P, gw + 1, [], ?_, ?_, ?_, ?_, ?_, ?_⟩
      · simp only [y19z, y1p, b1, yy, a1, y1gz]
      · refine (RA.beyond (a := H.length + 3) (by omega) (by omega) (fun i u hu => ?_)).other (.inl rfl)
        rcases y84 hu with ⟨e, _⟩ | ⟨_, h⟩
        · subst e; omega
        · have := dead i u h; omega
      · rw [y6q (by simp only [List.length_set]; omega), List.append_nil]
      · rw [y13 (by omega), y13 (by omega)]; exact k4
      · rw [y13 (by omega), y13 (by omega)]; exact k5
      · simp only [List.length_set]; omega
    | false =>
      have hm : yd8 s to (ins, work) = (ins, work) := by rw [yd8, hx]; simp [hb2]
      rw [hm]
      have eA : andB t s = t := by
        rw [← yzw (by omega : t.length = s.length)]
        have : ∀ k, k ≤ t.length → andK k t s = t := by
          intro k
          induction k with
          | zero => intro _; exact y28v t s
          | succ k ih =>
            intro hk
            rw [yrr, ih (by omega)]
            cases hc : (t.getD k false && !s.getD k false) with
            | false => rfl
            | true =>
              rw [Bool.and_eq_true, Bool.not_eq_true'] at hc
              have q1 : t[k]? = some true := by
                have := hc.1
                rw [List.getD_eq_getElem?_getD, List.getElem?_eq_getElem (by omega)] at this
                rw [List.getElem?_eq_getElem (by omega)]; simpa using this
              have q2 : s[k]? = some false := by
                have := hc.2
                rw [List.getD_eq_getElem?_getD, List.getElem?_eq_getElem (by omega)] at this
                rw [List.getElem?_eq_getElem (by omega)]; simpa using this
              have := yfg.2 ⟨k, q1, q2⟩
              rw [hb2] at this; cases this
        exact this _ (Nat.le_refl _)
      refine ⟨H0.set (P to.toNat).1 (AL (P to.toNat).2 (andB t s)), P, gw, T, ?_, ?_, k3, k4, k5, ?_⟩
      · simp only [y19z, y24, y1gz]
      · have : SRep f (H0.set (P to.toNat).1 (AL (P to.toNat).2 (andB t s))) ins P := by
          rw [eA, ybm hobj]; exact R0
        exact this
      · simp only [List.length_set]; omega
end Go.Vm
namespace Go.Vm
open Cel
attribute [local simp] y5 y26 yj
@[simp] theorem y2qw (x : Ins) : (y7 E).p 18 [.agg (enc x)] = some ⟨.bool (throws x.op), [], true, [], []⟩ := by
  rw [y2tq]
  rcases ydj x.op with h|h|h|h|h|h|h|h|h|h|h|h|h|h|h|h|h|h|h|h|h|h|h|h|h|h|h|h|h|h|h|h|h|h|h <;> first | (simp [h, throws, calls, y1ri]; done) | (simp [lo_f h, throws, calls, y1ri]; done) | simp [hi_f h, throws, calls, y1ri]
end Go.Vm
namespace Go.Vm
open Cel
attribute [local simp] y5 y26 yj
theorem ysj (a b : Int) : (y7 E).p 46 [.rs 1 [[.int .i64 a]], .int .i64 b] = some ⟨.bool ([a].contains b), [], true, [], []⟩ := by
  have := ybq (some [a]) b (by simp)
  exact this
theorem y2ku (f : Fn) (i : Int) (hl : (lst f.code).length ≤ 9223372036854775807) : (y7 E).p 81 [.agg (enc f), .int .i64 i] = some (exO (nz (y3j f i))) := by
  rw [y2ti]
  by_cases h0 : i < 0
  · simp [ylf, ylm, yld, y1f2, y1gg, y1gh, y19x, h0, y3j, nz]; rfl
  by_cases h1 : ((lst f.code).length : Int) ≤ i
  · simp [ylf, ylm, yld, y1f2, y1gg, y1gh, y19x, h0, h1, y3j, nz]; rfl
  have g0 : 0 ≤ i := by omega
  have hx := y61 (f := f) (i := i.toNat) (by omega)
  have k1 := y8e (o := f.code) g0 hx .i64
  have hw := y1mo g0 (by omega) hl
  have hn : y3j f i = yda (yt f i.toNat) i := by rw [y3j, if_neg (by omega)]
  rw [hn]
  generalize yt f i.toNat = x at *
  have e : y19x (.agg (enc f)) (.int .i64 i) [⟨0, .dead⟩, ⟨0, .dead⟩, ⟨0, .dead⟩, ⟨0, .dead⟩, ⟨0, .dead⟩, ⟨0, .dead⟩] = yld (.int .i64 i) (.lp 1 1 0 0) .nils [⟨1, .arr true false 5 [enc f]⟩, ⟨1, .arr true false 9 [enc x]⟩, ⟨0, .dead⟩, ⟨0, .dead⟩, ⟨0, .dead⟩, ⟨0, .dead⟩] := by
    simp [y19x, y1gh, y1gg, y1f2, h0, h1, k1]
  rw [e, yda]
  cases he : ends x.op with
  | true =>
    cases hd : leads x.op with
    | false => simp [yld, ylm, ylf, he, hd, nz]; rfl
    | true =>
      have := ybq none x.t (by simp)
      simp [yld, ylm, ylf, he, hd, nz, slA] at this ⊢
      simp [this, yx, y18, y3t, addN]
      exact yfn (by simp)
  | false =>
    cases hd : leads x.op with
    | false =>
      simp [yld, ylm, ylf, he, hd, hw, yx, y18, y3t]
      exact yfn (by simp)
    | true =>
      have hz : fz [⟨1, .arr true false 5 [enc f]⟩, ⟨1, .arr true false 9 [enc x]⟩, ⟨1, .arr false false 1 [[.int .i64 (i + 1)]]⟩, ⟨1, .arr false false 1 [[.int .i64 (i + 1)]]⟩, ⟨0, .dead⟩, ⟨0, .dead⟩] y1t (.ls 3 1 1 0 1) = some ⟨.rs 1 [[.int .i64 (i + 1)]], true, [3]⟩ := by
        rw [y21q]; rfl
      generalize hxt : x.t = t at *
      by_cases hc : i + 1 = t
      · subst hc
        simp [yld, ylm, ylf, he, hd, hw, yx, y18, y3t, hz, ysj, addN, hxt]
        exact yfn (by simp)
      · have hc' : ¬ t = i + 1 := fun h => hc h.symm
        simp [yld, ylm, ylf, he, hd, hw, yx, y18, y3t, hz, ysj, hc, hc', addN, hxt]
        exact y1cy (by simp)
theorem ywl (f : Fn) (i : Int) (hl : (lst f.rows).length ≤ 10000000000000) : ∀ (d k g : Nat) (L : List Int) (o1 o2 : AO), k + d = (lst f.rows).length → L.length ≤ k →
    yqq (.int .i64 i) (y3s Int 3 g L) (slA f.rows) (.int .i64 (lst f.rows).length) (.int .i64 k) [⟨1, .arr true false 5 [enc f]⟩, o1, o2, y48 g D0 L] = some (exO (nz (y4k i ((lst f.rows).drop k) L))) := by
  intro d
  induction d with
  | zero =>
    intro k g L o1 o2 hk _
    have e1 : (lst f.rows).drop k = [] := List.drop_eq_nil_of_le (by omega)
    have hn : ¬ ((k : Int) < ((lst f.rows).length : Int)) := by omega
    have hx := ycz (H := [⟨1, .arr true false 5 [enc f]⟩, o1, o2, y48 g D0 L]) (j := 3) (g := g) (o := D0) (L := L) rfl
    rw [ytr, e1]
    simp [yrc, yzf, y1w3, hn, y4k, hx]
  | succ d ih =>
    intro k g L o1 o2 hk hL
    have hlt : k < (lst f.rows).length := by omega
    have hc : ((k : Int) < ((lst f.rows).length : Int)) := by omega
    have k1 := yfo (o := f.rows) (i := k) (List.getElem?_eq_getElem hlt) .i64
    rw [ytr, List.drop_eq_getElem_cons hlt]
    generalize hr : (lst f.rows)[k] = r at *
    have ih0 := fun g L o1 o2 hL => ih (k + 1) g L o1 o2 (by omega) hL
    push_cast at ih0
    have hw := y17 hlt (by omega)
    have e11 : yrc (.int .i64 i) (y3s Int 3 g L) (slA f.rows) (.int .i64 (lst f.rows).length) (.int .i64 k) [⟨1, .arr true false 5 [enc f]⟩, o1, o2, y48 g D0 L] =
        yx4 (.int .i64 i) (y3s Int 3 g L) (.lp 1 (o1.gen + 1) 0 0) (slA f.rows) (.int .i64 (lst f.rows).length) (.int .i64 k) [⟨1, .arr true false 5 [enc f]⟩, ⟨o1.gen + 1, .arr true false 4 [enc r]⟩, o2, y48 g D0 L] := by
      simp [yrc, yzf, y2f0, hc, k1]
    rw [e11]
    generalize (o1.gen + 1) = g1
    by_cases h1 : i < r.f
    · have : ¬ (r.f ≤ i ∧ i < r.t) := by omega
      simp [yx4, y1bx, h1, hw, y4k, this, ih0 g L _ _ (by omega)]
    by_cases h2 : r.t ≤ i
    · have : ¬ (r.f ≤ i ∧ i < r.t) := by omega
      simp [yx4, y1bx, h1, h2, hw, y4k, this, ih0 g L _ _ (by omega)]
    have hin : r.f ≤ i ∧ i < r.t := by omega
    rw [y4k, if_pos hin]
    have hz : ∀ o2, fz [⟨1, .arr true false 5 [enc f]⟩, ⟨g1, .arr true false 4 [enc r]⟩, o2, y48 g D0 L] y1t (y3s Int 3 g L) = some ⟨slA (nz L), true, ids1 (y3s Int 3 g L)⟩ := fun o2 => y26r rfl
    have hct := ybq (nz L) r.at_ (by rw [yek]; omega)
    rw [yek] at hct
    have tail : ∀ g L o2, L.length ≤ k + 1 → y1a4 (.int .i64 i) (y3s Int 3 g L) (.lp 1 g1 0 0) (slA f.rows) (.int .i64 (lst f.rows).length) (.int .i64 k) [⟨1, .arr true false 5 [enc f]⟩, ⟨g1, .arr true false 4 [enc r]⟩, o2, y48 g D0 L] =
        some (exO (nz (if r.c = [] then L else y4k i ((lst f.rows).drop (k + 1)) L))) := by
      intro g L o2 hL
      have hx := ycz (H := [⟨1, .arr true false 5 [enc f]⟩, ⟨g1, .arr true false 4 [enc r]⟩, o2, y48 g D0 L]) (j := 3) (g := g) (o := D0) (L := L) rfl
      by_cases hcl : r.c = []
      · simp [y1a4, y1w3, hcl, hx]
      · simp [y1a4, y1bx, hcl, hw, ih0 g L _ _ hL]
    unfold addN
    cases hb : L.contains r.at_ with
    | true =>
      rw [hb] at hct
      rw [if_pos rfl]
      have := tail g L o2 (by omega)
      simp [yx4, y24v, h1, h2, hz, hct, this]
    | false =>
      rw [hb] at hct
      rw [if_neg Bool.false_ne_true]
      obtain ⟨g', ha⟩ := y1pk (H := [⟨1, .arr true false 5 [enc f]⟩, ⟨g1, .arr true false 4 [enc r]⟩, ⟨o2.gen + 1, .arr false false 1 [[.int .i64 r.at_]]⟩, y48 g D0 L]) (fb := 0) (j := 3) (g := g) (o := D0) (y := .ls 2 (o2.gen + 1) 1 0 1) (L := L) (n := r.at_) (by simp) rfl (by omega)
      have ha' : y3t 0 (some 3) 1 8 (y3s Int 3 g L) (.ls 2 (o2.gen + 1) 1 0 1) [⟨1, .arr true false 5 [enc f]⟩, ⟨g1, .arr true false 4 [enc r]⟩, ⟨o2.gen + 1, .arr false false 1 [[.int .i64 r.at_]]⟩, y48 g D0 L] = some (y3s Int 3 g' (L ++ [r.at_]), [⟨1, .arr true false 5 [enc f]⟩, ⟨g1, .arr true false 4 [enc r]⟩, ⟨o2.gen + 1, .arr false false 1 [[.int .i64 r.at_]]⟩, y48 g' D0 (L ++ [r.at_])]) := ha
      have := tail g' (L ++ [r.at_]) ⟨o2.gen + 1, .arr false false 1 [[.int .i64 r.at_]]⟩ (by simp; omega)
      simp [yx4, y24v, h1, h2, hz, hct, yx, y18, ha', this]
theorem y24d (f : Fn) (i : Int) (hl : (lst f.rows).length ≤ 10000000000000) : (y7 E).p 79 [.agg (enc f), .int .i64 i] = some (exO (nz (y19 f i))) := by
  rw [y2rt]
  by_cases h0 : i < 0
  · simp [yny, ynl, h0, y19, nz]; rfl
  by_cases h1 : ((lst f.code).length : Int) ≤ i
  · simp [yny, ynl, h0, h1, y19, nz]; rfl
  have g0 : 0 ≤ i := by omega
  have hx := y61 (f := f) (i := i.toNat) (by omega)
  have k1 := y8e (o := f.code) g0 hx .i64
  have hn : y19 f i = if throws (yt f i.toNat).op then y4k i (lst f.rows) [] else [] := by rw [y19, if_neg (by omega)]
  rw [hn]
  generalize yt f i.toNat = x at *
  have lp := ywl f i hl _ 0 0 [] D0 D0 (Nat.zero_add _) (Nat.zero_le _)
  simp only [yrv, yue, List.drop_zero, Int.ofNat_zero] at lp
  cases ht : throws x.op with
  | false => simp [yny, ynl, h0, h1, k1, ht, nz]; rfl
  | true => simp [yny, ynl, y1ds, y1m6, h0, h1, k1, ht, lp]
end Go.Vm
namespace Go.Vm
open Cel
attribute [local simp] y5 y26 yj
theorem y2ol (x : Ins) (h : x.op = 4 ∨ x.op = 6 ∨ x.op = 7 ∨ x.op = 8 ∨ x.op = 10 ∨ x.op = 12 ∨ x.op = 15 ∨ x.op = 16 ∨ x.op = 19 ∨ x.op = 21 ∨ x.op = 22 ∨ x.op = 31) : (y7 E).p 10 [.agg (enc x)] = some (exO (uses x)) := by
  rw [ywd]
  rcases h with h|h|h|h|h|h|h|h|h|h|h|h <;> (simp [h, uses, calls, reads, yd5, ydy, ye3, ydv, yef, yas, yeb, yf6, yeo, y4r, y73, y37, y7a, y71, y6z, yx, y18]; exact y33 (α := Int) (L := [x.a]) (by simp))
theorem y2pu (x : Ins) (h : x.op = 5 ∨ x.op = 9 ∨ x.op = 11 ∨ x.op = 13 ∨ x.op = 17 ∨ x.op = 28) : (y7 E).p 10 [.agg (enc x)] = some (exO (uses x)) := by
  rw [ywd]
  rcases h with h|h|h|h|h|h <;> (simp [h, uses, calls, reads, yd5, ydy, ye3, ydv, yef, yas, yeb, yf6, yeo, y4r, y73, y37, y7a, y71, y6z, yx, y18]; exact y33 (α := Int) (L := [x.a, x.b]) (by simp))
theorem y2jr (x : Ins) (h : x.op = 14) : (y7 E).p 10 [.agg (enc x)] = some (exO (uses x)) := by
  rw [ywd]
  simp [h, uses, calls, reads, yd5, ydy, ye3, ydv, yef, yas, yeb, yf6, yeo, y4r, y73, y37, y7a, y71, y6z, yx, y18]
  exact y33 (α := Int) (L := [x.a, x.b, x.c]) (by simp)
theorem y2k2 (x : Ins) (h : x.op = 23 ∨ x.op = 24 ∨ x.op = 25 ∨ x.op = 26) (hl : (lst x.args).length ≤ 17592186043904) : (y7 E).p 10 [.agg (enc x)] = some (exO (uses x)) := by
  rw [ywd]
  have e : uses x = x.args := by rcases h with h|h|h|h <;> simp [h, uses, calls]
  rw [e]
  have hc := y8y x.args hl
  cases ha : x.args with
  | none =>
    rw [ha] at hc
    rcases h with h|h|h|h <;> (simp [h, yd5, ydy, ye3, ydv, yef, yas, yeb, yf6, yeo, y4r, y73, y37, y7a, y71, y6z, ha, hc, exO, y28, reloc, y8w, y2d]; done)
  | some L =>
    rw [ha] at hc
    rcases h with h|h|h|h <;> (simp [h, yd5, ydy, ye3, ydv, yef, yas, yeb, yf6, yeo, y4r, y73, y37, y7a, y71, y6z, ha, hc, y28, y5q, okOC, reloc, y8w, y2d, exO]; exact y33 (α := Int) (L := L) (by simp))
theorem y2nu (x : Ins) (h : x.op = 29) : (y7 E).p 10 [.agg (enc x)] = some (exO (uses x)) := by
  rw [ywd]
  by_cases hb : x.b < 0
  · simp [hb, h, uses, calls, reads, yd5, ydy, ye3, ydv, yef, yas, yeb, yf6, yeo, y4r, y73, y37, y7a, y71, y6z, yx, y18]
    exact y33 (α := Int) (L := [x.a]) (by simp)
  · simp [hb, h, uses, calls, reads, yd5, ydy, ye3, ydv, yef, yas, yeb, yf6, yeo, y4r, y73, y37, y7a, y71, y6z, yx, y18]
    exact y33 (α := Int) (L := [x.a, x.b]) (by simp)
theorem y2m6 (x : Ins) (h : x.op = 30) : (y7 E).p 10 [.agg (enc x)] = some (exO (uses x)) := by
  rw [ywd]
  by_cases hb : 0 ≤ x.a
  · simp [hb, h, uses, calls, reads, yd5, ydy, ye3, ydv, yef, yas, yeb, yf6, yeo, y4r, y73, y37, y7a, y71, y6z, yx, y18]
    exact y33 (α := Int) (L := [x.a]) (by simp)
  · simp [hb, h, uses, calls, reads, yd5, ydy, ye3, ydv, yef, yas, yeb, yf6, yeo, y4r, y73, y37, y7a, y71, y6z, yx, y18, exO]
theorem y2kh (x : Ins) (h : x.op = 1 ∨ x.op = 2 ∨ x.op = 3 ∨ x.op = 18 ∨ x.op = 20 ∨ x.op = 27 ∨ x.op = 32 ∨ x.op = 33 ∨ x.op < 1 ∨ 33 < x.op) : (y7 E).p 10 [.agg (enc x)] = some (exO (uses x)) := by
  rw [ywd]
  rcases h with h|h|h|h|h|h|h|h|h|h
  all_goals first | (simp [h, uses, calls, reads, yd5, ydy, ye3, ydv, yef, yas, yeb, yf6, yeo, y4r, y73, y37, y7a, y71, y6z, exO]; done) | (simp [lo_f h, uses, calls, reads, yd5, ydy, ye3, ydv, yef, yas, yeb, yf6, yeo, y4r, y73, y37, y7a, y71, y6z, exO]; done) | simp [hi_f h, uses, calls, reads, yd5, ydy, ye3, ydv, yef, yas, yeb, yf6, yeo, y4r, y73, y37, y7a, y71, y6z, exO]
theorem y2mw (x : Ins) (hl : (lst x.args).length ≤ 17592186043904) : (y7 E).p 10 [.agg (enc x)] = some (exO (uses x)) := by
  by_cases h1 : x.op = 4 ∨ x.op = 6 ∨ x.op = 7 ∨ x.op = 8 ∨ x.op = 10 ∨ x.op = 12 ∨ x.op = 15 ∨ x.op = 16 ∨ x.op = 19 ∨ x.op = 21 ∨ x.op = 22 ∨ x.op = 31
  · exact y2ol x h1
  by_cases h2 : x.op = 5 ∨ x.op = 9 ∨ x.op = 11 ∨ x.op = 13 ∨ x.op = 17 ∨ x.op = 28
  · exact y2pu x h2
  by_cases h4 : x.op = 23 ∨ x.op = 24 ∨ x.op = 25 ∨ x.op = 26
  · exact y2k2 x h4 hl
  by_cases h5 : x.op = 29
  · exact y2nu x h5
  by_cases h6 : x.op = 30
  · exact y2m6 x h6
  by_cases h3 : x.op = 14
  · exact y2jr x h3
  exact y2kh x (by omega)
end Go.Vm
namespace Go.Vm
open Cel
theorem ym0 {f : Fn} {n R ga : Nat} {s : List Bool} (hs : s.length = R) (hR : R ≤ 1000000) {l : List Int} (hl : ∀ to ∈ l, 0 ≤ to ∧ to < (n : Int)) (G : AV → Nat → Heap → Option (Ex AV))
    (step : ∀ w k to H, l[k]? = some to → G w k H = oh (y5 E (y7 E) 0 none false 80 [.ls 1 1 1 0 n, .int .i64 to, .ls 4 ga 1 0 R, w] H) fun w' H' => G w' (k + 1) H') :
    ∀ (d k : Nat) (H : Heap) (ins : Tab) (work T : List Int) (P : Nat → Nat × Nat) (gw : Nat), k + d = l.length → SRep f H ins P → TblOk n R ins → H[3]? = some (AI gw (work ++ T)) → H[4]? = some (AL ga s) → 6 ≤ H.length → 2 * pot R ins + work.length ≤ 137438953471 →
    ∃ H' P' gw' T', G (.ls 3 gw 1 0 work.length) k H = G (.ls 3 gw' 1 0 (y3z s (l.drop k) (ins, work)).2.length) l.length H' ∧ SRep f H' (y3z s (l.drop k) (ins, work)).1 P' ∧ H'[3]? = some (AI gw' ((y3z s (l.drop k) (ins, work)).2 ++ T')) ∧
      H'[4]? = some (AL ga s) ∧ 6 ≤ H'.length := by
  intro d
  induction d with
  | zero =>
    intro k H ins work T P gw hk Rp ok h3 h4 h6 hb
    have e : l.drop k = [] := List.drop_eq_nil_of_le (by omega)
    have hk' : k = l.length := by omega
    rw [e, hk']
    exact ⟨H, P, gw, T, rfl, Rp, h3, h4, h6⟩
  | succ d ih =>
    intro k H ins work T P gw hk Rp ok h3 h4 h6 hb
    have hlt : k < l.length := by omega
    have hto := hl _ (List.getElem_mem hlt)
    rw [List.drop_eq_getElem_cons hlt, y3z]
    have st := step (.ls 3 gw 1 0 work.length) k _ H (List.getElem?_eq_getElem hlt)
    generalize l[k] = to at *
    obtain ⟨H1, P1, g1, T1, e1, R1, a3, a4, a5, a6⟩ := y2kx Rp ok hs hR h3 h4 h6 hto.1 hto.2 (by omega)
    obtain ⟨m1, _⟩ := ym9 (n := n) (R := R) (s := s) (to := to) (p := (ins, work)) ok hs hto.1 hto.2
    rw [e1, yy] at st
    have mp := m1.pot
    have mo := m1.ok
    generalize yd8 s to (ins, work) = q at *
    obtain ⟨q1, q2⟩ := q
    simp only at *
    obtain ⟨H2, P2, g2, T2, e2, r2⟩ := ih (k + 1) H1 q1 q2 T1 P1 g1 (by omega) R1 mo a3 a4 a6 (by omega)
    exact ⟨H2, P2, g2, T2, by rw [st, e2], r2⟩
theorem y28y {f : Fn} {H : Heap} (h : H[0]? = some (AB f)) : evLd true 5 (.lp 0 1 0 0) H = some (.agg (enc f)) := by
  have hr : ym H 0 1 = some (false, 5, [enc f]) := by simp [ym, y3m, h]
  simp [y31, hr]
theorem yv9 {f : Fn} {H : Heap} (h : H[0]? = some (AB f)) : evLd false 1 (.lp 0 1 0 3) H = some (slA f.code) := by
  have hr : ym H 0 1 = some (false, 5, [enc f]) := by simp [ym, y3m, h]
  simp [y31, hr]
theorem y2k6 (f : Fn) (i : Int) (H : Heap) : yn (fz H y1t) [.agg (enc f), .int .i64 i] = some ⟨[.agg (enc f), .int .i64 i], scal f && (true && true), []⟩ := by
  rw [yz, yz, yb1, y2fe, y1b]; rfl
theorem fz_x (x : Ins) (H : Heap) : yn (fz H y1t) [.agg (enc x)] = some ⟨[.agg (enc x)], scal x && true, []⟩ := by
  rw [yz, yb1, y1b]; rfl
section
variable {f : Fn} (w : Wf f) (hr : (lst f.rows).length ≤ 10000000000000)
include w hr
theorem y224 : ∀ (k : Nat) (H : Heap) (ins : Tab) (work T : List Int) (P : Nat → Nat × Nat) (gw : Nat) (r : Tab), SInv f ins work → SRep f H ins P → H[3]? = some (AI gw (work ++ T)) → 6 ≤ H.length → 2 * pot (lst f.regs).length ins + work.length ≤ 137438953471 → yjv f k ins work = some r →
    ∃ H' P', ygg (.lp 0 1 0 0) (.ls 1 1 1 0 (lst f.code).length) (.ls 3 gw 1 0 work.length) H = yrt (.lp 0 1 0 0) (.ls 1 1 1 0 (lst f.code).length) H' ∧ SRep f H' r P' ∧ 6 ≤ H'.length := by
  have hn := w.n2
  have hR := w.regs
  intro k
  induction k with
  | zero => intro H ins work T P gw r _ _ _ _ _ h; cases h
  | succ k ih =>
    intro H ins work T P gw r I Rp h3 h6 hb h
    rw [yjv] at h
    rw [y1d9]
    cases hop : work.getLast? with
    | none =>
      rw [hop] at h
      injection h with h
      subst h
      rw [List.getLast?_eq_none_iff] at hop
      subst hop
      refine ⟨H, P, ?_, Rp, h6⟩
      simp only [yrf, List.length_nil, yby, yb, y4t, show ¬ (0 : Int) < ((0 : Nat) : Int) by omega, decide_false, y24]
    | some i =>
      rw [hop] at h
      simp only at h
      have Is := I.step w hop
      have e := y65 hop
      obtain ⟨i0, i1, s, hs⟩ := I.wk i (by rw [e]; simp)
      have hts : yeh ins i.toNat = s := by simp [yeh, hs]
      rw [hts] at h Is
      obtain ⟨Is1, Is2⟩ := Is
      have hsl := I.ok.rows _ _ hs
      have ei : ((i.toNat : Nat) : Int) = i := by omega
      generalize work.dropLast = L at *
      subst e
      have q1 : ((L ++ [i]).length : Int) = (L.length : Int) + 1 := by simp
      have q2 : (L ++ [i]).length = L.length + 1 := by simp
      rw [q2] at hb Is2
      have hp : (0 : Int) < (L.length : Int) + 1 := by omega
      have hw : IntKind.wrap .i64 ((L.length : Int) + 1 - 1) = (L.length : Int) := by rw [y2v] <;> omega
      have s1 := y2jt 3 gw L.length
      have s2 := y2fv 3 gw L.length
      have s3 : evLd false 1 (.lp 3 gw L.length 0) H = some (.int .i64 i) := y2k0 (T := T) (by simp [ym, y3m, h3])
      have e40 : yrf (.lp 0 1 0 0) (.ls 1 1 1 0 (lst f.code).length) (.ls 3 gw 1 0 (L ++ [i]).length) H = y15j (.lp 0 1 0 0) (.ls 1 1 1 0 (lst f.code).length) (.ls 3 gw 1 0 L.length) (.int .i64 i) H := by
        rw [yrf, yby, yb, q1, y4t, yb, decide_eq_true hp, y1p, y1ko, yby, yb, q1, yf0, yb, hw, q2, s1, yb, s3, yb, y1g0, yby, yb, ← q2, q1, yf0, yb, hw, q2, s2, yb]
      rw [e40]
      -- the copy
      obtain ⟨o4, d4⟩ : ∃ o, H[0 + 4]? = some o := ⟨_, List.getElem?_eq_getElem (by omega)⟩
      have ixI := yll (n := (lst f.code).length) i0 i1 1 1 .i64
      have lI := ym4 Rp.tab (y96 (P := P) hs)
      have hz : fz H y1t (.ls (P i.toNat).1 (P i.toNat).2 1 0 s.length) = some ⟨slA (some s), s.all scal, [(P i.toNat).1]⟩ := y2a8 (α := Bool) (k := 10) (Rp.obj _ _ hs)
      have ha : yn (fz H y1t) [.ls (P i.toNat).1 (P i.toNat).2 1 0 s.length] = some ⟨[slA (some s)], s.all scal && true, [(P i.toNat).1]⟩ := by
        rw [yz, hz, y1b]; rfl
      have c1 := ysd (α := Bool) (E := E) (C := y7 E) (fb := 0) (j := 4) (f := 78) (H := H) (N := some s) rfl ha (y16x (some s) (by simp only [y63]; omega)) (by simp) d4
      simp only [ownV, ownO, yis, Nat.zero_add] at c1
      have R1 := Rp.other (a := 4) (x := AL (o4.gen + 1) s) (.inr (.inl rfl))
      have k3 : (H.set 4 (AL (o4.gen + 1) s))[3]? = some (AI gw (L ++ (i :: T))) := by rw [y13 (by omega), h3, List.append_assoc]; rfl
      have k4 : (H.set 4 (AL (o4.gen + 1) s))[4]? = some (AL (o4.gen + 1) s) := y6q (by omega)
      have k6 : 6 ≤ (H.set 4 (AL (o4.gen + 1) s)).length := by rw [List.length_set]; exact h6
      generalize H.set 4 (AL (o4.gen + 1) s) = H1 at *
      generalize o4.gen + 1 = ga at *
      -- where a fault leads
      have cC : ∀ H, y5 E (y7 E) 0 none true 79 [.agg (enc f), .int .i64 i] H = some (slA (nz (y19 f i)), H) := fun H => y1a rfl (y2k6 f i H) rfl (y24d f i (by omega)) ⟨_, yu3 _, rfl⟩
      have cN : ∀ H, y5 E (y7 E) 0 none true 81 [.agg (enc f), .int .i64 i] H = some (slA (nz (y3j f i)), H) := fun H => y1a rfl (y2k6 f i H) rfl (y2ku f i (by omega)) ⟨_, yu3 _, rfl⟩
      have cD : ∀ H, y5 E (y7 E) 0 none true 9 [.agg (enc (yt f i.toNat))] H = some (.int .i64 (defr (yt f i.toNat)), H) := fun H => y1a rfl (fz_x _ H) rfl (y2m4 _) ⟨_, rfl, rfl⟩
      obtain ⟨m1, _⟩ := ybo (n := (lst f.code).length) hsl (y19 f i) (ins, L) I.ok (fun to h => w.caught h)
      have lC := w.caught_len i
      have lN := y1u9 f i
      obtain ⟨H2, P2, g2, T2, e2, R2, n3, n4, n6⟩ := ym0 (f := f) (ga := ga) hsl (by omega) (l := y19 f i) (fun to h => w.caught h)
        (fun v k H => yfp (.lp 0 1 0 0) (.ls 1 1 1 0 (lst f.code).length) v (.int .i64 i) (.ls 4 ga 1 0 (lst f.regs).length) (slA (nz (y19 f i))) (.int .i64 (y19 f i).length) (.int .i64 k) H)
        (fun v k to H hk => by
          have hlt := (List.getElem?_eq_some_iff.1 hk).1
          have hc : ((k : Int) < ((y19 f i).length : Int)) := by omega
          have hw2 := y17 hlt (by omega)
          have kx := y3e (o := nz (y19 f i)) (i := k) (by rw [yek]; exact hk) .i64
          have lx : evLd false 1 (.rp [.int .i64 to]) H = some (.int .i64 to) := by simp
          rw [ylz]
          simp only [y13w, yo, yb, hc, decide_true, yyr, y1p, y1pj, kx, lx, y1et, y1f, hw2]
          rfl)
        _ 0 H1 ins L (i :: T) P gw (Nat.zero_add _) R1 I.ok k3 k4 k6 (by omega)
      rw [List.drop_zero] at e2 R2 n3
      simp only [Int.ofNat_zero] at e2
      have mp := m1.pot
      have mo := m1.ok
      simp only at mp
      generalize y3z s (y19 f i) (ins, L) = p1 at *
      obtain ⟨ins1, w1⟩ := p1
      simp only at h Is1 Is2 e2 R2 n3 mp mo
      -- what is written
      have hlt : i.toNat < (lst f.code).length := by omega
      have k9 := y8e (o := f.code) i0 (y61 hlt) .i64
      have lx : ∀ t : Heap, evLd true 9 (.rp (enc (yt f i.toNat))) t = some (.agg (enc (yt f i.toNat))) := fun t => by simp
      have e27 : yme (.lp 0 1 0 0) (.ls 1 1 1 0 (lst f.code).length) (.ls 3 g2 1 0 w1.length) (.int .i64 i) (.ls 4 ga 1 0 (lst f.regs).length) H2 =
          ym8 (.lp 0 1 0 0) (.ls 1 1 1 0 (lst f.code).length) (.ls 3 g2 1 0 w1.length) (.int .i64 i) (.ls 4 ga 1 0 (lst f.regs).length) (H2.set 4 (AL ga (y38 (defr (yt f i.toNat)) s))) := by
        by_cases hd : 0 ≤ defr (yt f i.toNat)
        · have hd2 := w.def hlt hd
          have ixD := yll (n := (lst f.regs).length) hd hd2 4 ga .i64
          have st := yib (α := Bool) (H := H2) (id := 4) (g := ga) (i := (defr (yt f i.toNat)).toNat) (L := s) (v := .bool true) (y := true) n4 (by omega) rfl
          simp only [yis] at st
          simp only [yme, y1c, Nat.zero_add, yb, yv9 R2.box, k9, lx, cD, yy, y7s, hd, decide_true, y1p, ixD, st, y38, if_true]
        · simp only [yme, y1c, Nat.zero_add, yb, yv9 R2.box, k9, lx, cD, yy, y7s, hd, decide_false, y24, y38, if_false, ybm n4]
      have R3 := R2.other (a := 4) (x := AL ga (y38 (defr (yt f i.toNat)) s)) (.inr (.inl rfl))
      have x3 : (H2.set 4 (AL ga (y38 (defr (yt f i.toNat)) s)))[3]? = some (AI g2 (w1 ++ T2)) := by rw [y13 (by omega)]; exact n3
      have x4 : (H2.set 4 (AL ga (y38 (defr (yt f i.toNat)) s)))[4]? = some (AL ga (y38 (defr (yt f i.toNat)) s)) := y6q (by omega)
      have x6 : 6 ≤ (H2.set 4 (AL ga (y38 (defr (yt f i.toNat)) s))).length := by rw [List.length_set]; exact n6
      have hwl : (y38 (defr (yt f i.toNat)) s).length = (lst f.regs).length := by rw [yni]; exact hsl
      generalize H2.set 4 (AL ga (y38 (defr (yt f i.toNat)) s)) = H3 at *
      generalize y38 (defr (yt f i.toNat)) s = s' at *
      have hNr : ∀ to ∈ y3j f i, 0 ≤ to ∧ to < ((lst f.code).length : Int) := fun to h => by
        rw [← ei] at h
        exact w.next hlt h
      obtain ⟨H4, P4, g4, T4, e4, R4, y3, y4, y6⟩ := ym0 (f := f) (ga := ga) hwl (by omega) (l := y3j f i) hNr
        (fun v k H => ycy (.lp 0 1 0 0) (.ls 1 1 1 0 (lst f.code).length) v (.ls 4 ga 1 0 (lst f.regs).length) (slA (nz (y3j f i))) (.int .i64 (y3j f i).length) (.int .i64 k) H)
        (fun v k to H hk => by
          have hlt := (List.getElem?_eq_some_iff.1 hk).1
          have hc : ((k : Int) < ((y3j f i).length : Int)) := by omega
          have hw2 := y17 hlt (by omega)
          have kx := y3e (o := nz (y3j f i)) (i := k) (by rw [yek]; exact hk) .i64
          have lx : evLd false 1 (.rp [.int .i64 to]) H = some (.int .i64 to) := by simp
          rw [ynr]
          simp only [y14p, yo, yb, hc, decide_true, y142, y1p, y1ru, kx, lx, y1id, y1f, hw2]
          rfl)
        _ 0 H3 ins1 w1 T2 P2 g2 (Nat.zero_add _) R3 mo x3 x4 x6 (by omega)
      rw [List.drop_zero] at e4 R4 y3
      simp only [Int.ofNat_zero] at e4
      generalize y3z s' (y3j f i) (ins1, w1) = p2 at *
      obtain ⟨ins2, w2⟩ := p2
      simp only at h Is1 Is2 e4 R4 y3
      obtain ⟨H5, P5, e5, R5, z6⟩ := ih H4 ins2 w2 T4 P4 g4 r Is1 R4 y3 y6 (by omega) h
      refine ⟨H5, P5, ?_, R5, z6⟩
      rw [← e5]
      have hc1 : ¬ (((y19 f i).length : Int) < ((y19 f i).length : Int)) := by omega
      have hc2 : ¬ (((y3j f i).length : Int) < ((y3j f i).length : Int)) := by omega
      have f2 : yfp (.lp 0 1 0 0) (.ls 1 1 1 0 (lst f.code).length) (.ls 3 g2 1 0 w1.length) (.int .i64 i) (.ls 4 ga 1 0 (lst f.regs).length) (slA (nz (y19 f i))) (.int .i64 (y19 f i).length) (.int .i64 (y19 f i).length) H2 =
          yme (.lp 0 1 0 0) (.ls 1 1 1 0 (lst f.code).length) (.ls 3 g2 1 0 w1.length) (.int .i64 i) (.ls 4 ga 1 0 (lst f.regs).length) H2 := by
        rw [ylz]
        simp only [y13w, yo, yb, hc1, decide_false, yyr, y24]
      have f4 : ycy (.lp 0 1 0 0) (.ls 1 1 1 0 (lst f.code).length) (.ls 3 g4 1 0 w2.length) (.ls 4 ga 1 0 (lst f.regs).length) (slA (nz (y3j f i))) (.int .i64 (y3j f i).length) (.int .i64 (y3j f i).length) H4 =
          ygg (.lp 0 1 0 0) (.ls 1 1 1 0 (lst f.code).length) (.ls 3 g4 1 0 w2.length) H4 := by
        rw [ynr]
        simp only [y14p, yo, yb, hc2, decide_false, y142, y24]
      rw [← f4, ← e4]
      have e26 : ym8 (.lp 0 1 0 0) (.ls 1 1 1 0 (lst f.code).length) (.ls 3 g2 1 0 w1.length) (.int .i64 i) (.ls 4 ga 1 0 (lst f.regs).length) H3 =
          ycy (.lp 0 1 0 0) (.ls 1 1 1 0 (lst f.code).length) (.ls 3 g2 1 0 w1.length) (.ls 4 ga 1 0 (lst f.regs).length) (slA (nz (y3j f i))) (.int .i64 (y3j f i).length) (.int .i64 0) H3 := by
        simp only [ym8, y28y R3.box, yb, cN, yy, y3h, yek]
      rw [← e26, ← e27, ← f2, ← e2]
      rw [hsl] at c1 lI
      simp only [y15j, ixI, yb, lI, c1, yy, y1hz, y28y R1.box, cC, y3h, yek]
end
end Go.Vm
namespace Go.Vm
open Cel
theorem y1dj (x : Ins) (h : (lst x.args).length ≤ 17592186043904) : (lst (uses x)).length ≤ 17592186043904 := by
  by_cases hc : calls x.op = true
  · simpa [uses, hc] using h
  · have := y26b (x := x) (by simpa using hc)
    omega
end Go.Vm
namespace Go.Vm
open Cel
def okIn : Option (Option (List Bool)) → List Int → Bool
  | some (some s), us => us.all fun u => s.getD u.toNat false
  | _, _ => true
theorem y1xf (s : List Bool) (us : List Int) : okIn (some (some s)) us = us.all fun u => s.getD u.toNat false := rfl
theorem ys5 (us : List Int) : okIn (some none) us = true := rfl
theorem y21j (x : Option (Option (List Bool))) : okIn x [] = true := by
  match x with
  | none => rfl
  | some none => rfl
  | some (some s) => rfl
theorem y1g1 (s : List Bool) (u : Int) (us : List Int) : okIn (some (some s)) (u :: us) = (s.getD u.toNat false && okIn (some (some s)) us) := rfl
def yn1 (f : Fn) (r : Tab) (i : Nat) : Bool := okIn r[i]? (yj7 f i)
def y64 (f : Fn) (r : Tab) : Nat → Nat → Bool
  | _, 0 => true
  | i, d + 1 => yn1 f r i && y64 f r (i + 1) d
theorem ygs (f : Fn) (r : Tab) : ∀ (d i : Nat), y64 f r i d = true ↔ ∀ j, i ≤ j → j < i + d → yn1 f r j = true
  | 0, i => by simp [y64]; omega
  | d + 1, i => by
    rw [y64, Bool.and_eq_true, ygs f r d (i + 1)]
    constructor
    · rintro ⟨h1, h2⟩ j a b
      by_cases e : j = i
      · rw [e]; exact h1
      · exact h2 j (by omega) (by omega)
    · intro h
      exact ⟨h i (by omega) (by omega), fun j a b => h j (by omega) (by omega)⟩
theorem ym6 {f : Fn} (w : Wf f) {r : Tab} (ok : TblOk (lst f.code).length (lst f.regs).length r) {i : Nat} (hi : i < (lst f.code).length) : yn1 f r i = true ↔ ∀ u ∈ yj7 f i, ∀ s, r[i]? = some (some s) → s[u.toNat]? = some true := by
  unfold yn1
  have hlt : i < r.length := by rw [ok.len]; exact hi
  obtain ⟨x, hx⟩ : ∃ x, r[i]? = some x := ⟨_, List.getElem?_eq_getElem hlt⟩
  rw [hx]
  cases x with
  | none => simp [ys5]
  | some s =>
    have hl := ok.rows _ _ hx
    rw [y1xf]
    simp only [List.all_eq_true]
    have key : ∀ u ∈ yj7 f i, (s.getD u.toNat false = true ↔ s[u.toNat]? = some true) := fun u hu => by
      obtain ⟨u0, u1⟩ := w.uses hi hu
      have hlt : u.toNat < s.length := by omega
      rw [List.getD_eq_getElem?_getD, List.getElem?_eq_getElem hlt]
      simp
    constructor
    · intro h u hu s' e
      injection e with e; injection e with e; subst e
      exact (key u hu).1 (h u hu)
    · intro h u hu
      exact (key u hu).2 (h u hu s rfl)
section
variable {f : Fn} (w : Wf f) (hs : y16k f)
include w
theorem y20x {r : Tab} {P : Nat → Nat × Nat} (ok : TblOk (lst f.code).length (lst f.regs).length r) {i : Nat} (hi : i < (lst f.code).length) (hU : (lst (uses (yt f i))).length ≤ 9223372036854775807) {H : Heap} (Rp : SRep f H r P) : ∀ (d k : Nat), k + d = (lst (uses (yt f i))).length →
    ys3 (.ls 1 1 1 0 (lst f.code).length) (.int .i64 (i : Int)) (slA f.code) (.int .i64 (lst f.code).length) (.int .i64 (i : Int)) (slA (uses (yt f i))) (.int .i64 (lst (uses (yt f i))).length) (.int .i64 (k : Int)) H =
      if okIn r[i]? ((lst (uses (yt f i))).drop k) then y1ve (.ls 1 1 1 0 (lst f.code).length) (slA f.code) (.int .i64 (lst f.code).length) (.int .i64 (i : Int)) H else some ⟨.bool false, [], true, [], []⟩ := by
  have hlt : i < r.length := by rw [ok.len]; exact hi
  obtain ⟨x, hx⟩ : ∃ x, r[i]? = some x := ⟨_, List.getElem?_eq_getElem hlt⟩
  have ixI := yll (n := (lst f.code).length) (p := (i : Int)) (by omega) (by omega) 1 1 .i64
  rw [show ((i : Int)).toNat = i by omega] at ixI
  intro d
  induction d with
  | zero =>
    intro k hk
    have e : (lst (uses (yt f i))).drop k = [] := List.drop_eq_nil_of_le (by omega)
    have hc : ¬ ((k : Int) < ((lst (uses (yt f i))).length : Int)) := by omega
    rw [e, y21j, yqc]
    simp only [y1ak, yo, yb, hc, decide_false, y1aa, y24, if_true]
  | succ d ih =>
    intro k hk
    have hlt2 : k < (lst (uses (yt f i))).length := by omega
    have hc : ((k : Int) < ((lst (uses (yt f i))).length : Int)) := by omega
    have hw := y17 hlt2 (by omega)
    have hmem := List.getElem_mem hlt2
    have kx := y3e (List.getElem?_eq_getElem hlt2) .i64
    have ih1 := ih (k + 1) (by omega)
    push_cast at ih1
    rw [List.drop_eq_getElem_cons hlt2, yqc]
    have hur := w.uses hi hmem
    generalize (lst (uses (yt f i)))[k] = u at *
    have lx : ∀ t : Heap, evLd false 1 (.rp [.int .i64 u]) t = some (.int .i64 u) := fun t => by simp
    rw [hx] at ih1 ⊢
    cases x with
    | none =>
      rw [ys5] at ih1 ⊢
      have lI := ym4 Rp.tab (y96 (P := P) hx)
      have hE : y86 1 true .nils .nils = some (.bool false) := rfl
      simp only [y1ak, yo, yb, hc, decide_true, y1aa, y1p, y1k8, kx, lx, ixI, lI, hE, ykd, y35, y24, y232, y1f, hw, ih1]
    | some s =>
      have hl := ok.rows _ _ hx
      have lI := ym4 Rp.tab (y96 (P := P) hx)
      have hE : ∀ a b n, y86 1 true (.ls a b 1 0 n) .nils = some (.bool true) := fun _ _ _ => rfl
      have ixU := yll (n := s.length) hur.1 (by omega) (P i).1 (P i).2 .i64
      have hut : u.toNat < s.length := by omega
      have lU := y2gh (α := Bool) (H := H) (id := (P i).1) (g := (P i).2) (i := u.toNat) (v := .bool (s.getD u.toNat false)) (Rp.obj _ _ hx) (by rw [List.getD_eq_getElem?_getD, List.getElem?_eq_getElem hut]; rfl) rfl
      rw [y1g1]
      cases hb : s.getD u.toNat false with
      | true =>
        rw [hb] at lU
        rw [Bool.true_and]
        simp only [y1ak, yo, yb, hc, decide_true, y1aa, y1p, y1k8, kx, lx, ixI, lI, hE, yc6, ixU, lU, y2h, Bool.not_true, y2b, y24, y232, y1f, hw, ih1]
      | false =>
        rw [hb] at lU
        rw [Bool.false_and]
        simp only [y1ak, yo, yb, hc, decide_true, y1aa, y1p, y1k8, kx, lx, ixI, lI, hE, yc6, ixU, lU, y2h, Bool.not_false, y2b, y21, Bool.false_eq_true, if_false]
include hs
theorem y1vk {r : Tab} {P : Nat → Nat × Nat} (ok : TblOk (lst f.code).length (lst f.regs).length r) : ∀ (d i : Nat) (H : Heap), i + d = (lst f.code).length → SRep f H r P → 6 ≤ H.length →
    yoi (.ls 1 1 1 0 (lst f.code).length) (slA f.code) (.int .i64 (lst f.code).length) (.int .i64 (i : Int)) H = some ⟨.bool (y64 f r i d), [], true, [], []⟩ := by
  have hn := w.n2
  intro d
  induction d with
  | zero =>
    intro i H hk Rp h6
    have hc : ¬ ((i : Int) < ((lst f.code).length : Int)) := by omega
    rw [ys9]
    simp only [yyi, yo, yb, hc, decide_false, y18n, y24, y2gq, y21, y64]
  | succ d ih =>
    intro i H hk Rp h6
    have hlt : i < (lst f.code).length := by omega
    have hc : ((i : Int) < ((lst f.code).length : Int)) := by omega
    have hw := y17 hlt (by omega)
    have hx := y61 hlt
    have kx := y7i (o := f.code) hx .i64
    have hxa := hs _ (List.mem_of_getElem? hx)
    have lx : ∀ t : Heap, evLd true 9 (.rp (enc (yt f i))) t = some (.agg (enc (yt f i))) := fun t => by simp
    obtain ⟨o5, d5⟩ : ∃ o, H[0 + 5]? = some o := ⟨_, List.getElem?_eq_getElem (by omega)⟩
    have n5 : newC 0 (some 5) [.int .i64 0, .int .i64 0, .int .i64 0, .int .i64 0, .int .i64 0, .int .i64 0, .int .i64 0, .str [], .nils] H = some (.lp 5 (o5.gen + 1) 0 0, H.set 5 ⟨o5.gen + 1, .arr true false 9 [[.int .i64 0, .int .i64 0, .int .i64 0, .int .i64 0, .int .i64 0, .int .i64 0, .int .i64 0, .str [], .nils]]⟩) := by
      simp only [Nat.zero_add] at d5
      simp [newC, y7z, place, d5]
    have hl5 : 5 < H.length := by omega
    have st5 : evSt 9 (.lp 5 (o5.gen + 1) 0 0) (.agg (enc (yt f i))) (H.set 5 ⟨o5.gen + 1, .arr true false 9 [[.int .i64 0, .int .i64 0, .int .i64 0, .int .i64 0, .int .i64 0, .int .i64 0, .int .i64 0, .str [], .nils]]⟩) =
        some (.tup [], H.set 5 ⟨o5.gen + 1, .arr true false 9 [enc (yt f i)]⟩) := by
      have hr : ym (H.set 5 ⟨o5.gen + 1, .arr true false 9 [[.int .i64 0, .int .i64 0, .int .i64 0, .int .i64 0, .int .i64 0, .int .i64 0, .int .i64 0, .str [], .nils]]⟩) 5 (o5.gen + 1) = some (false, 9, [[.int .i64 0, .int .i64 0, .int .i64 0, .int .i64 0, .int .i64 0, .int .i64 0, .int .i64 0, .str [], .nils]]) := by simp [ym, y3m, hl5]
      simp [y5o, hr, y23, hl5, y10]
    have ld5 : evLd true 9 (.lp 5 (o5.gen + 1) 0 0) (H.set 5 ⟨o5.gen + 1, .arr true false 9 [enc (yt f i)]⟩) = some (.agg (enc (yt f i))) := by
      have hr : ym (H.set 5 ⟨o5.gen + 1, .arr true false 9 [enc (yt f i)]⟩) 5 (o5.gen + 1) = some (false, 9, [enc (yt f i)]) := by simp [ym, y3m, hl5]
      simp [y31, hr]
    have R5 := Rp.other (a := 5) (x := ⟨o5.gen + 1, .arr true false 9 [enc (yt f i)]⟩) (.inr (.inr (.inl rfl)))
    have x6 : 6 ≤ (H.set 5 ⟨o5.gen + 1, .arr true false 9 [enc (yt f i)]⟩).length := by rw [List.length_set]; exact h6
    have us := y1dj _ hxa
    have cU : ∀ H, y5 E (y7 E) 0 none true 10 [.agg (enc (yt f i))] H = some (slA (uses (yt f i)), H) := fun H => y1a rfl (fz_x _ H) rfl (y2mw _ hxa) ⟨_, yu3 _, rfl⟩
    generalize H.set 5 ⟨o5.gen + 1, .arr true false 9 [enc (yt f i)]⟩ = H1 at *
    have lp := y20x w ok hlt (by omega) R5 _ 0 (Nat.zero_add _)
    have ih1 := ih (i + 1) H1 (by omega) R5 x6
    push_cast at ih1
    have h3 : y1ve (.ls 1 1 1 0 (lst f.code).length) (slA f.code) (.int .i64 (lst f.code).length) (.int .i64 (i : Int)) H1 = some ⟨.bool (y64 f r (i + 1) d), [], true, [], []⟩ := by
      simp only [y1ve, y1f, hw, yb, ih1]
    have hg : okIn r[i]? ((lst (uses (yt f i))).drop 0) = yn1 f r i := rfl
    rw [h3, hg] at lp
    simp only [Int.ofNat_zero] at lp
    rw [ys9, y64]
    simp only [yyi, yo, yb, hc, decide_true, y18n, y1p, y1r3, kx, lx, n5, yy, st5, y1ew, ld5, cU, y3h, lp]
    cases yn1 f r i <;> simp
end
def parB (f : Fn) (k : Nat) : List Bool := (List.range (lst f.regs).length).map fun (r : Nat) => decide (((r : Nat) : Int) ∈ (lst f.params).take k)
theorem y210 (f : Fn) (k : Nat) : (parB f k).length = (lst f.regs).length := by simp [parB]
theorem y2lt (f : Fn) : parB f 0 = List.replicate (lst f.regs).length false := by
  refine List.ext_getElem (by simp [parB]) fun i h1 h2 => ?_
  simp [parB]
theorem y24e (f : Fn) : parB f (lst f.params).length = y6e f := by simp [parB, y6e]
theorem y259 {f : Fn} {k : Nat} (hk : k < (lst f.params).length) (h0 : 0 ≤ (lst f.params)[k]) : (parB f k).set ((lst f.params)[k]).toNat true = parB f (k + 1) := by
  unfold parB
  rw [List.take_succ_eq_append_getElem hk]
  refine ygh ?_ fun j hj => ?_
  · rw [decide_eq_true_eq, List.mem_append, List.mem_singleton]
    right; omega
  · have : ¬ ((j : Int) = (lst f.params)[k]) := by omega
    simp only [List.mem_append, List.mem_singleton, this, or_false]
theorem y27l {f : Fn} (w : Wf f) (hp : (lst f.params).length ≤ 9223372036854775807) (x1 o3 o4 o5 : AO) : ∀ (d k : Nat), k + d = (lst f.params).length →
    ykq (.lp 0 1 0 0) (.ls 1 1 1 0 (lst f.code).length) (.ls 2 1 1 0 (lst f.regs).length) (slA f.params) (.int .i64 (lst f.params).length) (.int .i64 (k : Int)) [AB f, x1, AL 1 (parB f k), o3, o4, o5] =
      yxp (.lp 0 1 0 0) (.ls 1 1 1 0 (lst f.code).length) (.ls 2 1 1 0 (lst f.regs).length) [AB f, x1, AL 1 (y6e f), o3, o4, o5] := by
  intro d
  induction d with
  | zero =>
    intro k hk
    have hk' : k = (lst f.params).length := by omega
    have hc : ¬ (((lst f.params).length : Int) < ((lst f.params).length : Int)) := by omega
    rw [hk', y24e, ymv]
    simp only [y11a, yo, yb, hc, decide_false, y11s, y24]
  | succ d ih =>
    intro k hk
    have hlt : k < (lst f.params).length := by omega
    have hc : ((k : Int) < ((lst f.params).length : Int)) := by omega
    have hw := y17 hlt (by omega)
    have kx := y3e (o := f.params) (List.getElem?_eq_getElem hlt) .i64
    have hr := y13g w.pars (List.getElem_mem hlt)
    have hset := y259 hlt hr.1
    have ih1 := ih (k + 1) (by omega)
    push_cast at ih1
    rw [ymv]
    generalize (lst f.params)[k] = p at *
    have lx : ∀ t : Heap, evLd false 1 (.rp [.int .i64 p]) t = some (.int .i64 p) := fun t => by simp
    have ixP := yll (n := (lst f.regs).length) hr.1 hr.2 2 1 .i64
    have st := yib (α := Bool) (H := [AB f, x1, AL 1 (parB f k), o3, o4, o5]) (id := 2) (g := 1) (i := p.toNat) (L := parB f k) (v := .bool true) (y := true) rfl (by rw [y210]; omega) rfl
    rw [hset] at st
    simp only [yis, List.set_cons_succ, List.set_cons_zero] at st
    simp only [y11a, yo, yb, hc, decide_true, y11s, y1p, y1fk, kx, lx, ixP, st, yy, y1kt, y1f, hw, ih1]
theorem y24g (H : Heap) {j : Nat} {o : AO} (h : H[j]? = some o) (n : Nat) (hn : n ≤ 1000000) : mkSC 0 (some j) 1 1 [.bool false] (.int .i64 n) (.int .i64 n) H = some (.ls j (o.gen + 1) 1 0 n, H.set j (AL (o.gen + 1) (List.replicate n false))) := by
  simp [mkSC, y4d, place, h]
  refine ⟨by omega, ?_⟩
  show H.set j ⟨_, .arr false false 1 _⟩ = H.set j ⟨_, .arr false false 1 ((List.replicate n false).map enc)⟩
  rw [List.map_replicate]
  rfl
theorem y2fo (H : Heap) {j : Nat} {o : AO} (h : H[j]? = some o) (n : Nat) (hn : n ≤ 1000000) : mkSC 0 (some j) 1 24 [.nils] (.int .i64 n) (.int .i64 n) H = some (.ls j (o.gen + 1) 1 0 n, H.set j ⟨o.gen + 1, .arr false false 1 (List.replicate n [.nils])⟩) := by
  simp [mkSC, y4d, place, h]
  omega
theorem y1k7 (f : Fn) (hn : 1 ≤ (lst f.code).length) : (List.replicate (lst f.code).length [AV.nils]).set 0 [.ls 2 1 1 0 (lst f.regs).length] = y3b (fun _ => (2, 1)) (tab0 f) := by
  have e : List.replicate (lst f.code).length [AV.nils] = y3b (fun _ => (2, 1)) (List.replicate (lst f.code).length none) := by
    refine List.ext_getElem (by simp [y3b]) fun i h1 h2 => ?_
    simp only [List.length_replicate] at h1
    simp [y3b, yl9, h1]
  rw [e, tab0, ← yd0 (P := fun _ => (2, 1)) (by rw [List.length_replicate]; omega) (fun _ _ => rfl)]
  simp only [yl9, yg3]
theorem y1fl (f : Fn) (w : Wf f) : 2 * pot (lst f.regs).length (tab0 f) + 1 ≤ 137438953471 := by
  have key : ∀ (R : Nat) (l : Tab), (∀ s, some s ∈ l → s.length = R) → pot R l ≤ l.length * (R + 1) := by
    intro R l
    induction l with
    | nil => intro _; simp [pot]
    | cons a l ih =>
      intro h
      have := ih fun s hs => h s (by simp [hs])
      have h1 : wt R a ≤ R + 1 := by
        cases a with
        | none => exact Nat.le_refl _
        | some s =>
          have := h s (by simp)
          have hc : s.countP id ≤ s.length := List.countP_le_length
          simp only [wt]; omega
      simp only [pot, List.map_cons, List.sum_cons, List.length_cons, Nat.add_mul] at this ⊢
      omega
  have h := key (lst f.regs).length (tab0 f) fun s hs => by
    obtain ⟨i, hi⟩ := List.getElem?_of_mem hs
    exact (SInv.start w).ok.rows i s hi
  have hl : (tab0 f).length = (lst f.code).length := by simp [tab0]
  rw [hl] at h
  have h2 : (lst f.code).length * ((lst f.regs).length + 1) ≤ 20000 * 20001 := Nat.mul_le_mul w.n2 (by have := w.regs; omega)
  omega
theorem y2oy (f : Fn) (hf : FnFit f) (hs : y16k f) (hr : (lst f.rows).length ≤ 10000000000000) (hp : (lst f.params).length ≤ 9223372036854775807) : (y7 E).p 77 [.agg (enc f)] = some ⟨.bool (setM f), [], true, [], []⟩ := by
  rw [y2s0]
  have hck := y1wj f hf
  have ha : ∀ H : Heap, yn (fz H y1t) [.agg (enc f)] = some ⟨[.agg (enc f)], scal f && true, []⟩ := fun H => by
    rw [yz, yb1, y1b]; rfl
  have c8 : ∀ H, y5 E (y7 E) 0 none true 8 [.agg (enc f)] H = some (.int .i64 (if wf f then 0 else 80), H) := fun H => y1a rfl (ha H) rfl hck ⟨_, rfl, rfl⟩
  have l0 : ∀ t : Heap, evLd true 5 (.lp 0 1 0 0) (AB f :: t) = some (.agg (enc f)) := fun t => by simp
  have n0 : newC 0 (some 0) (cellsOf (.agg (enc f))) [D0, D0, D0, D0, D0, D0] = some (.lp 0 1 0 0, [AB f, D0, D0, D0, D0, D0]) := by simp
  cases hw : wf f with
  | false =>
    rw [hw] at c8
    have hm : setM f = false := by rw [setM, hw]; rfl
    rw [hm]
    simp only [yzy, n0, yy, y14g, l0, yb, c8, Bool.false_eq_true, if_false, y6t, show decide ((80 : Int) ≠ 0) = true from rfl, y1p, y21]
  | true =>
    rw [hw] at c8
    have w := y1g4 hw
    have hn1 := w.n1
    have hn2 := w.n2
    have hR := w.regs
    have l3 : ∀ t : Heap, evLd false 1 (.lp 0 1 0 3) (AB f :: t) = some (slA f.code) := fun t => by simp
    have l1 : ∀ t : Heap, evLd false 1 (.lp 0 1 0 1) (AB f :: t) = some (slA f.params) := fun t => by simp
    have lr : ∀ t : Heap, evLd false 1 (.lp 0 1 0 0) (AB f :: t) = some (slA f.regs) := fun t => by simp
    have m1 := y2fo [AB f, D0, D0, D0, D0, D0] (j := 1) (o := D0) rfl (lst f.code).length (by omega)
    simp only [List.set_cons_succ, List.set_cons_zero] at m1
    have m2 := y24g [AB f, ⟨D0.gen + 1, .arr false false 1 (List.replicate (lst f.code).length [.nils])⟩, D0, D0, D0, D0] (j := 2) (o := D0) rfl (lst f.regs).length (by omega)
    simp only [List.set_cons_succ, List.set_cons_zero] at m2
    rw [← y2lt] at m2
    have lp := y27l w hp ⟨D0.gen + 1, .arr false false 1 (List.replicate (lst f.code).length [.nils])⟩ D0 D0 D0 _ 0 (Nat.zero_add _)
    simp only [Int.ofNat_zero] at lp
    have b3 := y1jt (H := [AB f, ⟨D0.gen + 1, .arr false false 1 (List.replicate (lst f.code).length [.nils])⟩, AL 1 (y6e f), D0, D0, D0]) (fb := 0) (j := 3) (o := D0) 0 rfl
    simp only [Nat.zero_add, List.set_cons_succ, List.set_cons_zero] at b3
    have ix0 := yll (n := (lst f.code).length) (p := 0) (by omega) (by omega) 1 1 .i64
    rw [show (0 : Int).toNat = 0 from rfl] at ix0
    have st := y28r (H := [AB f, ⟨1, .arr false false 1 (List.replicate (lst f.code).length [.nils])⟩, AL 1 (y6e f), AI 1 [0], D0, D0]) (id := 1) (g := 1) (i := 0) (rows := List.replicate (lst f.code).length [.nils]) (v := .ls 2 1 1 0 (lst f.regs).length) (w := .nils) rfl (by rw [List.getElem?_replicate, if_pos (by omega)]) rfl rfl
    rw [y1k7 f hn1] at st
    simp only [List.set_cons_succ, List.set_cons_zero] at st
    have R0 : SRep f [AB f, ⟨1, .arr false false 1 (y3b (fun _ => (2, 1)) (tab0 f))⟩, AL 1 (y6e f), AI 1 [0], D0, D0] (tab0 f) (fun _ => (2, 1)) := by
      have hx : ∀ (i : Nat) t, (tab0 f)[i]? = some (some t) → i = 0 ∧ t = y6e f := by
        intro i t ht
        rcases y84 ht with ⟨e, e2⟩ | ⟨_, h⟩
        · injection e2 with e2; exact ⟨e, e2⟩
        · rw [List.getElem?_replicate] at h
          split at h <;> cases h
      refine ⟨rfl, rfl, fun i s hs => by rw [(hx i s hs).2]; rfl, fun i j s t h1 h2 hij => ?_, fun i s hs => .inl rfl⟩
      have a := (hx i s h1).1
      have b := (hx j t h2).1
      omega
    obtain ⟨r, hr1, hr2⟩ := ygw w (2 * pot (lst f.regs).length (tab0 f) + 1 + 1) _ _ (SInv.start w) (by simp)
    obtain ⟨H', P', e1, R1, h6⟩ := y224 w hr _ _ _ [0] [] _ 1 r (SInv.start w) R0 rfl (by simp) (y1fl f w) hr1
    have ck := y1vk w hs hr2.ok _ 0 H' (Nat.zero_add _) R1 h6
    simp only [Int.ofNat_zero] at ck
    have hm : setM f = y64 f r 0 (lst f.code).length := by
      rw [setM, hw, Bool.true_and, Bool.eq_iff_iff, @decide_eq_true_eq (setP f) (Classical.propDecidable _), ygs, ← hr2.tells w]
      constructor
      · intro h j _ hj
        have hj : j < (lst f.code).length := by omega
        exact (ym6 w hr2.ok hj).2 (h j hj)
      · intro h i hi
        exact (ym6 w hr2.ok hi).1 (h i (by omega) (by omega))
    rw [hm, ← ck]
    have e17 : yrt (.lp 0 1 0 0) (.ls 1 1 1 0 (lst f.code).length) H' = yoi (.ls 1 1 1 0 (lst f.code).length) (slA f.code) (.int .i64 (lst f.code).length) (.int .i64 0) H' := by
      simp only [yrt, y1c, Nat.zero_add, yb, yv9 R1.box, y3h]
    rw [← e17, ← e1]
    simp only [yzy, n0, yy, y14g, l0, yb, c8, if_true, y6t, show decide ((0 : Int) ≠ 0) = false from rfl, y24, y1w4, y1c, Nat.zero_add, l3, y3h, m1, y1mz, lr, m2, y1m4, l1, lp, yxp, b3, y1ez, ix0, st]
    rfl
end Go.Vm
