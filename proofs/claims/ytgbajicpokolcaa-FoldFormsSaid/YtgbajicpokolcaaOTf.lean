/- FoldForms: the output is well formed, and sets what it reads where the input does; what isn't well formed stays as it is. -/
import Derived.Test.YtgbajicpokolcaaOTe
set_option linter.unusedSimpArgs false
set_option linter.unusedVariables false
set_option linter.unusedSectionVars false
namespace Go.Vm
open Cel
theorem yoo (f : Fn) (hf : FnIn f) : (y7 E).p 123 [.agg (enc f)] = some ⟨.bool true, [], true, [], []⟩ := by
  rw [y2ss]
  have n0 : newC 0 (some 0) (cellsOf (.agg (enc f))) [⟨0, .dead⟩, ⟨0, .dead⟩] = some (.lp 0 1 0 0, [AB f, D0]) := by simp
  have l0 : ∀ t : Heap, evLd true 5 (.lp 0 1 0 0) (AB f :: t) = some (.agg (enc f)) := fun t => by simp
  have l3 : ∀ t : Heap, evLd false 1 (.lp 0 1 0 3) (AB f :: t) = some (slA f.code) := fun t => by simp
  have l4 : ∀ t : Heap, evLd false 1 (.lp 0 1 0 4) (AB f :: t) = some (slA f.rows) := fun t => by simp
  have lr : ∀ t : Heap, evLd false 1 (.lp 0 1 0 0) (AB f :: t) = some (slA f.regs) := fun t => by simp
  have ch : ∀ H : Heap, y5 E (y7 E) 0 none true 124 [] H = some (.bool true, H) := fun H => y1a (fa := ⟨[], true, []⟩) rfl rfl rfl y2eb ⟨_, rfl, rfl⟩
  by_cases h1 : (400 : Int) < ((lst f.code).length : Int)
  · simp only [yws, n0, yy, y19r, ch, y2h, Bool.not_true, yb, y24, y1c1, y1c, Nat.zero_add, l3, y3h, y4t, h1, decide_true, yr0, y2b, y1p, y21]
  by_cases h2 : (100 : Int) < ((lst f.regs).length : Int)
  · simp only [yws, n0, yy, y19r, ch, y2h, Bool.not_true, yb, y24, y1c1, y1c, Nat.zero_add, l3, lr, y3h, y4t, h1, h2, decide_true, decide_false, yp9, yr0, y35, y2b, y1p, y21]
  by_cases h3 : (50 : Int) < ((lst f.rows).length : Int)
  · simp only [yws, n0, yy, y19r, ch, y2h, Bool.not_true, yb, y24, y1c1, y1c, Nat.zero_add, l3, lr, l4, y3h, y4t, h1, h2, h3, decide_true, decide_false, yp9, y35, y2b, y1p, y21]
  have hfit := hf.fit3
  have hsm := hf.sm (by omega) (by omega)
  have hck := y15q f hfit
  have c29 : ∀ H, y5 E (y7 E) 0 none true 29 [.agg (enc f)] H = some (.int .i64 (if wf f then 0 else 80), H) := fun H => y1a rfl (fz_f f H) rfl hck ⟨_, rfl, rfl⟩
  obtain ⟨d1, d2⟩ := y2bu f hfit hsm (by omega)
  have e0 : yws (.agg (enc f)) [⟨0, .dead⟩, ⟨0, .dead⟩] = y1ug (.lp 0 1 0 0) [AB f, D0] := by
    simp only [yws, n0, yy, y19r, ch, y2h, Bool.not_true, yb, y24, y1c1, y1c, Nat.zero_add, l3, lr, l4, y3h, y4t, h1, h2, h3, decide_false, yp9, y35]
  have n1 : newC 0 (some 1) [.nils, .nils, .int .i64 0, .nils, .nils] [AB f, D0] = some (.lp 1 1 0 0, [AB f, ⟨1, .arr true false 5 [[.nils, .nils, .int .i64 0, .nils, .nils]]⟩]) := by simp
  have s1 : ∀ g : Fn, evSt 5 (.lp 1 1 0 0) (.agg (enc g)) [AB f, ⟨1, .arr true false 5 [[.nils, .nils, .int .i64 0, .nils, .nils]]⟩] = some (.tup [], [AB f, AFn g]) := fun g => by simp [y5o, y10]
  have lg : ∀ g : Fn, evLd true 5 (.lp 1 1 0 0) [AB f, AFn g] = some (.agg (enc g)) := fun g => by simp
  have lg3 : ∀ g : Fn, evLd false 1 (.lp 1 1 0 3) [AB f, AFn g] = some (slA g.code) := fun g => by simp
  have e2 : ∀ g : Fn, (y7 E).p 125 [.agg (enc f)] = some (y2e g) → y1ug (.lp 0 1 0 0) [AB f, D0] = y1be (.lp 0 1 0 0) (.lp 1 1 0 0) [AB f, AFn g] := fun g hg => by
    have c1 : ∀ H, y5 E (y7 E) 0 none true 125 [.agg (enc f)] H = some (.agg (enc g), H) := fun H => y1a rfl (fz_f f H) rfl hg (y1ch g)
    simp only [y1ug, l0, yb, c1, yy, n1, s1]
  rw [e0]
  cases hw : wf f with
  | false =>
    rw [hw] at c29
    rw [e2 f (d1 hw)]
    have hS := y2kl f f ⟨by have := hsm.regs; omega, by have := hsm.params; omega, by omega, by omega, fun x hx => by have := hsm.args x hx; omega⟩
    rw [ywr] at hS
    have cS : ∀ H, y5 E (y7 E) 0 none true 14 [.agg (enc f), .agg (enc f)] H = some (.bool true, H) := fun H => y1a rfl (y2ro f f H) rfl hS ⟨_, rfl, rfl⟩
    simp only [y1be, l0, yb, c29, Bool.false_eq_true, if_false, yy, y6t, show decide ((80 : Int) ≠ 0) = true from rfl, y1p, lg, cS, y21]
  | true =>
    rw [hw] at c29
    have hg := d2 hw
    have k := y22k hw (hfit.num)
    have kwf := k.wf hw
    generalize y8a f (y1as f) = g at *
    rw [e2 g hg]
    have w := y1g4 hw
    have hp := ysl w.pars
    have hpl : (lst f.params).length ≤ 21 := by
      rcases hp with h | h
      · rw [h]; simp
      · omega
    have hckg := y15q g (k.fit hfit)
    rw [kwf] at hckg
    have cg : ∀ H, y5 E (y7 E) 0 none true 29 [.agg (enc g)] H = some (.int .i64 0, H) := fun H => y1a rfl (fz_f g H) rfl hckg ⟨_, rfl, rfl⟩
    have hSf := y2oy f hfit hsm.args (by omega) (by omega)
    have hSg := y2oy g (k.fit hfit) (k.args hsm.args) (by rw [k.swap.rows]; omega) (by rw [k.swap.params]; omega)
    have cSf : ∀ H, y5 E (y7 E) 0 none true 77 [.agg (enc f)] H = some (.bool (setM f), H) := fun H => y1a rfl (fz_f f H) rfl hSf ⟨_, rfl, rfl⟩
    have cSg : ∀ H, y5 E (y7 E) 0 none true 77 [.agg (enc g)] H = some (.bool (setM g), H) := fun H => y1a rfl (fz_f g H) rfl hSg ⟨_, rfl, rfl⟩
    have hlen := k.swap.len
    cases hs : setM f with
    | true =>
      rw [hs] at cSf
      rw [k.set hw hs] at cSg
      simp only [y1be, l0, yb, c29, if_true, yy, y6t, show decide ((0 : Int) ≠ 0) = false from rfl, y24, y213, lg, cg, y12, decide_true, yc6, y2pz, y1c, Nat.zero_add, lg3, l3, y3h, hlen, y2b, cSf, y2h, Bool.not_true, yp9, y2s1, cSg, y35, y21]
    | false =>
      rw [hs] at cSf
      simp only [y1be, l0, yb, c29, if_true, yy, y6t, show decide ((0 : Int) ≠ 0) = false from rfl, y24, y213, lg, cg, y12, decide_true, yc6, y2pz, y1c, Nat.zero_add, lg3, l3, y3h, hlen, y2b, cSf, y2h, Bool.not_false, yr0, y2un, y21]
end Go.Vm
