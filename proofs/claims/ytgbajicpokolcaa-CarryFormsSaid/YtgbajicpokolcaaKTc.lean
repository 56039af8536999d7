/- ins.Copy: a function's copy. A function whose lists lie in objects of one's own: how it reads, how it is handed out, how a copy comes to lie so. What the functions of 'ins' answer of single instructions. The register that an instruction writes. The facts of the pass 'carry' on the machine. A pass: a function as a variable of one's own, its lists in objects of one's own. carry.Pass's closure on the machine: facts flow to a place. Which instructions may throw. A number in a list: the library's 'Contains'. flow.Next, flow.Caught. carry.Pass on the machine: the rounds of its work. Maps from whole numbers, as lists of pairs: plain Lean. Maps from whole numbers, as lists of pairs. Boxes of an instruction. carry.Pass on the machine: where blocks begin; the clone of the code. What 'Uses' answers. -/
import Derived.Test.YtgbajicpokolcaaKX
import Derived.Test.YtgbajicpokolcaaKTb
set_option linter.unusedSimpArgs false
set_option linter.unusedVariables false
set_option linter.unusedSectionVars false
namespace Go.Vm
open Cel
attribute [local simp] yr
abbrev fnA (f : Fn) : AV := .agg [ownV 2 1 f.regs, ownV 3 1 f.params, .int .i64 f.ret, ownV 4 1 f.code, ownV 5 1 f.rows]
abbrev HCp (f : Fn) (o1 : AO) : Heap := [⟨1, .arr true false 5 [enc f]⟩, o1, ownO 1 ⟨0, .dead⟩ f.regs, ownO 1 ⟨0, .dead⟩ f.params, ownO 1 ⟨0, .dead⟩ f.code, ownO 1 ⟨0, .dead⟩ f.rows, ⟨1, .arr true false 5 [cellsOf (fnA f)]⟩]
theorem y1ll (f : Fn) (hs : FnSm f) (v2 : AV) (o1 : AO) : ∀ (d i : Nat), i + d = (lst f.code).length →
    yul v2 (.lp 6 1 0 0) (.int .i64 (lst f.code).length) (.int .i64 i) (HCp f o1) = y1tc v2 (.lp 6 1 0 0) (HCp f o1) := by
  have e38 : (2:Nat) ^ 38 = 274877906944 := by decide
  intro d
  induction d with
  | zero =>
    intro i hi
    have hn : ¬ ((i : Int) < ((lst f.code).length : Int)) := by omega
    rw [yqz]
    simp [y22r, y28t, hn]
  | succ d ih =>
    intro i hi
    have hlt : i < (lst f.code).length := by omega
    have hc : ((i : Int) < ((lst f.code).length : Int)) := by omega
    have hl : (lst f.code).length ≤ 9223372036854775807 := by have := hs.code; omega
    have hw := y1a hlt hl
    obtain ⟨L, hL⟩ : ∃ L, f.code = some L := by
      cases hf : f.code with
      | none => rw [hf] at hlt; exact absurd hlt (Nat.not_lt_zero _)
      | some L => exact ⟨L, rfl⟩
    have ih := ih (i + 1) (by omega)
    push_cast at ih
    have hx : L[i]? = some (lst f.code)[i] := by
      simp only [hL, y3b] at hlt ⊢
      exact List.getElem?_eq_getElem hlt
    have ha := hs.args _ (List.getElem_mem hlt)
    generalize (lst f.code)[i] = x at *
    have k39 := y6o x.args ha
    have lA : evLd false 1 (.lp 6 1 0 3) (HCp f o1) = some (ownV 4 1 f.code) := rfl
    have ix : yi 9 (ownV 4 1 f.code) (.int .i64 (i : Int)) = some (.lp 4 1 i 0) := by
      have : i < L.length := (List.getElem?_eq_some_iff.1 hx).1
      simp [hL, ownV, yi, this]
    have hr : ym (HCp f o1) 4 1 = some (false, 9, L.map enc) := by
      simp [ym, y37, hL, ownO]
    have hg : (L.map (enc (α := Ins)))[i]? = some (enc x) := by simp [hx]
    have lB : evLd false 1 (.lp 4 1 i 8) (HCp f o1) = some (slA x.args) := by
      rw [y38, hr]
      simp only [hg, ybi]
      rfl
    have ha1 : yt (fz (HCp f o1) y18) [slA x.args] = some ⟨[slA x.args], (lst x.args).isEmpty && true, []⟩ := by
      rw [yk, yqk, y11]; rfl
    have c1 := y27 (E := E) (C := y8 E) (fb := 0) (sl := none) (f := 39) (v := slA x.args) rfl ha1 rfl k39 ⟨_, ybe _, rfl⟩
    have f1 := yzj (E := E) (C := y8 E) (fb := 0) (sl := none) (f := 39) rfl ha1 rfl k39
    have st : evSt 1 (.lp 4 1 i 8) (slA x.args) (HCp f o1) = some (.tup [], HCp f o1) := by
      rw [y5n, hr]
      simp only [hg, y1co]
      rw [if_pos ⟨rfl, by rw [len]; exact Nat.le_refl _, by simp⟩]
      rw [show y13 8 [slA x.args] (enc x) = enc x from rfl, y186 hg]
      rw [ysu hr]
    have hp : yd [([], []), (ids1 (.lp 6 1 0 3), []), ([], []), ([], []), (ids1 (.lp 6 1 0 3), []), ([], []), ([], []), ([], []), (ids1 (.lp 4 1 i 8), []), ([], []), ([], []), ([], []), ([], ids1 (.lp 4 1 i 8))] [(1, 9)] = true := by simp [yd, yu, meets]
    rw [yqz]
    simp only [y22r, yh, y2, y28t, hc, decide_true, y1f, y2hc, y4m, lA, ix, lB, f1, yek, c1, yf, st, hp, y2ou, y2fi, y1q, hw, ih, Nat.zero_add]
theorem y2t3 (f : Fn) (hs : FnSm f) : (y8 E).p 13 [.agg (enc f)] = some (y2n f) := by
  rw [y2xo]
  have k1 := y6o f.regs hs.regs
  have k2 := y6o f.params hs.params
  have k3 := ywu f.code hs.code
  have k4 := ywl f.rows hs.rows
  have lp := y1ll f hs (.lp 1 1 0 0) ⟨1, .arr true false 5 [[.nils, .nils, .int .i64 0, .nils, .nils]]⟩ _ 0 (Nat.zero_add _)
  have ha1 : ∀ (o : Option (List Int)) (H : Heap), yt (fz H y18) [slA o] = some ⟨[slA o], (lst o).isEmpty && true, []⟩ := fun o H => by
    rw [yk, yqk, y11]; rfl
  have ha2 : ∀ (o : Option (List Ins)) (H : Heap), yt (fz H y18) [slA o] = some ⟨[slA o], (lst o).isEmpty && true, []⟩ := fun o H => by
    rw [yk, yqk, y11]; rfl
  have ha3 : ∀ (o : Option (List Row)) (H : Heap), yt (fz H y18) [slA o] = some ⟨[slA o], (lst o).isEmpty && true, []⟩ := fun o H => by
    rw [yk, yqk, y11]; rfl
  have l0 : ∀ (j : Nat) (t : Heap), evLd false 1 (.lp 0 1 0 j) (⟨1, .arr true false 5 [enc f]⟩ :: t) = ((enc f).drop j).head? := fun j t => by simp [evLd]
  have e11 : y1aq (.agg (enc f)) [⟨0, .dead⟩, ⟨0, .dead⟩, ⟨0, .dead⟩, ⟨0, .dead⟩, ⟨0, .dead⟩, ⟨0, .dead⟩, ⟨0, .dead⟩] =
      ys6 (.lp 0 1 0 0) (.lp 1 1 0 0) [⟨1, .arr true false 5 [enc f]⟩, ⟨1, .arr true false 5 [[.nils, .nils, .int .i64 0, .nils, .nils]]⟩, ⟨0, .dead⟩, ⟨0, .dead⟩, ⟨0, .dead⟩, ⟨0, .dead⟩, ⟨0, .dead⟩] := by
    simp [y1aq]
  rw [e11]
  have c1 := y9a (E := E) (C := y8 E) (fb := 0) (j := 2) (f := 39) (H := [⟨1, .arr true false 5 [enc f]⟩, ⟨1, .arr true false 5 [[.nils, .nils, .int .i64 0, .nils, .nils]]⟩, ⟨0, .dead⟩, ⟨0, .dead⟩, ⟨0, .dead⟩, ⟨0, .dead⟩, ⟨0, .dead⟩]) rfl (ha1 f.regs _) k1 rfl rfl
  have f1 := fun H => y147 (E := E) (C := y8 E) (fb := 0) (j := 2) (f := 39) (H := H) rfl (ha1 f.regs H) k1 rfl
  have c2 := y9a (E := E) (C := y8 E) (fb := 0) (j := 3) (f := 39) (H := [⟨1, .arr true false 5 [enc f]⟩, ⟨1, .arr true false 5 [[.nils, .nils, .int .i64 0, .nils, .nils]]⟩, ownO 1 ⟨0, .dead⟩ f.regs, ⟨0, .dead⟩, ⟨0, .dead⟩, ⟨0, .dead⟩, ⟨0, .dead⟩]) rfl (ha1 f.params _) k2 rfl rfl
  have f2 := fun H => y147 (E := E) (C := y8 E) (fb := 0) (j := 3) (f := 39) (H := H) rfl (ha1 f.params H) k2 rfl
  have c3 := y9a (E := E) (C := y8 E) (fb := 0) (j := 4) (f := 40) (H := [⟨1, .arr true false 5 [enc f]⟩, ⟨1, .arr true false 5 [[.nils, .nils, .int .i64 0, .nils, .nils]]⟩, ownO 1 ⟨0, .dead⟩ f.regs, ownO 1 ⟨0, .dead⟩ f.params, ⟨0, .dead⟩, ⟨0, .dead⟩, ⟨0, .dead⟩]) rfl (ha2 f.code _) k3 rfl rfl
  have f3 := fun H => y147 (E := E) (C := y8 E) (fb := 0) (j := 4) (f := 40) (H := H) rfl (ha2 f.code H) k3 rfl
  have c4 := y9a (E := E) (C := y8 E) (fb := 0) (j := 5) (f := 41) (H := [⟨1, .arr true false 5 [enc f]⟩, ⟨1, .arr true false 5 [[.nils, .nils, .int .i64 0, .nils, .nils]]⟩, ownO 1 ⟨0, .dead⟩ f.regs, ownO 1 ⟨0, .dead⟩ f.params, ownO 1 ⟨0, .dead⟩ f.code, ⟨0, .dead⟩, ⟨0, .dead⟩]) rfl (ha3 f.rows _) k4 rfl rfl
  have f4 := fun H => y147 (E := E) (C := y8 E) (fb := 0) (j := 5) (f := 41) (H := H) rfl (ha3 f.rows H) k4 rfl
  simp only [Nat.zero_add, List.set_cons_zero, List.set_cons_succ] at c1 c2 c3 c4 f1 f2 f3 f4
  have hb : y1i [.nils, .nils, .int .i64 0, .nils, .nils] [(0, 1, ownV 2 1 f.regs), (1, 1, ownV 3 1 f.params), (2, 1, .int .i64 f.ret), (3, 1, ownV 4 1 f.code), (4, 1, ownV 5 1 f.rows)] = some (fnA f) := by
    simp [y1i, y5s, y13]
    rfl
  have nc : ∀ (h0 : AO) (o1 : AO) (o2 o3 o4 o5 : AO), newC 0 (some 6) [.nils, .nils, .int .i64 0, .nils, .nils] [h0, o1, o2, o3, o4, o5, ⟨0, .dead⟩] = some (.lp 6 1 0 0, [h0, o1, o2, o3, o4, o5, ⟨1, .arr true false 5 [[.nils, .nils, .int .i64 0, .nils, .nils]]⟩]) := fun _ _ _ _ _ _ => rfl
  have st : ∀ (h0 : AO) (o1 : AO) (o2 o3 o4 o5 : AO), evSt 5 (.lp 6 1 0 0) (fnA f) [h0, o1, o2, o3, o4, o5, ⟨1, .arr true false 5 [[.nils, .nils, .int .i64 0, .nils, .nils]]⟩] = some (.tup [], [h0, o1, o2, o3, o4, o5, ⟨1, .arr true false 5 [cellsOf (fnA f)]⟩]) := by
    intro h0 o1 o2 o3 o4 o5
    simp [y5n, y13]
  have hp : yd [([], []), (ids1 (.lp 0 1 0 0), []), ([], ownI 2 f.regs), ([], []), (ids1 (.lp 0 1 0 1), []), ([], ownI 3 f.params), ([], []), (ids1 (.lp 0 1 0 2), []), ([], []), (ids1 (.lp 0 1 0 3), []), ([], ownI 4 f.code), ([], []), (ids1 (.lp 0 1 0 4), []), ([], ownI 5 f.rows), ([], []), ([], [6]), ([], ids1 (.lp 6 1 0 0))]
      [(2, 4), (2, 7), (5, 7), (2, 9), (5, 9), (7, 10), (2, 12), (5, 12), (10, 12), (7, 13), (1, 15), (2, 15), (4, 15), (5, 15), (7, 15), (9, 15), (10, 15), (12, 15), (13, 15)] = true := by
    cases f.regs <;> cases f.params <;> cases f.code <;> cases f.rows <;> rfl
  have e10 : ys6 (.lp 0 1 0 0) (.lp 1 1 0 0) [⟨1, .arr true false 5 [enc f]⟩, ⟨1, .arr true false 5 [[.nils, .nils, .int .i64 0, .nils, .nils]]⟩, ⟨0, .dead⟩, ⟨0, .dead⟩, ⟨0, .dead⟩, ⟨0, .dead⟩, ⟨0, .dead⟩] =
      y1wm (.lp 1 1 0 0) (.lp 6 1 0 0) (HCp f ⟨1, .arr true false 5 [[.nils, .nils, .int .i64 0, .nils, .nils]]⟩) := by
    have d0 : ((enc f).drop 0).head? = some (slA f.regs) := rfl
    have d1 : ((enc f).drop 1).head? = some (slA f.params) := rfl
    have d2 : ((enc f).drop 2).head? = some (.int .i64 f.ret) := rfl
    have d3 : ((enc f).drop 3).head? = some (slA f.code) := rfl
    have d4 : ((enc f).drop 4).head? = some (slA f.rows) := rfl
    simp only [ys6, y4m, y2, Nat.zero_add, l0, d0, d1, d2, d3, d4, f1, yek, c1, yf, f2, c2, f3, c3, f4, c4, hb, nc, st, hp, y2ou]
  have lC : evLd false 1 (.lp 6 1 0 3) (HCp f ⟨1, .arr true false 5 [[.nils, .nils, .int .i64 0, .nils, .nils]]⟩) = some (ownV 4 1 f.code) := rfl
  have e8 : y1wm (.lp 1 1 0 0) (.lp 6 1 0 0) (HCp f ⟨1, .arr true false 5 [[.nils, .nils, .int .i64 0, .nils, .nils]]⟩) = y1tc (.lp 1 1 0 0) (.lp 6 1 0 0) (HCp f ⟨1, .arr true false 5 [[.nils, .nils, .int .i64 0, .nils, .nils]]⟩) := by
    rw [← lp]
    simp only [y1wm, y4m, y2, Nat.zero_add, lC, yvb]
    rfl
  rw [e10, e8]
  have l6 : ∀ o1, evLd true 5 (.lp 6 1 0 0) (HCp f o1) = some (fnA f) := fun o1 => rfl
  have st1 : evSt 5 (.lp 1 1 0 0) (fnA f) (HCp f ⟨1, .arr true false 5 [[.nils, .nils, .int .i64 0, .nils, .nils]]⟩) = some (.tup [], HCp f ⟨1, .arr true false 5 [cellsOf (fnA f)]⟩) := by
    simp [y5n, y13]
  have l7 : evLd true 5 (.lp 1 1 0 0) (HCp f ⟨1, .arr true false 5 [cellsOf (fnA f)]⟩) = some (fnA f) := rfl
  simp only [y1tc, l6, y2, st1, yf, l7]
  have x1 := fun os => yev (α := Int) (H := HCp f ⟨1, .arr true false 5 [cellsOf (fnA f)]⟩) (j := 2) (g := 1) (k := 10) (d := ⟨0, .dead⟩) (o := f.regs) rfl os
  have x2 := fun os => yev (α := Int) (H := HCp f ⟨1, .arr true false 5 [cellsOf (fnA f)]⟩) (j := 3) (g := 1) (k := 10) (d := ⟨0, .dead⟩) (o := f.params) rfl os
  have x3 := fun os => yev (α := Ins) (H := HCp f ⟨1, .arr true false 5 [cellsOf (fnA f)]⟩) (j := 4) (g := 1) (k := 10) (d := ⟨0, .dead⟩) (o := f.code) rfl os
  have x4 := fun os => yev (α := Row) (H := HCp f ⟨1, .arr true false 5 [cellsOf (fnA f)]⟩) (j := 5) (g := 1) (k := 10) (d := ⟨0, .dead⟩) (o := f.rows) rfl os
  have xi := fun os => ytt (v := .int .i64 f.ret) rfl (HCp f ⟨1, .arr true false 5 [cellsOf (fnA f)]⟩) 10 os
  rw [yf7]
  simp only [y5e, x1, x2, x3, x4, xi, List.nil_append]
  have ap : y4l (ownI 2 f.regs ++ (ownI 3 f.params ++ ([] ++ (ownI 4 f.code ++ (ownI 5 f.rows ++ []))))) ([] ++ ([] ++ ([] ++ ([] ++ ([] ++ []))))) = true := by
    cases f.regs <;> cases f.params <;> cases f.code <;> cases f.rows <;> rfl
  have sc : (lst f.regs).all scal = true := by simp
  have sc2 : (lst f.params).all scal = true := by simp
  simp only [List.nil_append] at ap
  rw [if_pos ap]
  simp [y2n, sc, sc2]
end Go.Vm
namespace Go.Vm
open Cel
def hasL (f : Fn) : Nat → Bool
  | 0 => f.regs.isSome
  | 1 => f.params.isSome
  | 2 => f.code.isSome
  | _ => f.rows.isSome
structure FnAt (H : Heap) (f : Fn) (p g : Nat → Nat) : Prop where
  regs : ∀ L, f.regs = some L → H[p 0]? = some ⟨g 0, .arr false false 1 (L.map enc)⟩
  params : ∀ L, f.params = some L → H[p 1]? = some ⟨g 1, .arr false false 1 (L.map enc)⟩
  code : ∀ L, f.code = some L → H[p 2]? = some ⟨g 2, .arr false false 9 (L.map enc)⟩
  rows : ∀ L, f.rows = some L → H[p 3]? = some ⟨g 3, .arr false false 4 (L.map enc)⟩
  ne : ∀ i j, i < 4 → j < 4 → i ≠ j → hasL f i = true → hasL f j = true → p i ≠ p j
def fnC (f : Fn) (p g : Nat → Nat) : List AV := [ownV (p 0) (g 0) f.regs, ownV (p 1) (g 1) f.params, .int .i64 f.ret, ownV (p 2) (g 2) f.code, ownV (p 3) (g 3) f.rows]
abbrev fnV (f : Fn) (p g : Nat → Nat) : AV := .agg (fnC f p g)
section
variable {α : Type} [Cel α]
theorem yj6 {H : Heap} {j g k : Nat} {o : Option (List α)} (h : ∀ L, o = some L → H[j]? = some ⟨g, .arr false false (es α) (L.map enc)⟩) : fz H (k + 2) (ownV j g o) = some ⟨slA o, (lst o).all scal, ownI j o⟩ := by
  cases o with
  | none => rfl
  | some L => exact y1vy (d := ⟨0, .dead⟩) (o := some L) (h L rfl)
theorem yf6 {H : Heap} {j g k : Nat} {o : Option (List α)} (h : ∀ L, o = some L → H[j]? = some ⟨g, .arr false false (es α) (L.map enc)⟩) (os : List OC) :
    expo H (k + 1) (ownV j g o) os = some ⟨exV os.length o, os ++ exOs o, (lst o).all scal, ownI j o, []⟩ := by
  cases o with
  | none => simp [ownV, expo, pure1, exV, exOs, ownI]
  | some L => exact yev (d := ⟨0, .dead⟩) (o := some L) (h L rfl) os
end
section
variable {H : Heap} {f : Fn} {p g : Nat → Nat} (A : FnAt H f p g)
include A
theorem FnAt.fz : ∃ fr ids, fz H y18 (fnV f p g) = some ⟨.agg (enc f), fr, ids⟩ := by
  have h1 := yj6 (k := 9) A.regs
  have h2 := yj6 (k := 9) A.params
  have h3 := yj6 (k := 9) A.code
  have h4 := yj6 (k := 9) A.rows
  have hi : Go.Vm.fz H 11 (.int .i64 f.ret) = some ⟨.int .i64 f.ret, true, []⟩ := rfl
  refine ⟨_, _, (yfb _ 11 _).trans (by
    simp only [fnC, yk, h1, h2, h3, h4, hi, y11]
    rfl)⟩
theorem FnAt.expo : yc H (fnV f p g) = some (y2n f) := by
  have x1 := fun os => yf6 (k := 10) A.regs os
  have x2 := fun os => yf6 (k := 10) A.params os
  have x3 := fun os => yf6 (k := 10) A.code os
  have x4 := fun os => yf6 (k := 10) A.rows os
  have xi := fun os => ytt (v := .int .i64 f.ret) rfl H 10 os
  rw [yf7]
  simp only [fnC, y5e, x1, x2, x3, x4, xi, List.nil_append]
  have ap : y4l (ownI (p 0) f.regs ++ (ownI (p 1) f.params ++ ([] ++ (ownI (p 2) f.code ++ (ownI (p 3) f.rows ++ []))))) ([] ++ ([] ++ ([] ++ ([] ++ ([] ++ []))))) = true := by
    have n := A.ne
    have n01 := n 0 1 (by omega) (by omega) (by omega)
    have n02 := n 0 2 (by omega) (by omega) (by omega)
    have n03 := n 0 3 (by omega) (by omega) (by omega)
    have n12 := n 1 2 (by omega) (by omega) (by omega)
    have n13 := n 1 3 (by omega) (by omega) (by omega)
    have n23 := n 2 3 (by omega) (by omega) (by omega)
    simp only [hasL] at n01 n02 n03 n12 n13 n23
    cases h1 : f.regs <;> cases h2 : f.params <;> cases h3 : f.code <;> cases h4 : f.rows <;>
      (rw [h1, h2] at n01; rw [h1, h3] at n02; rw [h1, h4] at n03; rw [h2, h3] at n12; rw [h2, h4] at n13; rw [h3, h4] at n23; simp [ownI, y4l] at *; try simp_all)
  have sc : (lst f.regs).all scal = true := by simp
  have sc2 : (lst f.params).all scal = true := by simp
  simp only [List.nil_append] at ap
  rw [if_pos ap]
  simp [y2n, sc, sc2]
theorem FnAt.set {a : Nat} {x : AO} (h : ∀ i, i < 4 → hasL f i = true → p i ≠ a) : FnAt (H.set a x) f p g := by
  refine ⟨fun L e => ?_, fun L e => ?_, fun L e => ?_, fun L e => ?_, A.ne⟩
  · rw [yv (fun e' => h 0 (by omega) (by simp [hasL, e]) e'.symm)]; exact A.regs L e
  · rw [yv (fun e' => h 1 (by omega) (by simp [hasL, e]) e'.symm)]; exact A.params L e
  · rw [yv (fun e' => h 2 (by omega) (by simp [hasL, e]) e'.symm)]; exact A.code L e
  · rw [yv (fun e' => h 3 (by omega) (by simp [hasL, e]) e'.symm)]; exact A.rows L e
theorem FnAt.setCode {L L' : List Ins} (hL : f.code = some L) : FnAt (H.set (p 2) ⟨g 2, .arr false false 9 (L'.map enc)⟩) { f with code := some L' } p g := by
  have hc : hasL f 2 = true := by simp [hasL, hL]
  have hk : ∀ i, hasL { f with code := some L' } i = hasL f i := by
    intro i
    match i with
    | 0 => rfl
    | 1 => rfl
    | 2 => simp [hasL, hL]
    | i + 3 => rfl
  refine ⟨fun L e => ?_, fun L e => ?_, fun L e => ?_, fun L e => ?_, fun i j h1 h2 h3 h4 h5 => A.ne i j h1 h2 h3 (by rw [← hk]; exact h4) (by rw [← hk]; exact h5)⟩
  · rw [yv (A.ne 2 0 (by omega) (by omega) (by omega) hc (by have e' : f.regs = some L := e; simp [hasL, e']))]; exact A.regs L e
  · rw [yv (A.ne 2 1 (by omega) (by omega) (by omega) hc (by have e' : f.params = some L := e; simp [hasL, e']))]; exact A.params L e
  · have : L' = L := by simpa using e
    subst this
    exact y3w (y3d (A.code _ hL))
  · rw [yv (A.ne 2 3 (by omega) (by omega) (by omega) hc (by have e' : f.rows = some L := e; simp [hasL, e']))]; exact A.rows L e
end
def gAt (H : Heap) (k : Nat) : Nat := ((H[k]?).getD ⟨0, .dead⟩).gen + 1
def okO (o : OC) : Prop := okOC o = true ∧ ∀ tab, y5z tab o = o
theorem ygv {fb : Nat} : ∀ (O : List OC) (j : Nat) (tab : List (Nat × Nat)) (H : Heap), (∀ o ∈ O, okO o) → fb + j + O.length ≤ H.length →
    ∃ H', y2f fb (some j) O tab H = some (tab ++ (List.range O.length).map (fun i => (fb + j + i, gAt H (fb + j + i))), H') ∧ H'.length = H.length ∧
      (∀ i o, O[i]? = some o → H'[fb + j + i]? = some ⟨gAt H (fb + j + i), o⟩) ∧ ∀ k, k < fb + j ∨ fb + j + O.length ≤ k → H'[k]? = H[k]?
  | [], j, tab, H, _, _ => ⟨H, by simp [y2f], rfl, fun i o h => by simp at h, fun _ _ => rfl⟩
  | o :: O, j, tab, H, ho, hl => by
    have h0 := ho o (by simp)
    simp only [List.length_cons] at hl
    obtain ⟨x, hx⟩ : ∃ x, H[fb + j]? = some x := ⟨_, List.getElem?_eq_getElem (by omega)⟩
    have hg : gAt H (fb + j) = x.gen + 1 := by simp [gAt, hx]
    obtain ⟨H', e1, e2, e3, e4⟩ := ygv (fb := fb) O (j + 1) (tab ++ [(fb + j, x.gen + 1)]) (H.set (fb + j) ⟨x.gen + 1, o⟩) (fun o h => ho o (by simp [h])) (by rw [List.length_set]; omega)
    have hgs : ∀ i, gAt (H.set (fb + j) ⟨x.gen + 1, o⟩) (fb + (j + 1) + i) = gAt H (fb + j + (i + 1)) := by
      intro i
      unfold gAt
      rw [yv (by omega), show fb + (j + 1) + i = fb + j + (i + 1) by omega]
    refine ⟨H', ?_, by rw [e2, List.length_set], fun i o' hi => ?_, fun k hk => ?_⟩
    · rw [y2f, h0.2, h0.1]
      simp only [if_true, place, hx, Option.map_some]
      rw [e1]
      simp only [List.length_cons, List.range_succ_eq_map, List.map_cons, List.map_map, Nat.add_zero, hg, List.append_assoc, List.singleton_append, Option.some.injEq, Prod.mk.injEq, and_true]
      congr 2
      refine List.map_congr_left fun i _ => ?_
      simp only [Function.comp, hgs]
      rw [show fb + (j + 1) + i = fb + j + (i + 1) by omega]
    · cases i with
      | zero =>
        simp only [List.getElem?_cons_zero, Option.some.injEq] at hi
        subst hi
        rw [e4 _ (.inl (by omega))]
        simp only [Nat.add_zero]
        rw [y3w (by omega), hg]
      | succ i =>
        simp only [List.getElem?_cons_succ] at hi
        have := e3 i o' hi
        rw [hgs] at this
        rw [show fb + j + (i + 1) = fb + (j + 1) + i by omega]
        rw [show fb + j + (i + 1) = fb + (j + 1) + i by omega] at this
        exact this
    · simp only [List.length_cons] at hk
      rw [e4 k (by omega), yv (by omega)]
section
variable {α : Type} [Cel α]
theorem yp9 (o : Option (List α)) : ∀ x ∈ exOs o, okO x := by
  cases o with
  | none => intro x h; cases h
  | some L =>
    intro x h
    simp only [exOs, List.mem_singleton] at h
    subst h
    exact ⟨rfl, fun _ => rfl⟩
theorem yeo {tab : List (Nat × Nat)} {o : Option (List α)} {k id g : Nat} (h : ∀ L, o = some L → tab[k]? = some (id, g)) : y2m tab (exV k o) = ownV id g o := by
  cases o with
  | none => rfl
  | some L => simp [exV, y2m, h L rfl, ownV]
theorem yhq (o : Option (List α)) : (exOs o).length = if o.isSome then 1 else 0 := by cases o <;> rfl
end
def cnt (f : Fn) : Nat → Nat
  | 0 => 0
  | 1 => (exOs f.regs).length
  | 2 => (exOs f.regs ++ exOs f.params).length
  | _ => (exOs f.regs ++ exOs f.params ++ exOs f.code).length
theorem yy4 {α : Type} (A B C : List α) (x : α) (h : B = [x]) : (A ++ B ++ C)[A.length]? = some x := by
  subst h; simp
theorem y1qo {f : Fn} (hs : FnSm f) {H : Heap} {fb j : Nat} (hl : fb + j + 4 ≤ H.length) : ∃ H' p g, y7 E (y8 E) fb (some j) false 13 [.agg (enc f)] H = some (fnV f p g, H') ∧ FnAt H' f p g ∧ H'.length = H.length ∧
    (∀ i, i < 4 → hasL f i = true → fb + j ≤ p i ∧ p i < fb + j + 4) ∧ ∀ k, k < fb + j ∨ fb + j + 4 ≤ k → H'[k]? = H[k]? := by
  have ha : yt (fz H y18) [.agg (enc f)] = some ⟨[.agg (enc f)], scal f && true, []⟩ := by
    rw [yk, y5d, y11]; rfl
  have hlen : (y2n f).objs.length ≤ 4 := by
    simp only [y2n, List.length_append, yhq]
    repeat' split
    all_goals omega
  obtain ⟨H', e1, e2, e3, e4⟩ := ygv (fb := fb) (y2n f).objs j [] H (by
    intro o ho
    simp only [y2n, List.mem_append] at ho
    rcases ho with ((ho | ho) | ho) | ho
    · exact yp9 _ o ho
    · exact yp9 _ o ho
    · exact yp9 _ o ho
    · exact yp9 _ o ho) (by omega)
  have ob : ∀ (i : Nat) (x : OC), (y2n f).objs[cnt f i]? = some x → H'[fb + j + cnt f i]? = some ⟨gAt H (fb + j + cnt f i), x⟩ := fun i x h => e3 _ x h
  have o0 : ∀ L, f.regs = some L → (y2n f).objs[cnt f 0]? = some (.arr false false 1 (L.map enc)) := fun L h => by
    simp only [y2n, cnt, h, exOs]; rfl
  have o1 : ∀ L, f.params = some L → (y2n f).objs[cnt f 1]? = some (.arr false false 1 (L.map enc)) := fun L h => by
    simp only [y2n, cnt]
    rw [List.append_assoc, List.append_assoc, ← List.append_assoc]
    exact yy4 _ _ _ _ (by rw [h]; rfl)
  have o2 : ∀ L, f.code = some L → (y2n f).objs[cnt f 2]? = some (.arr false false 9 (L.map enc)) := fun L h => by
    simp only [y2n, cnt]
    exact yy4 _ _ _ _ (by rw [h]; rfl)
  have o3 : ∀ L, f.rows = some L → (y2n f).objs[cnt f 3]? = some (.arr false false 4 (L.map enc)) := fun L h => by
    simp only [y2n, cnt]
    have := yy4 (exOs f.regs ++ exOs f.params ++ exOs f.code) (exOs f.rows) [] (.arr false false 4 (L.map enc)) (by rw [h]; rfl)
    rwa [List.append_nil] at this
  have hlt : ∀ i, i < 4 → hasL f i = true → cnt f i < (y2n f).objs.length := by
    intro i hi hh
    have key : ∀ {x : OC}, (y2n f).objs[cnt f i]? = some x → cnt f i < (y2n f).objs.length := fun h => (List.getElem?_eq_some_iff.1 h).1
    match i, hi with
    | 0, _ => obtain ⟨L, h⟩ := Option.isSome_iff_exists.1 hh; exact key (o0 L h)
    | 1, _ => obtain ⟨L, h⟩ := Option.isSome_iff_exists.1 hh; exact key (o1 L h)
    | 2, _ => obtain ⟨L, h⟩ := Option.isSome_iff_exists.1 hh; exact key (o2 L h)
    | 3, _ => obtain ⟨L, h⟩ := Option.isSome_iff_exists.1 hh; exact key (o3 L h)
  have tb : ∀ k, k < (y2n f).objs.length → ([] ++ (List.range (y2n f).objs.length).map fun i => (fb + j + i, gAt H (fb + j + i)))[k]? = some (fb + j + k, gAt H (fb + j + k)) := fun k hk => by simp [hk]
  refine ⟨H', fun i => fb + j + cnt f i, fun i => gAt H (fb + j + cnt f i), ?_, ⟨fun L h => ob 0 _ (o0 L h), fun L h => ob 1 _ (o1 L h), fun L h => ob 2 _ (o2 L h), fun L h => ob 3 _ (o3 L h), ?_⟩, e2, fun i hi hh => ⟨by show fb + j ≤ fb + j + cnt f i; omega, by have := hlt i hi hh; show fb + j + cnt f i < fb + j + 4; omega⟩, fun k hk => e4 k (by omega)⟩
  · simp only [y7, show E.pure 13 = true from rfl, Bool.false_and, Bool.not_false, Bool.and_self, if_true, y28, ha, y2t3 f hs, List.isEmpty_nil, Bool.or_true, Bool.false_eq_true, if_false, e1]
    generalize hT : ([] ++ (List.range (y2n f).objs.length).map fun i => (fb + j + i, gAt H (fb + j + i))) = T at *
    have r0 := yeo (tab := T) (o := f.regs) (k := cnt f 0) (id := fb + j + cnt f 0) (g := gAt H (fb + j + cnt f 0)) (fun L h => tb _ (hlt 0 (by omega) (by simp [hasL, h])))
    have r1 := yeo (tab := T) (o := f.params) (k := cnt f 1) (id := fb + j + cnt f 1) (g := gAt H (fb + j + cnt f 1)) (fun L h => tb _ (hlt 1 (by omega) (by simp [hasL, h])))
    have r2 := yeo (tab := T) (o := f.code) (k := cnt f 2) (id := fb + j + cnt f 2) (g := gAt H (fb + j + cnt f 2)) (fun L h => tb _ (hlt 2 (by omega) (by simp [hasL, h])))
    have r3 := yeo (tab := T) (o := f.rows) (k := cnt f 3) (id := fb + j + cnt f 3) (g := gAt H (fb + j + cnt f 3)) (fun L h => tb _ (hlt 3 (by omega) (by simp [hasL, h])))
    have ri : y2m T (.int .i64 f.ret) = .int .i64 f.ret := rfl
    have hv : (y2n f).v = .agg [exV (cnt f 0) f.regs, exV (cnt f 1) f.params, .int .i64 f.ret, exV (cnt f 2) f.code, exV (cnt f 3) f.rows] := rfl
    rw [hv]
    simp only [reloc, y8i, List.map_cons, List.map_nil, r0, r1, r2, r3, ri]
    rfl
  · have h1 := yhq f.regs
    have h2 := yhq f.params
    have h3 := yhq f.code
    intro i k hi hk hne h4 h5
    have c0 : cnt f 0 = 0 := rfl
    have c1 : cnt f 1 = (exOs f.regs).length := rfl
    have c2 : cnt f 2 = (exOs f.regs).length + (exOs f.params).length := by simp [cnt]
    have c3 : cnt f 3 = (exOs f.regs).length + (exOs f.params).length + (exOs f.code).length := by simp [cnt]; omega
    show fb + j + cnt f i ≠ fb + j + cnt f k
    have a0 : hasL f 0 = true → (exOs f.regs).length = 1 := fun h => h1.trans (if_pos h)
    have a1 : hasL f 1 = true → (exOs f.params).length = 1 := fun h => h2.trans (if_pos h)
    have a2 : hasL f 2 = true → (exOs f.code).length = 1 := fun h => h3.trans (if_pos h)
    match i, k, hi, hk with
    | 0, 0, _, _ => omega
    | 0, 1, _, _ => have := a0 h4; omega
    | 0, 2, _, _ => have := a0 h4; omega
    | 0, 3, _, _ => have := a0 h4; omega
    | 1, 0, _, _ => have := a0 h5; omega
    | 1, 1, _, _ => omega
    | 1, 2, _, _ => have := a1 h4; omega
    | 1, 3, _, _ => have := a1 h4; omega
    | 2, 0, _, _ => have := a0 h5; omega
    | 2, 1, _, _ => have := a1 h5; omega
    | 2, 2, _, _ => omega
    | 2, 3, _, _ => have := a2 h4; omega
    | 3, 0, _, _ => have := a0 h5; omega
    | 3, 1, _, _ => have := a1 h5; omega
    | 3, 2, _, _ => have := a2 h5; omega
    | 3, 3, _, _ => omega
theorem ydk {E : Env} {C : Calls2} {fb f : Nat} {args : List AV} {h : Heap} {fa : Fz (List AV)} {r : Ex AV} {v : AV} (hE : E.pure f = true) (ha : yt (fz h y18) args = some fa) (hf : r.fresh = true)
    (hc : C.p f fa.v = some r) (hr : ywn r v) (sl : Option Nat := none) (hsl : sl = none := by rfl) : y7 E C fb sl true f args h = some (v, h) := by
  subst hsl
  obtain ⟨q, h1, h2⟩ := hr
  simp [y7, hE, y28, ha, hc, hf, h1, h2]
end Go.Vm
namespace Go.Vm
open Cel
attribute [local simp] y7 y28 yr
@[simp] theorem y300 (x : Ins) : (y8 E).p 24 [.agg (enc x)] = some ⟨.bool (ends x.op), [], true, [], []⟩ := by
  rw [y2vs, y2mr]
  by_cases h1 : x.op = 27
  · simp [h1, ends]
  by_cases h2 : x.op = 30
  · simp [h2, ends]
  by_cases h3 : x.op = 31 <;> simp [h1, h2, h3, ends]
@[simp] theorem y2y2 (x : Ins) : (y8 E).p 22 [.agg (enc x)] = some ⟨.bool (leads x.op), [], true, [], []⟩ := by
  rw [y2xd, y2ez]
  by_cases h1 : x.op = 27
  · simp [h1, leads]
  by_cases h2 : x.op = 28
  · simp [h2, leads]
  by_cases h3 : x.op = 29 <;> simp [h1, h2, h3, leads]
@[simp] theorem ywf (x : Ins) : (y8 E).p 17 [.agg (enc x)] = some ⟨.bool (calls x.op), [], true, [], []⟩ := by
  rw [y2xc, y2kt]
  by_cases h1 : 23 ≤ x.op
  · by_cases h2 : x.op ≤ 26 <;> simp [h1, h2, calls]
  · simp [h1, calls]
end Go.Vm
namespace Go.Vm
open Cel
attribute [local simp] y7 y28 yr
@[simp] theorem y2sp (x : Ins) : (y8 E).p 9 [.agg (enc x)] = some ⟨.int .i64 (defr x), [], true, [], []⟩ := by
  rw [y2yu]
  rcases yez x.op with h|h|h|h|h|h|h|h|h|h|h|h|h|h|h|h|h|h|h|h|h|h|h|h|h|h|h|h|h|h|h|h|h|h|h <;> first | (simp [h, defr, writes, calls, y1t7, y1j7, yai, y1qc, y1lp, y1sc]; done) | (simp [lo_f h, defr, writes, calls, y1t7, y1j7, yai, y1qc, y1lp, y1sc]; done) | simp [hi_f h, defr, writes, calls, y1t7, y1j7, yai, y1qc, y1lp, y1sc]
end Go.Vm
namespace Go.Vm
open Cel
theorem ypo (o : Option Fx) (h : (lst o).length ≤ 17592186043904) : (y8 E).p 153 [slA o] = some (exO o) := by
  rw [y2s4]
  cases o with
  | none => rfl
  | some L =>
    simp only [y3b] at h
    have h1 : (2 * L.length + 512) * 8 ≤ 281474976710656 := by omega
    simp [y1n7, y1ql, y1j1, yw, y15, y3h, h1]
    exact y26 (α := Int) (by simp)
theorem y76 {k n : Nat} (h : k < n) (hn : n ≤ 9223372036854775807) : y5 .add (.int .i64 (k : Int)) (.int .i64 1) = some (.int .i64 ((k + 1 : Nat) : Int)) := by
  rw [y1q]
  congr 2
  rw [y2b] <;> omega
theorem yo2 (a b : Fx) (h : a.length = b.length) (hn : a.length ≤ 9223372036854775807) : ∀ (d k : Nat), k + d = a.length → ∀ H : Heap, ykz (slA (some a)) (slA (some b)) (.int .i64 a.length) (.int .i64 k) H = some ⟨.bool (decide (a.drop k = b.drop k)), [], true, [], []⟩
  | 0, k, hk, H => by
    have : k = a.length := by omega
    subst this
    have hb : b.drop a.length = [] := by rw [h]; exact List.drop_length
    have hc : ¬ (a.length : Int) < (a.length : Int) := by omega
    rw [yn6, List.drop_length, hb]
    simp only [y12o, yh, y2, hc, decide_false, y191, y1p, y1ff]
    rfl
  | d + 1, k, hk, H => by
    have hk1 : k < a.length := by omega
    have hk2 : k < b.length := by omega
    have hlt : (k : Int) < (a.length : Int) := by omega
    have xa : yi 1 (slA (some a)) (.int .i64 (k : Int)) = some (.rp [.int .i64 a[k]]) := y24 (o := some a) (List.getElem?_eq_getElem hk1) .i64
    have xb : yi 1 (slA (some b)) (.int .i64 (k : Int)) = some (.rp [.int .i64 b[k]]) := y24 (o := some b) (List.getElem?_eq_getElem hk2) .i64
    have l1 : ∀ (v : Int), evLd false 1 (.rp [.int .i64 v]) H = some (.int .i64 v) := fun v => rfl
    have ih := yo2 a b h hn d (k + 1) (by omega) H
    rw [yn6, List.drop_eq_getElem_cons hk1, List.drop_eq_getElem_cons hk2]
    generalize a[k] = x at *
    generalize b[k] = y at *
    rw [y12o, yh, y2, decide_eq_true hlt, y191, y1f, y1yd, xa, y2, l1, y2, xb, y2, l1, y2, y3y, y2]
    by_cases e : x = y
    · subst e
      rw [decide_eq_false (by simp), y1p, y1l7, y76 hk1 hn, y2, ih]
      simp
    · rw [decide_eq_true e, y1f]
      simp [e]
theorem y21o (a b : Fx) (h : a.length = b.length) (hn : a.length ≤ 9223372036854775807) : (y8 E).p 156 [slA (some a), slA (some b)] = some ⟨.bool (decide (a = b)), [], true, [], []⟩ := by
  rw [y2rt]
  have e := yo2 a b h hn _ 0 (Nat.zero_add _) []
  have l : ∀ o : Fx, yq 1 (slA (some o)) [] = some (.int .i64 o.length) := fun o => by rw [y33]; rfl
  have ne : y5 .neq (.int .i64 (a.length : Int)) (.int .i64 (b.length : Int)) = some (.bool false) := by rw [h, y3y]; simp
  rw [yxr, yyi, l, y2, l, y2, ne, y2, y1p, y1ua, l, y2]
  exact e
theorem ynk {id g n k : Nat} (h : k < n) : yi 1 (.ls id g 1 0 n) (.int .i64 (k : Int)) = some (.lp id g k 0) := by
  have := y8c (n := n) (p := (k : Int)) (by omega) (by omega) id g .i64
  rwa [Int.toNat_natCast] at this
theorem y1rv {H : Heap} {id g k : Nat} {L : Fx} (h : H[id]? = some (AI g L)) (hk : k < L.length) : evLd false 1 (.lp id g k 0) H = some (.int .i64 L[k]) :=
  y1bo (α := Int) (H := H) (id := id) (g := g) (i := k) (x := L[k]) h (List.getElem?_eq_getElem hk) rfl
theorem y0n {H : Heap} {id g k : Nat} {L : Fx} (v : Int) (h : H[id]? = some (AI g L)) (hk : k < L.length) : evSt 1 (.lp id g k 0) (.int .i64 v) H = some (.tup [], H.set id (AI g (L.set k v))) :=
  ydc (α := Int) (H := H) (id := id) (g := g) (i := k) (L := L) (v := .int .i64 v) (y := v) h hk rfl
theorem y13f (a b : Fx) (h : a.length = b.length) (hn : a.length ≤ 9223372036854775807) (g : Nat) : ∀ (d k : Nat), k + d = a.length → ∀ H : Heap, H[1]? = some (AI g (metK k a b)) →
    y1lc (slA (some b)) (.ls 1 g 1 0 a.length) (.int .i64 a.length) (.int .i64 k) H = q5_1 (.ls 1 g 1 0 a.length) (H.set 1 (AI g (metL a b)))
  | 0, k, hk, H, hH => by
    have : k = a.length := by omega
    subst this
    have hc : ¬ (a.length : Int) < (a.length : Int) := by omega
    rw [y24b h] at hH
    rw [yz0, y6e hH, q5_6, yh, y2, decide_eq_false hc, q5_5, y1p]
  | d + 1, k, hk, H, hH => by
    have hk1 : k < a.length := by omega
    have hk2 : k < b.length := by omega
    have hk3 : k < (metK k a b).length := by rw [y0b h]; exact hk1
    have hlt : (k : Int) < (a.length : Int) := by omega
    have e1 : (metK k a b)[k] = a[k] := by
      have := y2j8 h hk1
      rw [List.getElem?_eq_getElem hk3] at this
      exact Option.some.inj this
    have la := y1rv hH hk3
    rw [e1] at la
    have st := y0n (-1) hH hk3
    have xb : yi 1 (slA (some b)) (.int .i64 (k : Int)) = some (.rp [.int .i64 b[k]]) := y24 (o := some b) (List.getElem?_eq_getElem hk2) .i64
    have l1 : ∀ (v : Int), evLd false 1 (.rp [.int .i64 v]) H = some (.int .i64 v) := fun v => rfl
    have ih := y13f a b h hn g d (k + 1) (by omega)
    have hs := y1wt h hk1
    have hl1 : 1 < H.length := (List.getElem?_eq_some_iff.1 hH).1
    rw [yz0, q5_6, yh, y2, decide_eq_true hlt, q5_5, y1f, q5_4, ynk hk1, y2, la, y2, xb, y2, l1, y2, y3y, y2]
    by_cases e : a[k] = b[k]
    · rw [if_pos e] at hs
      have hs2 : metK (k + 1) a b = metK k a b := by
        have e2 : (metK k a b).set k (metK k a b)[k] = metK k a b := List.set_getElem_self hk3
        rw [e1] at e2
        rw [hs, e2]
      rw [decide_eq_false (by simp [e]), y1p, q5_3, y76 hk1 hn, y2, ih H (by rw [hs2]; exact hH)]
    · rw [if_neg e] at hs
      rw [decide_eq_true e, y1f, y2, st, yf, q5_3, y76 hk1 hn, y2, ih _ (by rw [List.getElem?_set_self hl1, hs]), List.set_set]
theorem y1h7 (o : Option Fx) (H : Heap) : yt (fz H y18) [slA o] = some ⟨[slA o], (lst o).isEmpty && true, []⟩ := by
  rw [yk, yqk, y11]; rfl
theorem y2yv (o : Option Fx) (b : Fx) (h : o ≠ none → (lst o).length = b.length) (hn : b.length ≤ 1000000) : (y8 E).p 155 [slA o, slA (some b)] = some (exO (some (metM o b))) := by
  rw [x_q5]
  cases o with
  | none =>
    have c := y9a (E := E) (C := y8 E) (fb := 0) (j := 0) (f := 153) (args := [slA (some b)]) (H := [D0, D0]) (N := some b) (o := D0) rfl (y1h7 _ _) (ypo (some b) (by simp only [y3b]; omega)) rfl rfl
    have c' : y7 E (y8 E) 0 (some 0) false 153 [slA (some b)] [D0, D0] = some (.ls 0 1 1 0 b.length, [AI 1 b, D0]) := c
    have e0 : y3n 1 false (slA (none : Option Fx)) AV.nils = some (.bool true) := rfl
    rw [y28w, y26x, e0, y2, y1f, c', yf]
    exact y26 (α := Int) (L := b) (by simp [ym, y37])
  | some a =>
    have h := h (by simp)
    simp only [y3b] at h
    have c := y9a (E := E) (C := y8 E) (fb := 0) (j := 1) (f := 153) (args := [slA (some a)]) (H := [D0, D0]) (N := some a) (o := D0) rfl (y1h7 _ _) (ypo (some a) (by simp only [y3b]; omega)) rfl rfl
    have c' : y7 E (y8 E) 0 (some 1) false 153 [slA (some a)] [D0, D0] = some (.ls 1 1 1 0 a.length, [D0, AI 1 a]) := c
    have e0 : y3n 1 false (slA (some a)) AV.nils = some (.bool false) := rfl
    have lp := y13f a b h (by omega) 1 _ 0 (Nat.zero_add _) [D0, AI 1 a] (by rw [y2nr]; rfl)
    have l : yq 1 (.ls 1 1 1 0 a.length) [D0, AI 1 a] = some (.int .i64 a.length) := rfl
    rw [y28w, y26x, e0, y2, y1p, y2ks, c', yf, q5_8, l, y2]
    refine lp.trans ?_
    rw [q5_1]
    have : a.length = (metL a b).length := by rw [y11w h]
    rw [this]
    exact y26 (α := Int) (L := metL a b) (by simp [ym, y37])
theorem yzu (fb id g : Nat) (r : Int) (s : Fx) (hn : s.length ≤ 9223372036854775807) : ∀ (d k : Nat), k + d = s.length → ∀ H : Heap, H[id]? = some (AI g (unK k r s)) →
    y1w9 fb (.ls id g 1 0 s.length) (.int .i64 r) (.int .i64 s.length) (.int .i64 k) H = some (.tup [], H.set id (AI g (unq r s)))
  | 0, k, hk, H, hH => by
    have : k = s.length := by omega
    subst this
    have hc : ¬ (s.length : Int) < (s.length : Int) := by omega
    rw [y2lt] at hH
    rw [y17q, y6e hH, q4_5, yh, y2, decide_eq_false hc, q4_4, y1p]
  | d + 1, k, hk, H, hH => by
    have hk1 : k < s.length := by omega
    have hk3 : k < (unK k r s).length := by rw [y1q0]; exact hk1
    have hlt : (k : Int) < (s.length : Int) := by omega
    have e1 : (unK k r s)[k] = s[k] := by
      have := y2sv (r := r) hk1
      rw [List.getElem?_eq_getElem hk3] at this
      exact Option.some.inj this
    have la := y1rv hH hk3
    rw [e1] at la
    have st := y0n (-1) hH hk3
    have ih := yzu fb id g r s hn d (k + 1) (by omega)
    have hs := y23l (r := r) hk1
    have hl1 : id < H.length := (List.getElem?_eq_some_iff.1 hH).1
    rw [y17q, q4_5, yh, y2, decide_eq_true hlt, q4_4, y1f, q4_3, ynk hk1, y2, la, y2, y2k, y2]
    by_cases e : s[k] = r
    · rw [if_pos e] at hs
      rw [decide_eq_true e, y1f, y2, st, yf, q4_2, y76 hk1 hn, y2, ih _ (by rw [List.getElem?_set_self hl1, hs]), List.set_set]
    · rw [if_neg e] at hs
      have hs2 : unK (k + 1) r s = unK k r s := by
        have e2 : (unK k r s).set k (unK k r s)[k] = unK k r s := List.set_getElem_self hk3
        rw [e1] at e2
        rw [hs, e2]
      rw [decide_eq_false e, y1p, q4_2, y76 hk1 hn, y2, ih H (by rw [hs2]; exact hH)]
theorem y1m6 {id g : Nat} {r : Int} {s : Fx} {H : Heap} (hH : H[id]? = some (AI g s)) (h0 : 0 ≤ r) (h1 : r < s.length) (hn : s.length ≤ 9223372036854775807) :
    y7 E (y8 E) 0 none false 154 [.ls id g 1 0 s.length, .int .i64 r] H = some (.tup [], H.set id (AI g (wrtL s r))) := by
  have hd : H ++ yp 0 = H := by simp [yp]
  have hk : r.toNat < s.length := by omega
  have ix : yi 1 (.ls id g 1 0 s.length) (.int .i64 r) = some (.lp id g r.toNat 0) := by
    have := ynk (id := id) (g := g) hk
    rwa [Int.toNat_of_nonneg h0] at this
  have st := y0n (-1) hH hk
  have hl1 : id < H.length := (List.getElem?_eq_some_iff.1 hH).1
  have lp := yzu H.length id g r (s.set r.toNat (-1)) (by rw [List.length_set]; exact hn) _ 0 (Nat.zero_add _) (H.set id (AI g (s.set r.toNat (-1)))) (by rw [List.getElem?_set_self hl1, y2yz])
  rw [List.length_set, List.set_set] at lp
  have l : ∀ H : Heap, yq 1 (.ls id g 1 0 s.length) H = some (.int .i64 s.length) := fun H => rfl
  rw [y7, if_neg (by simp), x_q4, if_pos rfl, hd, q4_8, ix, y2, st, yf, q4_7, l, y2]
  exact lp
abbrev HBe (x : Ins) (s : Fx) : Heap := [AX 1 x, AI 1 s]
theorem yxv (x : Ins) (s : Fx) (q : Int) (h0 : 0 ≤ defr x) (h1 : defr x < s.length) (hn : s.length ≤ 1000000) :
    q3_1 (.ls 1 1 1 0 s.length) (.int .i64 (defr x)) (.int .i64 q) (HBe x s) = some (exO (some ((wrtL s (defr x)).set (defr x).toNat q))) := by
  have w := y1m6 (H := HBe x s) (id := 1) (g := 1) (r := defr x) (s := s) rfl h0 h1 (by omega)
  have hw : (HBe x s).set 1 (AI 1 (wrtL s (defr x))) = HBe x (wrtL s (defr x)) := rfl
  rw [hw] at w
  have hk : (defr x).toNat < s.length := by omega
  have ix : yi 1 (.ls 1 1 1 0 s.length) (.int .i64 (defr x)) = some (.lp 1 1 (defr x).toNat 0) := by
    have := ynk (id := 1) (g := 1) hk
    rwa [Int.toNat_of_nonneg h0] at this
  have st := y0n (H := HBe x (wrtL s (defr x))) (id := 1) (g := 1) (k := (defr x).toNat) q rfl (by rw [yhn]; exact hk)
  have hs : (HBe x (wrtL s (defr x))).set 1 (AI 1 ((wrtL s (defr x)).set (defr x).toNat q)) = HBe x ((wrtL s (defr x)).set (defr x).toNat q) := rfl
  rw [hs] at st
  rw [q3_1, w, yf, ix, y2, st, yf]
  have hl : s.length = ((wrtL s (defr x)).set (defr x).toNat q).length := by rw [List.length_set, yhn]
  rw [hl]
  exact y26 (α := Int) (L := (wrtL s (defr x)).set (defr x).toNat q) (by simp [ym, y37])
theorem yql (x : Ins) (s : Fx) : yc (HBe x s) (.ls 1 1 1 0 s.length) = some (exO (some s)) := y26 (α := Int) (L := s) (by simp [ym, y37])
theorem y240 (x : Ins) (s : Fx) (hn : s.length ≤ 1000000) (h1 : defr x < s.length) (ha : x.op = 4 → 0 ≤ x.a ∧ x.a < s.length) : (y8 E).p 152 [slA (some s), .agg (enc x)] = some (exO (some (behM s x))) := by
  rw [x_q3]
  have n0 : newC 0 (some 0) (cellsOf (.agg (enc x))) [D0, D0] = some (.lp 0 1 0 0, [AX 1 x, D0]) := by simp
  have c := y9a (E := E) (C := y8 E) (fb := 0) (j := 1) (f := 153) (args := [slA (some s)]) (H := [AX 1 x, D0]) (N := some s) (o := D0) rfl (y1h7 _ _) (ypo (some s) (by simp only [y3b]; omega)) rfl rfl
  have c' : y7 E (y8 E) 0 (some 1) false 153 [slA (some s)] [AX 1 x, D0] = some (.ls 1 1 1 0 s.length, HBe x s) := c
  have lx : evLd true 9 (.lp 0 1 0 0) (HBe x s) = some (.agg (enc x)) := by simp
  have cD : y7 E (y8 E) 0 none true 9 [.agg (enc x)] (HBe x s) = some (.int .i64 (defr x), HBe x s) := y27 (fa := ⟨[.agg (enc x)], scal x && true, []⟩) rfl (by rw [yk, y5d, y11]; rfl) rfl (y2sp x) ⟨_, rfl, rfl⟩
  have f0 : evFa 0 (.lp 0 1 0 0) = some (.lp 0 1 0 0) := rfl
  have f2 : evFa 2 (.lp 0 1 0 0) = some (.lp 0 1 0 2) := rfl
  have l0 : evLd false 1 (.lp 0 1 0 0) (HBe x s) = some (.int .i64 x.op) := by simp
  have l2 : evLd false 1 (.lp 0 1 0 2) (HBe x s) = some (.int .i64 x.a) := by simp
  rw [q3_7, n0, yf, q3_6, c', yf, q3_5, lx, y2, cD, yf, q3_4, yh, y2]
  unfold behM
  by_cases hd : defr x < 0
  · rw [if_pos (.inl hd), decide_eq_true hd]
    simp only [ylt, y2a, y2, y1f]
    exact yql x s
  have hd0 : 0 ≤ defr x := by omega
  rw [decide_eq_false hd]
  by_cases h4 : x.op = 4
  · obtain ⟨a0, a1⟩ := ha h4
    by_cases hq : x.a = defr x
    · rw [if_pos (.inr ⟨h4, hq⟩)]
      simp only [ycn, f0, y2, l0, y2k, h4, decide_true, ycm, f2, l2, hq, y2a, y2p, y1f]
      exact yql x s
    · have nq : ¬ (defr x < 0 ∨ (x.op = 4 ∧ x.a = defr x)) := by rintro (h | h); exact hd h; exact hq h.2
      have hk : x.a.toNat < s.length := by omega
      have ix : yi 1 (.ls 1 1 1 0 s.length) (.int .i64 x.a) = some (.lp 1 1 x.a.toNat 0) := by
        have := ynk (id := 1) (g := 1) hk
        rwa [Int.toNat_of_nonneg a0] at this
      have ls := y1rv (H := HBe x s) (id := 1) (g := 1) (L := s) rfl hk
      have hg : s.getD x.a.toNat (-1) = s[x.a.toNat] := by rw [List.getD_eq_getElem?_getD, List.getElem?_eq_getElem hk]; rfl
      rw [if_neg nq, if_pos h4, hg]
      generalize s[x.a.toNat] = q at *
      have hq' : decide (x.a = defr x) = false := decide_eq_false hq
      have hq2 : decide (x.a ≠ defr x) = true := decide_eq_true hq
      simp only [ycn, f0, y2, l0, y2k, h4, decide_true, ycm, f2, l2, hq', y2a, y2p, y1p, q3_3, q3_2, y3y, hq2, y1f, ix, ls, y5x]
      by_cases g0 : 0 ≤ q
      · by_cases g1 : q = defr x
        · rw [decide_eq_true g0]
          have z : decide (q ≠ defr x) = false := by simp [g1]
          simp only [ycm, y2, ix, ls, y3y, z, y2a, y1p, decide_eq_true g1, y1f]
          rw [if_neg (fun h => h.2 g1), if_pos g1]
          exact yql x s
        · rw [decide_eq_true g0]
          have z : decide (q ≠ defr x) = true := decide_eq_true g1
          simp only [ycm, y2, ix, ls, y3y, z, y2a, y1f]
          rw [if_pos ⟨g0, g1⟩]
          exact yxv x s q hd0 h1 hn
      · have g1 : ¬ q = defr x := by omega
        rw [decide_eq_false g0]
        simp only [ylj, y2p, y2, y1p, ix, ls, decide_eq_false g1]
        rw [if_neg (fun h => g0 h.1), if_neg g1]
        exact yxv x s x.a hd0 h1 hn
  · have nq : ¬ (defr x < 0 ∨ (x.op = 4 ∧ x.a = defr x)) := by rintro (h | h); exact hd h; exact h4 h.1
    rw [if_neg nq, if_neg h4]
    simp only [ycn, f0, y2, l0, y2k, decide_eq_false h4, ylj, y2p, y1p, q3_3, q3_2]
    exact yxv x s (-1) hd0 h1 hn
end Go.Vm
namespace Go.Vm
open Cel
theorem y276 {f : Fn} {L L' : List Ins} (p g : Nat → Nat) (h : L.length = L'.length) : fnC (y7l f L) p g = fnC (y7l f L') p g := by
  simp [fnC, y7l, ownV, h]
structure DSt (H : Heap) (f : Fn) (p g : Nat → Nat) (n : Nat) : Prop where
  at_ : FnAt H f p g
  box : H[0]? = some ⟨1, .arr true false 5 [fnC f p g]⟩
  res : ∃ c, H[1]? = some ⟨1, .arr true false 5 [c]⟩ ∧ c.length = 5
  len : n ≤ H.length
  lo : ∀ i, i < 4 → hasL f i = true → 2 ≤ p i ∧ p i < 6
theorem yq0 (f : Fn) (p g : Nat → Nat) : (fnC f p g).length = 5 := rfl
theorem y15x (f : Fn) (p g : Nat → Nat) : (fnC f p g).all y17 = true := by simp [fnC]
theorem y1ph {H : Heap} {a : Nat} {c : List AV} (h : H[a]? = some ⟨1, .arr true false 5 [c]⟩) (hl : c.length = 5) : evLd true 5 (.lp a 1 0 0) H = some (.agg c) := by
  have hr : ym H a 1 = some (false, 5, [c]) := by simp [ym, y37, h]
  rw [y38, hr]
  simp only [List.getElem?_cons_zero, List.drop_zero, y6p, if_true, hl, Nat.le_refl]
  rw [List.take_of_length_le (by omega)]
theorem y17g {H : Heap} {a k : Nat} {c : List AV} {v : AV} (h : H[a]? = some ⟨1, .arr true false 5 [c]⟩) (hv : c[k]? = some v) : evLd false 1 (.lp a 1 0 k) H = some v := by
  have hr : ym H a 1 = some (false, 5, [c]) := by simp [ym, y37, h]
  rw [y38, hr]
  simp only [List.getElem?_cons_zero, ybi, List.head?_drop, hv]
theorem y2jx {H : Heap} {a : Nat} {c d : List AV} {v : AV} (h : H[a]? = some ⟨1, .arr true false 5 [c]⟩) (hl : c.length = 5) (hv : cellsOf v = d) (hd : d.length = 5) (hf : d.all y17 = true) :
    evSt 5 (.lp a 1 0 0) v H = some (.tup [], H.set a ⟨1, .arr true false 5 [d]⟩) := by
  have hr : ym H a 1 = some (false, 5, [c]) := by simp [ym, y37, h]
  rw [y5n, hr]
  simp only [List.getElem?_cons_zero, hv]
  rw [if_pos ⟨hd, by omega, hf⟩, yg0 (by rw [hd, hl]), y29, h]
  rfl
theorem y1l9 {H : Heap} {a : Nat} {c d : List AV} (h : H[a]? = some ⟨1, .arr true false 5 [c]⟩) (hl : c.length = 5) (hd : d.length = 5) (hf : d.all y17 = true) :
    evSt 5 (.lp a 1 0 0) (.agg d) H = some (.tup [], H.set a ⟨1, .arr true false 5 [d]⟩) := y2jx h hl rfl hd hf
theorem y1sk {H : Heap} {id g i : Nat} {L : List Ins} {x : Ins} (h : H[id]? = some ⟨g, .arr false false 9 (L.map enc)⟩) (hx : L[i]? = some x) : evLd true 9 (.lp id g i 0) H = some (.agg (enc x)) := by
  have hr : ym H id g = some (false, 9, L.map enc) := by simp [ym, y37, h]
  have hg : (L.map (enc (α := Ins)))[i]? = some (enc x) := by simp [hx]
  rw [y38, hr]
  simp only [hg, List.drop_zero, ype]
theorem y11p {n i : Nat} (h : i < n) (id g e : Nat) (k : IntKind) : yi e (.ls id g e 0 n) (.int k i) = some (.lp id g i 0) := by
  have : (i : Int) < (n : Int) := by omega
  simp [yi, this]
section
variable {H : Heap} {f : Fn} {p g : Nat → Nat} {n : Nat} (D : DSt H f p g n)
include D
theorem DSt.ld : evLd true 5 (.lp 0 1 0 0) H = some (fnV f p g) := y1ph D.box (yq0 f p g)
theorem DSt.ldc : evLd false 1 (.lp 0 1 0 3) H = some (ownV (p 2) (g 2) f.code) := y17g D.box rfl
theorem DSt.set {a : Nat} {x : AO} (ha : 6 ≤ a) : DSt (H.set a x) f p g n := by
  refine ⟨D.at_.set fun i hi hh => ?_, by rw [yv (by omega)]; exact D.box, ?_, by rw [List.length_set]; exact D.len, D.lo⟩
  · have := D.lo i hi hh; omega
  · obtain ⟨c, h1, h2⟩ := D.res
    exact ⟨c, by rw [yv (by omega)]; exact h1, h2⟩
theorem DSt.setCode {L L' : List Ins} (hL : f.code = some L) (hl : L.length = L'.length) : DSt (H.set (p 2) ⟨g 2, .arr false false 9 (L'.map enc)⟩) (y7l f L') p g n := by
  have hc : hasL f 2 = true := by simp [hasL, hL]
  have h2 := D.lo 2 (by omega) hc
  refine ⟨D.at_.setCode hL, ?_, ?_, by rw [List.length_set]; exact D.len, fun i hi hh => D.lo i hi ?_⟩
  · rw [yv (by omega), D.box]
    have := y276 (f := f) p g hl
    rw [yod hL] at this
    rw [this]
  · obtain ⟨c, h1, h2⟩ := D.res
    exact ⟨c, by rw [yv (by omega)]; exact h1, h2⟩
  · match i, hh with
    | 0, hh => exact hh
    | 1, hh => exact hh
    | 2, _ => exact hc
    | i + 3, hh => exact hh
theorem DSt.out : ∃ H', evSt 5 (.lp 1 1 0 0) (fnV f p g) H = some (.tup [], H') ∧ evLd true 5 (.lp 1 1 0 0) H' = some (fnV f p g) ∧ yc H' (fnV f p g) = some (y2n f) := by
  obtain ⟨c, h1, h2⟩ := D.res
  refine ⟨_, y1l9 h1 h2 (yq0 f p g) (y15x f p g), y1ph (y3w (y3d h1)) (yq0 f p g), FnAt.expo (D.at_.set fun i hi hh => ?_)⟩
  have := D.lo i hi hh; omega
theorem DSt.ix {L : List Ins} (hL : f.code = some L) {i : Nat} {x : Ins} (hx : L[i]? = some x) : evLd true 9 (.lp (p 2) (g 2) i 0) H = some (.agg (enc x)) := y1sk (D.at_.code L hL) hx
theorem DSt.st {L : List Ins} (hL : f.code = some L) {i : Nat} (hi : i < L.length) (y : Ins) : evSt 9 (.lp (p 2) (g 2) i 0) (.agg (enc y)) H = some (.tup [], H.set (p 2) ⟨g 2, .arr false false 9 ((L.set i y).map enc)⟩) :=
  ydc (α := Ins) (D.at_.code L hL) hi rfl
theorem DSt.call {E : Env} {C : Calls2} {fb k : Nat} {r : Ex AV} {v : AV} (hE : E.pure k = true) (hf : r.fresh = true) (hc : C.p k [.agg (enc f)] = some r) (hr : ywn r v) (sl : Option Nat := none) (hsl : sl = none := by rfl) : y7 E C fb sl true k [fnV f p g] H = some (v, H) := by
  subst hsl
  obtain ⟨fr, ids, hz⟩ := D.at_.fz
  refine ydk (fa := ⟨[.agg (enc f)], fr && true, ids ++ []⟩) hE ?_ hf hc hr
  rw [yk, hz, y11]
theorem DSt.call2 {E : Env} {C : Calls2} {fb k : Nat} {r : Ex AV} {v : AV} {i : Int} (hE : E.pure k = true) (hf : r.fresh = true) (hc : C.p k [.agg (enc f), .int .i64 i] = some r) (hr : ywn r v) (sl : Option Nat := none) (hsl : sl = none := by rfl) : y7 E C fb sl true k [fnV f p g, .int .i64 i] H = some (v, H) := by
  subst hsl
  obtain ⟨fr, ids, hz⟩ := D.at_.fz
  refine ydk (fa := ⟨[.agg (enc f), .int .i64 i], fr && (true && true), ids ++ ([] ++ [])⟩) hE ?_ hf hc hr
  rw [yk, yk, hz, ywp, y11]
end
theorem ylf {H T : Heap} {a : Nat} {x : AO} (h : H[a]? = some x) : (H ++ T)[a]? = some x := by
  rw [List.getElem?_append_left (y3d h)]; exact h
theorem FnAt.grow {H : Heap} {f : Fn} {p g : Nat → Nat} (A : FnAt H f p g) (T : Heap) : FnAt (H ++ T) f p g :=
  ⟨fun L e => ylf (A.regs L e), fun L e => ylf (A.params L e), fun L e => ylf (A.code L e), fun L e => ylf (A.rows L e), A.ne⟩
theorem DSt.grow {H : Heap} {f : Fn} {p g : Nat → Nat} {n : Nat} (D : DSt H f p g n) (T : Heap) : DSt (H ++ T) f p g n := by
  obtain ⟨c, h1, h2⟩ := D.res
  exact ⟨D.at_.grow T, ylf D.box, ⟨c, ylf h1, h2⟩, by rw [List.length_append]; have := D.len; omega, D.lo⟩
theorem y1e1 {f : Fn} (hs : FnSm f) {H : Heap} (h0 : H[0]? = some (AB f)) (h1 : ∃ c, H[1]? = some ⟨1, .arr true false 5 [c]⟩ ∧ c.length = 5) {n : Nat} (hn : 6 ≤ n) (hl : n ≤ H.length) :
    ∃ H1 H2 p g, y7 E (y8 E) 0 (some 2) false 13 [.agg (enc f)] H = some (fnV f p g, H1) ∧ evSt 5 (.lp 0 1 0 0) (fnV f p g) H1 = some (.tup [], H2) ∧ DSt H2 f p g n ∧ H2.length = H.length ∧ ∀ k, 6 ≤ k → H2[k]? = H[k]? := by
  obtain ⟨H1, p, g, e1, A, e2, e3, e4⟩ := y1qo hs (H := H) (fb := 0) (j := 2) (by omega)
  have hb : H1[0]? = some ⟨1, .arr true false 5 [enc f]⟩ := by rw [e4 0 (.inl (by omega)), h0]
  refine ⟨H1, _, p, g, e1, y1l9 hb rfl (yq0 f p g) (y15x f p g), ⟨A.set fun i hi hh => ?_, y3w (y3d hb), ?_, by rw [List.length_set, e2]; exact hl, fun i hi hh => by have := e3 i hi hh; omega⟩, by rw [List.length_set, e2], fun k hk => ?_⟩
  · have := e3 i hi hh; omega
  · obtain ⟨c, c1, c2⟩ := h1
    exact ⟨c, by rw [yv (by omega), e4 1 (.inl (by omega))]; exact c1, c2⟩
  · rw [yv (by omega), e4 k (.inr (by omega))]
end Go.Vm
namespace Go.Vm
open Cel
theorem yhl {H : Heap} {a : Nat} {v : AV} (h : H[a]? = some ⟨1, .arr true false 1 [[v]]⟩) : evLd false 1 (.lp a 1 0 0) H = some v := by
  have hr : ym H a 1 = some (false, 1, [[v]]) := by simp [ym, y37, h]
  rw [y38, hr]
  rfl
theorem y21v {H : Heap} {a : Nat} {v w : AV} (h : H[a]? = some ⟨1, .arr true false 1 [[v]]⟩) (hv : cellsOf w = [w]) (hl : y17 w = true) : evSt 1 (.lp a 1 0 0) w H = some (.tup [], H.set a ⟨1, .arr true false 1 [[w]]⟩) := by
  have hr : ym H a 1 = some (false, 1, [[v]]) := by simp [ym, y37, h]
  rw [y5n, hr]
  simp only [List.getElem?_cons_zero, hv]
  rw [if_pos (by simp [hl]), y29, h]
  rfl
def rowF (o : Option Fx) : List AV := [slA o]
abbrev tabF (T : FTab) : List (List AV) := T.map rowF
theorem yal {T : FTab} {i : Nat} (h : i < T.length) : (tabF T)[i]? = some [slA (fAt T i)] := by
  rw [List.getElem?_map, List.getElem?_eq_getElem h]
  unfold fAt
  rw [List.getElem?_eq_getElem h]
  rfl
theorem yqb (T : FTab) (i : Nat) (o : Option Fx) : (tabF T).set i [slA o] = tabF (T.set i o) := by
  rw [tabF, tabF, List.map_set]
  rfl
structure CSt (H : Heap) (f : Fn) (p g : Nat → Nat) (T : FTab) (W : List Int) : Prop where
  d : DSt H f p g 20
  tab : H[10]? = some ⟨1, .arr false false 1 (tabF T)⟩
  tbx : H[11]? = some ⟨1, .arr true false 1 [[.ls 10 1 1 0 T.length]]⟩
  wk : ∃ gw D, H[13]? = some (AI gw (W ++ D)) ∧ H[14]? = some ⟨1, .arr true false 1 [[.ls 13 gw 1 0 W.length]]⟩
theorem CSt.grow {H : Heap} {f : Fn} {p g : Nat → Nat} {T : FTab} {W : List Int} (S : CSt H f p g T W) (X : Heap) : CSt (H ++ X) f p g T W := by
  obtain ⟨gw, D, w1, w2⟩ := S.wk
  exact ⟨S.d.grow X, ylf S.tab, ylf S.tbx, gw, D, ylf w1, ylf w2⟩
theorem CSt.set {H : Heap} {f : Fn} {p g : Nat → Nat} {T : FTab} {W : List Int} (S : CSt H f p g T W) {a : Nat} {x : AO} (ha : 18 ≤ a ∨ a = 12 ∨ a = 15 ∨ a = 16 ∨ a = 17) : CSt (H.set a x) f p g T W := by
  obtain ⟨gw, D, w1, w2⟩ := S.wk
  exact ⟨S.d.set (by omega), by rw [yv (by omega)]; exact S.tab, by rw [yv (by omega)]; exact S.tbx, gw, D, by rw [yv (by omega)]; exact w1, by rw [yv (by omega)]; exact w2⟩
section
variable {f : Fn} {p g : Nat → Nat} {T : FTab} {W : List Int} {to : Int} (t0 : 0 ≤ to) (t1 : to < T.length) (hb : W.length ≤ 1000000000)
include t0 t1 hb
theorem y181 {H : Heap} (S : CSt H f p g T W) {fb : Nat} (hf : 18 ≤ fb) (h1 : H[fb + 0]? = some D0) (n : Fx) :
    ∃ H', q2_1 fb (.int .i64 to) (.lp 11 1 0 0) (.lp 14 1 0 0) (slA (some n)) H = some (.tup [], H') ∧ CSt H' f p g (T.set to.toNat (some n)) (W ++ [to]) := by
  obtain ⟨gw, D, w1, w2⟩ := S.wk
  have hlt : to.toNat < T.length := by omega
  have l1 := yhl S.tbx
  have ix := y8c (n := T.length) t0 t1 10 1 .i64
  have hrow := yal hlt
  have st := yud (v := slA (some n)) S.tab hrow rfl rfl
  rw [yqb] at st
  have q13 := w1
  have q14 := w2
  have S1d := S.d.set (a := 10) (x := ⟨1, .arr false false 1 (tabF (T.set to.toNat (some n)))⟩) (by omega)
  have h10 := y3d S.tab
  have h13 := y3d w1
  have h14 := y3d w2
  have h18 := y3d h1
  have m14 : (H.set 10 ⟨1, .arr false false 1 (tabF (T.set to.toNat (some n)))⟩)[14]? = some ⟨1, .arr true false 1 [[.ls 13 gw 1 0 W.length]]⟩ := by rw [yv (by omega)]; exact w2
  have m13 : (H.set 10 ⟨1, .arr false false 1 (tabF (T.set to.toNat (some n)))⟩)[13]? = some (AI gw (W ++ D)) := by rw [yv (by omega)]; exact w1
  have m11 : (H.set 10 ⟨1, .arr false false 1 (tabF (T.set to.toNat (some n)))⟩)[11]? = some ⟨1, .arr true false 1 [[.ls 10 1 1 0 T.length]]⟩ := by rw [yv (by omega)]; exact S.tbx
  have m10 : (H.set 10 ⟨1, .arr false false 1 (tabF (T.set to.toNat (some n)))⟩)[10]? = some ⟨1, .arr false false 1 (tabF (T.set to.toNat (some n)))⟩ := y3w h10
  have mfb : (H.set 10 ⟨1, .arr false false 1 (tabF (T.set to.toNat (some n)))⟩)[fb + 0]? = some D0 := by rw [yv (by omega)]; exact h1
  have hlen : (H.set 10 ⟨1, .arr false false 1 (tabF (T.set to.toNat (some n)))⟩).length = H.length := List.length_set
  generalize H.set 10 ⟨1, .arr false false 1 (tabF (T.set to.toNat (some n)))⟩ = H1 at *
  have l2 := yhl m14
  have b1 := yoa to mfb
  have S2d := S1d.set (a := fb + 0) (x := AI (D0.gen + 1) [to]) (by omega)
  have n14 : (H1.set (fb + 0) (AI (D0.gen + 1) [to]))[14]? = some ⟨1, .arr true false 1 [[.ls 13 gw 1 0 W.length]]⟩ := by rw [yv (by omega)]; exact m14
  have n13 : (H1.set (fb + 0) (AI (D0.gen + 1) [to]))[13]? = some (AI gw (W ++ D)) := by rw [yv (by omega)]; exact m13
  have n11 : (H1.set (fb + 0) (AI (D0.gen + 1) [to]))[11]? = some ⟨1, .arr true false 1 [[.ls 10 1 1 0 T.length]]⟩ := by rw [yv (by omega)]; exact m11
  have n10 : (H1.set (fb + 0) (AI (D0.gen + 1) [to]))[10]? = some ⟨1, .arr false false 1 (tabF (T.set to.toNat (some n)))⟩ := by rw [yv (by omega)]; exact m10
  have nfb : (H1.set (fb + 0) (AI (D0.gen + 1) [to]))[fb + 0]? = some (AI (D0.gen + 1) [to]) := y3w (by omega)
  generalize H1.set (fb + 0) (AI (D0.gen + 1) [to]) = H2 at *
  have ap : y3h fb (some 1) 1 8 (.ls 13 gw 1 0 W.length) (.ls (fb + 0) (D0.gen + 1) 1 0 1) H2 = some (.ls 13 (gw + 1) 1 0 (W ++ [to]).length, H2.set 13 (AI (gw + 1) (W ++ [to]))) :=
    ywg (α := Int) (M := [to]) (yxk (α := Int) (L := [to]) nfb) n13 (yrd (by simp; omega))
  have S3d := S2d.set (a := 13) (x := AI (gw + 1) (W ++ [to])) (by omega)
  have k14 : (H2.set 13 (AI (gw + 1) (W ++ [to])))[14]? = some ⟨1, .arr true false 1 [[.ls 13 gw 1 0 W.length]]⟩ := by rw [yv (by omega)]; exact n14
  have k13 : (H2.set 13 (AI (gw + 1) (W ++ [to])))[13]? = some (AI (gw + 1) (W ++ [to])) := y3w (y3d n13)
  have k11 : (H2.set 13 (AI (gw + 1) (W ++ [to])))[11]? = some ⟨1, .arr true false 1 [[.ls 10 1 1 0 T.length]]⟩ := by rw [yv (by omega)]; exact n11
  have k10 : (H2.set 13 (AI (gw + 1) (W ++ [to])))[10]? = some ⟨1, .arr false false 1 (tabF (T.set to.toNat (some n)))⟩ := by rw [yv (by omega)]; exact n10
  generalize H2.set 13 (AI (gw + 1) (W ++ [to])) = H3 at *
  have s14 := y21v (w := .ls 13 (gw + 1) 1 0 (W ++ [to]).length) k14 rfl rfl
  refine ⟨H3.set 14 ⟨1, .arr true false 1 [[.ls 13 (gw + 1) 1 0 (W ++ [to]).length]]⟩, ?_, S3d.set (by omega), ?_, ?_, gw + 1, [], ?_, y3w (y3d k14)⟩
  · rw [q2_1, l1, y2, ix, y2, st, yf, l2, y2, b1, yf, ap, yf, s14, yf]
  · rw [yv (by omega)]; exact k10
  · rw [yv (by omega), List.length_set]; exact k11
  · rw [yv (by omega), List.append_nil]; exact k13
theorem y161 {H : Heap} (S : CSt H f p g T W) {s : Fx} (hs : ∀ t, fAt T to.toNat = some t → t.length = s.length) (hn : s.length ≤ 1000000) :
    ∃ H', ymm E (y8 E) 0 none true (.fn 151 [.lp 11 1 0 0, .lp 14 1 0 0]) [.int .i64 to, slA (some s)] H = some (.tup [], H') ∧ CSt H' f p g (ye4 s to (T, W)).1 (ye4 s to (T, W)).2 := by
  have e1 : ymm E (y8 E) 0 none true (.fn 151 [.lp 11 1 0 0, .lp 14 1 0 0]) [.int .i64 to, slA (some s)] H = q2_3 H.length (.int .i64 to) (slA (some s)) (.lp 11 1 0 0) (.lp 14 1 0 0) (H ++ yp 2) := by
    rw [ymm]
    show y7 E (y8 E) 0 none true 151 [.int .i64 to, slA (some s), .lp 11 1 0 0, .lp 14 1 0 0] H = _
    rw [y7, if_neg (by simp), x_q2, if_pos rfl]
  rw [e1]
  have S0 := S.grow (yp 2)
  have hfb : 18 ≤ H.length := Nat.le_trans (by omega) S.d.len
  have d1 : (H ++ yp 2)[H.length + 0]? = some D0 := y29g (by omega)
  generalize H ++ yp 2 = H0 at *
  generalize H.length = fb at *
  have hlt : to.toNat < T.length := by omega
  have l1 := yhl S0.tbx
  have ix := y8c (n := T.length) t0 t1 10 1 .i64
  have lr := ya6 S0.tab (yal hlt)
  have fz2 : ∀ (o : Option Fx) (b : Fx), ∃ fr, yt (fz H0 y18) [slA o, slA (some b)] = some ⟨[slA o, slA (some b)], fr, []⟩ := fun o b => by
    refine ⟨(lst o).isEmpty && ((lst (some b)).isEmpty && true), ?_⟩
    rw [yk, yk, yqk, yqk, y11]
    rfl
  obtain ⟨fr1, hf1⟩ := fz2 (fAt T to.toNat) s
  have hm := y2yv (fAt T to.toNat) s (fun h => by
    obtain ⟨t, ht⟩ := y6h h
    rw [ht]; exact hs t ht) hn
  have cm : y7 E (y8 E) fb none true 155 [slA (fAt T to.toNat), slA (some s)] H0 = some (slA (some (metM (fAt T to.toNat) s)), H0) :=
    ydk rfl hf1 (by rw [y6x]; simp) hm ⟨_, ybe _, rfl⟩
  rw [q2_3, l1, y2, ix, y2, lr, y2, cm, yf]
  have hml := y11h hs
  unfold ye4
  simp only
  by_cases h0 : to = 0
  · rw [if_pos (.inl h0)]
    refine ⟨H0, ?_, S0⟩
    rw [q2_2, y2k, y2, decide_eq_true h0]
    simp only [ylt, yj9, y2s9, y2a, y2, y1f]
  · cases ho : fAt T to.toNat with
    | none =>
      rw [ho] at lr
      rw [if_neg (by rintro (h | h); exact h0 h; cases h)]
      obtain ⟨H', r1, r2⟩ := y181 t0 t1 hb S0 hfb d1 (metM none s)
      refine ⟨H', ?_, r2⟩
      have ne : y3n 1 true (slA (none : Option Fx)) AV.nils = some (.bool false) := rfl
      rw [q2_2, y2k, y2, decide_eq_false h0]
      simp only [ycn, l1, y2, ix, lr, ne, ylj, y2y9, y2p, y1p]
      exact r1
    | some t =>
      rw [ho] at lr hml
      have ht := hs t ho
      have ne : y3n 1 true (slA (some t)) AV.nils = some (.bool true) := rfl
      obtain ⟨fr2, hf2⟩ := fz2 (some (metM (some t) s)) t
      have heq := y21o (metM (some t) s) t (by rw [hml, ht]) (by rw [hml]; omega)
      have ce : y7 E (y8 E) fb none true 156 [slA (some (metM (some t) s)), slA (some t)] H0 = some (.bool (decide (metM (some t) s = t)), H0) :=
        ydk rfl hf2 rfl heq ⟨_, rfl, rfl⟩
      rw [q2_2, y2k, y2, decide_eq_false h0]
      simp only [ycn, l1, y2, ix, lr, ne, ycm, y2jc, ce, yf, y2a, y2p]
      by_cases e : metM (some t) s = t
      · rw [if_pos (.inr (by rw [e])), decide_eq_true e]
        exact ⟨H0, by rw [y1f], S0⟩
      · rw [if_neg (by
          rintro (h | h)
          · exact h0 h
          · injection h with h; exact e h.symm), decide_eq_false e]
        obtain ⟨H', r1, r2⟩ := y181 t0 t1 hb S0 hfb d1 (metM (some t) s)
        exact ⟨H', by rw [y1p]; exact r1, r2⟩
end
end Go.Vm
namespace Go.Vm
open Cel
attribute [local simp] y7 y28 yr
@[simp] theorem y2vj (x : Ins) : (y8 E).p 18 [.agg (enc x)] = some ⟨.bool (throws x.op), [], true, [], []⟩ := by
  rw [y2wt]
  rcases yez x.op with h|h|h|h|h|h|h|h|h|h|h|h|h|h|h|h|h|h|h|h|h|h|h|h|h|h|h|h|h|h|h|h|h|h|h <;> first | (simp [h, throws, calls, y1jt]; done) | (simp [lo_f h, throws, calls, y1jt]; done) | simp [hi_f h, throws, calls, y1jt]
end Go.Vm
namespace Go.Vm
open Cel
attribute [local simp] y7 y28 yr
theorem y2cs {α : Type} [Cel α] (o : Option (List α)) (i : Nat) (h : i ≤ (lst o).length) (k : IntKind) : y5y (es α) (slA o) none (some (.int k i)) = some (slA (o.map (List.take i))) := by
  have h2 : (0 : Int) ≤ (i : Int) ∧ (i : Int) ≤ ((lst o).length : Int) := by omega
  cases o with
  | none =>
    have : i = 0 := by simpa using h
    subst this
    simp [y5y, slA, yq6, y7i, yd6]
  | some L =>
    simp only [y3b] at h2
    simp [y5y, slA, yq6, y7i, yd6, h2, List.map_take]
theorem y1dz (o : Option (List Int)) (r : Int) (hl : (lst o).length ≤ 9223372036854775807) (h : Heap) : ∀ (d i : Nat), i + d = (lst o).length →
    ∃ k : Int, yjo (slA o) (.int .i64 r) (.int .i64 (lst o).length) (.int .i64 i) h = some ⟨.int .i64 k, [], true, [], []⟩ ∧ (0 ≤ k ↔ r ∈ (lst o).drop i) := by
  intro d
  induction d with
  | zero =>
    intro i hi
    have e1 : (lst o).drop i = [] := List.drop_eq_nil_of_le (by omega)
    have hn : ¬ ((i : Int) < ((lst o).length : Int)) := by omega
    rw [ym6, e1]
    exact ⟨-1, by simp [yn5, yn0, ym7, ymw, yna, ymi, yg6, hn], by simp⟩
  | succ d ih =>
    intro i hi
    have hlt : i < (lst o).length := by omega
    have hn : ((i : Int) < ((lst o).length : Int)) := by omega
    have k1 := y24 (o := o) (i := i) (List.getElem?_eq_getElem hlt) .i64
    have hm : r ∈ (lst o).drop i ↔ r = (lst o)[i] ∨ r ∈ (lst o).drop (i + 1) := by rw [List.drop_eq_getElem_cons hlt, List.mem_cons]
    rw [ym6, hm]
    by_cases he : r = (lst o)[i]
    · exact ⟨i, by simp [yn5, yn0, ym7, ymw, yna, ymi, yg6, hn, k1, he], by simp [he]⟩
    · obtain ⟨k, h1, h2⟩ := ih (i + 1) (by omega)
      push_cast at h1
      refine ⟨k, ?_, ?_⟩
      · simp [yn5, yn0, ym7, ymw, yna, ymi, yg6, hn, k1, he, y1a hlt hl, h1]
      · rw [h2]; simp [he]
@[simp] theorem yce (o : Option (List Int)) (r : Int) (hl : (lst o).length ≤ 9223372036854775807) : (y8 E).p 46 [slA o, .int .i64 r] = some ⟨.bool ((lst o).contains r), [], true, [], []⟩ := by
  obtain ⟨k, h1, h2⟩ := y1dz o r hl [] (lst o).length 0 (by omega)
  simp only [Int.ofNat_zero, List.drop_zero] at h1 h2
  have hi : (y8 E).p 45 [slA o, .int .i64 r] = some ⟨.int .i64 k, [], true, [], []⟩ := by
    rw [y2s7, ← h1]
    simp [yn5, yn0, ym7, ymw, yna, ymi, yg6]
  rw [y2tv]
  by_cases h0 : 0 ≤ k
  · have := h2.1 h0
    simp [y15p, hi, h0, this]
  · have : r ∉ lst o := fun h => h0 (h2.2 h)
    simp [y15p, hi, h0, this]
end Go.Vm
namespace Go.Vm
open Cel
attribute [local simp] y7 y28 yr
theorem ysa (a b : Int) : (y8 E).p 46 [.rs 1 [[.int .i64 a]], .int .i64 b] = some ⟨.bool ([a].contains b), [], true, [], []⟩ := by
  have := yce (some [a]) b (by simp)
  exact this
theorem y2ct (f : Fn) (i : Int) (hl : (lst f.code).length ≤ 9223372036854775807) : (y8 E).p 81 [.agg (enc f), .int .i64 i] = some (exO (nz (y2j f i))) := by
  rw [y2vo]
  by_cases h0 : i < 0
  · simp [yls, yle, ylr, y1pi, y1kf, y1m5, y1bc, h0, y2j, nz]; rfl
  by_cases h1 : ((lst f.code).length : Int) ≤ i
  · simp [yls, yle, ylr, y1pi, y1kf, y1m5, y1bc, h0, h1, y2j, nz]; rfl
  have g0 : 0 ≤ i := by omega
  have hx := y3u (f := f) (i := i.toNat) (by omega)
  have k1 := y8j (o := f.code) g0 hx .i64
  have hw := y1fl g0 (by omega) hl
  have hn : y2j f i = ysd (yg f i.toNat) i := by rw [y2j, if_neg (by omega)]
  rw [hn]
  generalize yg f i.toNat = x at *
  have e : y1bc (.agg (enc f)) (.int .i64 i) [⟨0, .dead⟩, ⟨0, .dead⟩, ⟨0, .dead⟩, ⟨0, .dead⟩, ⟨0, .dead⟩, ⟨0, .dead⟩] = ylr (.int .i64 i) (.lp 1 1 0 0) .nils [⟨1, .arr true false 5 [enc f]⟩, ⟨1, .arr true false 9 [enc x]⟩, ⟨0, .dead⟩, ⟨0, .dead⟩, ⟨0, .dead⟩, ⟨0, .dead⟩] := by
    simp [y1bc, y1m5, y1kf, y1pi, h0, h1, k1]
  rw [e, ysd]
  cases he : ends x.op with
  | true =>
    cases hd : leads x.op with
    | false => simp [ylr, yle, yls, he, hd, nz]; rfl
    | true =>
      have := yce none x.t (by simp)
      simp [ylr, yle, yls, he, hd, nz, slA] at this ⊢
      simp [this, yw, y15, y3h, addN]
      exact yfz (by simp)
  | false =>
    cases hd : leads x.op with
    | false =>
      simp [ylr, yle, yls, he, hd, hw, yw, y15, y3h]
      exact yfz (by simp)
    | true =>
      have hz : fz [⟨1, .arr true false 5 [enc f]⟩, ⟨1, .arr true false 9 [enc x]⟩, ⟨1, .arr false false 1 [[.int .i64 (i + 1)]]⟩, ⟨1, .arr false false 1 [[.int .i64 (i + 1)]]⟩, ⟨0, .dead⟩, ⟨0, .dead⟩] y18 (.ls 3 1 1 0 1) = some ⟨.rs 1 [[.int .i64 (i + 1)]], true, [3]⟩ := by
        rw [y29h]; rfl
      generalize hxt : x.t = t at *
      by_cases hc : i + 1 = t
      · subst hc
        simp [ylr, yle, yls, he, hd, hw, yw, y15, y3h, hz, ysa, addN, hxt]
        exact yfz (by simp)
      · have hc' : ¬ t = i + 1 := fun h => hc h.symm
        simp [ylr, yle, yls, he, hd, hw, yw, y15, y3h, hz, ysa, hc, hc', addN, hxt]
        exact y1e6 (by simp)
theorem yxl (f : Fn) (i : Int) (hl : (lst f.rows).length ≤ 10000000000000) : ∀ (d k g : Nat) (L : List Int) (o1 o2 : AO), k + d = (lst f.rows).length → L.length ≤ k →
    yvq (.int .i64 i) (y45 Int 3 g L) (slA f.rows) (.int .i64 (lst f.rows).length) (.int .i64 k) [⟨1, .arr true false 5 [enc f]⟩, o1, o2, y4r g D0 L] = some (exO (nz (y3z i ((lst f.rows).drop k) L))) := by
  intro d
  induction d with
  | zero =>
    intro k g L o1 o2 hk _
    have e1 : (lst f.rows).drop k = [] := List.drop_eq_nil_of_le (by omega)
    have hn : ¬ ((k : Int) < ((lst f.rows).length : Int)) := by omega
    have hx := yd9 (H := [⟨1, .arr true false 5 [enc f]⟩, o1, o2, y4r g D0 L]) (j := 3) (g := g) (o := D0) (L := L) rfl
    rw [ysb, e1]
    simp [ysy, y0v, y1zf, hn, y3z, hx]
  | succ d ih =>
    intro k g L o1 o2 hk hL
    have hlt : k < (lst f.rows).length := by omega
    have hc : ((k : Int) < ((lst f.rows).length : Int)) := by omega
    have k1 := ygh (o := f.rows) (i := k) (List.getElem?_eq_getElem hlt) .i64
    rw [ysb, List.drop_eq_getElem_cons hlt]
    generalize hr : (lst f.rows)[k] = r at *
    have ih0 := fun g L o1 o2 hL => ih (k + 1) g L o1 o2 (by omega) hL
    push_cast at ih0
    have hw := y1a hlt (by omega)
    have e11 : ysy (.int .i64 i) (y45 Int 3 g L) (slA f.rows) (.int .i64 (lst f.rows).length) (.int .i64 k) [⟨1, .arr true false 5 [enc f]⟩, o1, o2, y4r g D0 L] =
        yyb (.int .i64 i) (y45 Int 3 g L) (.lp 1 (o1.gen + 1) 0 0) (slA f.rows) (.int .i64 (lst f.rows).length) (.int .i64 k) [⟨1, .arr true false 5 [enc f]⟩, ⟨o1.gen + 1, .arr true false 4 [enc r]⟩, o2, y4r g D0 L] := by
      simp [ysy, y0v, y2dp, hc, k1]
    rw [e11]
    generalize (o1.gen + 1) = g1
    by_cases h1 : i < r.f
    · have : ¬ (r.f ≤ i ∧ i < r.t) := by omega
      simp [yyb, y1do, h1, hw, y3z, this, ih0 g L _ _ (by omega)]
    by_cases h2 : r.t ≤ i
    · have : ¬ (r.f ≤ i ∧ i < r.t) := by omega
      simp [yyb, y1do, h1, h2, hw, y3z, this, ih0 g L _ _ (by omega)]
    have hin : r.f ≤ i ∧ i < r.t := by omega
    rw [y3z, if_pos hin]
    have hz : ∀ o2, fz [⟨1, .arr true false 5 [enc f]⟩, ⟨g1, .arr true false 4 [enc r]⟩, o2, y4r g D0 L] y18 (y45 Int 3 g L) = some ⟨slA (nz L), true, ids1 (y45 Int 3 g L)⟩ := fun o2 => y26f rfl
    have hct := yce (nz L) r.at_ (by rw [y7y]; omega)
    rw [y7y] at hct
    have tail : ∀ g L o2, L.length ≤ k + 1 → y1b0 (.int .i64 i) (y45 Int 3 g L) (.lp 1 g1 0 0) (slA f.rows) (.int .i64 (lst f.rows).length) (.int .i64 k) [⟨1, .arr true false 5 [enc f]⟩, ⟨g1, .arr true false 4 [enc r]⟩, o2, y4r g D0 L] =
        some (exO (nz (if r.c = [] then L else y3z i ((lst f.rows).drop (k + 1)) L))) := by
      intro g L o2 hL
      have hx := yd9 (H := [⟨1, .arr true false 5 [enc f]⟩, ⟨g1, .arr true false 4 [enc r]⟩, o2, y4r g D0 L]) (j := 3) (g := g) (o := D0) (L := L) rfl
      by_cases hcl : r.c = []
      · simp [y1b0, y1zf, hcl, hx]
      · simp [y1b0, y1do, hcl, hw, ih0 g L _ _ hL]
    unfold addN
    cases hb : L.contains r.at_ with
    | true =>
      rw [hb] at hct
      rw [if_pos rfl]
      have := tail g L o2 (by omega)
      simp [yyb, y20w, h1, h2, hz, hct, this]
    | false =>
      rw [hb] at hct
      rw [if_neg Bool.false_ne_true]
      obtain ⟨g', ha⟩ := y1il (H := [⟨1, .arr true false 5 [enc f]⟩, ⟨g1, .arr true false 4 [enc r]⟩, ⟨o2.gen + 1, .arr false false 1 [[.int .i64 r.at_]]⟩, y4r g D0 L]) (fb := 0) (j := 3) (g := g) (o := D0) (y := .ls 2 (o2.gen + 1) 1 0 1) (L := L) (n := r.at_) (by simp) rfl (by omega)
      have ha' : y3h 0 (some 3) 1 8 (y45 Int 3 g L) (.ls 2 (o2.gen + 1) 1 0 1) [⟨1, .arr true false 5 [enc f]⟩, ⟨g1, .arr true false 4 [enc r]⟩, ⟨o2.gen + 1, .arr false false 1 [[.int .i64 r.at_]]⟩, y4r g D0 L] = some (y45 Int 3 g' (L ++ [r.at_]), [⟨1, .arr true false 5 [enc f]⟩, ⟨g1, .arr true false 4 [enc r]⟩, ⟨o2.gen + 1, .arr false false 1 [[.int .i64 r.at_]]⟩, y4r g' D0 (L ++ [r.at_])]) := ha
      have := tail g' (L ++ [r.at_]) ⟨o2.gen + 1, .arr false false 1 [[.int .i64 r.at_]]⟩ (by simp; omega)
      simp [yyb, y20w, h1, h2, hz, hct, yw, y15, ha', this]
theorem y18b (f : Fn) (i : Int) (hl : (lst f.rows).length ≤ 10000000000000) : (y8 E).p 79 [.agg (enc f), .int .i64 i] = some (exO (nz (yx f i))) := by
  rw [y2vz]
  by_cases h0 : i < 0
  · simp [you, ymn, h0, yx, nz]; rfl
  by_cases h1 : ((lst f.code).length : Int) ≤ i
  · simp [you, ymn, h0, h1, yx, nz]; rfl
  have g0 : 0 ≤ i := by omega
  have hx := y3u (f := f) (i := i.toNat) (by omega)
  have k1 := y8j (o := f.code) g0 hx .i64
  have hn : yx f i = if throws (yg f i.toNat).op then y3z i (lst f.rows) [] else [] := by rw [yx, if_neg (by omega)]
  rw [hn]
  generalize yg f i.toNat = x at *
  have lp := yxl f i hl _ 0 0 [] D0 D0 (Nat.zero_add _) (Nat.zero_le _)
  simp only [yt2, ysl, List.drop_zero, Int.ofNat_zero] at lp
  cases ht : throws x.op with
  | false => simp [you, ymn, h0, h1, k1, ht, nz]; rfl
  | true => simp [you, ymn, y1zv, y1ok, h0, h1, k1, ht, lp]
end Go.Vm
namespace Go.Vm
open Cel
abbrev V1 : AV := .lp 0 1 0 0
abbrev V2 : AV := .lp 1 1 0 0
abbrev V3 : AV := .lp 11 1 0 0
abbrev V4 : AV := .lp 14 1 0 0
abbrev V5 : AV := .fn 151 [V3, V4]
section
variable {f : Fn} {p g : Nat → Nat} (hR : (lst f.regs).length ≤ 1000000)
include hR
theorem y2fx {s : Fx} (hs : s.length = (lst f.regs).length) (hk : yam f s) (l : List Int) (hl : ∀ to ∈ l, 0 ≤ to ∧ to < (lst f.code).length) (hll : l.length ≤ 1000000) :
    ∀ (d k : Nat), k + d = l.length → ∀ (H : Heap) (T : FTab) (W : List Int), CSt H f p g T W → TOk f T → meaF f (T, W) ≤ 1000000000 →
      ∃ H', yvc V1 V2 V3 V4 V5 (slA (some s)) (slA (nz l)) (.int .i64 l.length) (.int .i64 (k : Int)) H = yl9 V1 V2 V3 V4 V5 H' ∧ CSt H' f p g (y4v s (l.drop k) (T, W)).1 (y4v s (l.drop k) (T, W)).2 := by
  intro d
  induction d with
  | zero =>
    intro k hkd H T W S hT hm
    have hc : ¬ (k : Int) < (l.length : Int) := by omega
    have e : l.drop k = [] := List.drop_eq_nil_of_le (by omega)
    rw [e, yvx, y28e, yh, y2, decide_eq_false hc, y24e, y1p]
    exact ⟨H, rfl, S⟩
  | succ d ih =>
    intro k hkd H T W S hT hm
    have hlt : k < l.length := by omega
    have hc : (k : Int) < (l.length : Int) := by omega
    have kx := y24 (o := nz l) (i := k) (by rw [y7y]; exact List.getElem?_eq_getElem hlt) .i64
    have hd : l.drop k = l[k] :: l.drop (k + 1) := List.drop_eq_getElem_cons hlt
    have hto := hl l[k] (List.getElem_mem hlt)
    rw [hd]
    generalize l[k] = to at *
    have lx : ∀ H : Heap, evLd false 1 (.rp [.int .i64 to]) H = some (.int .i64 to) := fun H => by simp
    have hTl := hT.len
    have hWb : W.length ≤ 1000000000 := Nat.le_trans (Nat.le_add_left _ _) hm
    obtain ⟨H1, c1, S1⟩ := y161 hto.1 (by rw [hTl]; exact hto.2) hWb S (s := s) (fun t ht => by rw [(hT.rows _ t ht).1, hs]) (by omega)
    obtain ⟨a1, _⟩ := yc4 (p := (T, W)) hT hs hk hto.1 hto.2
    have e2 : y4v s (to :: l.drop (k + 1)) (T, W) = y4v s (l.drop (k + 1)) (ye4 s to (T, W)) := rfl
    rw [e2]
    have hp := a1.pot
    have hok := a1.ok
    generalize ye4 s to (T, W) = q at *
    obtain ⟨T1, W1⟩ := q
    obtain ⟨H2, r1, r2⟩ := ih (k + 1) (by omega) H1 T1 W1 S1 hok (Nat.le_trans hp hm)
    refine ⟨H2, ?_, r2⟩
    rw [yvx, y28e, yh, y2, decide_eq_true hc, y24e, y1f, y2jp, kx, y2, lx, y2, c1, yf, y2hy, y76 hlt (by omega), y2]
    exact r1
theorem y2jq {t : Fx} {i : Nat} (l : List Int) (hl : ∀ to ∈ l, 0 ≤ to ∧ to < (lst f.code).length) (hll : l.length ≤ 1000000) :
    ∀ (d k : Nat), k + d = l.length → ∀ (H : Heap) (T : FTab) (W : List Int), CSt H f p g T W → TOk f T → fAt T i = some t → meaF f (T, W) ≤ 1000000000 →
      ∃ H', yuf V1 V2 V3 V4 V5 (.int .i64 (i : Int)) (slA (nz l)) (.int .i64 l.length) (.int .i64 (k : Int)) H = y21f V1 V2 V3 V4 V5 (.int .i64 (i : Int)) H' ∧ CSt H' f p g (y4v t (l.drop k) (T, W)).1 (y4v t (l.drop k) (T, W)).2 := by
  intro d
  induction d with
  | zero =>
    intro k hkd H T W S hT hi hm
    have hc : ¬ (k : Int) < (l.length : Int) := by omega
    have e : l.drop k = [] := List.drop_eq_nil_of_le (by omega)
    rw [e, yum, y273, yh, y2, decide_eq_false hc, y20l, y1p]
    exact ⟨H, rfl, S⟩
  | succ d ih =>
    intro k hkd H T W S hT hi hm
    have hlt : k < l.length := by omega
    have hc : (k : Int) < (l.length : Int) := by omega
    have kx := y24 (o := nz l) (i := k) (by rw [y7y]; exact List.getElem?_eq_getElem hlt) .i64
    have hd : l.drop k = l[k] :: l.drop (k + 1) := List.drop_eq_getElem_cons hlt
    have hto := hl l[k] (List.getElem_mem hlt)
    rw [hd]
    generalize l[k] = to at *
    have lx : ∀ H : Heap, evLd false 1 (.rp [.int .i64 to]) H = some (.int .i64 to) := fun H => by simp
    have hTl := hT.len
    have hiT := y185 hi
    have hWb : W.length ≤ 1000000000 := Nat.le_trans (Nat.le_add_left _ _) hm
    obtain ⟨ht1, ht2⟩ := hT.rows i t hi
    have lb := yhl S.tbx
    have ix := y8c (n := T.length) (p := (i : Int)) (by omega) (by omega) 10 1 .i64
    rw [Int.toNat_natCast] at ix
    have lr := ya6 S.tab (yal hiT)
    rw [hi] at lr
    obtain ⟨H1, c1, S1⟩ := y161 hto.1 (by rw [hTl]; exact hto.2) hWb S (s := t) (fun t' ht => by rw [(hT.rows _ t' ht).1, ht1]) (by omega)
    obtain ⟨a1, _⟩ := yc4 (p := (T, W)) hT ht1 ht2 hto.1 hto.2
    have hse := ym5 (p := (T, W)) (to := to) hi ⟨hto.1, by rw [hTl]; exact hto.2⟩
    have e2 : y4v t (to :: l.drop (k + 1)) (T, W) = y4v t (l.drop (k + 1)) (ye4 t to (T, W)) := rfl
    rw [e2]
    have hp := a1.pot
    have hok := a1.ok
    generalize ye4 t to (T, W) = q at *
    obtain ⟨T1, W1⟩ := q
    obtain ⟨H2, r1, r2⟩ := ih (k + 1) (by omega) H1 T1 W1 S1 hok hse (Nat.le_trans hp hm)
    refine ⟨H2, ?_, r2⟩
    rw [yum, y273, yh, y2, decide_eq_true hc, y20l, y1f, y2dz, kx, y2, lx, y2, lb, y2, ix, y2, lr, y2, c1, yf, y2g5, y76 hlt (by omega), y2]
    exact r1
variable (w : Wf f) (hr : (lst f.rows).length ≤ 1000000)
include w hr
theorem y2r1 {i : Nat} {t : Fx} (hi : i < (lst f.code).length) (ht : t.length = (lst f.regs).length) : (y8 E).p 152 [slA (some t), .agg (enc (yg f i))] = some (exO (some (behM t (yg f i)))) := by
  refine y240 (yg f i) t (by omega) ?_ fun h4 => ?_
  · by_cases hd : 0 ≤ defr (yg f i)
    · have := w.def hi hd; omega
    · omega
  · have := w.uses hi (u := (yg f i).a) (by simp [uses, h4, calls, reads])
    omega
theorem y1r5 : ∀ (m : Nat) (H : Heap) (T : FTab) (W : List Int), meaF f (T, W) ≤ m → CSt H f p g T W → InvF f (T, W) → meaF f (T, W) ≤ 1000000000 →
    ∃ H' T', yl9 V1 V2 V3 V4 V5 H = y23c V1 V2 V3 H' ∧ CSt H' f p g T' [] ∧ InvF f (T', []) := by
  intro m
  induction m with
  | zero =>
    intro H T W hm S v hb
    have hW : W = [] := by
      refine List.eq_nil_of_length_eq_zero ?_
      unfold meaF at hm
      simp only at hm
      omega
    subst hW
    obtain ⟨gw, D, w1, w2⟩ := S.wk
    have l := yhl w2
    refine ⟨H, T, ?_, S, v⟩
    rw [yjh, y1wk, l, y2, y4h, y2, y3c, y2, decide_eq_false (by simp), y1p]
  | succ m ih =>
    intro H T W hm S v hb
    by_cases hW : W = []
    · subst hW
      obtain ⟨gw, D, w1, w2⟩ := S.wk
      have l := yhl w2
      refine ⟨H, T, ?_, S, v⟩
      rw [yjh, y1wk, l, y2, y4h, y2, y3c, y2, decide_eq_false (by simp), y1p]
    · obtain ⟨W', i, rfl⟩ : ∃ W' i, W = W' ++ [i] := ⟨W.dropLast, W.getLast hW, (List.dropLast_concat_getLast hW).symm⟩
      obtain ⟨gw, D, w1, w2⟩ := S.wk
      obtain ⟨q1, q2⟩ := y242 w v
      obtain ⟨i0, i1, hn⟩ := v.wk i (by simp)
      obtain ⟨t, ht⟩ := y6h hn
      simp only at ht
      have ei : ((i.toNat : Nat) : Int) = i := by omega
      have hil : i.toNat < (lst f.code).length := by omega
      have hTok := v.ok
      simp only at hTok
      have hWl : (W' ++ [i]).length = W'.length + 1 := by simp
      have hWb : W'.length ≤ 1000000000 := by unfold meaF at hb; simp only [hWl] at hb; omega
      rw [hWl] at w2
      have l1 := yhl w2
      have gt : y5 .gtr (.int .i64 ((W'.length + 1 : Nat) : Int)) (.int .i64 0) = some (.bool true) := by rw [y3c, decide_eq_true (by omega)]
      have sb : y5 .sub (.int .i64 ((W'.length + 1 : Nat) : Int)) (.int .i64 1) = some (.int .i64 (W'.length : Int)) := by
        rw [yeu]
        congr 2
        rw [y2b] <;> omega
      have ix := y2bv 13 gw W'.length
      have hl13 := y1bo (α := Int) (H := H) (id := 13) (g := gw) (i := W'.length) (x := i) (v := .int .i64 i) w1 (by simp) rfl
      have sl := y1lb 13 gw W'.length
      have st := y21v (w := .ls 13 gw 1 0 W'.length) w2 rfl rfl
      have S1 : CSt (H.set 14 ⟨1, .arr true false 1 [[.ls 13 gw 1 0 W'.length]]⟩) f p g T W' := by
        refine ⟨S.d.set (by omega), by rw [yv (by omega)]; exact S.tab, by rw [yv (by omega)]; exact S.tbx, gw, i :: D, ?_, y3w (y3d w2)⟩
        rw [yv (by omega), w1, List.append_assoc]
        rfl
      generalize H.set 14 ⟨1, .arr true false 1 [[.ls 13 gw 1 0 W'.length]]⟩ = H1 at *
      have hcl : (yx f i).length ≤ 1000000 := Nat.le_trans (yx3 f i) hr
      have hnl : (y2j f i).length ≤ 1000000 := by have := yr4 f i; omega
      have fr : ∀ l : List Int, (exO (nz l)).fresh = true := fun l => by rw [y6x, y7y]; simp
      have c79 := S1.d.call2 (E := E) (C := y8 E) (fb := 0) (sl := none) (k := 79) (i := i) rfl (fr _) (y18b f i (by omega)) ⟨_, ybe _, rfl⟩
      have ln : ∀ (l : List Int) (H : Heap), yq 1 (slA (nz l)) H = some (.int .i64 l.length) := fun l H => by rw [y33, y7y]
      have hmea1 : meaF f (T, W') ≤ 1000000000 := by unfold meaF at hb ⊢; simp only [hWl] at hb ⊢; omega
      obtain ⟨H2, r1, S2⟩ := y2jq hR (t := t) (i := i.toNat) (yx f i) (fun to h => w.caught h) hcl _ 0 (Nat.zero_add _) H1 T W' S1 hTok ht hmea1
      rw [List.drop_zero] at S2
      obtain ⟨f1, _, f3, f4⟩ := ysq w (p := (T, W')) hTok hil ht
      rw [ei] at f1 f3 f4 r1
      obtain ⟨ht1, ht2⟩ := hTok.rows _ t ht
      have hA := (y8t ht1 ht2 (yx f i) (T, W') hTok (fun to h => w.caught h)).1.pot
      have etF : tF T i.toNat = t := by rw [tF, ht]; rfl
      have er : rndF f i.toNat (T, W') = y4v (behM t (yg f i.toNat)) (y2j f i) (y4v t (yx f i) (T, W')) := by rw [rndF, ei]; simp only [etF]
      rw [er] at q1 q2
      generalize y4v t (yx f i) (T, W') = q at *
      obtain ⟨T1, W1⟩ := q
      simp only at S2 f3 f4 hA
      have lb := yhl S2.tbx
      have hT1 := y185 f4
      have ixT := y8c (n := T1.length) (p := i) i0 (by omega) 10 1 .i64
      have lr := ya6 S2.tab (yal hT1)
      rw [f4] at lr
      obtain ⟨L, hL⟩ : ∃ L, f.code = some L := by
        cases hc : f.code with
        | none => rw [hc] at hil; simp at hil
        | some L => exact ⟨L, rfl⟩
      have lc := S2.d.ldc
      have hov : ownV (p 2) (g 2) f.code = .ls (p 2) (g 2) 9 0 (lst f.code).length := by rw [hL]; rfl
      rw [hov] at lc
      have ixC := y11p hil (p 2) (g 2) 9 .i64
      rw [ei] at ixC
      have lC := S2.d.ix hL (i := i.toNat) (x := yg f i.toNat) (by have := y3u hil; rwa [hL] at this)
      have hbeh := y2r1 hR w hr hil ht1
      have fzB : ∀ H : Heap, yt (fz H y18) [slA (some t), .agg (enc (yg f i.toNat))] = some ⟨[slA (some t), .agg (enc (yg f i.toNat))], (lst (some t)).isEmpty && (scal (yg f i.toNat) && true), []⟩ := fun H => by
        rw [yk, yk, yqk, y5d, y11]; rfl
      have c152 : ∀ H : Heap, y7 E (y8 E) 0 none true 152 [slA (some t), .agg (enc (yg f i.toNat))] H = some (slA (some (behM t (yg f i.toNat))), H) := fun H =>
        ydk rfl (fzB H) (by rw [y6x]; simp) hbeh ⟨_, ybe _, rfl⟩
      have c81 := S2.d.call2 (E := E) (C := y8 E) (fb := 0) (sl := none) (k := 81) (i := i) rfl (fr _) (y2ct f i (by have := w.n2; omega)) ⟨_, ybe _, rfl⟩
      have hmea2 : meaF f (T1, W1) ≤ 1000000000 := by unfold meaF at hmea1 ⊢; simp only at hmea1 hA ⊢; omega
      obtain ⟨H3, r2, S3⟩ := y2fx hR (s := behM t (yg f i.toNat)) (by rw [yc6]; exact ht1) (yqg (w.ins _ hil) ht1 ht2) (y2j f i) (fun to h => by have := w.next hil (to := to) (by rw [ei]; exact h); exact this) hnl _ 0 (Nat.zero_add _) H2 T1 W1 S2 f3 hmea2
      rw [List.drop_zero] at S3
      generalize y4v (behM t (yg f i.toNat)) (y2j f i) (T1, W1) = q2' at *
      obtain ⟨T2, W2⟩ := q2'
      obtain ⟨H4, T', r3, S4, v4⟩ := ih H3 T2 W2 (by omega) S3 q1 (by omega)
      refine ⟨H4, T', ?_, S4, v4⟩
      have z : ((0 : Nat) : Int) = 0 := rfl
      rw [z] at r1 r2
      have fa : evFa 3 V1 = some (.lp 0 1 0 3) := rfl
      rw [yjh, y1wk, l1, y2, y4h, y2, gt, y2, y1f, y2e9, l1, y2, y2, y4h, y2, sb, y2, ix, y2, hl13, y2, y2mk, l1, y2, y2, y4h, y2, sb, y2, sl, y2, st, yf,
        y2gi, S1.d.ld, y2, c79, yf, ln, y2, r1, y21f, lb, y2, ixT, y2, lr, y2, fa, y2, lc, y2, ixC, y2, lC, y2, c152, yf, y2f6, S2.d.ld, y2, c81, yf, ln, y2, r2, r3]
end
end Go.Vm
namespace Go.Vm
section
variable {α : Type}
def aset (k : Int) (v : α) : List (Int × α) → List (Int × α)
  | [] => [(k, v)]
  | (k', v') :: r => if k = k' then (k, v) :: r else (k', v') :: aset k v r
def aget (k : Int) : List (Int × α) → Option α
  | [] => none
  | (k', v') :: r => if k = k' then some v' else aget k r
theorem yrf (k j : Int) (v : α) : ∀ l, aget j (aset k v l) = if j = k then some v else aget j l
  | [] => by simp only [aset, aget]
  | (k', v') :: r => by
    rw [aset]
    by_cases h : k = k'
    · subst h
      rw [if_pos rfl, aget, aget]
      by_cases h2 : j = k <;> simp [h2]
    · rw [if_neg h, aget, yrf k j v r, aget]
      by_cases h2 : j = k'
      · have : ¬ j = k := fun e => h (e.symm.trans h2)
        rw [if_pos h2, if_pos h2, if_neg this]
      · rw [if_neg h2, if_neg h2]
end
end Go.Vm
namespace Go.Vm
open Cel
section
variable {α : Type}
variable (vf : α → AV)
def mEnt (l : List (Int × α)) : List (AV × AV) := l.map fun p => (.int .i64 p.1, vf p.2)
theorem yrx (k : Int) : ∀ l : List (Int × α), mfind false [0] (.int .i64 k) (mEnt vf l) = some ((aget k l).map vf)
  | [] => rfl
  | (k', v') :: r => by
    have ih := yrx k r
    simp only [mEnt, List.map_cons, mfind, ys1, Bool.false_eq_true, if_false, y5a, if_true, aget] at ih ⊢
    by_cases e : k = k'
    · simp [e]
    · have : (k == k') = false := by simpa using e
      rw [this]
      simp only [if_neg e]
      exact ih
theorem yzo (k : Int) (v : α) : ∀ l : List (Int × α), mset false [0] (.int .i64 k) (vf v) (mEnt vf l) = some (mEnt vf (aset k v l))
  | [] => rfl
  | (k', v') :: r => by
    have ih := yzo k v r
    simp only [mEnt, List.map_cons, mset, ys1, Bool.false_eq_true, if_false, y5a, if_true, aset] at ih ⊢
    by_cases e : k = k'
    · simp [e]
    · have : (k == k') = false := by simpa using e
      rw [this]
      simp only [if_neg e, ih, Option.map_some, List.map_cons]
abbrev AM (g : Nat) (l : List (Int × α)) : AO := ⟨g, .map false (mEnt vf l)⟩
variable {vf}
theorem y1ac {H : Heap} {id g : Nat} {l : List (Int × α)} (h : H[id]? = some (AM vf g l)) : ydx H id g = some (false, mEnt vf l) := by
  simp [ydx, y37, h]
theorem y2ee {H : Heap} {id g : Nat} {l : List (Int × α)} (h : H[id]? = some (AM vf g l)) (z : AV) (k : Int) : y85 false [0] z false (.lm id g) (.int .i64 k) H = some (((aget k l).map vf).getD z) := by
  simp only [y85, y1ac h, Option.map_some, yrx]
  cases aget k l <;> rfl
theorem y2mh {H : Heap} {id g : Nat} {l : List (Int × α)} (h : H[id]? = some (AM vf g l)) (k : Int) (v : α) : ycw false [0] (.lm id g) (.int .i64 k) (vf v) H = some (.tup [], H.set id (AM vf g (aset k v l))) := by
  simp only [ycw, y1ac h, yzo, ya1, h]
variable (vf) in
theorem y2qi {H : Heap} {fb j : Nat} {o : AO} (h : H[fb + j]? = some o) : mkmC fb (some j) H = some (.lm (fb + j) (o.gen + 1), H.set (fb + j) (AM vf (o.gen + 1) [])) := by
  have e : AM vf (o.gen + 1) [] = ⟨o.gen + 1, .map false []⟩ := rfl
  rw [e]
  simp [mkmC, place, h]
end
abbrev vB (b : Bool) : AV := .bool b
end Go.Vm
namespace Go.Vm
open Cel
abbrev y2rf : List AV := [.int .i64 0, .int .i64 0, .int .i64 0, .int .i64 0, .int .i64 0, .int .i64 0, .int .i64 0, .str [], .nils]
theorem y2ns {H : Heap} {id g : Nat} {x : Ins} (h : H[id]? = some (AX g x)) : evLd true 9 (.lp id g 0 0) H = some (.agg (enc x)) := by
  have hr : ym H id g = some (false, 9, [enc x]) := by simp [ym, y37, h]
  simp [y38, hr]
theorem y2w0 {H : Heap} {id g : Nat} {x y : Ins} {v : AV} (h : H[id]? = some (AX g x)) (hv : cellsOf v = enc y) : evSt 9 (.lp id g 0 0) v H = some (.tup [], H.set id (AX g y)) := by
  have hr : ym H id g = some (false, 9, [enc x]) := by simp [ym, y37, h]
  rw [y5n, hr]
  simp only [List.getElem?_cons_zero, hv]
  rw [if_pos ⟨rfl, by rw [ywz]; exact Nat.le_refl _, y22m y⟩, yg0 (by rw [ywz, ywz]), y29, h]
  rfl
theorem st_x {H : Heap} {id g : Nat} {x y : Ins} (h : H[id]? = some (AX g x)) : evSt 9 (.lp id g 0 0) (.agg (enc y)) H = some (.tup [], H.set id (AX g y)) := y2w0 h rfl
theorem y2yy {H : Heap} {fb j : Nat} {o : AO} (h : H[fb + j]? = some o) : newC fb (some j) y2rf H = some (.lp (fb + j) (o.gen + 1) 0 0, H.set (fb + j) (AX (o.gen + 1) default)) := by
  simp [h]
  rfl
end Go.Vm
namespace Go.Vm
open Cel
section
variable {f : Fn} {p g : Nat → Nat} {T : FTab} {W : List Int} {gh : Nat}
theorem y1u3 (hs : List Int) (hl : hs.length ≤ 1000000) : ∀ (d j : Nat) (H : Heap) (m : List (Int × Bool)), j + d = hs.length → (∀ r : Int, aget r m = if r ∈ hs.take j then some true else none) → CSt H f p g T W → H[15]? = some (AM vB gh m) →
    ∃ H' m', (∀ r : Int, aget r m' = if r ∈ hs then some true else none) ∧ yu8 V1 V2 V3 (.lm 15 gh) (slA (nz hs)) (.int .i64 hs.length) (.int .i64 j) H = y21y V1 V2 V3 (.lm 15 gh) H' ∧ CSt H' f p g T W ∧ H'[15]? = some (AM vB gh m') := by
  intro d
  induction d with
  | zero =>
    intro j H m hd hm S h15
    have hc : ¬ (j : Int) < (hs.length : Int) := by omega
    refine ⟨H, m, by rw [List.take_of_length_le (by omega)] at hm; exact hm, ?_, S, h15⟩
    rw [yqy, y26t, yh, y2, decide_eq_false hc, y27e, y1p]
  | succ d ih =>
    intro j H m hd hm S h15
    have hlt : j < hs.length := by omega
    have hc : (j : Int) < (hs.length : Int) := by omega
    have kx := y24 (o := nz hs) (i := j) (by rw [y7y]; exact List.getElem?_eq_getElem hlt) .i64
    have htk : hs.take (j + 1) = hs.take j ++ [hs[j]] := List.take_succ_eq_append_getElem hlt
    generalize hs[j] = u at *
    have lx : ∀ H : Heap, evLd false 1 (.rp [.int .i64 u]) H = some (.int .i64 u) := fun H => by simp
    have mp := y2mh (vf := vB) h15 u true
    obtain ⟨H', m', h1, h2, h3, h4⟩ := ih (j + 1) (H.set 15 (AM vB gh (aset u true m))) (aset u true m) (by omega) (fun r => by
      rw [yrf, htk, hm]
      by_cases e : r = u
      · simp [e]
      · simp [e]) (S.set (by omega)) (y3w (y3d h15))
    refine ⟨H', m', h1, ?_, h3, h4⟩
    rw [yqy, y26t, yh, y2, decide_eq_true hc, y27e, y1f, y2l7, kx, y2, lx, y2, mp, yf, y2i8, y76 hlt (by omega), y2]
    exact h2
end
theorem y2so {H : Heap} {fb : Nat} {o : AO} (h : H[fb + 0]? = some o) : yw fb (some 0) 9 0 y2rf [] H = some (.ls (fb + 0) (o.gen + 1) 9 0 0, H.set (fb + 0) ⟨o.gen + 1, .arr false false 9 []⟩) := by
  simp only [Nat.add_zero] at h
  simp [yw, y15, y42, place, h]
theorem y1km {H : Heap} {L : List Ins} {id g : Nat} {o : AO} (h : H[id]? = some ⟨g, .arr false false 9 (L.map enc)⟩) (h16 : H[16]? = some o) (hid : id ≠ 16) (hl : 16 ≠ H.length) (hL : L.length ≤ 1000000) :
    y7 E (y8 E) 0 (some 16) true 40 [.ls id g 9 0 L.length] H = some (.ls 16 (o.gen + 1 + 1) 9 0 L.length, H.set 16 ⟨o.gen + 1 + 1, .arr false false 9 (L.map enc)⟩) := by
  have e16 : 0 + 16 = 16 := rfl
  rw [y7, if_neg (by simp), y51]
  simp only [e16]
  rw [if_neg hl]
  have b := y2so (H := H) (fb := 16) h16
  have ne : y3n 1 false (.ls id g 9 0 L.length) AV.nils = some (.bool false) := rfl
  have r : y3g (H.set 16 ⟨o.gen + 1, .arr false false 9 []⟩) 9 (.ls id g 9 0 L.length) = some (L.map enc) := yxk (α := Ins) (by rw [yv (fun e => hid e.symm)]; exact h)
  have ap := ywg (α := Ins) (H := H.set 16 ⟨o.gen + 1, .arr false false 9 []⟩) (fb := 16) (id := 16) (g := o.gen + 1) (b := 96) (sl := some 1) (L := []) (M := L) (T := []) r (y3w (y3d h16)) (by simp only [List.length_nil]; omega)
  rw [List.set_set, List.nil_append] at ap
  rw [y21, y22, ne, y2, y1p, y23, b, yf]
  have ap' : y3h 16 (some 1) 9 96 (.ls (16 + 0) (o.gen + 1) 9 0 0) (.ls id g 9 0 L.length) (H.set (16 + 0) ⟨o.gen + 1, .arr false false 9 []⟩) = some (.ls 16 (o.gen + 1 + 1) 9 0 L.length, H.set 16 ⟨o.gen + 1 + 1, .arr false false 9 (L.map enc)⟩) := ap
  rw [ap', yf]
end Go.Vm
namespace Go.Vm
open Cel
attribute [local simp] y7 y28 yr
theorem y2p6 (x : Ins) (h : x.op = 4 ∨ x.op = 6 ∨ x.op = 7 ∨ x.op = 8 ∨ x.op = 10 ∨ x.op = 12 ∨ x.op = 15 ∨ x.op = 16 ∨ x.op = 19 ∨ x.op = 21 ∨ x.op = 22 ∨ x.op = 31) : (y8 E).p 10 [.agg (enc x)] = some (exO (uses x)) := by
  rw [yw8]
  rcases h with h|h|h|h|h|h|h|h|h|h|h|h <;> (simp [h, uses, calls, reads, ydl, yfd, ye7, yfh, yfc, yay, yer, yey, yeb, y50, y7e, y3m, y7f, y7a, y78, yw, y15]; exact y26 (α := Int) (L := [x.a]) (by simp))
theorem y2td (x : Ins) (h : x.op = 5 ∨ x.op = 9 ∨ x.op = 11 ∨ x.op = 13 ∨ x.op = 17 ∨ x.op = 28) : (y8 E).p 10 [.agg (enc x)] = some (exO (uses x)) := by
  rw [yw8]
  rcases h with h|h|h|h|h|h <;> (simp [h, uses, calls, reads, ydl, yfd, ye7, yfh, yfc, yay, yer, yey, yeb, y50, y7e, y3m, y7f, y7a, y78, yw, y15]; exact y26 (α := Int) (L := [x.a, x.b]) (by simp))
theorem y2qp (x : Ins) (h : x.op = 14) : (y8 E).p 10 [.agg (enc x)] = some (exO (uses x)) := by
  rw [yw8]
  simp [h, uses, calls, reads, ydl, yfd, ye7, yfh, yfc, yay, yer, yey, yeb, y50, y7e, y3m, y7f, y7a, y78, yw, y15]
  exact y26 (α := Int) (L := [x.a, x.b, x.c]) (by simp)
theorem y2si (x : Ins) (h : x.op = 23 ∨ x.op = 24 ∨ x.op = 25 ∨ x.op = 26) (hl : (lst x.args).length ≤ 17592186043904) : (y8 E).p 10 [.agg (enc x)] = some (exO (uses x)) := by
  rw [yw8]
  have e : uses x = x.args := by rcases h with h|h|h|h <;> simp [h, uses, calls]
  rw [e]
  have hc := y6o x.args hl
  cases ha : x.args with
  | none =>
    rw [ha] at hc
    rcases h with h|h|h|h <;> (simp [h, ydl, yfd, ye7, yfh, yfc, yay, yer, yey, yeb, y50, y7e, y3m, y7f, y7a, y78, ha, hc, exO, y2f, reloc, y8i, y2m]; done)
  | some L =>
    rw [ha] at hc
    rcases h with h|h|h|h <;> (simp [h, ydl, yfd, ye7, yfh, yfc, yay, yer, yey, yeb, y50, y7e, y3m, y7f, y7a, y78, ha, hc, y2f, y5z, okOC, reloc, y8i, y2m, exO]; exact y26 (α := Int) (L := L) (by simp))
theorem y2u3 (x : Ins) (h : x.op = 29) : (y8 E).p 10 [.agg (enc x)] = some (exO (uses x)) := by
  rw [yw8]
  by_cases hb : x.b < 0
  · simp [hb, h, uses, calls, reads, ydl, yfd, ye7, yfh, yfc, yay, yer, yey, yeb, y50, y7e, y3m, y7f, y7a, y78, yw, y15]
    exact y26 (α := Int) (L := [x.a]) (by simp)
  · simp [hb, h, uses, calls, reads, ydl, yfd, ye7, yfh, yfc, yay, yer, yey, yeb, y50, y7e, y3m, y7f, y7a, y78, yw, y15]
    exact y26 (α := Int) (L := [x.a, x.b]) (by simp)
theorem y2qh (x : Ins) (h : x.op = 30) : (y8 E).p 10 [.agg (enc x)] = some (exO (uses x)) := by
  rw [yw8]
  by_cases hb : 0 ≤ x.a
  · simp [hb, h, uses, calls, reads, ydl, yfd, ye7, yfh, yfc, yay, yer, yey, yeb, y50, y7e, y3m, y7f, y7a, y78, yw, y15]
    exact y26 (α := Int) (L := [x.a]) (by simp)
  · simp [hb, h, uses, calls, reads, ydl, yfd, ye7, yfh, yfc, yay, yer, yey, yeb, y50, y7e, y3m, y7f, y7a, y78, yw, y15, exO]
theorem y2sq (x : Ins) (h : x.op = 1 ∨ x.op = 2 ∨ x.op = 3 ∨ x.op = 18 ∨ x.op = 20 ∨ x.op = 27 ∨ x.op = 32 ∨ x.op = 33 ∨ x.op < 1 ∨ 33 < x.op) : (y8 E).p 10 [.agg (enc x)] = some (exO (uses x)) := by
  rw [yw8]
  rcases h with h|h|h|h|h|h|h|h|h|h
  all_goals first | (simp [h, uses, calls, reads, ydl, yfd, ye7, yfh, yfc, yay, yer, yey, yeb, y50, y7e, y3m, y7f, y7a, y78, exO]; done) | (simp [lo_f h, uses, calls, reads, ydl, yfd, ye7, yfh, yfc, yay, yer, yey, yeb, y50, y7e, y3m, y7f, y7a, y78, exO]; done) | simp [hi_f h, uses, calls, reads, ydl, yfd, ye7, yfh, yfc, yay, yer, yey, yeb, y50, y7e, y3m, y7f, y7a, y78, exO]
theorem ye2 (x : Ins) (hl : (lst x.args).length ≤ 17592186043904) : (y8 E).p 10 [.agg (enc x)] = some (exO (uses x)) := by
  by_cases h1 : x.op = 4 ∨ x.op = 6 ∨ x.op = 7 ∨ x.op = 8 ∨ x.op = 10 ∨ x.op = 12 ∨ x.op = 15 ∨ x.op = 16 ∨ x.op = 19 ∨ x.op = 21 ∨ x.op = 22 ∨ x.op = 31
  · exact y2p6 x h1
  by_cases h2 : x.op = 5 ∨ x.op = 9 ∨ x.op = 11 ∨ x.op = 13 ∨ x.op = 17 ∨ x.op = 28
  · exact y2td x h2
  by_cases h4 : x.op = 23 ∨ x.op = 24 ∨ x.op = 25 ∨ x.op = 26
  · exact y2si x h4 hl
  by_cases h5 : x.op = 29
  · exact y2u3 x h5
  by_cases h6 : x.op = 30
  · exact y2qh x h6
  by_cases h3 : x.op = 14
  · exact y2qp x h3
  exact y2sq x (by omega)
end Go.Vm
