/- The loop of FoldChains. FoldChains: the law. -/
import Derived.Test.YtgbajicpokolcaaNTd
set_option linter.unusedSimpArgs false
set_option linter.unusedVariables false
set_option linter.unusedSectionVars false
namespace Go.Vm
open Cel
abbrev BCn (g n : Nat) : AO := ⟨1, .arr true false 5 [[.ls 0 1 1 0 2, .nils, .int .i64 2, .ls 1 g 9 0 n, .nils]]⟩
abbrev HCn (g : Nat) (L : List Ins) (o3 o5 : AO) : Heap := [AI 1 [2, 2], ⟨g, .arr false false 9 (L.map enc)⟩, BCn g L.length, o3, D0, o5, D0, D0, D0]
abbrev oneF (w : Int) (l : Cx) : List Ins := yb 0 w :: chnC l
theorem y1qm {g : Nat} {L M : List Ins} {o3 o5 : AO} {sl : Option Nat} {y : AV} (hy : y1p (HCn g L o3 o5) 9 y = some (M.map enc)) (hb : L.length + M.length ≤ 1000) :
    y2k 0 sl 9 96 (.ls 1 g 9 0 L.length) y (HCn g L o3 o5) = some (.ls 1 (g + 1) 9 0 (L ++ M).length, [AI 1 [2, 2], ⟨g + 1, .arr false false 9 ((L ++ M).map enc)⟩, BCn g L.length, o3, D0, o5, D0, D0, D0]) := by
  have hbd : (2 * (L.length + M.length) + 512) * 96 ≤ 2 ^ 48 := by
    have : (2 * (L.length + M.length) + 512) * 96 ≤ (2 * 1000 + 512) * 96 := Nat.mul_le_mul_right 96 (by omega)
    exact Nat.le_trans this (by decide)
  exact y1sm (α := Ins) (H := HCn g L o3 o5) (fb := 0) (sl := sl) (id := 1) (g := g) (b := 96) (L := L) (M := M) (T := []) hy (by rw [List.append_nil]; rfl) hbd
theorem rem7 (c : Int) : ∃ q : Int, y2 .rem (.int .i64 c) (.int .i64 7) = some (.int .i64 (c.tmod 7)) ∧ y2 .add (.int .i64 (c.tmod 7)) (.int .i64 7) = some (.int .i64 (c.tmod 7 + 7)) ∧ y2 .rem (.int .i64 (c.tmod 7 + 7)) (.int .i64 7) = some (.int .i64 q) ∧ (0 ≤ q ∧ q < 7) ∧ q = (c.tmod 7 + 7).tmod 7 := by
  have h1 := Int.tmod_lt_of_pos c (show (0 : Int) < 7 by omega)
  have h2 := Int.lt_tmod_of_pos c (show (0 : Int) < 7 by omega)
  have w1 : IntKind.wrap .i64 (c.tmod 7 + 7) = c.tmod 7 + 7 := y16 (by omega) (by omega)
  refine ⟨(c.tmod 7 + 7).tmod 7, by simp [y2, y18, y1z], by rw [yn, w1], by simp [y2, y18, y1z], ?_, rfl⟩
  generalize c.tmod 7 = z at *
  rw [Int.tmod_eq_emod_of_nonneg (by omega)]
  omega
theorem y28v (i : Nat) {n : Nat} (h : 0 < n) : y2 .rem (.int .i64 (i : Int)) (.int .i64 (n : Int)) = some (.int .i64 ((i % n : Nat) : Int)) := by
  have h0 : ¬ (n : Int) = 0 := by omega
  show (if (n : Int) = 0 then none else some (AV.int .i64 (Int.tmod (i : Int) (n : Int)))) = _
  rw [if_neg h0, Int.tmod_eq_emod_of_nonneg (by omega), Int.natCast_emod]
theorem y1rx {q : Int} (h : 0 ≤ q ∧ q < 7) : ydw false 7 1 (.agg [.int .i64 97, .int .i64 101, .int .i64 105, .int .i64 109, .int .i64 127, .int .i64 129, .int .i64 131]) (.int .i64 q) = some (.int .i64 (tabC q)) := by
  have : q = 0 ∨ q = 1 ∨ q = 2 ∨ q = 3 ∨ q = 4 ∨ q = 5 ∨ q = 6 := by omega
  rcases this with rfl | rfl | rfl | rfl | rfl | rfl | rfl <;> rfl
theorem y1z2 (co no : Option (List Int)) (hc : (lst co).length ≤ 100) (hn0 : 0 < (lst no).length) (hnb : (lst no).length ≤ 9223372036854775807) (hn : ∀ x ∈ lst no, inI x) (w : Int) (hw : y1j w) : ∀ (d i g : Nat) (o3 o5 : AO), i + d = (lst co).length →
    ∃ g' o3', ygu (slA co) (slA no) (.lp 2 1 0 0) (.int .i64 (chnW w (chx (lst co) (lst no) i))) (slA co) (.int .i64 (lst co).length) (.int .i64 i) (HCn g (oneF w (chx (lst co) (lst no) i)) o3 o5) = y135 (slA co) (.lp 2 1 0 0) (.int .i64 (chnW w (chx (lst co) (lst no) (lst co).length))) (HCn g' (oneF w (chx (lst co) (lst no) (lst co).length)) o3' o5) := by
  intro d
  induction d with
  | zero =>
    intro i g o3 o5 hi
    have e : i = (lst co).length := by omega
    subst e
    have hc : ¬ ((lst co).length : Int) < ((lst co).length : Int) := by omega
    refine ⟨g, o3, ?_⟩
    rw [ymd]
    simp only [y1lm, yf, y3, hc, decide_false, y1ml, y15]
  | succ d ih =>
    intro i g o3 o5 hi
    have hil : i < (lst co).length := by omega
    have hlt : (i : Int) < ((lst co).length : Int) := by omega
    have hw1 : IntKind.wrap .i64 ((i : Int) + 1) = ((i + 1 : Nat) : Int) := by rw [y16] <;> omega
    have hx : yv 1 (slA co) (.int .i64 (i : Int)) = some (.rp [.int .i64 (lst co)[i]]) := y59 (List.getElem?_eq_getElem hil) .i64
    have hj : (i + 1) % (lst no).length < (lst no).length := Nat.mod_lt _ hn0
    have hy : yv 1 (slA no) (.int .i64 (((i + 1) % (lst no).length : Nat) : Int)) = some (.rp [.int .i64 (lst no)[(i + 1) % (lst no).length]]) := y59 (List.getElem?_eq_getElem hj) .i64
    have hr := y28v (i + 1) hn0
    have ec : (lst co).getD i 0 = (lst co)[i] := by rw [List.getD_eq_getElem?_getD, List.getElem?_eq_getElem hil]; rfl
    have en : (lst no).getD ((i + 1) % (lst no).length) 0 = (lst no)[(i + 1) % (lst no).length] := by rw [List.getD_eq_getElem?_getD, List.getElem?_eq_getElem hj]; rfl
    have hxr : inI (lst no)[(i + 1) % (lst no).length] := hn _ (List.getElem_mem hj)
    have es : chx (lst co) (lst no) (i + 1) = chx (lst co) (lst no) i ++ [(cOf (lst co)[i], (lst no)[(i + 1) % (lst no).length])] := by rw [chx, ec, en]
    have ih1 := ih (i + 1) (g + 1)
    rw [es] at ih1
    have hlen := yif (lst co) (lst no) i
    generalize hl : chx (lst co) (lst no) i = l at *
    generalize (lst co)[i] = c at *
    generalize (lst no)[(i + 1) % (lst no).length] = x at *
    rw [yvn] at ih1
    dsimp only at ih1
    have l1 : ∀ (v : Int) (H : Heap), evLd false 1 (.rp [.int .i64 v]) H = some (.int .i64 v) := fun v H => rfl
    obtain ⟨q, q1, q2, q3, q4, q5⟩ := rem7 c
    have hcq : cOf c = tabC q := by rw [cOf, q5]
    have tb : yh [.int .i64 0, .int .i64 0, .int .i64 0, .int .i64 0, .int .i64 0, .int .i64 0, .int .i64 0] [(0, 1, .int .i64 97), (1, 1, .int .i64 101), (2, 1, .int .i64 105), (3, 1, .int .i64 109), (4, 1, .int .i64 127), (5, 1, .int .i64 129), (6, 1, .int .i64 131)] = some (.agg [.int .i64 97, .int .i64 101, .int .i64 105, .int .i64 109, .int .i64 127, .int .i64 129, .int .i64 131]) := rfl
    have ix := y1rx q4
    rw [← hcq] at ix
    have ok : y9u (cOf c) := y0x _
    have lc : ∀ L : List Ins, evLd false 1 (.lp 2 1 0 3) (HCn g L o3 o5) = some (.ls 1 g 9 0 L.length) := fun L => rfl
    have b1 : yh y8j [(0, 1, .int .i64 1), (1, 1, .int .i64 1), (5, 1, .int .i64 x)] = some (.agg (enc (yb 1 x))) := rfl
    have b2 : yh y8j [(0, 1, .int .i64 5), (5, 1, .int .i64 (cOf c)), (1, 1, .int .i64 0), (2, 1, .int .i64 0), (3, 1, .int .i64 1)] = some (.agg (enc (binI (cOf c)))) := rfl
    have bs : ∀ L : List Ins, y12 0 (some 3) 9 2 y8j [(0, .agg (enc (yb 1 x))), (1, .agg (enc (binI (cOf c))))] (HCn g L o3 o5) = some (.ls 3 (o3.gen + 1) 9 0 2, HCn g L ⟨o3.gen + 1, .arr false false 9 [enc (yb 1 x), enc (binI (cOf c))]⟩ o5) := fun L => rfl
    have ry : ∀ L : List Ins, y1p (HCn g L ⟨o3.gen + 1, .arr false false 9 [enc (yb 1 x), enc (binI (cOf c))]⟩ o5) 9 (.ls 3 (o3.gen + 1) 9 0 2) = some ([yb 1 x, binI (cOf c)].map enc) := fun L => y1h8 (α := Ins) (L := [yb 1 x, binI (cOf c)]) rfl
    have ap := y1qm (sl := some 4) (ry (oneF w l)) (by simp [y5q]; omega)
    have eL : oneF w l ++ [yb 1 x, binI (cOf c)] = oneF w (l ++ [(cOf c, x)]) := by
      show yb 0 w :: (chnC l ++ [yb 1 x, binI (cOf c)]) = _
      rw [oneF, yps]
    rw [eL] at ap
    have st : evSt 1 (.lp 2 1 0 3) (.ls 1 (g + 1) 9 0 (oneF w (l ++ [(cOf c, x)])).length) [AI 1 [2, 2], ⟨g + 1, .arr false false 9 ((oneF w (l ++ [(cOf c, x)])).map enc)⟩, BCn g (oneF w l).length, ⟨o3.gen + 1, .arr false false 9 [enc (yb 1 x), enc (binI (cOf c))]⟩, D0, o5, D0, D0, D0] = some (.tup [], HCn (g + 1) (oneF w (l ++ [(cOf c, x)])) ⟨o3.gen + 1, .arr false false 9 [enc (yb 1 x), enc (binI (cOf c))]⟩ o5) := by
      generalize oneF w (l ++ [(cOf c, x)]) = L2
      generalize oneF w l = L1
      rfl
    have hrw := yqi l w hw
    have cT : ∀ H : Heap, y4 E (y6 E) 0 none true 133 [.int .i64 (cOf c), .int .i64 (chnW w l), .int .i64 x] H = some (.int .i64 (twoM (cOf c) (chnW w l) x), H) := fun H => yp (fa := ⟨[.int .i64 (cOf c), .int .i64 (chnW w l), .int .i64 x], true, []⟩) rfl rfl rfl (y1uo ok hrw (by unfold inI at hxr; unfold y1j; omega)) ⟨_, rfl, rfl⟩
    have lc' := lc (oneF w l)
    have bs' := bs (oneF w l)
    clear lc bs ry
    generalize hT : twoM (cOf c) (chnW w l) x = w2 at *
    generalize chnW w l = w1 at *
    generalize cOf c = k at *
    generalize oneF w (l ++ [(k, x)]) = L2 at *
    generalize oneF w l = L1 at *
    obtain ⟨g2, o32, h⟩ := ih1 ⟨o3.gen + 1, .arr false false 9 [enc (yb 1 x), enc (binI k)]⟩ o5 (by omega)
    refine ⟨g2, o32, ?_⟩
    rw [ymd, ← h]
    have fa : evFa 3 (.lp 2 1 0 0) = some (.lp 2 1 0 3) := rfl
    have ad : y2 .add (.int .i64 (i : Int)) (.int .i64 1) = some (.int .i64 ((i + 1 : Nat) : Int)) := by rw [yn, hw1]
    rw [y1lm, yf, y3, decide_eq_true hlt, y1ml, yx, y1ym, hx, y3, l1, y3, tb, y3, q1, y3, q2, y3, q3, y3, ix, y3, ad, y3, y2u, y3, hr, y3, hy, y3, l1, y3, fa, y3, lc', y3, b1, y3, b2, y3, bs', yc, ap, yc, y3, st, yc, cT, yc, y1vr, ad, y3]
end Go.Vm
namespace Go.Vm
open Cel
abbrev HRn (g : Nat) (w : Int) (l : Cx) (o3 o5 o7 o8 : AO) : Heap := [AI 1 [2, 2], ⟨g, .arr false false 9 ((lst (chnF w l).code).map enc)⟩, BCn g (lst (chnF w l).code).length, o3, D0, o5, D0, o7, o8]
theorem y13x (co : Option (List Int)) (w : Int) (l : Cx) (hl : l.length ≤ 100) (hll : l.length = (lst co).length) (hw : y1j w) (ho : CxOk l) (g : Nat) (o3 : AO) :
    y135 (slA co) (.lp 2 1 0 0) (.int .i64 (chnW w l)) (HCn g (oneF w l) o3 D0) = some ⟨.bool true, [], true, [], []⟩ := by
  have fa : ∀ j n : Nat, evFa n (.lp j 1 0 0) = some (.lp j 1 0 n) := fun j n => by rw [y14, Nat.zero_add]
  have lc : ∀ L : List Ins, evLd false 1 (.lp 2 1 0 3) (HCn g L o3 D0) = some (.ls 1 g 9 0 L.length) := fun L => rfl
  have b1 : yh y8j [(0, 1, .int .i64 30), (2, 1, .int .i64 0)] = some (.agg (enc ret0)) := rfl
  have bs : ∀ L : List Ins, y12 0 (some 5) 9 1 y8j [(0, .agg (enc ret0))] (HCn g L o3 D0) = some (.ls 5 1 9 0 1, HCn g L o3 ⟨1, .arr false false 9 [enc ret0]⟩) := fun L => rfl
  have ry : ∀ L : List Ins, y1p (HCn g L o3 ⟨1, .arr false false 9 [enc ret0]⟩) 9 (.ls 5 1 9 0 1) = some ([ret0].map enc) := fun L => y1h8 (α := Ins) (L := [ret0]) rfl
  have ap := y1qm (sl := some 6) (ry (oneF w l)) (by simp [y5q]; omega)
  have eL : oneF w l ++ [ret0] = lst (chnF w l).code := rfl
  rw [eL] at ap
  have st : ∀ L L1 : List Ins, evSt 1 (.lp 2 1 0 3) (.ls 1 (g + 1) 9 0 L.length) [AI 1 [2, 2], ⟨g + 1, .arr false false 9 (L.map enc)⟩, BCn g L1.length, o3, D0, ⟨1, .arr false false 9 [enc ret0]⟩, D0, D0, D0] = some (.tup [], [AI 1 [2, 2], ⟨g + 1, .arr false false 9 (L.map enc)⟩, BCn (g + 1) L.length, o3, D0, ⟨1, .arr false false 9 [enc ret0]⟩, D0, D0, D0]) := fun L L1 => rfl
  generalize hg : g + 1 = g' at *
  generalize ho5 : (⟨1, .arr false false 9 [enc ret0]⟩ : AO) = o5 at *
  have A : FnAt (HRn g' w l o3 o5 D0 D0) (chnF w l) (fun i => if i = 2 then 1 else 0) (fun i => if i = 2 then g' else 1) := by
    refine ⟨fun L h => ?_, fun L h => ?_, fun L h => ?_, fun L h => ?_, fun i j h1 h2 h3 h4 h5 => ?_⟩
    · have : [2, 2] = L := Option.some.inj h
      subst this; rfl
    · cases h
    · have : lst (chnF w l).code = L := Option.some.inj h
      subst this; rfl
    · cases h
    · have k1 : hasL (chnF w l) 1 = false := rfl
      have k3 : hasL (chnF w l) 3 = false := rfl
      match i, j, h1, h2 with
      | 0, 0, _, _ => omega
      | 0, 2, _, _ => decide
      | 2, 0, _, _ => decide
      | 2, 2, _, _ => omega
      | 1, _, _, _ => rw [k1] at h4; cases h4
      | 3, _, _, _ => rw [k3] at h4; cases h4
      | 0, 1, _, _ => rw [k1] at h5; cases h5
      | 2, 1, _, _ => rw [k1] at h5; cases h5
      | 0, 3, _, _ => rw [k3] at h5; cases h5
      | 2, 3, _, _ => rw [k3] at h5; cases h5
  have ld : evLd true 5 (.lp 2 1 0 0) (HRn g' w l o3 o5 D0 D0) = some (fnV (chnF w l) (fun i => if i = 2 then 1 else 0) (fun i => if i = 2 then g' else 1)) := by rfl
  obtain ⟨ff, fs⟩ := y1jb hl hw ho
  have hwf := y1wd (w := w) hl ho
  obtain ⟨_, d2⟩ := y1xf (chnF w l) ff fs (by show 0 ≤ _; omega)
  have hP := d2 hwf
  rw [y1e5] at hP
  have eG : y7e (chnF w l) (lst (chnG w l).code) = chnG w l := rfl
  rw [eG] at hP
  have hmem : ∀ x ∈ lst (chnG w l).code, (∃ d v, (d = 0 ∨ d = 1) ∧ x = yb d v) ∨ x = ret0 := fun x hx => by
    have hx' : x ∈ yb 0 w :: chnR w l ++ [ret0] := hx
    rw [List.cons_append, List.mem_cons, List.mem_append, List.mem_singleton] at hx'
    rcases hx' with h | h | h
    · exact .inl ⟨0, w, .inl rfl, h⟩
    · exact .inl (yvz h)
    · exact .inr h
  have hfr : (y1k (chnG w l)).fresh = true := by
    have h1 : (lst (chnG w l).code).all scal = true := by
      rw [List.all_eq_true]
      intro x hx
      rcases hmem x hx with ⟨d, v, _, rfl⟩ | rfl <;> rfl
    have h2 : lst (chnG w l).rows = [] := rfl
    simp only [y1k, h1, h2, List.all_nil, Bool.and_self]
  obtain ⟨fr, ids, hz⟩ := A.fz
  have c1 : y4 E (y6 E) 0 none true 125 [fnV (chnF w l) (fun i => if i = 2 then 1 else 0) (fun i => if i = 2 then g' else 1)] (HRn g' w l o3 o5 D0 D0) = some (.agg (enc (chnG w l)), HRn g' w l o3 o5 D0 D0) := by
    refine ynz (fa := ⟨[.agg (enc (chnF w l))], fr && true, ids ++ []⟩) rfl ?_ hfr hP (yyw _)
    rw [y10, hz, y1c]
  have hgl : (lst (chnG w l).code).length = 2 * l.length + 2 := by
    show (yb 0 w :: chnR w l ++ [ret0]).length = _
    simp [yix]
  have hfl := yih w l
  have n7 : newC 0 (some 7) [.nils, .nils, .int .i64 0, .nils, .nils] (HRn g' w l o3 o5 D0 D0) = some (.lp 7 1 0 0, HRn g' w l o3 o5 ⟨1, .arr true false 5 [[.nils, .nils, .int .i64 0, .nils, .nils]]⟩ D0) := rfl
  have s7 : evSt 5 (.lp 7 1 0 0) (.agg (enc (chnG w l))) (HRn g' w l o3 o5 ⟨1, .arr true false 5 [[.nils, .nils, .int .i64 0, .nils, .nils]]⟩ D0) = some (.tup [], HRn g' w l o3 o5 (AFn (chnG w l)) D0) := rfl
  have l7 : ∀ o8, evLd false 1 (.lp 7 1 0 3) (HRn g' w l o3 o5 (AFn (chnG w l)) o8) = some (slA (chnG w l).code) := fun o8 => rfl
  have l75 : ∀ o8, evLd true 5 (.lp 7 1 0 0) (HRn g' w l o3 o5 (AFn (chnG w l)) o8) = some (.agg (enc (chnG w l))) := fun o8 => rfl
  have sb : y2 .sub (.int .i64 (lst (chnG w l).code).length) (.int .i64 2) = some (.int .i64 ((2 * l.length : Nat) : Int)) := by
    rw [hgl, y37, y16 (by omega) (by omega)]
    congr 2
    omega
  have hat : (lst (chnG w l).code)[2 * l.length]? = some (yb 0 (chnW w l)) := by
    obtain ⟨P, hP⟩ := yjv l w
    have hPl : P.length = 2 * l.length := by
      have := congrArg List.length hP
      rw [List.length_append, List.length_cons, yix] at this
      simp at this
      omega
    show (yb 0 w :: chnR w l ++ [ret0])[2 * l.length]? = _
    rw [hP, List.append_assoc, List.getElem?_append_right (by omega), hPl, Nat.sub_self]
    rfl
  have hix : yv 9 (slA (chnG w l).code) (.int .i64 ((2 * l.length : Nat) : Int)) = some (.rp (enc (yb 0 (chnW w l)))) := ybn hat .i64
  have hld : ∀ (y : Ins) (H : Heap), evLd true 9 (.rp (enc y)) H = some (.agg (enc y)) := fun y H => rfl
  have n8 : newC 0 (some 8) y8j (HRn g' w l o3 o5 (AFn (chnG w l)) D0) = some (.lp 8 1 0 0, HRn g' w l o3 o5 (AFn (chnG w l)) ⟨1, .arr true false 9 [y8j]⟩) := rfl
  have s8 : ∀ y : Ins, evSt 9 (.lp 8 1 0 0) (.agg (enc y)) (HRn g' w l o3 o5 (AFn (chnG w l)) ⟨1, .arr true false 9 [y8j]⟩) = some (.tup [], HRn g' w l o3 o5 (AFn (chnG w l)) ⟨1, .arr true false 9 [enc y]⟩) := fun y => by simp [y40, ym]
  have m0 : ∀ d v : Int, evLd false 1 (.lp 8 1 0 0) (HRn g' w l o3 o5 (AFn (chnG w l)) ⟨1, .arr true false 9 [enc (yb d v)]⟩) = some (.int .i64 1) := fun d v => rfl
  have m1 : ∀ d v : Int, evLd false 1 (.lp 8 1 0 1) (HRn g' w l o3 o5 (AFn (chnG w l)) ⟨1, .arr true false 9 [enc (yb d v)]⟩) = some (.int .i64 d) := fun d v => rfl
  have m5 : ∀ d v : Int, evLd false 1 (.lp 8 1 0 5) (HRn g' w l o3 o5 (AFn (chnG w l)) ⟨1, .arr true false 9 [enc (yb d v)]⟩) = some (.int .i64 v) := fun d v => rfl
  have lf : ∀ o8, evLd false 1 (.lp 2 1 0 3) (HRn g' w l o3 o5 (AFn (chnG w l)) o8) = some (.ls 1 g' 9 0 (lst (chnF w l).code).length) := fun o8 => rfl
  have ln : ∀ (n : Nat) (H : Heap), y13 1 (.ls 1 g' 9 0 n) H = some (.int .i64 n) := fun n H => rfl
  have hen := y27u (chnG w l) (by omega) hmem
  have hev : endM (lst (chnG w l).code) 0 = chnW w l := yi1 l w 0
  rw [hev] at hen
  have cE : ∀ H : Heap, y4 E (y6 E) 0 none true 134 [.agg (enc (chnG w l))] H = some (.int .i64 (chnW w l), H) := fun H => yp rfl (fz_f _ H) rfl hen ⟨_, rfl, rfl⟩
  have eqn : y2 .eql (.int .i64 (lst (chnG w l).code).length) (.int .i64 (lst (chnF w l).code).length) = some (.bool true) := by rw [y9, hgl, hfl, decide_eq_true rfl]
  have eqw : y2 .eql (.int .i64 (chnW w l)) (.int .i64 (chnW w l)) = some (.bool true) := by rw [y9, decide_eq_true rfl]
  have z5 : y2 .eql (.int .i64 1) (.int .i64 5) = some (.bool false) := rfl
  have z1 : y2 .eql (.int .i64 1) (.int .i64 1) = some (.bool true) := rfl
  have z0 : y2 .eql (.int .i64 0) (.int .i64 0) = some (.bool true) := rfl
  rw [y135, fa, y3, lc, y3, b1, y3, bs, yc, ap, yc, y3, st, yc, ld, y3, c1, yc, n7, yc, s7, yc, fa, y3, l7, y3, y3, l7, y3, y2u, y3, sb, y3, hix, y3, hld, y3, n8, yc, s8, yc]
  generalize chnW w l = W at *
  generalize hH : HRn g' w l o3 o5 (AFn (chnG w l)) ⟨1, .arr true false 9 [enc (yb 0 W)]⟩ = H
  have m0' := m0 0 W
  have m1' := m1 0 W
  have m5' := m5 0 W
  have l7' := l7 ⟨1, .arr true false 9 [enc (yb 0 W)]⟩
  have l75' := l75 ⟨1, .arr true false 9 [enc (yb 0 W)]⟩
  have lf' := lf ⟨1, .arr true false 9 [enc (yb 0 W)]⟩
  rw [hH] at m0' m1' m5' l7' l75' lf'
  rw [y3, l7', y3, y2u, y3, y3, lf', y3, ln, y3, eqn, y3]
  cases hz0 : decide (((lst co).length : Int) = 0)
  · have e0 : y2 .eql (.int .i64 (lst co).length) (.int .i64 0) = some (.bool false) := by rw [y9, hz0]
    simp only [yb9, yct, ylz, ycs, y3, y2u, e0, fa, m0', z5, y25, y2i, z1, m5', eqw, m1', z0, l75', y22b, cE, yc]
    rfl
  · have e0 : y2 .eql (.int .i64 (lst co).length) (.int .i64 0) = some (.bool true) := by rw [y9, hz0]
    simp only [yb9, yct, ylz, ycs, y3, y2u, e0, fa, m0', z5, y25, y2i, z1, m5', eqw, m1', z0, l75', y22b, cE, yc]
    rfl
theorem yg1 (co no : Option (List Int)) (hn : ∀ x ∈ lst no, inI x) (hnb : (lst no).length ≤ 9223372036854775807) : (y6 E).p 121 [slA co, slA no] = some ⟨.bool true, [], true, [], []⟩ := by
  rw [y28j]
  have ch : ∀ H : Heap, y4 E (y6 E) 0 none true 124 [] H = some (.bool true, H) := fun H => yp (fa := ⟨[], true, []⟩) rfl rfl rfl y1vy ⟨_, rfl, rfl⟩
  have gt : y2 .gtr (.int .i64 (lst co).length) (.int .i64 100) = some (.bool (decide (100 < (lst co).length))) := by
    rw [yed]
    congr 2
    rw [decide_eq_decide]
    omega
  rw [y18l, y11w, ch, yc, y49, y3, Bool.not_true, y15, y0w, y2u, y3, gt, y3]
  by_cases hc : 100 < (lst co).length
  · rw [decide_eq_true hc]
    rfl
  rw [decide_eq_false hc, yct, y3, yct, y2u, y3, yct, y9, y3, y25, y3]
  by_cases h0 : (lst no).length = 0
  · rw [h0]
    rfl
  rw [decide_eq_false (by omega), y15]
  have hn0 : 0 < (lst no).length := by omega
  have hg : (lst no)[0]? = some (lst no)[0] := List.getElem?_eq_getElem hn0
  have hx : yv 1 (slA no) (.int .i64 0) = some (.rp [.int .i64 (lst no)[0]]) := y59 (i := 0) hg .i64
  have hw0 := hn _ (List.getElem_mem hn0)
  generalize (lst no)[0] = w at *
  have hw : y1j w := by unfold inI at hw0; unfold y1j; omega
  have l1 : ∀ (H : Heap), evLd false 1 (.rp [.int .i64 w]) H = some (.int .i64 w) := fun H => rfl
  have b23 : y12 0 (some 0) 1 2 [.int .i64 0] [(0, .int .i64 2), (1, .int .i64 2)] [⟨0, .dead⟩, ⟨0, .dead⟩, ⟨0, .dead⟩, ⟨0, .dead⟩, ⟨0, .dead⟩, ⟨0, .dead⟩, ⟨0, .dead⟩, ⟨0, .dead⟩, ⟨0, .dead⟩] = some (.ls 0 1 1 0 2, [AI 1 [2, 2], D0, D0, D0, D0, D0, D0, D0, D0]) := rfl
  have b27 : yh y8j [(0, 1, .int .i64 1), (1, 1, .int .i64 0), (5, 1, .int .i64 w)] = some (.agg (enc (yb 0 w))) := rfl
  have b28 : y12 0 (some 1) 9 1 y8j [(0, .agg (enc (yb 0 w)))] [AI 1 [2, 2], D0, D0, D0, D0, D0, D0, D0, D0] = some (.ls 1 1 9 0 1, [AI 1 [2, 2], ⟨1, .arr false false 9 [enc (yb 0 w)]⟩, D0, D0, D0, D0, D0, D0, D0]) := rfl
  have b29 : yh [.nils, .nils, .int .i64 0, .nils, .nils] [(0, 1, .ls 0 1 1 0 2), (2, 1, .int .i64 2), (3, 1, .ls 1 1 9 0 1)] = some (.agg [.ls 0 1 1 0 2, .nils, .int .i64 2, .ls 1 1 9 0 1, .nils]) := rfl
  have n2 : newC 0 (some 2) [.nils, .nils, .int .i64 0, .nils, .nils] [AI 1 [2, 2], ⟨1, .arr false false 9 [enc (yb 0 w)]⟩, D0, D0, D0, D0, D0, D0, D0] = some (.lp 2 1 0 0, [AI 1 [2, 2], ⟨1, .arr false false 9 [enc (yb 0 w)]⟩, ⟨1, .arr true false 5 [[.nils, .nils, .int .i64 0, .nils, .nils]]⟩, D0, D0, D0, D0, D0, D0]) := rfl
  have s2 : evSt 5 (.lp 2 1 0 0) (.agg [.ls 0 1 1 0 2, .nils, .int .i64 2, .ls 1 1 9 0 1, .nils]) [AI 1 [2, 2], ⟨1, .arr false false 9 [enc (yb 0 w)]⟩, ⟨1, .arr true false 5 [[.nils, .nils, .int .i64 0, .nils, .nils]]⟩, D0, D0, D0, D0, D0, D0] = some (.tup [], HCn 1 [yb 0 w] D0 D0) := rfl
  obtain ⟨g', o3', hl⟩ := y1z2 co no (by omega) hn0 hnb hn w hw (lst co).length 0 1 D0 D0 (Nat.zero_add _)
  have hl' : ygu (slA co) (slA no) (.lp 2 1 0 0) (.int .i64 w) (slA co) (.int .i64 (lst co).length) (.int .i64 0) (HCn 1 [yb 0 w] D0 D0) = _ := hl
  have t := y13x co w (chx (lst co) (lst no) (lst co).length) (by rw [yif]; omega) (yif _ _ _) hw (y1qi hn _) g' o3'
  rw [y1an, b23, yc, hx, y3, l1, y3, b27, y3, b28, yc, b29, y3, n2, yc, s2, yc, y127, hx, y3, l1, y3, y1wx, y2u, y3, hl', t]
end Go.Vm
