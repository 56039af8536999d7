/- CarryChains: behind a row of copies the last one is read of the first. -/
import Derived.Test.YtgbajicpokolcaaLTe
set_option linter.unusedSimpArgs false
set_option linter.unusedVariables false
set_option linter.unusedSectionVars false
namespace Go.Vm
open Cel
theorem yn9 {H : Heap} {a k : Nat} {c : List AV} {v : AV} (h : H[a]? = some ⟨1, .arr true false 5 [c]⟩) (hl : c.length = 5) (hk : k < 5) (hv : cellsOf v = [v]) (hf : y11 v = true) :
    evSt 1 (.lp a 1 0 k) v H = some (.tup [], H.set a ⟨1, .arr true false 5 [yx k [v] c]⟩) := by
  have hr : yh H a 1 = some (false, 5, [c]) := by simp [yh, y32, h]
  rw [y5g, hr]
  simp only [List.getElem?_cons_zero, hv]
  rw [if_pos ⟨rfl, by rw [hl]; omega, by simp [hf]⟩, y1x, h]
  rfl
theorem y2fx (a m : Int) (h0 : 0 < m) (h1 : m ≤ 100) : ∃ q : Int, y3 .rem (.int .i64 a) (.int .i64 m) = some (.int .i64 (a.tmod m)) ∧ y3 .add (.int .i64 (a.tmod m)) (.int .i64 m) = some (.int .i64 (a.tmod m + m)) ∧
    y3 .rem (.int .i64 (a.tmod m + m)) (.int .i64 m) = some (.int .i64 q) ∧ y3 .add (.int .i64 q) (.int .i64 1) = some (.int .i64 (q + 1)) ∧ 0 ≤ q ∧ q < m := by
  have g1 := Int.tmod_lt_of_pos a h0
  have g2 := Int.lt_tmod_of_pos a h0
  have hm : ¬ m = 0 := by omega
  have r : ∀ b : Int, y3 .rem (.int .i64 b) (.int .i64 m) = some (.int .i64 (b.tmod m)) := fun b => by
    show (if m = 0 then none else some (AV.int .i64 (Int.tmod b m))) = _
    rw [if_neg hm]
  generalize hz : a.tmod m = z at *
  have g3 : (z + m).tmod m = (z + m) % m := Int.tmod_eq_emod_of_nonneg (by omega)
  have g4 := Int.emod_nonneg (z + m) hm
  have g5 := Int.emod_lt_of_pos (z + m) h0
  refine ⟨(z + m) % m, by rw [r, hz], ?_, by rw [r, g3], ?_, g4, g5⟩
  · rw [y27, y1a (by omega) (by omega)]
  · rw [y27, y1a (by omega) (by omega)]
abbrev y1ar : List AV := [.int .i64 0, .int .i64 0, .int .i64 0, .int .i64 0, .int .i64 0, .int .i64 0, .int .i64 0, .str [], .nils]
structure MSt (H : Heap) (k : Int) (R : List Int) (C : List Ins) (gr gc : Nat) : Prop where
  len : H.length = 10
  par : H[0]? = some (AI 1 [0])
  box : H[1]? = some ⟨1, .arr true false 5 [[y1w Int 3 gr R, .ls 0 1 1 0 1, .int .i64 k, y1w Ins 5 gc C, .nils]]⟩
  regs : H[3]? = some (y2z gr D0 R)
  code : H[5]? = some (y2z gc D0 C)
  d6 : H[6]? = some D0
  d8 : H[8]? = some D0
theorem fb0 (j : Nat) : 0 + j = j := Nat.zero_add j
theorem y2cw {H : Heap} {k : Int} {R : List Int} {C : List Ins} {gr gc : Nat} (S : MSt H k R C gr gc) (hR : R.length ≤ 1000) (v0 : AV) (i : Int) (v26 : AV) :
    ∃ H' gr', (∀ K : Heap → Option (Ex AV), (ob (evFa 0 (.lp 1 1 0 0)) fun v30 => ob (evLd false 1 v30 H) fun v31 => oh (yj 0 (some 2) 1 1 [.int .i64 0] [(0, .int .i64 k)] H) fun v33 h10 => oh (y2y 0 (some 3) 1 8 v31 v33 h10) fun v34 h11 => ob (evFa 0 (.lp 1 1 0 0)) fun v35 => oh (evSt 1 v35 v34 h11) fun _ h12 => K h12) = K H') ∧ MSt H' k (R ++ [k]) C gr' gc := by
  have hlen := S.len
  obtain ⟨o, ho⟩ : ∃ o, H[0 + 2]? = some o := ⟨_, List.getElem?_eq_getElem (by omega)⟩
  have fa : evFa 0 (.lp 1 1 0 0) = some (.lp 1 1 0 0) := rfl
  have l1 : evLd false 1 (.lp 1 1 0 0) H = some (y1w Int 3 gr R) := yb0 S.box rfl
  have b := yxy k ho
  rw [fb0] at b ho
  have hr := yh8 (α := Int) (H := H.set 2 (AI (o.gen + 1) [k])) (id := 2) (g := o.gen + 1) (L := [k]) (y35 (by omega))
  have hr3 : (H.set 2 (AI (o.gen + 1) [k]))[0 + 3]? = some (y2z gr D0 R) := by rw [fb0, yn (by omega)]; exact S.regs
  obtain ⟨gr', ap⟩ := yu9 (n := k) hr hr3 (by omega)
  rw [fb0] at ap
  have ap' : y2y 0 (some 3) 1 8 (y1w Int 3 gr R) (.ls 2 (o.gen + 1) 1 0 1) (H.set 2 (AI (o.gen + 1) [k])) = some (y1w Int 3 gr' (R ++ [k]), (H.set 2 (AI (o.gen + 1) [k])).set 3 (y2z gr' D0 (R ++ [k]))) := ap
  have hb : ((H.set 2 (AI (o.gen + 1) [k])).set 3 (y2z gr' D0 (R ++ [k])))[1]? = some ⟨1, .arr true false 5 [[y1w Int 3 gr R, .ls 0 1 1 0 1, .int .i64 k, y1w Ins 5 gc C, .nils]]⟩ := by
    rw [yn (by omega), yn (by omega)]; exact S.box
  have st := yn9 (k := 0) (v := y1w Int 3 gr' (R ++ [k])) hb rfl (by omega) (yfu ..) (ym5 ..)
  refine ⟨((H.set 2 (AI (o.gen + 1) [k])).set 3 (y2z gr' D0 (R ++ [k]))).set 1 ⟨1, .arr true false 5 [[y1w Int 3 gr' (R ++ [k]), .ls 0 1 1 0 1, .int .i64 k, y1w Ins 5 gc C, .nils]]⟩, gr', fun K => ?_, ⟨by simp [hlen], ?_, y35 (by simp [hlen]), ?_, ?_, ?_, ?_⟩⟩
  · rw [fa, y2, l1, y2, b, yb, ap', yb, y2, st, yb]
    rfl
  · rw [yn (by omega), yn (by omega), yn (by omega)]; exact S.par
  · rw [yn (by omega), y35 (by simp [hlen])]
  · rw [yn (by omega), yn (by omega), yn (by omega)]; exact S.code
  · rw [yn (by omega), yn (by omega), yn (by omega)]; exact S.d6
  · rw [yn (by omega), yn (by omega), yn (by omega)]; exact S.d8
theorem y29w {H : Heap} {k : Int} {R : List Int} {C : List Ins} {gr gc : Nat} (S : MSt H k R C gr gc) (hC : C.length ≤ 1000) (x : Ins) (j : Nat) (hj : j = 4) :
    ∃ H' gc', (∀ K : Heap → Option (Ex AV), (oh (yj 0 (some j) 9 1 y1ar [(0, .agg (enc x))] H) fun v44 h13 => oh (y2y 0 (some 5) 9 96 (y1w Ins 5 gc C) v44 h13) fun v45 h14 => ob (evFa 3 (.lp 1 1 0 0)) fun v46 => oh (evSt 1 v46 v45 h14) fun _ h15 => K h15) = K H') ∧ MSt H' k R (C ++ [x]) gr gc' := by
  subst hj
  have hlen := S.len
  obtain ⟨o, ho⟩ : ∃ o, H[0 + 4]? = some o := ⟨_, List.getElem?_eq_getElem (by omega)⟩
  have fa : evFa 3 (.lp 1 1 0 0) = some (.lp 1 1 0 3) := rfl
  have b : yj 0 (some 4) 9 1 y1ar [(0, .agg (enc x))] H = some (.ls 4 (o.gen + 1) 9 0 1, H.set 4 ⟨o.gen + 1, .arr false false 9 [enc x]⟩) := by
    simp only [fb0] at ho
    simp [yj, yy, y3g, place, ho]
  rw [fb0] at ho
  have hr := yh8 (α := Ins) (H := H.set 4 ⟨o.gen + 1, .arr false false 9 [enc x]⟩) (id := 4) (g := o.gen + 1) (L := [x]) (y35 (by omega))
  have hr5 : (H.set 4 ⟨o.gen + 1, .arr false false 9 [enc x]⟩)[0 + 5]? = some (y2z gc D0 C) := by rw [fb0, yn (by omega)]; exact S.code
  have hbd : (2 * (C.length + [x].length) + 512) * 96 ≤ 2 ^ 48 := by
    have : (2 * (C.length + [x].length) + 512) * 96 ≤ (2 * 1001 + 512) * 96 := Nat.mul_le_mul_right 96 (by simp only [List.length_singleton]; omega)
    exact Nat.le_trans this (by decide)
  obtain ⟨gc', ap⟩ := y137 (α := Ins) (fb := 0) (j := 5) (M := [x]) (b := 96) hr hr5 hbd
  rw [fb0] at ap
  have ap' : y2y 0 (some 5) 9 96 (y1w Ins 5 gc C) (.ls 4 (o.gen + 1) 9 0 1) (H.set 4 ⟨o.gen + 1, .arr false false 9 [enc x]⟩) = some (y1w Ins 5 gc' (C ++ [x]), (H.set 4 ⟨o.gen + 1, .arr false false 9 [enc x]⟩).set 5 (y2z gc' D0 (C ++ [x]))) := ap
  have hb : ((H.set 4 ⟨o.gen + 1, .arr false false 9 [enc x]⟩).set 5 (y2z gc' D0 (C ++ [x])))[1]? = some ⟨1, .arr true false 5 [[y1w Int 3 gr R, .ls 0 1 1 0 1, .int .i64 k, y1w Ins 5 gc C, .nils]]⟩ := by
    rw [yn (by omega), yn (by omega)]; exact S.box
  have st := yn9 (k := 3) (v := y1w Ins 5 gc' (C ++ [x])) hb rfl (by omega) (yfu ..) (ym5 ..)
  refine ⟨((H.set 4 ⟨o.gen + 1, .arr false false 9 [enc x]⟩).set 5 (y2z gc' D0 (C ++ [x]))).set 1 ⟨1, .arr true false 5 [[y1w Int 3 gr R, .ls 0 1 1 0 1, .int .i64 k, y1w Ins 5 gc' (C ++ [x]), .nils]]⟩, gc', fun K => ?_, ⟨by simp [hlen], ?_, y35 (by simp [hlen]), ?_, ?_, ?_, ?_⟩⟩
  · rw [b, yb, ap', yb, fa, y2, st, yb]
    rfl
  · rw [yn (by omega), yn (by omega), yn (by omega)]; exact S.par
  · rw [yn (by omega), yn (by omega), yn (by omega)]; exact S.regs
  · rw [yn (by omega), y35 (by simp [hlen])]
  · rw [yn (by omega), yn (by omega), yn (by omega)]; exact S.d6
  · rw [yn (by omega), yn (by omega), yn (by omega)]; exact S.d8
theorem y2c7 (n : Nat) (hn : n ≤ 40) (k : Int) : ∀ (d i : Nat), i + d = n + 1 → ∀ (H : Heap) (gr gc : Nat), MSt H k (List.replicate i k) (chnM (i - 1)) gr gc →
    ∃ H' gr' gc', yic (.int .i64 (n : Int)) (.int .i64 k) (.lp 1 1 0 0) (.int .i64 ((n + 1 : Nat) : Int)) (.int .i64 (i : Int)) H = yob (.int .i64 (n : Int)) (.lp 1 1 0 0) H' ∧ MSt H' k (List.replicate (n + 1) k) (chnM n) gr' gc' := by
  intro d
  induction d with
  | zero =>
    intro i hi H gr gc S
    have e : i = n + 1 := by omega
    subst e
    have hc : ¬ ((n + 1 : Nat) : Int) < ((n + 1 : Nat) : Int) := by omega
    refine ⟨H, gr, gc, ?_, S⟩
    rw [ylm, yxw, yi, y2, decide_eq_false hc, ywc, y2e]
  | succ d ih =>
    intro i hi H gr gc S
    have hlt : i < n + 1 := by omega
    have hc : (i : Int) < ((n + 1 : Nat) : Int) := by omega
    obtain ⟨H1, gr1, e1, S1⟩ := y2cw S (by rw [List.length_replicate]; omega) (.int .i64 (n : Int)) i (.int .i64 ((n + 1 : Nat) : Int))
    have er : List.replicate i k ++ [k] = List.replicate (i + 1) k := List.replicate_succ'.symm
    rw [er] at S1
    have nx : y3 .add (.int .i64 (i : Int)) (.int .i64 1) = some (.int .i64 ((i + 1 : Nat) : Int)) := by
      rw [y27]
      congr 2
      rw [y1a] <;> omega
    rw [ylm, yxw, yi, y2, decide_eq_true hc, ywc, y25, y1pc, e1]
    by_cases h0 : i = 0
    · subst h0
      obtain ⟨H2, gr2, gc2, q1, q2⟩ := ih 1 (by omega) H1 gr1 gc S1
      refine ⟨H2, gr2, gc2, ?_, q2⟩
      have z : y3 .gtr (.int .i64 ((0 : Nat) : Int)) (.int .i64 0) = some (.bool false) := rfl
      rw [z, y2, y2e, yle, nx, y2]
      exact q1
    · have z : y3 .gtr (.int .i64 (i : Int)) (.int .i64 0) = some (.bool true) := by rw [y59, decide_eq_true (by omega)]
      have sb : y3 .sub (.int .i64 (i : Int)) (.int .i64 1) = some (.int .i64 ((i - 1 : Nat) : Int)) := by
        rw [ygr]
        congr 2
        rw [y1a] <;> omega
      have fa : evFa 3 (.lp 1 1 0 0) = some (.lp 1 1 0 3) := rfl
      have l3 : evLd false 1 (.lp 1 1 0 3) H1 = some (y1w Ins 5 gc (chnM (i - 1))) := yb0 S1.box rfl
      have bl : y10 y1ar [(0, 1, .int .i64 4), (1, 1, .int .i64 (i : Int)), (2, 1, .int .i64 ((i - 1 : Nat) : Int))] = some (.agg (enc (movI (i : Int) ((i - 1 : Nat) : Int)))) := rfl
      obtain ⟨H2, gc2, e2, S2⟩ := y29w S1 (by rw [y7r]; omega) (movI (i : Int) ((i - 1 : Nat) : Int)) 4 rfl
      have ec : chnM (i - 1) ++ [movI (i : Int) ((i - 1 : Nat) : Int)] = chnM i := by
        obtain ⟨j, rfl⟩ : ∃ j, i = j + 1 := ⟨i - 1, by omega⟩
        rw [Nat.add_sub_cancel, y1pw]
        rfl
      rw [ec] at S2
      obtain ⟨H3, gr3, gc3, q1, q2⟩ := ih (i + 1) (by omega) H2 gr1 gc2 S2
      refine ⟨H3, gr3, gc3, ?_, q2⟩
      rw [z, y2, y25, fa, y2, l3, y2, sb, y2, bl, y2]
      have e2' := e2 fun h15 => yle (.int .i64 (n : Int)) (.int .i64 k) (.lp 1 1 0 0) (.int .i64 ((n + 1 : Nat) : Int)) (.int .i64 (i : Int)) h15
      rw [fa] at e2'
      refine e2'.trans ?_
      rw [yle, nx, y2]
      exact q1
theorem y2ba {g : Fn} {n : Nat} (hg : ∀ x ∈ lst g.code, x.a = 0) (hl : (lst g.code).length ≤ 1000000) (v0 : AV) : ∀ (d i : Nat), i + d = (lst g.code).length → ∀ (H : Heap), 10 ≤ H.length → H[8]? = some ⟨1, .arr true false 5 [enc g]⟩ →
    ∃ H', yro v0 (.lp 8 1 0 0) (slA g.code) (.int .i64 (lst g.code).length) (.int .i64 (i : Int)) H = y1u7 v0 (.lp 8 1 0 0) H' ∧ H'[8]? = some ⟨1, .arr true false 5 [enc g]⟩ := by
  intro d
  induction d with
  | zero =>
    intro i hi H hH h8
    have hc : ¬ (i : Int) < ((lst g.code).length : Int) := by omega
    refine ⟨H, ?_, h8⟩
    rw [ysb, y1x1, yi, y2, decide_eq_false hc, y1wf, y2e]
  | succ d ih =>
    intro i hi H hH h8
    have hlt : i < (lst g.code).length := by omega
    have hc : (i : Int) < ((lst g.code).length : Int) := by omega
    have hx := yas (o := g.code) (List.getElem?_eq_getElem hlt) .i64
    have ha := hg _ (List.getElem_mem hlt)
    generalize (lst g.code)[i] = x at *
    have lx : evLd true 9 (.rp (enc x)) H = some (.agg (enc x)) := rfl
    obtain ⟨o, ho⟩ : ∃ o, H[0 + 9]? = some o := ⟨_, List.getElem?_eq_getElem (by omega)⟩
    have nx := y2he ho
    rw [fb0] at nx ho
    have sx := st_x (H := H.set 9 (AX (o.gen + 1) default)) (id := 9) (g := o.gen + 1) (y := x) (y35 (by omega))
    rw [List.set_set] at sx
    have la := ld_x (H := H.set 9 (AX (o.gen + 1) x)) (id := 9) (g := o.gen + 1) (x := x) (k := 2) (y35 (by omega)) rfl
    rw [ha] at la
    have fa : evFa 2 (.lp 9 (o.gen + 1) 0 0) = some (.lp 9 (o.gen + 1) 0 2) := rfl
    have z : y3 .neq (.int .i64 0) (.int .i64 0) = some (.bool false) := rfl
    obtain ⟨H', q1, q2⟩ := ih (i + 1) (by omega) (H.set 9 (AX (o.gen + 1) x)) (by rw [List.length_set]; exact hH) (by rw [yn (by omega)]; exact h8)
    refine ⟨H', ?_, q2⟩
    rw [ysb, y1x1, yi, y2, decide_eq_true hc, y1wf, y25, y295, hx, y2, lx, y2, nx, yb, sx, yb, fa, y2, la, y2, z, y2, y2e, y2a6, y5f hlt (by omega), y2]
    exact q1
theorem y2d1 {n : Nat} (h1 : 1 ≤ n) (h2 : n ≤ 40) {k : Int} (k1 : 1 ≤ k) (k2 : k ≤ 3) {H : Heap} {gr gc : Nat} (S : MSt H k (List.replicate (n + 1) k) (chnM n) gr gc) :
    yob (.int .i64 (n : Int)) (.lp 1 1 0 0) H = some ⟨.bool true, [], true, [], []⟩ := by
  have hlen := S.len
  have fa : evFa 3 (.lp 1 1 0 0) = some (.lp 1 1 0 3) := rfl
  have hC : chnM n ≠ [] := by
    intro e
    have := y7r n
    rw [e] at this
    simp at this; omega
  have hRn : List.replicate (n + 1) k ≠ [] := by simp
  have l3 : evLd false 1 (.lp 1 1 0 3) H = some (.ls 5 gc 9 0 (chnM n).length) := by
    have : evLd false 1 (.lp 1 1 0 3) H = some (y1w Ins 5 gc (chnM n)) := yb0 S.box rfl
    rwa [y12p hC] at this
  have bl : y10 y1ar [(0, 1, .int .i64 30), (2, 1, .int .i64 (n : Int))] = some (.agg (enc (retI n))) := rfl
  have b : yj 0 (some 6) 9 1 y1ar [(0, .agg (enc (retI n)))] H = some (.ls 6 1 9 0 1, H.set 6 ⟨1, .arr false false 9 [enc (retI n)]⟩) := by
    have h6 : H[0 + 6]? = some D0 := by rw [fb0]; exact S.d6
    simp only [fb0] at h6
    simp [yj, yy, y3g, place, h6]
  have hr := yh8 (α := Ins) (H := H.set 6 ⟨1, .arr false false 9 [enc (retI n)]⟩) (id := 6) (g := 1) (L := [retI n]) (y35 (by omega))
  have h5 : (H.set 6 ⟨1, .arr false false 9 [enc (retI n)]⟩)[5]? = some ⟨gc, .arr false false 9 ((chnM n ++ []).map enc)⟩ := by
    rw [yn (by omega), S.code, List.append_nil]
    cases hq : chnM n with
    | nil => exact (hC hq).elim
    | cons a L => rfl
  have hbd : (2 * ((chnM n).length + [retI (n : Int)].length) + 512) * 96 ≤ 2 ^ 48 := by
    have : (2 * ((chnM n).length + [retI (n : Int)].length) + 512) * 96 ≤ (2 * 41 + 512) * 96 := Nat.mul_le_mul_right 96 (by rw [y7r]; simp only [List.length_singleton]; omega)
    exact Nat.le_trans this (by decide)
  have ap := yun (α := Ins) (fb := 0) (sl := some 7) (M := [retI (n : Int)]) hr h5 hbd
  have ap' : y2y 0 (some 7) 9 96 (.ls 5 gc 9 0 (chnM n).length) (.ls 6 1 9 0 1) (H.set 6 ⟨1, .arr false false 9 [enc (retI n)]⟩) = some (.ls 5 (gc + 1) 9 0 (chnM n ++ [retI (n : Int)]).length, (H.set 6 ⟨1, .arr false false 9 [enc (retI n)]⟩).set 5 ⟨gc + 1, .arr false false 9 ((chnM n ++ [retI (n : Int)]).map enc)⟩) := ap
  have hb : ((H.set 6 ⟨1, .arr false false 9 [enc (retI n)]⟩).set 5 ⟨gc + 1, .arr false false 9 ((chnM n ++ [retI (n : Int)]).map enc)⟩)[1]? = some ⟨1, .arr true false 5 [[y1w Int 3 gr (List.replicate (n + 1) k), .ls 0 1 1 0 1, .int .i64 k, y1w Ins 5 gc (chnM n), .nils]]⟩ := by
    rw [yn (by omega), yn (by omega)]; exact S.box
  have st := yn9 (k := 3) (v := .ls 5 (gc + 1) 9 0 (chnM n ++ [retI (n : Int)]).length) hb rfl (by omega) rfl rfl
  have hR3 : H[3]? = some ⟨gr, .arr false false 1 ((List.replicate (n + 1) k).map enc)⟩ := by
    rw [S.regs]
    cases hq : List.replicate (n + 1) k with
    | nil => exact (hRn hq).elim
    | cons a L => rfl
  generalize hH1 : ((H.set 6 ⟨1, .arr false false 9 [enc (retI n)]⟩).set 5 ⟨gc + 1, .arr false false 9 ((chnM n ++ [retI (n : Int)]).map enc)⟩).set 1 ⟨1, .arr true false 5 [[y1w Int 3 gr (List.replicate (n + 1) k), .ls 0 1 1 0 1, .int .i64 k, .ls 5 (gc + 1) 9 0 (chnM n ++ [retI (n : Int)]).length, .nils]]⟩ = H1 at *
  have st' : evSt 1 (.lp 1 1 0 3) (.ls 5 (gc + 1) 9 0 (chnM n ++ [retI (n : Int)]).length) ((H.set 6 ⟨1, .arr false false 9 [enc (retI n)]⟩).set 5 ⟨gc + 1, .arr false false 9 ((chnM n ++ [retI (n : Int)]).map enc)⟩) = some (.tup [], H1) := by
    rw [st, ← hH1]; rfl
  have l1 : H1.length = 10 := by rw [← hH1]; simp [hlen]
  have m0 : H1[0]? = some (AI 1 [0]) := by rw [← hH1, yn (by omega), yn (by omega), yn (by omega)]; exact S.par
  have m1 : H1[1]? = some ⟨1, .arr true false 5 [[y1w Int 3 gr (List.replicate (n + 1) k), .ls 0 1 1 0 1, .int .i64 k, .ls 5 (gc + 1) 9 0 (chnM n ++ [retI (n : Int)]).length, .nils]]⟩ := by rw [← hH1]; exact y35 (by simp [hlen])
  have m3 : H1[3]? = some ⟨gr, .arr false false 1 ((List.replicate (n + 1) k).map enc)⟩ := by rw [← hH1, yn (by omega), yn (by omega), yn (by omega)]; exact hR3
  have m5 : H1[5]? = some ⟨gc + 1, .arr false false 9 ((chnM n ++ [retI (n : Int)]).map enc)⟩ := by rw [← hH1, yn (by omega), y35 (by simp [hlen])]
  have m8 : H1[8]? = some D0 := by rw [← hH1, yn (by omega), yn (by omega), yn (by omega)]; exact S.d8
  clear hH1 st hb ap h5 hr
  have A : FnAt H1 (mvF n k) (fun i => if i = 0 then 3 else if i = 1 then 0 else 5) (fun i => if i = 0 then gr else if i = 1 then 1 else gc + 1) := by
    refine ⟨fun L h => ?_, fun L h => ?_, fun L h => ?_, fun L h => ?_, fun i j i4 j4 hij hi hj => ?_⟩
    · have : List.replicate (n + 1) k = L := Option.some.inj h
      subst this; exact m3
    · have : [(0 : Int)] = L := Option.some.inj h
      subst this; exact m0
    · have : chnM n ++ [retI (n : Int)] = L := Option.some.inj h
      subst this; exact m5
    · cases h
    · have k3 : hasL (mvF n k) 3 = false := rfl
      match i, j, i4, j4 with
      | 0, 0, _, _ => omega
      | 0, 1, _, _ => decide
      | 0, 2, _, _ => decide
      | 1, 0, _, _ => decide
      | 1, 1, _, _ => omega
      | 1, 2, _, _ => decide
      | 2, 0, _, _ => decide
      | 2, 1, _, _ => decide
      | 2, 2, _, _ => omega
      | 3, _, _, _ => rw [k3] at hi; cases hi
      | 0, 3, _, _ => rw [k3] at hj; cases hj
      | 1, 3, _, _ => rw [k3] at hj; cases hj
      | 2, 3, _, _ => rw [k3] at hj; cases hj
  have ld : evLd true 5 (.lp 1 1 0 0) H1 = some (fnV (mvF n k) (fun i => if i = 0 then 3 else if i = 1 then 0 else 5) (fun i => if i = 0 then gr else if i = 1 then 1 else gc + 1)) := by
    rw [ymm m1 rfl, y12p hRn]
    rfl
  obtain ⟨ff, fs⟩ := y25p (k := k) h2
  have hwf := y2h5 h1 h2 k1 k2
  have w := y25u hwf
  obtain ⟨_, d2⟩ := y23j (mvF n k) ff fs (by show 0 ≤ _; omega) fs.args
  obtain ⟨T, v, hP⟩ := d2 hwf
  have ha := mv_a w v h1
  have har := y26j (n := n) (k := k) (T := T)
  have kk := y287 w v
  have kwf := kk.wf hwf
  have kl := kk.swap.len
  rw [ymt] at kl
  have hrows : (carF (mvF n k) T).rows = none := rfl
  generalize carF (mvF n k) T = G at *
  have hfr : (y29 G).fresh = true := by
    have e1 : (lst G.code).all scal = true := by
      rw [List.all_eq_true]
      intro x hx
      have := har x hx
      obtain ⟨op, d, a, b, c, nn, t, ss, ar⟩ := x
      simp only at this
      subst this
      rfl
    have e2 : lst G.rows = [] := by rw [hrows]; rfl
    simp only [y29, e1, e2, List.all_nil, Bool.and_self]
  obtain ⟨fr, ids, hz⟩ := A.fz
  have c149 : y4 E (y5 E) 0 none true 149 [fnV (mvF n k) (fun i => if i = 0 then 3 else if i = 1 then 0 else 5) (fun i => if i = 0 then gr else if i = 1 then 1 else gc + 1)] H1 = some (.agg (enc G), H1) := by
    refine yam (fa := ⟨[.agg (enc (mvF n k))], fr && true, ids ++ []⟩) rfl ?_ hfr hP (y18c _)
    rw [ym, hz, yw]
  have n8 : newC 0 (some 8) [.nils, .nils, .int .i64 0, .nils, .nils] H1 = some (.lp 8 1 0 0, H1.set 8 ⟨1, .arr true false 5 [[.nils, .nils, .int .i64 0, .nils, .nils]]⟩) := by
    simp [m8]
  have s8 := yu4 (H := H1.set 8 ⟨1, .arr true false 5 [[.nils, .nils, .int .i64 0, .nils, .nils]]⟩) (a := 8) (c := [.nils, .nils, .int .i64 0, .nils, .nils]) (d := enc G) (y35 (by omega)) rfl rfl (by simp [y2fr])
  rw [List.set_set] at s8
  have g8 : (H1.set 8 ⟨1, .arr true false 5 [enc G]⟩)[8]? = some ⟨1, .arr true false 5 [enc G]⟩ := y35 (by omega)
  have fa8 : evFa 3 (.lp 8 1 0 0) = some (.lp 8 1 0 3) := rfl
  have l83 : ∀ H : Heap, H[8]? = some ⟨1, .arr true false 5 [enc G]⟩ → evLd false 1 (.lp 8 1 0 3) H = some (slA G.code) := fun H h => yb0 h rfl
  have l8 : ∀ H : Heap, H[8]? = some ⟨1, .arr true false 5 [enc G]⟩ → evLd true 5 (.lp 8 1 0 0) H = some (.agg (enc G)) := fun H h => ymm h rfl
  obtain ⟨H2, t1, t2⟩ := y2ba (n := n) ha (by omega) (.int .i64 (n : Int)) _ 0 (Nat.zero_add _) (H1.set 8 ⟨1, .arr true false 5 [enc G]⟩) (by rw [List.length_set]; omega) g8
  have z0 : ((0 : Nat) : Int) = 0 := rfl
  rw [z0] at t1
  have hck := y1z0 G (kk.fit ff)
  rw [kwf] at hck
  have cK : ∀ H, y4 E (y5 E) 0 none true 29 [.agg (enc G)] H = some (.int .i64 0, H) := fun H => y5v rfl (fz_f G H) rfl hck ⟨_, rfl, rfl⟩
  have q1 : y3 .add (.int .i64 (n : Int)) (.int .i64 1) = some (.int .i64 ((n + 1 : Nat) : Int)) := by
    rw [y27]
    congr 2
    rw [y1a] <;> omega
  have q2 : y3 .eql (.int .i64 0) (.int .i64 0) = some (.bool true) := rfl
  have q3 : y3 .eql (.int .i64 ((n + 1 : Nat) : Int)) (.int .i64 ((n + 1 : Nat) : Int)) = some (.bool true) := by rw [y2t, decide_eq_true rfl]
  rw [yob, fa, y2, l3, y2, bl, y2, b, yb, ap', yb, y2, st', yb, y1mx, ld, y2, c149, yb, n8, yb, s8, yb, y2bw, fa8, y2, l83 _ g8, y2, y6o, y2, t1, y1u7, l8 _ t2, y2, cK, yb, q2, y2, ybm, fa8, y2, ybm, l83 _ t2, y2, ybm, y6o, y2, ybm, y2, ybm, q1, y2, ybm, kl, q3, y2, y3m, y2]
  rfl
theorem yin (a c : Int) : (y5 E).p 160 [.int .i64 a, .int .i64 c] = some ⟨.bool true, [], true, [], []⟩ := by
  rw [y2lq]
  have ch : ∀ H : Heap, y4 E (y5 E) 0 none true 148 [] H = some (.bool true, H) := fun H => y5v (fa := ⟨[], true, []⟩) rfl rfl rfl y2c0 ⟨_, rfl, rfl⟩
  obtain ⟨q, a1, a2, a3, a4, a5, a6⟩ := y2fx a 40 (by omega) (by omega)
  obtain ⟨r, b1, b2, b3, b4, b5, b6⟩ := y2fx c 3 (by omega) (by omega)
  obtain ⟨n, hn⟩ : ∃ n : Nat, q + 1 = n := ⟨(q + 1).toNat, by omega⟩
  rw [hn] at a4
  have q1 : y3 .add (.int .i64 (n : Int)) (.int .i64 1) = some (.int .i64 ((n + 1 : Nat) : Int)) := by
    rw [y27]
    congr 2
    rw [y1a] <;> omega
  have b22 : yj 0 (some 0) 1 1 [.int .i64 0] [(0, .int .i64 0)] (List.replicate 10 D0) = some (.ls 0 1 1 0 1, AI 1 [0] :: List.replicate 9 D0) := rfl
  have b24 : y10 [.nils, .nils, .int .i64 0, .nils, .nils] [(1, 1, .ls 0 1 1 0 1), (2, 1, .int .i64 (r + 1))] = some (.agg [.nils, .ls 0 1 1 0 1, .int .i64 (r + 1), .nils, .nils]) := rfl
  have n1 : newC 0 (some 1) [.nils, .nils, .int .i64 0, .nils, .nils] (AI 1 [0] :: List.replicate 9 D0) = some (.lp 1 1 0 0, AI 1 [0] :: ⟨1, .arr true false 5 [[.nils, .nils, .int .i64 0, .nils, .nils]]⟩ :: List.replicate 8 D0) := rfl
  have s1 : evSt 5 (.lp 1 1 0 0) (.agg [.nils, .ls 0 1 1 0 1, .int .i64 (r + 1), .nils, .nils]) (AI 1 [0] :: ⟨1, .arr true false 5 [[.nils, .nils, .int .i64 0, .nils, .nils]]⟩ :: List.replicate 8 D0) = some (.tup [], AI 1 [0] :: ⟨1, .arr true false 5 [[.nils, .ls 0 1 1 0 1, .int .i64 (r + 1), .nils, .nils]]⟩ :: List.replicate 8 D0) := rfl
  have S : MSt (AI 1 [0] :: ⟨1, .arr true false 5 [[.nils, .ls 0 1 1 0 1, .int .i64 (r + 1), .nils, .nils]]⟩ :: List.replicate 8 D0) (r + 1) (List.replicate 0 (r + 1)) (chnM (0 - 1)) 0 0 := ⟨rfl, rfl, rfl, rfl, rfl, rfl, rfl⟩
  obtain ⟨H', gr, gc, e1, S'⟩ := y2c7 n (by omega) (r + 1) (n + 1) 0 (Nat.zero_add _) _ 0 0 S
  have z0 : ((0 : Nat) : Int) = 0 := rfl
  rw [z0] at e1
  have e10 : ([⟨0, .dead⟩, ⟨0, .dead⟩, ⟨0, .dead⟩, ⟨0, .dead⟩, ⟨0, .dead⟩, ⟨0, .dead⟩, ⟨0, .dead⟩, ⟨0, .dead⟩, ⟨0, .dead⟩, ⟨0, .dead⟩] : Heap) = List.replicate 10 D0 := rfl
  rw [e10, y1kg, y1bf, ch, yb, y4f, y2, Bool.not_true, y2e, y1dq, a1, y2, a2, y2, a3, y2, a4, y2, b1, y2, b2, y2, b3, y2, b4, y2,
    y1k7, b22, yb, b24, y2, n1, yb, s1, yb, y1f1, q1, y2, e1]
  exact y2d1 (by omega) (by omega) (by omega) (by omega) S'
end Go.Vm
