/- flow.Trim. DeadChains: a row of sums that nobody reads is gone as a whole, one that is read stays. -/
import Derived.Test.YtgbajicpokolcaaCTe
set_option linter.unusedSimpArgs false
set_option linter.unusedVariables false
set_option linter.unusedSectionVars false
namespace Go.Vm
open Cel
theorem y21u {H : Heap} {fb j g : Nat} {o : AO} {y : AV} {L : List Ins} {x : Ins} (hy : y1x H 9 y = some [enc x]) (h : H[fb + j]? = some (yz g o L)) (hs : L.length ≤ 2 ^ 38) :
    ∃ g', y1y fb (some j) 9 96 (y1g Ins (fb + j) g L) y H = some (y1g Ins (fb + j) g' (L ++ [x]), H.set (fb + j) (yz g' o (L ++ [x]))) := by
  have e : (2:Nat)^38 = 274877906944 := by decide
  refine ydp (α := Ins) (M := [x]) hy h ?_
  have : (2 * (L.length + [x].length) + 512) * 96 ≤ (2 * (274877906944 + 1) + 512) * 96 := Nat.mul_le_mul_right 96 (by simp only [List.length_singleton]; omega)
  exact Nat.le_trans this (by decide)
theorem y20v {H : Heap} {fb j g : Nat} {o : AO} {y : AV} {L : List Row} {x : Row} (hy : y1x H 4 y = some [enc x]) (h : H[fb + j]? = some (yz g o L)) (hs : L.length ≤ 2 ^ 38) :
    ∃ g', y1y fb (some j) 4 40 (y1g Row (fb + j) g L) y H = some (y1g Row (fb + j) g' (L ++ [x]), H.set (fb + j) (yz g' o (L ++ [x]))) := by
  have e : (2:Nat)^38 = 274877906944 := by decide
  refine ydp (α := Row) (M := [x]) hy h ?_
  have : (2 * (L.length + [x].length) + 512) * 40 ≤ (2 * (274877906944 + 1) + 512) * 40 := Nat.mul_le_mul_right 40 (by simp only [List.length_singleton]; omega)
  exact Nat.le_trans this (by decide)
section
variable (f : Fn) (w : Wf f)
include w
theorem y1bd (o1 o4 o5 o6 o7 o8 o9 o10 o11 : AO) : ∀ (d i : Nat) (o3 : AO), i + d = (lst f.code).length →
    ∃ o3', yei (.lp 0 1 0 0) (.lp 1 1 0 0) (.ls 2 1 1 0 (lst f.code).length) (slA f.code) (.int .i64 (lst f.code).length) (.int .i64 i) [AB f, o1, AL 1 (kpL f i), o3, o4, o5, o6, o7, o8, o9, o10, o11] =
      yha (.lp 0 1 0 0) (.lp 1 1 0 0) (.ls 2 1 1 0 (lst f.code).length) [AB f, o1, AL 1 (kpL f (lst f.code).length), o3', o4, o5, o6, o7, o8, o9, o10, o11] := by
  have hl := w.n2
  intro d
  induction d with
  | zero =>
    intro i o3 hi
    have hn : ¬ ((i : Int) < ((lst f.code).length : Int)) := by omega
    have hi' : i = (lst f.code).length := by omega
    rw [yje]
    exact ⟨o3, by simp [yh3, ynp, hi']⟩
  | succ d ih =>
    intro i o3 hi
    have hlt : i < (lst f.code).length := by omega
    have hc : ((i : Int) < ((lst f.code).length : Int)) := by omega
    have k1 := ycl (o := f.code) (i := i) (y4m hlt) .i64
    have hw := y1j hlt (by omega)
    have ix := y9r (n := (lst f.code).length) (p := (i : Int)) (by omega) hc 2 1 .i64
    rw [show ((i : Int)).toNat = i by omega] at ix
    obtain ⟨o3', ih⟩ := ih (i + 1) ⟨o3.gen + 1, .arr true false 9 [enc (yd f i)]⟩ (by omega)
    push_cast at ih
    refine ⟨o3', ?_⟩
    rw [yje, ← ih]
    by_cases hop : (yd f i).op = 33
    · have st := y8c (H := [AB f, o1, AL 1 (kpL f i), AX (o3.gen + 1) (yd f i), o4, o5, o6, o7, o8, o9, o10, o11]) (α := Bool) (id := 2) (g := 1) (i := i) (L := kpL f i) (v := .bool false) (y := false) rfl (by rw [y1zw]; exact hlt) rfl
      rw [y213 hop] at st
      simp only [y1fh, List.set_cons_zero, List.set_cons_succ] at st
      have e : yh3 (.lp 0 1 0 0) (.lp 1 1 0 0) (.ls 2 1 1 0 (lst f.code).length) (slA f.code) (.int .i64 (lst f.code).length) (.int .i64 i) [AB f, o1, AL 1 (kpL f i), o3, o4, o5, o6, o7, o8, o9, o10, o11] =
          ob (yv 1 (.ls 2 1 1 0 (lst f.code).length) (.int .i64 i)) fun v35 => oh (evSt 1 v35 (.bool false) [AB f, o1, AL 1 (kpL f i), AX (o3.gen + 1) (yd f i), o4, o5, o6, o7, o8, o9, o10, o11]) fun _ h22 =>
            yhu (.lp 0 1 0 0) (.lp 1 1 0 0) (.ls 2 1 1 0 (lst f.code).length) (slA f.code) (.int .i64 (lst f.code).length) (.int .i64 i) h22 := by
        simp [yh3, ynp, yxl, hc, k1, hop]
      rw [e, ix, y9, st, yr]
      simp only [yhu, yy, y9, hw]
    · rw [y288 hop]
      simp [yh3, ynp, yxl, yhu, hc, k1, hop, hw]
theorem yzy (o1 o3 o5 o6 o7 o8 o9 o10 o11 : AO) : ∀ (d i : Nat), i + d = (lst f.code).length →
    yfh (.lp 0 1 0 0) (.lp 1 1 0 0) (.ls 2 1 1 0 (lst f.code).length) (.ls 4 1 1 0 ((lst f.code).length + 1)) (.int .i64 (plc f i)) (.int .i64 (lst f.code).length) (.int .i64 i)
        [AB f, o1, AL 1 (kpL f (lst f.code).length), o3, AI 1 (plcL f i), o5, o6, o7, o8, o9, o10, o11] =
      yip (.lp 0 1 0 0) (.lp 1 1 0 0) (.ls 2 1 1 0 (lst f.code).length) (.ls 4 1 1 0 ((lst f.code).length + 1)) [AB f, o1, AL 1 (kpL f (lst f.code).length), o3, AI 1 (plcL f ((lst f.code).length + 1)), o5, o6, o7, o8, o9, o10, o11] := by
  have hl := w.n2
  intro d
  induction d with
  | zero =>
    intro i hi
    have hn : ¬ ((i : Int) < ((lst f.code).length : Int)) := by omega
    have hi' : i = (lst f.code).length := by omega
    have st := y8c (H := [AB f, o1, AL 1 (kpL f (lst f.code).length), o3, AI 1 (plcL f i), o5, o6, o7, o8, o9, o10, o11]) (α := Int) (id := 4) (g := 1) (i := i) (L := plcL f i) (v := .int .i64 (plc f i)) (y := (plc f i : Int)) rfl (by rw [yxr]; omega) rfl
    rw [yvu] at st
    simp only [yv4, List.set_cons_zero, List.set_cons_succ] at st
    have ix := y9r (n := (lst f.code).length + 1) (p := ((lst f.code).length : Int)) (by omega) (by omega) 4 1 .i64
    rw [show (((lst f.code).length : Int)).toNat = i by omega] at ix
    have l0 : ∀ t : Heap, evLd false 1 (.lp 0 1 0 3) (AB f :: t) = some (slA f.code) := fun t => by simp
    rw [yj9]
    simp only [ylw, yi, hn, decide_false, y9, yyr, y2u, y1h2, y1c, Nat.zero_add, l0, y3c, ix, st, yr]
    rw [hi']
  | succ d ih =>
    intro i hi
    have hlt : i < (lst f.code).length := by omega
    have hc : ((i : Int) < ((lst f.code).length : Int)) := by omega
    have hw := y1j hlt (by omega)
    have st := y8c (H := [AB f, o1, AL 1 (kpL f (lst f.code).length), o3, AI 1 (plcL f i), o5, o6, o7, o8, o9, o10, o11]) (α := Int) (id := 4) (g := 1) (i := i) (L := plcL f i) (v := .int .i64 (plc f i)) (y := (plc f i : Int)) rfl (by rw [yxr]; omega) rfl
    rw [yvu] at st
    simp only [yv4, List.set_cons_zero, List.set_cons_succ] at st
    have ix := y9r (n := (lst f.code).length + 1) (p := (i : Int)) (by omega) (by omega) 4 1 .i64
    have ix2 := y9r (n := (lst f.code).length) (p := (i : Int)) (by omega) hc 2 1 .i64
    rw [show ((i : Int)).toNat = i by omega] at ix ix2
    have l2 := yjv (α := Bool) (H := [AB f, o1, AL 1 (kpL f (lst f.code).length), o3, AI 1 (plcL f (i + 1)), o5, o6, o7, o8, o9, o10, o11]) (id := 2) (g := 1) (v := .bool (y5w f i)) rfl (yp1 hlt) rfl
    have ih := ih (i + 1) (by omega)
    have hle := y1fa f i
    push_cast at ih
    rw [yj9, ← ih]
    have e : ylw (.lp 0 1 0 0) (.lp 1 1 0 0) (.ls 2 1 1 0 (lst f.code).length) (.ls 4 1 1 0 ((lst f.code).length + 1)) (.int .i64 (plc f i)) (.int .i64 (lst f.code).length) (.int .i64 i)
        [AB f, o1, AL 1 (kpL f (lst f.code).length), o3, AI 1 (plcL f i), o5, o6, o7, o8, o9, o10, o11] = cnd (.bool (y5w f i))
          (ob (y5 .add (.int .i64 (plc f i)) (.int .i64 1)) fun v57 => yfi (.lp 0 1 0 0) (.lp 1 1 0 0) (.ls 2 1 1 0 (lst f.code).length) (.ls 4 1 1 0 ((lst f.code).length + 1)) v57 (.int .i64 (lst f.code).length) (.int .i64 i) [AB f, o1, AL 1 (kpL f (lst f.code).length), o3, AI 1 (plcL f (i + 1)), o5, o6, o7, o8, o9, o10, o11])
          (yfi (.lp 0 1 0 0) (.lp 1 1 0 0) (.ls 2 1 1 0 (lst f.code).length) (.ls 4 1 1 0 ((lst f.code).length + 1)) (.int .i64 (plc f i)) (.int .i64 (lst f.code).length) (.int .i64 i) [AB f, o1, AL 1 (kpL f (lst f.code).length), o3, AI 1 (plcL f (i + 1)), o5, o6, o7, o8, o9, o10, o11]) := by
      simp only [ylw, yi, hc, decide_true, y9, yyr, y23, y1cp, ix, st, yr, ix2, l2]
    rw [e]
    have hw2 : IntKind.wrap .i64 ((plc f i : Int) + 1) = (plc f i : Int) + 1 := by rw [y1o] <;> omega
    cases hk : y5w f i with
    | true =>
      have hp : plc f (i + 1) = plc f i + 1 := by rw [plc, hk]; rfl
      rw [hp]
      simp only [y23, yy, y9, yfi, hw, hw2]
      push_cast
      rfl
    | false =>
      have hp : plc f (i + 1) = plc f i := by rw [plc, hk]; rfl
      rw [hp]
      simp only [y2u, yy, y9, yfi, hw]
abbrev AG (L : List Ins) (gc : Nat) (R : List Row) (gr : Nat) : AO := ⟨1, .arr true false 5 [[slA f.regs, slA f.params, .int .i64 f.ret, y1g Ins 8 gc L, y1g Row 11 gr R]]⟩
theorem y14q (o1 o3 o9 o10 o11 : AO) : ∀ (d i gc : Nat) (o6 o7 : AO), i + d = (lst f.code).length →
    ∃ gc' o6' o7', ye1 (.lp 0 1 0 0) (.lp 1 1 0 0) (.ls 2 1 1 0 (lst f.code).length) (.ls 4 1 1 0 ((lst f.code).length + 1)) (.lp 5 1 0 0) (slA f.code) (.int .i64 (lst f.code).length) (.int .i64 i)
        [AB f, o1, AL 1 (kpL f (lst f.code).length), o3, AI 1 (plcL f ((lst f.code).length + 1)), AG f (y1a f i) gc [] 0, o6, o7, yz gc D0 (y1a f i), o9, o10, o11] =
      y11n (.lp 0 1 0 0) (.lp 1 1 0 0) (.ls 2 1 1 0 (lst f.code).length) (.ls 4 1 1 0 ((lst f.code).length + 1)) (.lp 5 1 0 0)
        [AB f, o1, AL 1 (kpL f (lst f.code).length), o3, AI 1 (plcL f ((lst f.code).length + 1)), AG f (y1a f (lst f.code).length) gc' [] 0, o6', o7', yz gc' D0 (y1a f (lst f.code).length), o9, o10, o11] := by
  have hl := w.n2
  intro d
  induction d with
  | zero =>
    intro i gc o6 o7 hi
    have hi' : i = (lst f.code).length := by omega
    have hn : ¬ ((i : Int) < ((lst f.code).length : Int)) := by omega
    refine ⟨gc, o6, o7, ?_⟩
    rw [yin]
    simp only [ynj, yi, hn, decide_false, y9, yy4, y2u]
    rw [hi']
  | succ d ih =>
    intro i gc o6 o7 hi
    have hlt : i < (lst f.code).length := by omega
    have hc : ((i : Int) < ((lst f.code).length : Int)) := by omega
    have k1 := ycl (o := f.code) (i := i) (y4m hlt) .i64
    have hw := y1j hlt (by omega)
    have hle := y1fa f i
    have hgl := yg8 f i
    have hld := fun h => w.leads hlt h
    rw [yin]
    have ix2 := y9r (n := (lst f.code).length) (p := (i : Int)) (by omega) hc 2 1 .i64
    rw [show ((i : Int)).toNat = i by omega] at ix2
    have lK : ∀ (a b c d e g h k l : AO), evLd false 1 (.lp 2 1 i 0) [AB f, o1, AL 1 (kpL f (lst f.code).length), a, b, c, d, e, g, h, k, l] = some (.bool (y5w f i)) := fun a b c d e g h k l =>
      yjv (α := Bool) (id := 2) (g := 1) (v := .bool (y5w f i)) rfl (yp1 hlt) rfl
    have e19 : ynj (.lp 0 1 0 0) (.lp 1 1 0 0) (.ls 2 1 1 0 (lst f.code).length) (.ls 4 1 1 0 ((lst f.code).length + 1)) (.lp 5 1 0 0) (slA f.code) (.int .i64 (lst f.code).length) (.int .i64 i)
        [AB f, o1, AL 1 (kpL f (lst f.code).length), o3, AI 1 (plcL f ((lst f.code).length + 1)), AG f (y1a f i) gc [] 0, o6, o7, yz gc D0 (y1a f i), o9, o10, o11] =
        ygu (.lp 0 1 0 0) (.lp 1 1 0 0) (.ls 2 1 1 0 (lst f.code).length) (.ls 4 1 1 0 ((lst f.code).length + 1)) (.lp 5 1 0 0) (.int .i64 i) (.lp 6 (o6.gen + 1) 0 0) (slA f.code) (.int .i64 (lst f.code).length) (.int .i64 i)
        [AB f, o1, AL 1 (kpL f (lst f.code).length), o3, AI 1 (plcL f ((lst f.code).length + 1)), AG f (y1a f i) gc [] 0, AX (o6.gen + 1) (yd f i), o7, yz gc D0 (y1a f i), o9, o10, o11] := by
      simp [ynj, yy4, y1ks, hc, k1]
    rw [e19]
    generalize hx : yd f i = x at *
    generalize o6.gen + 1 = g6 at *
    cases hk : y5w f i with
    | false =>
      rw [hk] at lK
      obtain ⟨gc', o6', o7', ih⟩ := ih (i + 1) gc (AX g6 x) o7 (by omega)
      refine ⟨gc', o6', o7', ?_⟩
      rw [← ih, y1a, hk]
      simp only [Bool.false_eq_true, if_false, List.append_nil, ygu, ix2, y9, lK, y2y, Bool.not_false, y23, ylo, yy, hw]
      push_cast
      rfl
    | true =>
      rw [hk] at lK
      have e14 : ygu (.lp 0 1 0 0) (.lp 1 1 0 0) (.ls 2 1 1 0 (lst f.code).length) (.ls 4 1 1 0 ((lst f.code).length + 1)) (.lp 5 1 0 0) (.int .i64 i) (.lp 6 g6 0 0) (slA f.code) (.int .i64 (lst f.code).length) (.int .i64 i)
          [AB f, o1, AL 1 (kpL f (lst f.code).length), o3, AI 1 (plcL f ((lst f.code).length + 1)), AG f (y1a f i) gc [] 0, AX g6 x, o7, yz gc D0 (y1a f i), o9, o10, o11] =
          yie (.lp 0 1 0 0) (.lp 1 1 0 0) (.ls 2 1 1 0 (lst f.code).length) (.ls 4 1 1 0 ((lst f.code).length + 1)) (.lp 5 1 0 0) (.lp 6 g6 0 0) (slA f.code) (.int .i64 (lst f.code).length) (.int .i64 i)
          [AB f, o1, AL 1 (kpL f (lst f.code).length), o3, AI 1 (plcL f ((lst f.code).length + 1)), AG f (y1a f i) gc [] 0, AX g6 x, o7, yz gc D0 (y1a f i), o9, o10, o11] := by
        simp only [ygu, ix2, y9, lK, y2y, Bool.not_true, y2u]
      have cL : ∀ h : Heap, y6 E (y8 E) 0 none true 22 [.agg (enc x)] h = some (.bool (leads x.op), h) := fun h => by simp [y6, y1n, yj]
      have e13 : yie (.lp 0 1 0 0) (.lp 1 1 0 0) (.ls 2 1 1 0 (lst f.code).length) (.ls 4 1 1 0 ((lst f.code).length + 1)) (.lp 5 1 0 0) (.lp 6 g6 0 0) (slA f.code) (.int .i64 (lst f.code).length) (.int .i64 i)
          [AB f, o1, AL 1 (kpL f (lst f.code).length), o3, AI 1 (plcL f ((lst f.code).length + 1)), AG f (y1a f i) gc [] 0, AX g6 x, o7, yz gc D0 (y1a f i), o9, o10, o11] =
          ymt (.lp 0 1 0 0) (.lp 1 1 0 0) (.ls 2 1 1 0 (lst f.code).length) (.ls 4 1 1 0 ((lst f.code).length + 1)) (.lp 5 1 0 0) (.lp 6 g6 0 0) (slA f.code) (.int .i64 (lst f.code).length) (.int .i64 i)
          [AB f, o1, AL 1 (kpL f (lst f.code).length), o3, AI 1 (plcL f ((lst f.code).length + 1)), AG f (y1a f i) gc [] 0, AX g6 (y4l f x), o7, yz gc D0 (y1a f i), o9, o10, o11] := by
        have l6 : evLd true 9 (.lp 6 g6 0 0) [AB f, o1, AL 1 (kpL f (lst f.code).length), o3, AI 1 (plcL f ((lst f.code).length + 1)), AG f (y1a f i) gc [] 0, AX g6 x, o7, yz gc D0 (y1a f i), o9, o10, o11] = some (.agg (enc x)) := by simp
        have l66 : evLd false 1 (.lp 6 g6 0 6) [AB f, o1, AL 1 (kpL f (lst f.code).length), o3, AI 1 (plcL f ((lst f.code).length + 1)), AG f (y1a f i) gc [] 0, AX g6 x, o7, yz gc D0 (y1a f i), o9, o10, o11] = some (.int .i64 x.t) := by simp
        have st6 : ∀ n : Int, evSt 1 (.lp 6 g6 0 6) (.int .i64 n) [AB f, o1, AL 1 (kpL f (lst f.code).length), o3, AI 1 (plcL f ((lst f.code).length + 1)), AG f (y1a f i) gc [] 0, AX g6 x, o7, yz gc D0 (y1a f i), o9, o10, o11] =
            some (.tup [], [AB f, o1, AL 1 (kpL f (lst f.code).length), o3, AI 1 (plcL f ((lst f.code).length + 1)), AG f (y1a f i) gc [] 0, AX g6 { x with t := n }, o7, yz gc D0 (y1a f i), o9, o10, o11]) := fun n => by simp [y2o]
        cases hd : leads x.op with
        | true =>
          obtain ⟨t0, t1⟩ := hld hd
          have ixt := y9r (n := (lst f.code).length + 1) t0 (by omega) 4 1 .i64
          have lp := yjv (α := Int) (H := [AB f, o1, AL 1 (kpL f (lst f.code).length), o3, AI 1 (plcL f ((lst f.code).length + 1)), AG f (y1a f i) gc [] 0, AX g6 x, o7, yz gc D0 (y1a f i), o9, o10, o11]) (id := 4) (g := 1) (v := .int .i64 (plc f x.t.toNat)) rfl (yty (f := f) (j := x.t.toNat) (by omega)) rfl
          simp only [yie, l6, y9, cL, yr, hd, y23, y1c, Nat.zero_add, l66, ixt, lp, st6, y4l, if_true]
        | false =>
          simp only [yie, l6, y9, cL, yr, hd, y2u, y1c, Nat.zero_add, st6, y4l, Bool.false_eq_true, if_false]
      have hlen : (y1a f i).length ≤ 2 ^ 38 := by
        have e : (2:Nat)^38 = 274877906944 := by decide
        omega
      obtain ⟨gc2, ha⟩ := y21u (H := [AB f, o1, AL 1 (kpL f (lst f.code).length), o3, AI 1 (plcL f ((lst f.code).length + 1)), AG f (y1a f i) gc [] 0, AX g6 (y4l f x), ⟨o7.gen + 1, .arr false false 9 [enc (y4l f x)]⟩, yz gc D0 (y1a f i), o9, o10, o11]) (fb := 0) (j := 8) (g := gc) (o := D0) (y := .ls 7 (o7.gen + 1) 9 0 1) (L := y1a f i) (x := y4l f x) (by simp) rfl hlen
      have ha' : y1y 0 (some 8) 9 96 (y1g Ins 8 gc (y1a f i)) (.ls 7 (o7.gen + 1) 9 0 1) [AB f, o1, AL 1 (kpL f (lst f.code).length), o3, AI 1 (plcL f ((lst f.code).length + 1)), AG f (y1a f i) gc [] 0, AX g6 (y4l f x), ⟨o7.gen + 1, .arr false false 9 [enc (y4l f x)]⟩, yz gc D0 (y1a f i), o9, o10, o11] =
          some (y1g Ins 8 gc2 (y1a f i ++ [y4l f x]), [AB f, o1, AL 1 (kpL f (lst f.code).length), o3, AI 1 (plcL f ((lst f.code).length + 1)), AG f (y1a f i) gc [] 0, AX g6 (y4l f x), ⟨o7.gen + 1, .arr false false 9 [enc (y4l f x)]⟩, yz gc2 D0 (y1a f i ++ [y4l f x]), o9, o10, o11]) := ha
      obtain ⟨gc', o6', o7', ih⟩ := ih (i + 1) gc2 (AX g6 (y4l f x)) ⟨o7.gen + 1, .arr false false 9 [enc (y4l f x)]⟩ (by omega)
      refine ⟨gc', o6', o7', ?_⟩
      have hG : y1a f (i + 1) = y1a f i ++ [y4l f x] := by rw [y1a, hk, hx]; rfl
      rw [hG] at ih
      rw [← ih, e14, e13]
      have l53 : ∀ (a b c : AO), evLd false 1 (.lp 5 1 0 3) [AB f, o1, AL 1 (kpL f (lst f.code).length), o3, AI 1 (plcL f ((lst f.code).length + 1)), AG f (y1a f i) gc [] 0, a, b, c, o9, o10, o11] = some (y1g Ins 8 gc (y1a f i)) := fun a b c => by simp
      have l6 : ∀ (b c : AO), evLd true 9 (.lp 6 g6 0 0) [AB f, o1, AL 1 (kpL f (lst f.code).length), o3, AI 1 (plcL f ((lst f.code).length + 1)), AG f (y1a f i) gc [] 0, AX g6 (y4l f x), b, c, o9, o10, o11] = some (.agg (enc (y4l f x))) := fun b c => by simp
      have bs : yp 0 (some 7) 9 1 [.int .i64 0, .int .i64 0, .int .i64 0, .int .i64 0, .int .i64 0, .int .i64 0, .int .i64 0, .str [], .nils] [(0, .agg (enc (y4l f x)))] [AB f, o1, AL 1 (kpL f (lst f.code).length), o3, AI 1 (plcL f ((lst f.code).length + 1)), AG f (y1a f i) gc [] 0, AX g6 (y4l f x), o7, yz gc D0 (y1a f i), o9, o10, o11] =
          some (.ls 7 (o7.gen + 1) 9 0 1, [AB f, o1, AL 1 (kpL f (lst f.code).length), o3, AI 1 (plcL f ((lst f.code).length + 1)), AG f (y1a f i) gc [] 0, AX g6 (y4l f x), ⟨o7.gen + 1, .arr false false 9 [enc (y4l f x)]⟩, yz gc D0 (y1a f i), o9, o10, o11]) := by
        simp [yp, y15]
      have st5 : ∀ (a b c : AO), evSt 1 (.lp 5 1 0 3) (y1g Ins 8 gc2 (y1a f i ++ [y4l f x])) [AB f, o1, AL 1 (kpL f (lst f.code).length), o3, AI 1 (plcL f ((lst f.code).length + 1)), AG f (y1a f i) gc [] 0, a, b, c, o9, o10, o11] =
          some (.tup [], [AB f, o1, AL 1 (kpL f (lst f.code).length), o3, AI 1 (plcL f ((lst f.code).length + 1)), AG f (y1a f i ++ [y4l f x]) gc2 [] 0, a, b, c, o9, o10, o11]) := fun a b c => by simp [y2o, yt]
      simp only [ymt, y1c, Nat.zero_add, y9, l53, l6, bs, yr, ha', st5, ylo, yy, hw]
      push_cast
      rfl
theorem y15c (L : List Ins) (gc : Nat) (o1 o3 o6 o7 o8 : AO) (hrl : (lst f.rows).length ≤ 2 ^ 38) : ∀ (d k gr : Nat) (o9 o10 : AO), k + d = (lst f.rows).length →
    ∃ gr' o9' o10', yl7 (.lp 1 1 0 0) (.ls 2 1 1 0 (lst f.code).length) (.ls 4 1 1 0 ((lst f.code).length + 1)) (.lp 5 1 0 0) (slA f.rows) (.int .i64 (lst f.rows).length) (.int .i64 k)
        [AB f, o1, AL 1 (kpL f (lst f.code).length), o3, AI 1 (plcL f ((lst f.code).length + 1)), AG f L gc (y29 f k) gr, o6, o7, o8, o9, o10, yz gr D0 (y29 f k)] =
      y1dv (.lp 1 1 0 0) (.lp 5 1 0 0)
        [AB f, o1, AL 1 (kpL f (lst f.code).length), o3, AI 1 (plcL f ((lst f.code).length + 1)), AG f L gc (y29 f (lst f.rows).length) gr', o6, o7, o8, o9', o10', yz gr' D0 (y29 f (lst f.rows).length)] := by
  have e38 : (2:Nat)^38 = 274877906944 := by decide
  have hl := w.n2
  intro d
  induction d with
  | zero =>
    intro k gr o9 o10 hk
    have hk' : k = (lst f.rows).length := by omega
    have hn : ¬ ((k : Int) < ((lst f.rows).length : Int)) := by omega
    refine ⟨gr, o9, o10, ?_⟩
    rw [ynd]
    simp only [y17g, yi, hn, decide_false, y9, y1qg, y2u]
    rw [hk']
  | succ d ih =>
    intro k gr o9 o10 hk
    have hlt : k < (lst f.rows).length := by omega
    have hc : ((k : Int) < ((lst f.rows).length : Int)) := by omega
    have hw := y1j hlt (by omega)
    have hgr := y16e f k
    obtain ⟨r, hr⟩ : ∃ r, (lst f.rows)[k]? = some r := ⟨_, List.getElem?_eq_getElem hlt⟩
    have hin := w.row (List.mem_of_getElem? hr)
    have k1 := you (o := f.rows) hr .i64
    have hsucc := y0t hr
    rw [ynd]
    have ixA := y9r (n := (lst f.code).length) hin.a0 hin.an 2 1 .i64
    have ixF := y9r (n := (lst f.code).length + 1) hin.f0 (by have := hin.ft; have := hin.tn; omega) 4 1 .i64
    have ixT := y9r (n := (lst f.code).length + 1) (p := r.t) (by have := hin.ft; have := hin.f0; omega) (by have := hin.tn; omega) 4 1 .i64
    have ixQ := y9r (n := (lst f.code).length + 1) hin.a0 (by have := hin.an; omega) 4 1 .i64
    generalize hg9 : o9.gen + 1 = g9 at *
    have AR : ∀ (g : Nat) (L' : List Row) (b c : AO), evLd false 1 (.lp 2 1 r.at_.toNat 0) [AB f, o1, AL 1 (kpL f (lst f.code).length), o3, AI 1 (plcL f ((lst f.code).length + 1)), AG f L gc L' g, o6, o7, o8, ⟨g9, .arr true false 4 [enc r]⟩, b, c] = some (.bool (y5w f r.at_.toNat)) := fun g L' b c =>
      yjv (α := Bool) (id := 2) (g := 1) (v := .bool (y5w f r.at_.toNat)) rfl (yp1 (by have := hin.an; have := hin.a0; omega)) rfl
    have PL : ∀ (p : Nat) (g : Nat) (L' : List Row) (b c : AO), p ≤ (lst f.code).length → evLd false 1 (.lp 4 1 p 0) [AB f, o1, AL 1 (kpL f (lst f.code).length), o3, AI 1 (plcL f ((lst f.code).length + 1)), AG f L gc L' g, o6, o7, o8, ⟨g9, .arr true false 4 [enc r]⟩, b, c] = some (.int .i64 (plc f p)) := fun p g L' b c hp =>
      yjv (α := Int) (id := 4) (g := 1) (v := .int .i64 (plc f p)) rfl (yty hp) rfl
    have pF := fun g L' b c => PL r.f.toNat g L' b c (by have := hin.ft; have := hin.tn; omega)
    have pT := fun g L' b c => PL r.t.toNat g L' b c (by have := hin.tn; omega)
    have pA := fun g L' b c => PL r.at_.toNat g L' b c (by have := hin.an; omega)
    have lb : ∀ (j : Nat) (g : Nat) (L' : List Row) (b c : AO), evLd false 1 (.lp 9 g9 0 j) [AB f, o1, AL 1 (kpL f (lst f.code).length), o3, AI 1 (plcL f ((lst f.code).length + 1)), AG f L gc L' g, o6, o7, o8, ⟨g9, .arr true false 4 [enc r]⟩, b, c] = ((enc r).drop j).head? := fun j g L' b c => by simp
    have d0 : ((enc r).drop 0).head? = some (.int .i64 r.f) := rfl
    have d1 : ((enc r).drop 1).head? = some (.int .i64 r.t) := rfl
    have d2 : ((enc r).drop 2).head? = some (.int .i64 r.at_) := rfl
    have d3 : ((enc r).drop 3).head? = some (.str r.c) := rfl
    have e6 : y17g (.lp 1 1 0 0) (.ls 2 1 1 0 (lst f.code).length) (.ls 4 1 1 0 ((lst f.code).length + 1)) (.lp 5 1 0 0) (slA f.rows) (.int .i64 (lst f.rows).length) (.int .i64 k)
        [AB f, o1, AL 1 (kpL f (lst f.code).length), o3, AI 1 (plcL f ((lst f.code).length + 1)), AG f L gc (y29 f k) gr, o6, o7, o8, o9, o10, yz gr D0 (y29 f k)] =
      y118 (.lp 1 1 0 0) (.ls 2 1 1 0 (lst f.code).length) (.ls 4 1 1 0 ((lst f.code).length + 1)) (.lp 5 1 0 0) (slA f.rows) (.int .i64 (lst f.rows).length) (.int .i64 k)
        [AB f, o1, AL 1 (kpL f (lst f.code).length), o3, AI 1 (plcL f ((lst f.code).length + 1)), AG f L gc (y29 f k) gr, o6, o7, o8, o9, o10, yz gr D0 (y29 f k)] := by
      simp only [y17g, yi, hc, decide_true, y9, y1qg, y23]
    have lr : ∀ t : Heap, evLd true 4 (.rp (enc r)) t = some (.agg (enc r)) := fun t => by simp
    have nc : newC 0 (some 9) [.int .i64 0, .int .i64 0, .int .i64 0, .str []] [AB f, o1, AL 1 (kpL f (lst f.code).length), o3, AI 1 (plcL f ((lst f.code).length + 1)), AG f L gc (y29 f k) gr, o6, o7, o8, o9, o10, yz gr D0 (y29 f k)] =
        some (.lp 9 g9 0 0, [AB f, o1, AL 1 (kpL f (lst f.code).length), o3, AI 1 (plcL f ((lst f.code).length + 1)), AG f L gc (y29 f k) gr, o6, o7, o8, ⟨g9, .arr true false 4 [[.int .i64 0, .int .i64 0, .int .i64 0, .str []]]⟩, o10, yz gr D0 (y29 f k)]) := by
      simp [newC, y7f, place, hg9]
    have s9 : evSt 4 (.lp 9 g9 0 0) (.agg (enc r)) [AB f, o1, AL 1 (kpL f (lst f.code).length), o3, AI 1 (plcL f ((lst f.code).length + 1)), AG f L gc (y29 f k) gr, o6, o7, o8, ⟨g9, .arr true false 4 [[.int .i64 0, .int .i64 0, .int .i64 0, .str []]]⟩, o10, yz gr D0 (y29 f k)] =
        some (.tup [], [AB f, o1, AL 1 (kpL f (lst f.code).length), o3, AI 1 (plcL f ((lst f.code).length + 1)), AG f L gc (y29 f k) gr, o6, o7, o8, ⟨g9, .arr true false 4 [enc r]⟩, o10, yz gr D0 (y29 f k)]) := by
      simp [y2o]
    rw [e6]
    by_cases hb : y5w f r.at_.toNat = true ∧ plc f r.f.toNat < plc f r.t.toNat
    · have hT : ykk f r = [⟨plc f r.f.toNat, plc f r.t.toNat, plc f r.at_.toNat, r.c⟩] := by rw [ykk, hb.1]; simp [hb.2]
      rw [hT] at hsucc
      generalize hnr : (⟨plc f r.f.toNat, plc f r.t.toNat, plc f r.at_.toNat, r.c⟩ : Row) = nr at *
      have hlt2 : ((plc f r.f.toNat : Nat) : Int) < ((plc f r.t.toNat : Nat) : Int) := by have := hb.2; omega
      obtain ⟨gr2, ha⟩ := y20v (H := [AB f, o1, AL 1 (kpL f (lst f.code).length), o3, AI 1 (plcL f ((lst f.code).length + 1)), AG f L gc (y29 f k) gr, o6, o7, o8, ⟨g9, .arr true false 4 [enc r]⟩, ⟨o10.gen + 1, .arr false false 4 [enc nr]⟩, yz gr D0 (y29 f k)]) (fb := 0) (j := 11) (g := gr) (o := D0) (y := .ls 10 (o10.gen + 1) 4 0 1) (L := y29 f k) (x := nr) (by simp) rfl (by omega)
      have ha' : y1y 0 (some 11) 4 40 (y1g Row 11 gr (y29 f k)) (.ls 10 (o10.gen + 1) 4 0 1) [AB f, o1, AL 1 (kpL f (lst f.code).length), o3, AI 1 (plcL f ((lst f.code).length + 1)), AG f L gc (y29 f k) gr, o6, o7, o8, ⟨g9, .arr true false 4 [enc r]⟩, ⟨o10.gen + 1, .arr false false 4 [enc nr]⟩, yz gr D0 (y29 f k)] =
          some (y1g Row 11 gr2 (y29 f k ++ [nr]), [AB f, o1, AL 1 (kpL f (lst f.code).length), o3, AI 1 (plcL f ((lst f.code).length + 1)), AG f L gc (y29 f k) gr, o6, o7, o8, ⟨g9, .arr true false 4 [enc r]⟩, ⟨o10.gen + 1, .arr false false 4 [enc nr]⟩, yz gr2 D0 (y29 f k ++ [nr])]) := ha
      obtain ⟨gr', o9', o10', ih⟩ := ih (k + 1) gr2 ⟨g9, .arr true false 4 [enc r]⟩ ⟨o10.gen + 1, .arr false false 4 [enc nr]⟩ (by omega)
      refine ⟨gr', o9', o10', ?_⟩
      rw [← ih, hsucc]
      have l54 : ∀ (b c : AO), evLd false 1 (.lp 5 1 0 4) [AB f, o1, AL 1 (kpL f (lst f.code).length), o3, AI 1 (plcL f ((lst f.code).length + 1)), AG f L gc (y29 f k) gr, o6, o7, o8, ⟨g9, .arr true false 4 [enc r]⟩, b, c] = some (y1g Row 11 gr (y29 f k)) := fun b c => by simp
      have bd : yu [.int .i64 0, .int .i64 0, .int .i64 0, .str []] [(0, 1, .int .i64 (plc f r.f.toNat)), (1, 1, .int .i64 (plc f r.t.toNat)), (2, 1, .int .i64 (plc f r.at_.toNat)), (3, 1, .str r.c)] = some (.agg (enc nr)) := by
        rw [← hnr]; simp [yu, y39, known, yt, y204]
      have bs : yp 0 (some 10) 4 1 [.int .i64 0, .int .i64 0, .int .i64 0, .str []] [(0, .agg (enc nr))] [AB f, o1, AL 1 (kpL f (lst f.code).length), o3, AI 1 (plcL f ((lst f.code).length + 1)), AG f L gc (y29 f k) gr, o6, o7, o8, ⟨g9, .arr true false 4 [enc r]⟩, o10, yz gr D0 (y29 f k)] =
          some (.ls 10 (o10.gen + 1) 4 0 1, [AB f, o1, AL 1 (kpL f (lst f.code).length), o3, AI 1 (plcL f ((lst f.code).length + 1)), AG f L gc (y29 f k) gr, o6, o7, o8, ⟨g9, .arr true false 4 [enc r]⟩, ⟨o10.gen + 1, .arr false false 4 [enc nr]⟩, yz gr D0 (y29 f k)]) := by
        simp [yp, y15]
      have s5 : ∀ (b c : AO), evSt 1 (.lp 5 1 0 4) (y1g Row 11 gr2 (y29 f k ++ [nr])) [AB f, o1, AL 1 (kpL f (lst f.code).length), o3, AI 1 (plcL f ((lst f.code).length + 1)), AG f L gc (y29 f k) gr, o6, o7, o8, ⟨g9, .arr true false 4 [enc r]⟩, b, c] =
          some (.tup [], [AB f, o1, AL 1 (kpL f (lst f.code).length), o3, AI 1 (plcL f ((lst f.code).length + 1)), AG f L gc (y29 f k ++ [nr]) gr2, o6, o7, o8, ⟨g9, .arr true false 4 [enc r]⟩, b, c]) := fun b c => by simp [y2o, yt]
      have hp : y12 [([], []), (ids1 (.lp 5 1 0 4), []), ([], []), ([], []), (ids1 (.lp 9 g9 0 0), []), ([], []), (ids1 (.lp 4 1 r.f.toNat 0), []), ([], []), ([], []), (ids1 (.lp 9 g9 0 1), []), ([], []), (ids1 (.lp 4 1 r.t.toNat 0), []), ([], []), ([], []), (ids1 (.lp 9 g9 0 2), []), ([], []), (ids1 (.lp 4 1 r.at_.toNat 0), []), ([], []), (ids1 (.lp 9 g9 0 3), []), ([], []), ([], [10]),
          (ids1 (.ls 10 (o10.gen + 1) 4 0 1), ids1 (y1g Row 11 gr (y29 f k)) ++ [11]), ([], []), ([], ids1 (.lp 5 1 0 4))] [(1, 20)] = true := by simp [y12, y2e, meets]
      simp only [y118, k1, y9, lr, nc, yr, s9, y1c, Nat.zero_add, lb, d0, d1, d2, d3, ixA, AR, hb.1, ya2, ixF, pF, ixT, pT, yi, hlt2, decide_true, y28, y23, l54, ixQ, pA, bd, bs, ha', s5, hp, y202, y0s, yy, hw]
      push_cast
      rfl
    · have hT : ykk f r = [] := by
        rw [ykk]
        cases hk2 : y5w f r.at_.toNat with
        | false => rfl
        | true =>
          have : ¬ plc f r.f.toNat < plc f r.t.toNat := fun h => hb ⟨hk2, h⟩
          simp [this]
      rw [hT, List.append_nil] at hsucc
      obtain ⟨gr', o9', o10', ih⟩ := ih (k + 1) gr ⟨g9, .arr true false 4 [enc r]⟩ o10 (by omega)
      refine ⟨gr', o9', o10', ?_⟩
      rw [← ih, hsucc]
      cases hk2 : y5w f r.at_.toNat with
      | false =>
        simp only [y118, k1, y9, lr, nc, yr, s9, y1c, Nat.zero_add, lb, d0, d1, d2, d3, ixA, AR, hk2, yeg, yit, y30, y2u, y0s, yy, hw]
        push_cast
        rfl
      | true =>
        have hlt2 : ¬ ((plc f r.f.toNat : Nat) : Int) < ((plc f r.t.toNat : Nat) : Int) := by
          have : ¬ plc f r.f.toNat < plc f r.t.toNat := fun h => hb ⟨hk2, h⟩
          omega
        simp only [y118, k1, y9, lr, nc, yr, s9, y1c, Nat.zero_add, lb, d0, d1, d2, d3, ixA, AR, hk2, ya2, ixF, pF, ixT, pT, yi, hlt2, decide_false, y28, y2u, y0s, yy, hw]
        push_cast
        rfl
end
theorem y0l (f g : Fn) {H : Heap} {gc gr : Nat} {L : List Ins} {R : List Row} (h8 : H[8]? = some (yz gc D0 L)) (h11 : H[11]? = some (yz gr D0 R)) (hg : g = { regs := f.regs, params := f.params, ret := f.ret, code := nz L, rows := nz R }) :
    ∃ r, yf H (.agg [slA f.regs, slA f.params, .int .i64 f.ret, y1g Ins 8 gc L, y1g Row 11 gr R]) = some r ∧ ync r (.agg (enc g)) := by
  have x1 : ∀ os, expo H 11 (y1g Ins 8 gc L) os = some ⟨exV os.length (nz L), os ++ exOs (nz L), L.all scal, ownI 8 (nz L), []⟩ := by
    intro os
    cases L with
    | nil => exact y4o (α := Ins) (H := H) (j := 8) (g := gc) (k := 10) (d := D0) (o := none) h8 os
    | cons x L => exact y4o (α := Ins) (H := H) (j := 8) (g := gc) (k := 10) (d := D0) (o := some (x :: L)) h8 os
  have x2 : ∀ os, expo H 11 (y1g Row 11 gr R) os = some ⟨exV os.length (nz R), os ++ exOs (nz R), R.all scal, ownI 11 (nz R), []⟩ := by
    intro os
    cases R with
    | nil => exact y4o (α := Row) (H := H) (j := 11) (g := gr) (k := 10) (d := D0) (o := none) h11 os
    | cons x R => exact y4o (α := Row) (H := H) (j := 11) (g := gr) (k := 10) (d := D0) (o := some (x :: R)) h11 os
  rw [yav]
  simp only [y3o, yez (y95 f.regs) H 10, yez (y95 f.params) H 10, yez (show pure1 (.int .i64 f.ret) = true from rfl) H 10, x1, x2, List.nil_append, List.append_nil, List.length_nil]
  have ap : y2r (ownI 8 (nz L) ++ ownI 11 (nz R)) [] = true := by
    cases L <;> cases R <;> rfl
  rw [if_pos ap]
  refine ⟨_, rfl, ?_⟩
  have h3 := yh1 (nz L) [] (exOs (nz R)) 9
  have h4 := yh1 (nz R) (exOs (nz L)) [] 9
  simp only [List.nil_append, List.append_nil, List.length_nil] at h3 h4
  refine ⟨_, (yak _ 11 _).trans (by
    simp only [yh, fz_p (y95 f.regs) _ 10, fz_p (y95 f.params) _ 10, fz_p (show pure1 (.int .i64 f.ret) = true from rfl) _ 10, h3, h4, yx]
    rfl), by rw [hg]; rfl⟩
structure FnRd (f : Fn) : Prop where
  fit : FnFit f
  sm : FnSm f
set_option maxHeartbeats 1000000 in
theorem y284 (f : Fn) (hf : FnRd f) (hr : (lst f.rows).length ≤ 1000000) : ∃ r, (y8 E).p 100 [.agg (enc f)] = some r ∧ ync r (.agg (enc (ybp f))) := by
  rw [y2d4]
  have hcp := y1v9 f hf.sm
  have hck := yod f hf.fit
  have ha : ∀ H : Heap, yn (fz H y18) [.agg (enc f)] = some ⟨[.agg (enc f)], scal f && true, []⟩ := fun H => by
    rw [yh, y8f, yx]; rfl
  have c1 : ∀ H, y6 E (y8 E) 0 none true 13 [.agg (enc f)] H = some (.agg (enc f), H) := fun H => y1p rfl (ha H) rfl hcp (yi9 f)
  have c2 : ∀ H, y6 E (y8 E) 0 none true 8 [.agg (enc f)] H = some (.int .i64 (if wf f then 0 else 80), H) := fun H => y1p rfl (ha H) rfl hck ⟨_, rfl, rfl⟩
  have l0 : ∀ t : Heap, evLd true 5 (.lp 0 1 0 0) (AB f :: t) = some (.agg (enc f)) := fun t => by simp
  have s0 : ∀ t : Heap, evSt 5 (.lp 0 1 0 0) (.agg (enc f)) (AB f :: t) = some (.tup [], AB f :: t) := fun t => by simp [y2o]
  have e46 : yrd (.agg (enc f)) [D0, D0, D0, D0, D0, D0, D0, D0, D0, D0, D0, D0] = yhc (.lp 0 1 0 0) (.lp 1 1 0 0) [AB f, ⟨1, .arr true false 5 [[.nils, .nils, .int .i64 0, .nils, .nils]]⟩, D0, D0, D0, D0, D0, D0, D0, D0, D0, D0] := by
    have n1 : newC 0 (some 0) (cellsOf (.agg (enc f))) [D0, D0, D0, D0, D0, D0, D0, D0, D0, D0, D0, D0] = some (.lp 0 1 0 0, [AB f, D0, D0, D0, D0, D0, D0, D0, D0, D0, D0, D0]) := by simp
    have n2 : newC 0 (some 1) [.nils, .nils, .int .i64 0, .nils, .nils] [AB f, D0, D0, D0, D0, D0, D0, D0, D0, D0, D0, D0] = some (.lp 1 1 0 0, [AB f, ⟨1, .arr true false 5 [[.nils, .nils, .int .i64 0, .nils, .nils]]⟩, D0, D0, D0, D0, D0, D0, D0, D0, D0, D0]) := by simp
    simp only [yrd, n1, yr, n2, y1i0, l0, y9, c1, s0]
  rw [e46]
  cases hw : wf f with
  | false =>
    rw [hw] at c2
    have s1 : ∀ (a : AO) (t : Heap), evSt 5 (.lp 1 1 0 0) (.agg (enc f)) (AB f :: ⟨1, .arr true false 5 [[.nils, .nils, .int .i64 0, .nils, .nils]]⟩ :: t) = some (.tup [], AB f :: AB f :: t) := fun a t => by simp [y2o]
    have l1 : ∀ t : Heap, evLd true 5 (.lp 1 1 0 0) (AB f :: AB f :: t) = some (.agg (enc f)) := fun t => by simp
    have hx : ybp f = f := by rw [ybp, hw]; rfl
    rw [hx]
    simp only [yhc, l0, y9, c2, yr, Bool.false_eq_true, if_false, y5q, show decide ((80 : Int) ≠ 0) = true from rfl, y23, s1 D0, l1, y19q]
    exact ⟨_, rfl, _, y8f f _, rfl⟩
  | true =>
    have w := yo0 hw
    rw [hw] at c2
    have hR := y1y7 f (by have := w.n2; omega) hr
    have hn := w.n2
    have cR := ybo (E := E) (C := y8 E) (fb := 0) (j := 2) (f := 101) (N := some (y9n f)) (H := [AB f, ⟨1, .arr true false 5 [[.nils, .nils, .int .i64 0, .nils, .nils]]⟩, D0, D0, D0, D0, D0, D0, D0, D0, D0, D0]) rfl (ha _) hR rfl rfl
    simp only [ownV, ownO, Nat.zero_add, List.set_cons_zero, List.set_cons_succ, y1fh, yca] at cR
    obtain ⟨o3, h35⟩ := y1bd f w ⟨1, .arr true false 5 [[.nils, .nils, .int .i64 0, .nils, .nils]]⟩ D0 D0 D0 D0 D0 D0 D0 D0 _ 0 D0 (Nat.zero_add _)
    have h25 := yzy f w ⟨1, .arr true false 5 [[.nils, .nils, .int .i64 0, .nils, .nils]]⟩ o3 D0 D0 D0 D0 D0 D0 D0 _ 0 (Nat.zero_add _)
    obtain ⟨gc, o6, o7, h10⟩ := y14q f w ⟨1, .arr true false 5 [[.nils, .nils, .int .i64 0, .nils, .nils]]⟩ o3 D0 D0 D0 _ 0 0 D0 D0 (Nat.zero_add _)
    have hr38 : (lst f.rows).length ≤ 2 ^ 38 := by
      have : (2:Nat)^38 = 274877906944 := by decide
      omega
    obtain ⟨gr, o9, o10, h2⟩ := y15c f w (y1a f (lst f.code).length) gc ⟨1, .arr true false 5 [[.nils, .nils, .int .i64 0, .nils, .nils]]⟩ o3 o6 o7 (yz gc D0 (y1a f (lst f.code).length)) hr38 _ 0 0 D0 D0 (Nat.zero_add _)
    have r0 : y29 f 0 = [] := rfl
    have g0 : y1a f 0 = [] := rfl
    have p0 : plc f 0 = 0 := rfl
    simp only [Int.ofNat_zero, r0, g0, p0, yar, ymi, y2bu] at h35 h25 h10 h2
    have lc : ∀ t : Heap, evLd false 1 (.lp 0 1 0 3) (AB f :: t) = some (slA f.code) := fun t => by simp
    have lr : ∀ t : Heap, evLd false 1 (.lp 0 1 0 4) (AB f :: t) = some (slA f.rows) := fun t => by simp
    have la : ∀ t : Heap, evLd false 1 (.lp 0 1 0 0) (AB f :: t) = some (slA f.regs) := fun t => by simp
    have lb : ∀ t : Heap, evLd false 1 (.lp 0 1 0 1) (AB f :: t) = some (slA f.params) := fun t => by simp
    have ld : ∀ t : Heap, evLd false 1 (.lp 0 1 0 2) (AB f :: t) = some (.int .i64 f.ret) := fun t => by simp
    have b1 : ((lst f.code).length : Int) + 1 ≤ 17592186044416 := by omega
    have b2 : ((lst f.code).length : Int) + 1 ≤ 4611686018427387904 := by omega
    have b3 : (0 : Int) ≤ ((lst f.code).length : Int) + 1 := by omega
    have b4 : (((lst f.code).length : Int) + 1).toNat = (lst f.code).length + 1 := by omega
    have b5 : (((lst f.code).length : Int) + 1) * 8 ≤ 140737488355328 := by omega
    have hwr : IntKind.wrap .i64 (((lst f.code).length : Int) + 1) = ((lst f.code).length : Int) + 1 := by rw [y1o] <;> omega
    have mk : mkSC 0 (some 4) 1 8 [.int .i64 0] (.int .i64 (((lst f.code).length : Int) + 1)) (.int .i64 (((lst f.code).length : Int) + 1)) [AB f, ⟨1, .arr true false 5 [[.nils, .nils, .int .i64 0, .nils, .nils]]⟩, AL 1 (kpL f (lst f.code).length), o3, D0, D0, D0, D0, D0, D0, D0, D0] =
        some (.ls 4 1 1 0 ((lst f.code).length + 1), [AB f, ⟨1, .arr true false 5 [[.nils, .nils, .int .i64 0, .nils, .nils]]⟩, AL 1 (kpL f (lst f.code).length), o3, AI 1 (plcL f 0), D0, D0, D0, D0, D0, D0, D0]) := by
      rw [y24n]
      simp [mkSC, b2, b3, b4, b5]
    have e34 : yha (.lp 0 1 0 0) (.lp 1 1 0 0) (.ls 2 1 1 0 (lst f.code).length) [AB f, ⟨1, .arr true false 5 [[.nils, .nils, .int .i64 0, .nils, .nils]]⟩, AL 1 (kpL f (lst f.code).length), o3, D0, D0, D0, D0, D0, D0, D0, D0] =
        yip (.lp 0 1 0 0) (.lp 1 1 0 0) (.ls 2 1 1 0 (lst f.code).length) (.ls 4 1 1 0 ((lst f.code).length + 1)) [AB f, ⟨1, .arr true false 5 [[.nils, .nils, .int .i64 0, .nils, .nils]]⟩, AL 1 (kpL f (lst f.code).length), o3, AI 1 (plcL f ((lst f.code).length + 1)), D0, D0, D0, D0, D0, D0, D0] := by
      rw [← h25]
      simp only [yha, y1c, Nat.zero_add, y9, lc, y3c, yy, hwr, mk, yr, y194, y15s]
    have bg : yu [.nils, .nils, .int .i64 0, .nils, .nils] [(0, 1, slA f.regs), (1, 1, slA f.params), (2, 1, .int .i64 f.ret)] = some (.agg [slA f.regs, slA f.params, .int .i64 f.ret, .nils, .nils]) := by
      have k1 : known (slA f.regs) = true := by cases f.regs <;> rfl
      have k2 : known (slA f.params) = true := by cases f.params <;> rfl
      have k3 : known (.int .i64 f.ret) = true := rfl
      simp [yu, y39, k1, k2, k3, yt]
    have e23 : yip (.lp 0 1 0 0) (.lp 1 1 0 0) (.ls 2 1 1 0 (lst f.code).length) (.ls 4 1 1 0 ((lst f.code).length + 1)) [AB f, ⟨1, .arr true false 5 [[.nils, .nils, .int .i64 0, .nils, .nils]]⟩, AL 1 (kpL f (lst f.code).length), o3, AI 1 (plcL f ((lst f.code).length + 1)), D0, D0, D0, D0, D0, D0, D0] =
        y11n (.lp 0 1 0 0) (.lp 1 1 0 0) (.ls 2 1 1 0 (lst f.code).length) (.ls 4 1 1 0 ((lst f.code).length + 1)) (.lp 5 1 0 0) [AB f, ⟨1, .arr true false 5 [[.nils, .nils, .int .i64 0, .nils, .nils]]⟩, AL 1 (kpL f (lst f.code).length), o3, AI 1 (plcL f ((lst f.code).length + 1)), AG f (y1a f (lst f.code).length) gc [] 0, o6, o7, yz gc D0 (y1a f (lst f.code).length), D0, D0, D0] := by
      rw [← h10]
      have n5 : newC 0 (some 5) [.nils, .nils, .int .i64 0, .nils, .nils] [AB f, ⟨1, .arr true false 5 [[.nils, .nils, .int .i64 0, .nils, .nils]]⟩, AL 1 (kpL f (lst f.code).length), o3, AI 1 (plcL f ((lst f.code).length + 1)), D0, D0, D0, D0, D0, D0, D0] =
          some (.lp 5 1 0 0, [AB f, ⟨1, .arr true false 5 [[.nils, .nils, .int .i64 0, .nils, .nils]]⟩, AL 1 (kpL f (lst f.code).length), o3, AI 1 (plcL f ((lst f.code).length + 1)), ⟨1, .arr true false 5 [[.nils, .nils, .int .i64 0, .nils, .nils]]⟩, D0, D0, D0, D0, D0, D0]) := by simp
      have s5 : evSt 5 (.lp 5 1 0 0) (.agg [slA f.regs, slA f.params, .int .i64 f.ret, .nils, .nils]) [AB f, ⟨1, .arr true false 5 [[.nils, .nils, .int .i64 0, .nils, .nils]]⟩, AL 1 (kpL f (lst f.code).length), o3, AI 1 (plcL f ((lst f.code).length + 1)), ⟨1, .arr true false 5 [[.nils, .nils, .int .i64 0, .nils, .nils]]⟩, D0, D0, D0, D0, D0, D0] =
          some (.tup [], [AB f, ⟨1, .arr true false 5 [[.nils, .nils, .int .i64 0, .nils, .nils]]⟩, AL 1 (kpL f (lst f.code).length), o3, AI 1 (plcL f ((lst f.code).length + 1)), AG f [] 0 [] 0, D0, D0, D0, D0, D0, D0]) := by simp [y2o, yt]
      simp only [yip, y1c, Nat.zero_add, y9, la, lb, ld, bg, n5, yr, s5, y148, lc, y3c, yar]
    have e8 : y11n (.lp 0 1 0 0) (.lp 1 1 0 0) (.ls 2 1 1 0 (lst f.code).length) (.ls 4 1 1 0 ((lst f.code).length + 1)) (.lp 5 1 0 0) [AB f, ⟨1, .arr true false 5 [[.nils, .nils, .int .i64 0, .nils, .nils]]⟩, AL 1 (kpL f (lst f.code).length), o3, AI 1 (plcL f ((lst f.code).length + 1)), AG f (y1a f (lst f.code).length) gc [] 0, o6, o7, yz gc D0 (y1a f (lst f.code).length), D0, D0, D0] =
        y1dv (.lp 1 1 0 0) (.lp 5 1 0 0) [AB f, ⟨1, .arr true false 5 [[.nils, .nils, .int .i64 0, .nils, .nils]]⟩, AL 1 (kpL f (lst f.code).length), o3, AI 1 (plcL f ((lst f.code).length + 1)), AG f (y1a f (lst f.code).length) gc (y29 f (lst f.rows).length) gr, o6, o7, yz gc D0 (y1a f (lst f.code).length), o9, o10, yz gr D0 (y29 f (lst f.rows).length)] := by
      rw [← h2]
      simp only [y11n, y1c, Nat.zero_add, y9, lr, y3c, yar]
    have e44 : yhc (.lp 0 1 0 0) (.lp 1 1 0 0) [AB f, ⟨1, .arr true false 5 [[.nils, .nils, .int .i64 0, .nils, .nils]]⟩, D0, D0, D0, D0, D0, D0, D0, D0, D0, D0] =
        yha (.lp 0 1 0 0) (.lp 1 1 0 0) (.ls 2 1 1 0 (lst f.code).length) [AB f, ⟨1, .arr true false 5 [[.nils, .nils, .int .i64 0, .nils, .nils]]⟩, AL 1 (kpL f (lst f.code).length), o3, D0, D0, D0, D0, D0, D0, D0, D0] := by
      rw [← h35]
      simp only [yhc, l0, y9, c2, yr, if_true, y5q, show decide ((0 : Int) ≠ 0) = false from rfl, y2u, y1lg, cR, y18z, y1c, Nat.zero_add, lc, y3c]
    rw [e44, e34, e23, e8]
    have l5 : ∀ (a b c d e g : AO) (L : List Ins) (R : List Row) (gc gr : Nat), evLd true 5 (.lp 5 1 0 0) [a, b, c, d, e, AG f L gc R gr, o6, o7, g, o9, o10, yz gr D0 R] = some (.agg [slA f.regs, slA f.params, .int .i64 f.ret, y1g Ins 8 gc L, y1g Row 11 gr R]) := fun a b c d e g L R gc gr => by simp [y41]
    have s1 : ∀ (a c d e g : AO) (t : Heap) (V W : AV) (hV : y11 V = true) (hW : y11 W = true), evSt 5 (.lp 1 1 0 0) (.agg [slA f.regs, slA f.params, .int .i64 f.ret, V, W]) (a :: ⟨1, .arr true false 5 [[.nils, .nils, .int .i64 0, .nils, .nils]]⟩ :: t) = some (.tup [], a :: ⟨1, .arr true false 5 [[slA f.regs, slA f.params, .int .i64 f.ret, V, W]]⟩ :: t) := fun a c d e g t V W hV hW => by simp [y2o, yt, hV, hW]
    have l1 : ∀ (a : AO) (t : Heap) (V W : AV), evLd true 5 (.lp 1 1 0 0) (a :: ⟨1, .arr true false 5 [[slA f.regs, slA f.params, .int .i64 f.ret, V, W]]⟩ :: t) = some (.agg [slA f.regs, slA f.params, .int .i64 f.ret, V, W]) := fun a t V W => by simp [y41]
    simp only [y1dv, l5, y9, s1 (AB f) D0 D0 D0 D0 _ _ _ (yi8 _ _ _) (yi8 _ _ _), yr, l1]
    exact y0l f (ybp f) rfl rfl (by rw [ybp, hw]; rfl)
end Go.Vm
namespace Go.Vm
open Cel
abbrev BC (g : Nat) (L : List Ins) : AO := ⟨1, .arr true false 5 [[.ls 0 1 1 0 2, .ls 1 1 1 0 1, .int .i64 1, y1g Ins 4 g L, .nils]]⟩
abbrev HCh (g : Nat) (L : List Ins) (o3 o5 o6 : AO) : Heap := [AI 1 [1, 1], AI 1 [0], BC g L, o3, yz g D0 L, o5, o6, D0]
theorem ynn {g : Nat} {L M : List Ins} {fb : Nat} {o3 o5 o6 : AO} {sl : Option Nat} {y : AV} (hsl : sl = some 4 ∨ L ≠ []) (hy : y1x (HCh g L o3 o5 o6) 9 y = some (M.map enc)) (hb : L.length + M.length ≤ 1000) :
    ∃ g', y1y 0 sl 9 96 (y1g Ins 4 g L) y (HCh g L o3 o5 o6) = some (y1g Ins 4 g' (L ++ M), [AI 1 [1, 1], AI 1 [0], BC g L, o3, yz g' D0 (L ++ M), o5, o6, D0]) := by
  have hbd : (2 * (L.length + M.length) + 512) * 96 ≤ 2 ^ 48 := by
    have : (2 * (L.length + M.length) + 512) * 96 ≤ (2 * 1000 + 512) * 96 := Nat.mul_le_mul_right 96 (by omega)
    exact Nat.le_trans this (by decide)
  by_cases hL : L = []
  · subst hL
    rcases hsl with rfl | h
    · obtain ⟨g', e⟩ := ydp (α := Ins) (H := HCh g [] o3 o5 o6) (fb := 0) (j := 4) (g := g) (b := 96) (o := D0) (L := []) (M := M) hy rfl hbd
      exact ⟨g', e⟩
    · exact (h rfl).elim
  · have e := ypc (α := Ins) (H := HCh g L o3 o5 o6) (fb := 0) (sl := sl) (id := 4) (g := g) (b := 96) (L := L) (M := M) (T := []) hy (by
      show some (yz g D0 L) = _
      rw [ykw hL, List.append_nil]) hbd
    refine ⟨g + 1, ?_⟩
    rw [yjy hL, yjy (show L ++ M ≠ [] by simp [hL]), ykw (show L ++ M ≠ [] by simp [hL])]
    exact e
theorem y11a (b : Bool) (n : Nat) (hn : n ≤ 60) : ∀ (d i g : Nat) (o3 o5 o6 : AO), i + d = n →
    ∃ g' o3', yhg (.bool b) (.lp 2 1 0 0) (.int .i64 n) (.int .i64 i) (HCh g (chP i) o3 o5 o6) = yzt (.bool b) (.lp 2 1 0 0) (HCh g' (chP n) o3' o5 o6) := by
  intro d
  induction d with
  | zero =>
    intro i g o3 o5 o6 hi
    have e : i = n := by omega
    subst e
    have hc : ¬ (i : Int) < (i : Int) := by omega
    refine ⟨g, o3, ?_⟩
    rw [ylt]
    simp only [yuc, yi, y9, hc, decide_false, yz7, y2u]
  | succ d ih =>
    intro i g o3 o5 o6 hi
    have hc : (i : Int) < (n : Int) := by omega
    have hw : IntKind.wrap .i64 ((i : Int) + 1) = ((i + 1 : Nat) : Int) := by rw [y1o] <;> omega
    have lc : evLd false 1 (.lp 2 1 0 3) (HCh g (chP i) o3 o5 o6) = some (y1g Ins 4 g (chP i)) := by simp
    have b1 : yu [.int .i64 0, .int .i64 0, .int .i64 0, .int .i64 0, .int .i64 0, .int .i64 0, .int .i64 0, .str [], .nils] [(0, 1, .int .i64 5), (5, 1, .int .i64 96), (1, 1, .int .i64 1), (2, 1, .int .i64 0), (3, 1, .int .i64 0)] = some (.agg (enc sumI)) := rfl
    have b2 : yu [.int .i64 0, .int .i64 0, .int .i64 0, .int .i64 0, .int .i64 0, .int .i64 0, .int .i64 0, .str [], .nils] [(0, 1, .int .i64 5), (5, 1, .int .i64 104), (1, 1, .int .i64 1), (2, 1, .int .i64 1), (3, 1, .int .i64 1)] = some (.agg (enc mulI)) := rfl
    have bs : yp 0 (some 3) 9 2 [.int .i64 0, .int .i64 0, .int .i64 0, .int .i64 0, .int .i64 0, .int .i64 0, .int .i64 0, .str [], .nils] [(0, .agg (enc sumI)), (1, .agg (enc mulI))] (HCh g (chP i) o3 o5 o6) = some (.ls 3 (o3.gen + 1) 9 0 2, HCh g (chP i) ⟨o3.gen + 1, .arr false false 9 [enc sumI, enc mulI]⟩ o5 o6) := by rfl
    have ry : y1x (HCh g (chP i) ⟨o3.gen + 1, .arr false false 9 [enc sumI, enc mulI]⟩ o5 o6) 9 (.ls 3 (o3.gen + 1) 9 0 2) = some ([sumI, mulI].map enc) := ypm (α := Ins) (L := [sumI, mulI]) rfl
    obtain ⟨g', ap⟩ := ynn (fb := 0) (sl := some 4) (.inl rfl) ry (by rw [y5o]; simp; omega)
    have st : evSt 1 (.lp 2 1 0 3) (y1g Ins 4 g' (chP i ++ [sumI, mulI])) [AI 1 [1, 1], AI 1 [0], BC g (chP i), ⟨o3.gen + 1, .arr false false 9 [enc sumI, enc mulI]⟩, yz g' D0 (chP i ++ [sumI, mulI]), o5, o6, D0] = some (.tup [], HCh g' (chP (i + 1)) ⟨o3.gen + 1, .arr false false 9 [enc sumI, enc mulI]⟩ o5 o6) := by
      simp [y2o, yt, chP]
    obtain ⟨g2, o32, h⟩ := ih (i + 1) g' ⟨o3.gen + 1, .arr false false 9 [enc sumI, enc mulI]⟩ o5 o6 (by omega)
    refine ⟨g2, o32, ?_⟩
    rw [ylt, ← h]
    simp only [yuc, yi, y9, hc, decide_true, yz7, y23, y1zs, y1c, Nat.zero_add, lc, b1, b2, bs, yr, ap, st, y1y8, yy, hw]
theorem y1hx (n : Nat) (a : Int) (hn : n ≤ 60) : FnFit (chF n a) ∧ FnSm (chF n a) := by
  have e38 : (2:Nat)^38 = 274877906944 := by decide
  have hl := ya0 n a
  have hx : ∀ x ∈ lst (chF n a).code, x.n = 96 ∨ x.n = 104 ∨ x.n = 0 := by
    intro x hx
    have hx' : x ∈ chP n ++ [retI a] := hx
    rcases List.mem_append.1 hx' with h | h
    · have : ∀ m, x ∈ chP m → x.n = 96 ∨ x.n = 104 ∨ x.n = 0 := by
        intro m
        induction m with
        | zero => intro h; cases h
        | succ m ih =>
          intro h
          rw [chP, List.mem_append] at h
          rcases h with h | h
          · exact ih h
          · simp only [List.mem_cons, List.not_mem_nil, or_false] at h
            rcases h with rfl | rfl
            · exact .inl rfl
            · exact .inr (.inl rfl)
      exact this n h
    · rw [List.mem_singleton] at h
      subst h
      exact .inr (.inr rfl)
  have hy : ∀ x ∈ lst (chF n a).code, x.s = [] ∧ x.args = none := by
    intro x hx
    have hx' : x ∈ chP n ++ [retI a] := hx
    rcases List.mem_append.1 hx' with h | h
    · have : ∀ m, x ∈ chP m → x.s = [] ∧ x.args = none := by
        intro m
        induction m with
        | zero => intro h; cases h
        | succ m ih =>
          intro h
          rw [chP, List.mem_append] at h
          rcases h with h | h
          · exact ih h
          · simp only [List.mem_cons, List.not_mem_nil, or_false] at h
            rcases h with rfl | rfl
            · exact ⟨rfl, rfl⟩
            · exact ⟨rfl, rfl⟩
      exact this n h
    · rw [List.mem_singleton] at h
      subst h
      exact ⟨rfl, rfl⟩
  have r1 : (lst (chF n a).regs).length = 2 := rfl
  have r2 : (lst (chF n a).params).length = 1 := rfl
  have r3 : (lst (chF n a).rows).length = 0 := rfl
  refine ⟨⟨fun x h => ⟨?_, ?_, ?_⟩, by omega, by omega, by omega, by omega⟩, ⟨by omega, by omega, by omega, by omega, fun x h => ?_⟩⟩
  · rcases hx x h with h | h | h <;> rw [h] <;> decide
  · rw [(hy x h).1]; decide
  · rw [(hy x h).2]; decide
  · rw [(hy x h).2]; decide
theorem y04 {n : Nat} {a : Int} {g : Fn} (k : DeadOk (chF n a) g) : (lst g.code).all scal = true := by
  rw [List.all_eq_true]
  refine Swap.args (P := fun x => scal x = true) (fun i hi => (k.at_ i hi).imp id And.left) k.swap (by decide) fun x hx => ?_
  have hx' : x ∈ chP n ++ [retI a] := hx
  rcases List.mem_append.1 hx' with h | h
  · have : ∀ m, x ∈ chP m → scal x = true := by
      intro m
      induction m with
      | zero => intro h; cases h
      | succ m ih =>
        intro h
        rw [chP, List.mem_append] at h
        rcases h with h | h
        · exact ih h
        · simp only [List.mem_cons, List.not_mem_nil, or_false] at h
          rcases h with rfl | rfl <;> decide
    exact this n h
  · rw [List.mem_singleton] at h
    subst h
    rfl
theorem yhr (b : Bool) (n : Nat) (a : Int) (hn : n + 1 ≤ 60) (ha : a = if b then 1 else 0) (g : Nat) (o3 o5 o6 : AO) :
    y11b (.bool b) (.lp 2 1 0 0) (.int .i64 a) (HCh g (chP (n + 1)) o3 o5 o6) = some ⟨.bool true, [], true, [], []⟩ := by
  have lc : evLd false 1 (.lp 2 1 0 3) (HCh g (chP (n + 1)) o3 o5 o6) = some (y1g Ins 4 g (chP (n + 1))) := by simp
  have b1 : yu [.int .i64 0, .int .i64 0, .int .i64 0, .int .i64 0, .int .i64 0, .int .i64 0, .int .i64 0, .str [], .nils] [(0, 1, .int .i64 30), (2, 1, .int .i64 a)] = some (.agg (enc (retI a))) := rfl
  have bs : yp 0 (some 5) 9 1 [.int .i64 0, .int .i64 0, .int .i64 0, .int .i64 0, .int .i64 0, .int .i64 0, .int .i64 0, .str [], .nils] [(0, .agg (enc (retI a)))] (HCh g (chP (n + 1)) o3 o5 o6) = some (.ls 5 (o5.gen + 1) 9 0 1, HCh g (chP (n + 1)) o3 ⟨o5.gen + 1, .arr false false 9 [enc (retI a)]⟩ o6) := by rfl
  have ry : y1x (HCh g (chP (n + 1)) o3 ⟨o5.gen + 1, .arr false false 9 [enc (retI a)]⟩ o6) 9 (.ls 5 (o5.gen + 1) 9 0 1) = some ([retI a].map enc) := ypm (α := Ins) (L := [retI a]) rfl
  have hne : chP (n + 1) ≠ [] := by simp [chP]
  obtain ⟨g', ap⟩ := ynn (fb := 0) (sl := some 6) (.inr hne) ry (by rw [y5o]; simp; omega)
  have st : evSt 1 (.lp 2 1 0 3) (y1g Ins 4 g' (chP (n + 1) ++ [retI a])) [AI 1 [1, 1], AI 1 [0], BC g (chP (n + 1)), o3, yz g' D0 (chP (n + 1) ++ [retI a]), ⟨o5.gen + 1, .arr false false 9 [enc (retI a)]⟩, o6, D0] = some (.tup [], HCh g' (chP (n + 1) ++ [retI a]) o3 ⟨o5.gen + 1, .arr false false 9 [enc (retI a)]⟩ o6) := by
    simp [y2o, yt]
  have hnr : chP (n + 1) ++ [retI a] ≠ [] := by simp
  have A : FnAt (HCh g' (chP (n + 1) ++ [retI a]) o3 ⟨o5.gen + 1, .arr false false 9 [enc (retI a)]⟩ o6) (chF (n + 1) a) (fun i => if i = 2 then 4 else i) (fun i => if i = 2 then g' else 1) := by
    refine ⟨fun L h => ?_, fun L h => ?_, fun L h => ?_, fun L h => ?_, fun i j h1 h2 h3 h4 h5 => ?_⟩
    · have : [1, 1] = L := Option.some.inj h
      subst this; rfl
    · have : [0] = L := Option.some.inj h
      subst this; rfl
    · have : chP (n + 1) ++ [retI a] = L := Option.some.inj h
      subst this
      show some (yz g' D0 (chP (n + 1) ++ [retI a])) = _
      rw [ykw hnr]; rfl
    · cases h
    · have k3 : hasL (chF (n + 1) a) 3 = false := rfl
      match i, j, h1, h2 with
      | 0, 0, _, _ => omega
      | 0, 1, _, _ => decide
      | 0, 2, _, _ => decide
      | 1, 0, _, _ => decide
      | 1, 1, _, _ => omega
      | 1, 2, _, _ => decide
      | 2, 0, _, _ => decide
      | 2, 1, _, _ => decide
      | 2, 2, _, _ => omega
      | 3, _, _, _ => rw [k3] at h4; cases h4
      | 0, 3, _, _ => rw [k3] at h5; cases h5
      | 1, 3, _, _ => rw [k3] at h5; cases h5
      | 2, 3, _, _ => rw [k3] at h5; cases h5
  have ld : evLd true 5 (.lp 2 1 0 0) (HCh g' (chP (n + 1) ++ [retI a]) o3 ⟨o5.gen + 1, .arr false false 9 [enc (retI a)]⟩ o6) = some (fnV (chF (n + 1) a) (fun i => if i = 2 then 4 else i) (fun i => if i = 2 then g' else 1)) := by
    have : y1g Ins 4 g' (chP (n + 1) ++ [retI a]) = .ls 4 g' 9 0 (chP (n + 1) ++ [retI a]).length := yjy hnr
    simp only [y2n, ym, y2z, HCh, List.getElem?_cons_succ, List.getElem?_cons_zero, if_true, List.drop_zero, y41, List.length_cons, List.length_nil, Nat.le_refl, List.take]
    rw [this]
    rfl
  obtain ⟨ff, fs⟩ := y1hx (n + 1) a (by omega)
  have hwf : wf (chF (n + 1) a) = true := y27c (by omega) (by cases b <;> simp_all)
  obtain ⟨_, d2⟩ := y1xd (chF (n + 1) a) ff fs (by show 0 ≤ _; omega)
  obtain ⟨q, hd, hq⟩ := d2 hwf
  have k := hd.ok hwf
  have hfr : (y1v q).fresh = true := by
    have hr : lst q.rows = [] := by rw [k.swap.rows]; rfl
    simp only [y1v, y04 k, hr, List.all_nil, Bool.and_self]
  obtain ⟨fr, ids, hz⟩ := A.fz
  have c1 : y6 E (y8 E) 0 none true 118 [fnV (chF (n + 1) a) (fun i => if i = 2 then 4 else i) (fun i => if i = 2 then g' else 1)] (HCh g' (chP (n + 1) ++ [retI a]) o3 ⟨o5.gen + 1, .arr false false 9 [enc (retI a)]⟩ o6) = some (.agg (enc q), HCh g' (chP (n + 1) ++ [retI a]) o3 ⟨o5.gen + 1, .arr false false 9 [enc (retI a)]⟩ o6) := by
    refine y1jp (fa := ⟨[.agg (enc (chF (n + 1) a))], fr && true, ids ++ []⟩) rfl ?_ hfr hq (yi9 q)
    rw [yh, hz, yx]
  have hql : (lst q.code).length = 2 * (n + 1) + 1 := y6o k
  have e38 : (2:Nat)^38 = 274877906944 := by decide
  have hqs : FnSm q := ⟨by rw [k.swap.regs]; exact fs.regs, by rw [k.swap.params]; exact fs.params, by omega, by rw [k.swap.rows]; exact fs.rows, k.args fs.args⟩
  obtain ⟨r, hT, hR⟩ := y284 q ⟨k.fit ff, hqs⟩ (by rw [k.swap.rows]; show 0 ≤ _; omega)
  have c2 : ∀ H, y6 E (y8 E) 0 none true 100 [.agg (enc q)] H = some (.agg (enc (ybp q)), H) := fun H => y1p rfl (fz_f q H) rfl hT hR
  have n7 : newC 0 (some 7) [.nils, .nils, .int .i64 0, .nils, .nils] (HCh g' (chP (n + 1) ++ [retI a]) o3 ⟨o5.gen + 1, .arr false false 9 [enc (retI a)]⟩ o6) = some (.lp 7 1 0 0, [AI 1 [1, 1], AI 1 [0], BC g' (chP (n + 1) ++ [retI a]), o3, yz g' D0 (chP (n + 1) ++ [retI a]), ⟨o5.gen + 1, .arr false false 9 [enc (retI a)]⟩, o6, ⟨1, .arr true false 5 [[.nils, .nils, .int .i64 0, .nils, .nils]]⟩]) := by rfl
  have s7 : evSt 5 (.lp 7 1 0 0) (.agg (enc (ybp q))) [AI 1 [1, 1], AI 1 [0], BC g' (chP (n + 1) ++ [retI a]), o3, yz g' D0 (chP (n + 1) ++ [retI a]), ⟨o5.gen + 1, .arr false false 9 [enc (retI a)]⟩, o6, ⟨1, .arr true false 5 [[.nils, .nils, .int .i64 0, .nils, .nils]]⟩] = some (.tup [], [AI 1 [1, 1], AI 1 [0], BC g' (chP (n + 1) ++ [retI a]), o3, yz g' D0 (chP (n + 1) ++ [retI a]), ⟨o5.gen + 1, .arr false false 9 [enc (retI a)]⟩, o6, AFn (ybp q)]) := by
    simp [y2o, yt]
  have l7 : evLd false 1 (.lp 7 1 0 3) [AI 1 [1, 1], AI 1 [0], BC g' (chP (n + 1) ++ [retI a]), o3, yz g' D0 (chP (n + 1) ++ [retI a]), ⟨o5.gen + 1, .arr false false 9 [enc (retI a)]⟩, o6, AFn (ybp q)] = some (slA (ybp q).code) := by simp
  cases b with
  | true =>
    simp only [if_true] at ha
    subst ha
    have hl := y21p k
    simp only [y11b, y1c, Nat.zero_add, y9, lc, b1, bs, yr, ap, st, y1no, ld, c1, c2, n7, s7, y1nj, y23, l7, y3c, hl, y3s, y1i]
    rfl
  | false =>
    simp only [Bool.false_eq_true, if_false] at ha
    subst ha
    have hl := y20k k
    simp only [y11b, y1c, Nat.zero_add, y9, lc, b1, bs, yr, ap, st, y1no, ld, c1, c2, n7, s7, y1nj, y2u, y1w7, l7, y3c, hl, y3s, y1i]
    rfl
theorem ygi (n : Int) (b : Bool) (hn : inI n) : (y8 E).p 114 [.int .i64 n, .bool b] = some ⟨.bool true, [], true, [], []⟩ := by
  rw [y2de]
  have ch : ∀ H : Heap, y6 E (y8 E) 0 none true 117 [] H = some (.bool true, H) := fun H => y1p (fa := ⟨[], true, []⟩) rfl rfl rfl y21i ⟨_, rfl, rfl⟩
  have rem : ∀ x : Int, y5 .rem (.int .i64 x) (.int .i64 60) = some (.int .i64 (x.tmod 60)) := fun x => by simp [y5, y4b, y6y]
  obtain ⟨m, hm, hm2⟩ : ∃ m : Nat, m + 1 ≤ 60 ∧ IntKind.wrap .i64 ((IntKind.wrap .i64 (n.tmod 60 + 60)).tmod 60 + 1) = ((m + 1 : Nat) : Int) := by
    have h1 := Int.tmod_lt_of_pos n (show (0 : Int) < 60 by omega)
    have h2 := Int.lt_tmod_of_pos n (show (0 : Int) < 60 by omega)
    have w1 : IntKind.wrap .i64 (n.tmod 60 + 60) = n.tmod 60 + 60 := y1o (by omega) (by omega)
    rw [w1]
    generalize n.tmod 60 = q at *
    have h3 : (q + 60).tmod 60 = (q + 60) % 60 := Int.tmod_eq_emod_of_nonneg (by omega)
    rw [h3]
    refine ⟨((q + 60) % 60).toNat, by omega, ?_⟩
    rw [y1o (by omega) (by omega)]
    omega
  have b15 : yp 0 (some 0) 1 2 [.int .i64 0] [(0, .int .i64 1), (1, .int .i64 1)] [D0, D0, D0, D0, D0, D0, D0, D0] = some (.ls 0 1 1 0 2, [AI 1 [1, 1], D0, D0, D0, D0, D0, D0, D0]) := by rfl
  have b16 : yp 0 (some 1) 1 1 [.int .i64 0] [(0, .int .i64 0)] [AI 1 [1, 1], D0, D0, D0, D0, D0, D0, D0] = some (.ls 1 1 1 0 1, [AI 1 [1, 1], AI 1 [0], D0, D0, D0, D0, D0, D0]) := by rfl
  have b17 : yu [.nils, .nils, .int .i64 0, .nils, .nils] [(0, 1, .ls 0 1 1 0 2), (1, 1, .ls 1 1 1 0 1), (2, 1, .int .i64 1)] = some (.agg [.ls 0 1 1 0 2, .ls 1 1 1 0 1, .int .i64 1, .nils, .nils]) := rfl
  have n2 : newC 0 (some 2) [.nils, .nils, .int .i64 0, .nils, .nils] [AI 1 [1, 1], AI 1 [0], D0, D0, D0, D0, D0, D0] = some (.lp 2 1 0 0, [AI 1 [1, 1], AI 1 [0], ⟨1, .arr true false 5 [[.nils, .nils, .int .i64 0, .nils, .nils]]⟩, D0, D0, D0, D0, D0]) := by rfl
  have s2 : evSt 5 (.lp 2 1 0 0) (.agg [.ls 0 1 1 0 2, .ls 1 1 1 0 1, .int .i64 1, .nils, .nils]) [AI 1 [1, 1], AI 1 [0], ⟨1, .arr true false 5 [[.nils, .nils, .int .i64 0, .nils, .nils]]⟩, D0, D0, D0, D0, D0] = some (.tup [], HCh 0 (chP 0) D0 D0 D0) := by rfl
  obtain ⟨g', o3', hl⟩ := y11a b (m + 1) (by omega) _ 0 0 D0 D0 D0 (Nat.zero_add _)
  have e13 : y1k8 (.int .i64 ((m + 1 : Nat) : Int)) (.bool b) (.lp 2 1 0 0) (HCh 0 (chP 0) D0 D0 D0) = yhg (.bool b) (.lp 2 1 0 0) (.int .i64 ((m + 1 : Nat) : Int)) (.int .i64 (0 : Nat)) (HCh 0 (chP 0) D0 D0 D0) := rfl
  have t : yzt (.bool b) (.lp 2 1 0 0) (HCh g' (chP (m + 1)) o3' D0 D0) = some ⟨.bool true, [], true, [], []⟩ := by
    cases b with
    | true =>
      have := yhr true m 1 hm rfl g' o3' D0 D0
      simp only [yzt, y1t6, y23, this]
    | false =>
      have := yhr false m 0 hm rfl g' o3' D0 D0
      simp only [yzt, y1t6, y2u, this]
  simp only [y1la, y16i, ch, yr, y2y, Bool.not_true, y9, y2u, y1ao, rem, yy, hm2, y1cn, b15, b16, b17, n2, s2, e13, hl, t]
end Go.Vm
