/- flow.Trim. Chapter 17's anchor. Cells of a function's box; numbers brought into a range. What a function that is handed in is fit for, for a check. A pass as laws see it. KnownOnce: of as many equal checks in a row one stays; behind a write of its register one more. KnownOnce: the law. -/
import Derived.KernelRfl
import Derived.Test.YtgbajicpokolcaaJTe
set_option linter.unusedSimpArgs false
set_option linter.unusedVariables false
set_option linter.unusedSectionVars false
namespace Go.Vm
open Cel
theorem y1ss {H : Heap} {fb j g : Nat} {o : AO} {y : AV} {L : List Ins} {x : Ins} (hy : y2m H 9 y = some [enc x]) (h : H[fb + j]? = some (y13 g o L)) (hs : L.length ≤ 2 ^ 38) :
    ∃ g', y26 fb (some j) 9 96 (y1b Ins (fb + j) g L) y H = some (y1b Ins (fb + j) g' (L ++ [x]), H.set (fb + j) (y13 g' o (L ++ [x]))) := by
  have e : (2:Nat)^38 = 274877906944 := by decide
  refine yde (α := Ins) (M := [x]) hy h ?_
  have : (2 * (L.length + [x].length) + 512) * 96 ≤ (2 * (274877906944 + 1) + 512) * 96 := Nat.mul_le_mul_right 96 (by simp only [List.length_singleton]; omega)
  exact Nat.le_trans this (by decide)
theorem y1u0 {H : Heap} {fb j g : Nat} {o : AO} {y : AV} {L : List Row} {x : Row} (hy : y2m H 4 y = some [enc x]) (h : H[fb + j]? = some (y13 g o L)) (hs : L.length ≤ 2 ^ 38) :
    ∃ g', y26 fb (some j) 4 40 (y1b Row (fb + j) g L) y H = some (y1b Row (fb + j) g' (L ++ [x]), H.set (fb + j) (y13 g' o (L ++ [x]))) := by
  have e : (2:Nat)^38 = 274877906944 := by decide
  refine yde (α := Row) (M := [x]) hy h ?_
  have : (2 * (L.length + [x].length) + 512) * 40 ≤ (2 * (274877906944 + 1) + 512) * 40 := Nat.mul_le_mul_right 40 (by simp only [List.length_singleton]; omega)
  exact Nat.le_trans this (by decide)
section
variable (f : Fn) (w : Wf f)
include w
theorem y15e (o1 o4 o5 o6 o7 o8 o9 o10 o11 : AO) : ∀ (d i : Nat) (o3 : AO), i + d = (lst f.code).length →
    ∃ o3', ydn (.lp 0 1 0 0) (.lp 1 1 0 0) (.ls 2 1 1 0 (lst f.code).length) (slA f.code) (.int .i64 (lst f.code).length) (.int .i64 i) [AB f, o1, AL 1 (kpL f i), o3, o4, o5, o6, o7, o8, o9, o10, o11] =
      yhc (.lp 0 1 0 0) (.lp 1 1 0 0) (.ls 2 1 1 0 (lst f.code).length) [AB f, o1, AL 1 (kpL f (lst f.code).length), o3', o4, o5, o6, o7, o8, o9, o10, o11] := by
  have hl := w.n2
  intro d
  induction d with
  | zero =>
    intro i o3 hi
    have hn : ¬ ((i : Int) < ((lst f.code).length : Int)) := by omega
    have hi' : i = (lst f.code).length := by omega
    rw [yiw]
    exact ⟨o3, by simp [yh3, yls, hi']⟩
  | succ d ih =>
    intro i o3 hi
    have hlt : i < (lst f.code).length := by omega
    have hc : ((i : Int) < ((lst f.code).length : Int)) := by omega
    have k1 := yf3 (o := f.code) (i := i) (y3e hlt) .i64
    have hw := y2j hlt (by omega)
    have ix := y9z (n := (lst f.code).length) (p := (i : Int)) (by omega) hc 2 1 .i64
    rw [show ((i : Int)).toNat = i by omega] at ix
    obtain ⟨o3', ih⟩ := ih (i + 1) ⟨o3.gen + 1, .arr true false 9 [enc (ye f i)]⟩ (by omega)
    push_cast at ih
    refine ⟨o3', ?_⟩
    rw [yiw, ← ih]
    by_cases hop : (ye f i).op = 33
    · have st := yeb (H := [AB f, o1, AL 1 (kpL f i), AX (o3.gen + 1) (ye f i), o4, o5, o6, o7, o8, o9, o10, o11]) (α := Bool) (id := 2) (g := 1) (i := i) (L := kpL f i) (v := .bool false) (y := false) rfl (by rw [y1x9]; exact hlt) rfl
      rw [y1uy hop] at st
      simp only [y174, List.set_cons_zero, List.set_cons_succ] at st
      have e : yh3 (.lp 0 1 0 0) (.lp 1 1 0 0) (.ls 2 1 1 0 (lst f.code).length) (slA f.code) (.int .i64 (lst f.code).length) (.int .i64 i) [AB f, o1, AL 1 (kpL f i), o3, o4, o5, o6, o7, o8, o9, o10, o11] =
          ob (yu 1 (.ls 2 1 1 0 (lst f.code).length) (.int .i64 i)) fun v35 => oh (evSt 1 v35 (.bool false) [AB f, o1, AL 1 (kpL f i), AX (o3.gen + 1) (ye f i), o4, o5, o6, o7, o8, o9, o10, o11]) fun _ h22 =>
            yhp (.lp 0 1 0 0) (.lp 1 1 0 0) (.ls 2 1 1 0 (lst f.code).length) (slA f.code) (.int .i64 (lst f.code).length) (.int .i64 i) h22 := by
        simp [yh3, yls, yqr, hc, k1, hop]
      rw [e, ix, y4, st, y8]
      simp only [yhp, y1f, y4, hw]
    · rw [y22f hop]
      simp [yh3, yls, yqr, yhp, hc, k1, hop, hw]
theorem yyt (o1 o3 o5 o6 o7 o8 o9 o10 o11 : AO) : ∀ (d i : Nat), i + d = (lst f.code).length →
    ydy (.lp 0 1 0 0) (.lp 1 1 0 0) (.ls 2 1 1 0 (lst f.code).length) (.ls 4 1 1 0 ((lst f.code).length + 1)) (.int .i64 (plc f i)) (.int .i64 (lst f.code).length) (.int .i64 i)
        [AB f, o1, AL 1 (kpL f (lst f.code).length), o3, AI 1 (plcL f i), o5, o6, o7, o8, o9, o10, o11] =
      ygy (.lp 0 1 0 0) (.lp 1 1 0 0) (.ls 2 1 1 0 (lst f.code).length) (.ls 4 1 1 0 ((lst f.code).length + 1)) [AB f, o1, AL 1 (kpL f (lst f.code).length), o3, AI 1 (plcL f ((lst f.code).length + 1)), o5, o6, o7, o8, o9, o10, o11] := by
  have hl := w.n2
  intro d
  induction d with
  | zero =>
    intro i hi
    have hn : ¬ ((i : Int) < ((lst f.code).length : Int)) := by omega
    have hi' : i = (lst f.code).length := by omega
    have st := yeb (H := [AB f, o1, AL 1 (kpL f (lst f.code).length), o3, AI 1 (plcL f i), o5, o6, o7, o8, o9, o10, o11]) (α := Int) (id := 4) (g := 1) (i := i) (L := plcL f i) (v := .int .i64 (plc f i)) (y := (plc f i : Int)) rfl (by rw [ysu]; omega) rfl
    rw [yxc] at st
    simp only [yuj, List.set_cons_zero, List.set_cons_succ] at st
    have ix := y9z (n := (lst f.code).length + 1) (p := ((lst f.code).length : Int)) (by omega) (by omega) 4 1 .i64
    rw [show (((lst f.code).length : Int)).toNat = i by omega] at ix
    have l0 : ∀ t : Heap, evLd false 1 (.lp 0 1 0 3) (AB f :: t) = some (slA f.code) := fun t => by simp
    rw [yhv]
    simp only [yl0, yq, hn, decide_false, y4, yrj, y1t, y16o, y3g, Nat.zero_add, l0, y6j, ix, st, y8]
    rw [hi']
  | succ d ih =>
    intro i hi
    have hlt : i < (lst f.code).length := by omega
    have hc : ((i : Int) < ((lst f.code).length : Int)) := by omega
    have hw := y2j hlt (by omega)
    have st := yeb (H := [AB f, o1, AL 1 (kpL f (lst f.code).length), o3, AI 1 (plcL f i), o5, o6, o7, o8, o9, o10, o11]) (α := Int) (id := 4) (g := 1) (i := i) (L := plcL f i) (v := .int .i64 (plc f i)) (y := (plc f i : Int)) rfl (by rw [ysu]; omega) rfl
    rw [yxc] at st
    simp only [yuj, List.set_cons_zero, List.set_cons_succ] at st
    have ix := y9z (n := (lst f.code).length + 1) (p := (i : Int)) (by omega) (by omega) 4 1 .i64
    have ix2 := y9z (n := (lst f.code).length) (p := (i : Int)) (by omega) hc 2 1 .i64
    rw [show ((i : Int)).toNat = i by omega] at ix ix2
    have l2 := yzk (α := Bool) (H := [AB f, o1, AL 1 (kpL f (lst f.code).length), o3, AI 1 (plcL f (i + 1)), o5, o6, o7, o8, o9, o10, o11]) (id := 2) (g := 1) (v := .bool (y5l f i)) rfl (ynb hlt) rfl
    have ih := ih (i + 1) (by omega)
    have hle := y12i f i
    push_cast at ih
    rw [yhv, ← ih]
    have e : yl0 (.lp 0 1 0 0) (.lp 1 1 0 0) (.ls 2 1 1 0 (lst f.code).length) (.ls 4 1 1 0 ((lst f.code).length + 1)) (.int .i64 (plc f i)) (.int .i64 (lst f.code).length) (.int .i64 i)
        [AB f, o1, AL 1 (kpL f (lst f.code).length), o3, AI 1 (plcL f i), o5, o6, o7, o8, o9, o10, o11] = cnd (.bool (y5l f i))
          (ob (y6 .add (.int .i64 (plc f i)) (.int .i64 1)) fun v57 => yef (.lp 0 1 0 0) (.lp 1 1 0 0) (.ls 2 1 1 0 (lst f.code).length) (.ls 4 1 1 0 ((lst f.code).length + 1)) v57 (.int .i64 (lst f.code).length) (.int .i64 i) [AB f, o1, AL 1 (kpL f (lst f.code).length), o3, AI 1 (plcL f (i + 1)), o5, o6, o7, o8, o9, o10, o11])
          (yef (.lp 0 1 0 0) (.lp 1 1 0 0) (.ls 2 1 1 0 (lst f.code).length) (.ls 4 1 1 0 ((lst f.code).length + 1)) (.int .i64 (plc f i)) (.int .i64 (lst f.code).length) (.int .i64 i) [AB f, o1, AL 1 (kpL f (lst f.code).length), o3, AI 1 (plcL f (i + 1)), o5, o6, o7, o8, o9, o10, o11]) := by
      simp only [yl0, yq, hc, decide_true, y4, yrj, y1h, y14b, ix, st, y8, ix2, l2]
    rw [e]
    have hw2 : IntKind.wrap .i64 ((plc f i : Int) + 1) = (plc f i : Int) + 1 := by rw [y22] <;> omega
    cases hk : y5l f i with
    | true =>
      have hp : plc f (i + 1) = plc f i + 1 := by rw [plc, hk]; rfl
      rw [hp]
      simp only [y1h, y1f, y4, yef, hw, hw2]
      push_cast
      rfl
    | false =>
      have hp : plc f (i + 1) = plc f i := by rw [plc, hk]; rfl
      rw [hp]
      simp only [y1t, y1f, y4, yef, hw]
abbrev AG (L : List Ins) (gc : Nat) (R : List Row) (gr : Nat) : AO := ⟨1, .arr true false 5 [[slA f.regs, slA f.params, .int .i64 f.ret, y1b Ins 8 gc L, y1b Row 11 gr R]]⟩
theorem y1dj (o1 o3 o9 o10 o11 : AO) : ∀ (d i gc : Nat) (o6 o7 : AO), i + d = (lst f.code).length →
    ∃ gc' o6' o7', yek (.lp 0 1 0 0) (.lp 1 1 0 0) (.ls 2 1 1 0 (lst f.code).length) (.ls 4 1 1 0 ((lst f.code).length + 1)) (.lp 5 1 0 0) (slA f.code) (.int .i64 (lst f.code).length) (.int .i64 i)
        [AB f, o1, AL 1 (kpL f (lst f.code).length), o3, AI 1 (plcL f ((lst f.code).length + 1)), AG f (y1a f i) gc [] 0, o6, o7, y13 gc D0 (y1a f i), o9, o10, o11] =
      yzg (.lp 0 1 0 0) (.lp 1 1 0 0) (.ls 2 1 1 0 (lst f.code).length) (.ls 4 1 1 0 ((lst f.code).length + 1)) (.lp 5 1 0 0)
        [AB f, o1, AL 1 (kpL f (lst f.code).length), o3, AI 1 (plcL f ((lst f.code).length + 1)), AG f (y1a f (lst f.code).length) gc' [] 0, o6', o7', y13 gc' D0 (y1a f (lst f.code).length), o9, o10, o11] := by
  have hl := w.n2
  intro d
  induction d with
  | zero =>
    intro i gc o6 o7 hi
    have hi' : i = (lst f.code).length := by omega
    have hn : ¬ ((i : Int) < ((lst f.code).length : Int)) := by omega
    refine ⟨gc, o6, o7, ?_⟩
    rw [yim]
    simp only [ykj, yq, hn, decide_false, y4, yvb, y1t]
    rw [hi']
  | succ d ih =>
    intro i gc o6 o7 hi
    have hlt : i < (lst f.code).length := by omega
    have hc : ((i : Int) < ((lst f.code).length : Int)) := by omega
    have k1 := yf3 (o := f.code) (i := i) (y3e hlt) .i64
    have hw := y2j hlt (by omega)
    have hle := y12i f i
    have hgl := yfo f i
    have hld := fun h => w.leads hlt h
    rw [yim]
    have ix2 := y9z (n := (lst f.code).length) (p := (i : Int)) (by omega) hc 2 1 .i64
    rw [show ((i : Int)).toNat = i by omega] at ix2
    have lK : ∀ (a b c d e g h k l : AO), evLd false 1 (.lp 2 1 i 0) [AB f, o1, AL 1 (kpL f (lst f.code).length), a, b, c, d, e, g, h, k, l] = some (.bool (y5l f i)) := fun a b c d e g h k l =>
      yzk (α := Bool) (id := 2) (g := 1) (v := .bool (y5l f i)) rfl (ynb hlt) rfl
    have e19 : ykj (.lp 0 1 0 0) (.lp 1 1 0 0) (.ls 2 1 1 0 (lst f.code).length) (.ls 4 1 1 0 ((lst f.code).length + 1)) (.lp 5 1 0 0) (slA f.code) (.int .i64 (lst f.code).length) (.int .i64 i)
        [AB f, o1, AL 1 (kpL f (lst f.code).length), o3, AI 1 (plcL f ((lst f.code).length + 1)), AG f (y1a f i) gc [] 0, o6, o7, y13 gc D0 (y1a f i), o9, o10, o11] =
        yia (.lp 0 1 0 0) (.lp 1 1 0 0) (.ls 2 1 1 0 (lst f.code).length) (.ls 4 1 1 0 ((lst f.code).length + 1)) (.lp 5 1 0 0) (.int .i64 i) (.lp 6 (o6.gen + 1) 0 0) (slA f.code) (.int .i64 (lst f.code).length) (.int .i64 i)
        [AB f, o1, AL 1 (kpL f (lst f.code).length), o3, AI 1 (plcL f ((lst f.code).length + 1)), AG f (y1a f i) gc [] 0, AX (o6.gen + 1) (ye f i), o7, y13 gc D0 (y1a f i), o9, o10, o11] := by
      simp [ykj, yvb, y19i, hc, k1]
    rw [e19]
    generalize hx : ye f i = x at *
    generalize o6.gen + 1 = g6 at *
    cases hk : y5l f i with
    | false =>
      rw [hk] at lK
      obtain ⟨gc', o6', o7', ih⟩ := ih (i + 1) gc (AX g6 x) o7 (by omega)
      refine ⟨gc', o6', o7', ?_⟩
      rw [← ih, y1a, hk]
      simp only [Bool.false_eq_true, if_false, List.append_nil, yia, ix2, y4, lK, y3f, Bool.not_false, y1h, ymj, y1f, hw]
      push_cast
      rfl
    | true =>
      rw [hk] at lK
      have e14 : yia (.lp 0 1 0 0) (.lp 1 1 0 0) (.ls 2 1 1 0 (lst f.code).length) (.ls 4 1 1 0 ((lst f.code).length + 1)) (.lp 5 1 0 0) (.int .i64 i) (.lp 6 g6 0 0) (slA f.code) (.int .i64 (lst f.code).length) (.int .i64 i)
          [AB f, o1, AL 1 (kpL f (lst f.code).length), o3, AI 1 (plcL f ((lst f.code).length + 1)), AG f (y1a f i) gc [] 0, AX g6 x, o7, y13 gc D0 (y1a f i), o9, o10, o11] =
          yi9 (.lp 0 1 0 0) (.lp 1 1 0 0) (.ls 2 1 1 0 (lst f.code).length) (.ls 4 1 1 0 ((lst f.code).length + 1)) (.lp 5 1 0 0) (.lp 6 g6 0 0) (slA f.code) (.int .i64 (lst f.code).length) (.int .i64 i)
          [AB f, o1, AL 1 (kpL f (lst f.code).length), o3, AI 1 (plcL f ((lst f.code).length + 1)), AG f (y1a f i) gc [] 0, AX g6 x, o7, y13 gc D0 (y1a f i), o9, o10, o11] := by
        simp only [yia, ix2, y4, lK, y3f, Bool.not_true, y1t]
      have cL : ∀ h : Heap, y9 E (yb E) 0 none true 22 [.agg (enc x)] h = some (.bool (leads x.op), h) := fun h => by simp [y9, y1x, yt]
      have e13 : yi9 (.lp 0 1 0 0) (.lp 1 1 0 0) (.ls 2 1 1 0 (lst f.code).length) (.ls 4 1 1 0 ((lst f.code).length + 1)) (.lp 5 1 0 0) (.lp 6 g6 0 0) (slA f.code) (.int .i64 (lst f.code).length) (.int .i64 i)
          [AB f, o1, AL 1 (kpL f (lst f.code).length), o3, AI 1 (plcL f ((lst f.code).length + 1)), AG f (y1a f i) gc [] 0, AX g6 x, o7, y13 gc D0 (y1a f i), o9, o10, o11] =
          ykk (.lp 0 1 0 0) (.lp 1 1 0 0) (.ls 2 1 1 0 (lst f.code).length) (.ls 4 1 1 0 ((lst f.code).length + 1)) (.lp 5 1 0 0) (.lp 6 g6 0 0) (slA f.code) (.int .i64 (lst f.code).length) (.int .i64 i)
          [AB f, o1, AL 1 (kpL f (lst f.code).length), o3, AI 1 (plcL f ((lst f.code).length + 1)), AG f (y1a f i) gc [] 0, AX g6 (y4c f x), o7, y13 gc D0 (y1a f i), o9, o10, o11] := by
        have l6 : evLd true 9 (.lp 6 g6 0 0) [AB f, o1, AL 1 (kpL f (lst f.code).length), o3, AI 1 (plcL f ((lst f.code).length + 1)), AG f (y1a f i) gc [] 0, AX g6 x, o7, y13 gc D0 (y1a f i), o9, o10, o11] = some (.agg (enc x)) := by simp
        have l66 : evLd false 1 (.lp 6 g6 0 6) [AB f, o1, AL 1 (kpL f (lst f.code).length), o3, AI 1 (plcL f ((lst f.code).length + 1)), AG f (y1a f i) gc [] 0, AX g6 x, o7, y13 gc D0 (y1a f i), o9, o10, o11] = some (.int .i64 x.t) := by simp
        have st6 : ∀ n : Int, evSt 1 (.lp 6 g6 0 6) (.int .i64 n) [AB f, o1, AL 1 (kpL f (lst f.code).length), o3, AI 1 (plcL f ((lst f.code).length + 1)), AG f (y1a f i) gc [] 0, AX g6 x, o7, y13 gc D0 (y1a f i), o9, o10, o11] =
            some (.tup [], [AB f, o1, AL 1 (kpL f (lst f.code).length), o3, AI 1 (plcL f ((lst f.code).length + 1)), AG f (y1a f i) gc [] 0, AX g6 { x with t := n }, o7, y13 gc D0 (y1a f i), o9, o10, o11]) := fun n => by simp [y2l]
        cases hd : leads x.op with
        | true =>
          obtain ⟨t0, t1⟩ := hld hd
          have ixt := y9z (n := (lst f.code).length + 1) t0 (by omega) 4 1 .i64
          have lp := yzk (α := Int) (H := [AB f, o1, AL 1 (kpL f (lst f.code).length), o3, AI 1 (plcL f ((lst f.code).length + 1)), AG f (y1a f i) gc [] 0, AX g6 x, o7, y13 gc D0 (y1a f i), o9, o10, o11]) (id := 4) (g := 1) (v := .int .i64 (plc f x.t.toNat)) rfl (yxj (f := f) (j := x.t.toNat) (by omega)) rfl
          simp only [yi9, l6, y4, cL, y8, hd, y1h, y3g, Nat.zero_add, l66, ixt, lp, st6, y4c, if_true]
        | false =>
          simp only [yi9, l6, y4, cL, y8, hd, y1t, y3g, Nat.zero_add, st6, y4c, Bool.false_eq_true, if_false]
      have hlen : (y1a f i).length ≤ 2 ^ 38 := by
        have e : (2:Nat)^38 = 274877906944 := by decide
        omega
      obtain ⟨gc2, ha⟩ := y1ss (H := [AB f, o1, AL 1 (kpL f (lst f.code).length), o3, AI 1 (plcL f ((lst f.code).length + 1)), AG f (y1a f i) gc [] 0, AX g6 (y4c f x), ⟨o7.gen + 1, .arr false false 9 [enc (y4c f x)]⟩, y13 gc D0 (y1a f i), o9, o10, o11]) (fb := 0) (j := 8) (g := gc) (o := D0) (y := .ls 7 (o7.gen + 1) 9 0 1) (L := y1a f i) (x := y4c f x) (by simp) rfl hlen
      have ha' : y26 0 (some 8) 9 96 (y1b Ins 8 gc (y1a f i)) (.ls 7 (o7.gen + 1) 9 0 1) [AB f, o1, AL 1 (kpL f (lst f.code).length), o3, AI 1 (plcL f ((lst f.code).length + 1)), AG f (y1a f i) gc [] 0, AX g6 (y4c f x), ⟨o7.gen + 1, .arr false false 9 [enc (y4c f x)]⟩, y13 gc D0 (y1a f i), o9, o10, o11] =
          some (y1b Ins 8 gc2 (y1a f i ++ [y4c f x]), [AB f, o1, AL 1 (kpL f (lst f.code).length), o3, AI 1 (plcL f ((lst f.code).length + 1)), AG f (y1a f i) gc [] 0, AX g6 (y4c f x), ⟨o7.gen + 1, .arr false false 9 [enc (y4c f x)]⟩, y13 gc2 D0 (y1a f i ++ [y4c f x]), o9, o10, o11]) := ha
      obtain ⟨gc', o6', o7', ih⟩ := ih (i + 1) gc2 (AX g6 (y4c f x)) ⟨o7.gen + 1, .arr false false 9 [enc (y4c f x)]⟩ (by omega)
      refine ⟨gc', o6', o7', ?_⟩
      have hG : y1a f (i + 1) = y1a f i ++ [y4c f x] := by rw [y1a, hk, hx]; rfl
      rw [hG] at ih
      rw [← ih, e14, e13]
      have l53 : ∀ (a b c : AO), evLd false 1 (.lp 5 1 0 3) [AB f, o1, AL 1 (kpL f (lst f.code).length), o3, AI 1 (plcL f ((lst f.code).length + 1)), AG f (y1a f i) gc [] 0, a, b, c, o9, o10, o11] = some (y1b Ins 8 gc (y1a f i)) := fun a b c => by simp
      have l6 : ∀ (b c : AO), evLd true 9 (.lp 6 g6 0 0) [AB f, o1, AL 1 (kpL f (lst f.code).length), o3, AI 1 (plcL f ((lst f.code).length + 1)), AG f (y1a f i) gc [] 0, AX g6 (y4c f x), b, c, o9, o10, o11] = some (.agg (enc (y4c f x))) := fun b c => by simp
      have bs : ym 0 (some 7) 9 1 [.int .i64 0, .int .i64 0, .int .i64 0, .int .i64 0, .int .i64 0, .int .i64 0, .int .i64 0, .str [], .nils] [(0, .agg (enc (y4c f x)))] [AB f, o1, AL 1 (kpL f (lst f.code).length), o3, AI 1 (plcL f ((lst f.code).length + 1)), AG f (y1a f i) gc [] 0, AX g6 (y4c f x), o7, y13 gc D0 (y1a f i), o9, o10, o11] =
          some (.ls 7 (o7.gen + 1) 9 0 1, [AB f, o1, AL 1 (kpL f (lst f.code).length), o3, AI 1 (plcL f ((lst f.code).length + 1)), AG f (y1a f i) gc [] 0, AX g6 (y4c f x), ⟨o7.gen + 1, .arr false false 9 [enc (y4c f x)]⟩, y13 gc D0 (y1a f i), o9, o10, o11]) := by
        simp [ym, y1d]
      have st5 : ∀ (a b c : AO), evSt 1 (.lp 5 1 0 3) (y1b Ins 8 gc2 (y1a f i ++ [y4c f x])) [AB f, o1, AL 1 (kpL f (lst f.code).length), o3, AI 1 (plcL f ((lst f.code).length + 1)), AG f (y1a f i) gc [] 0, a, b, c, o9, o10, o11] =
          some (.tup [], [AB f, o1, AL 1 (kpL f (lst f.code).length), o3, AI 1 (plcL f ((lst f.code).length + 1)), AG f (y1a f i ++ [y4c f x]) gc2 [] 0, a, b, c, o9, o10, o11]) := fun a b c => by simp [y2l, yr]
      simp only [ykk, y3g, Nat.zero_add, y4, l53, l6, bs, y8, ha', st5, ymj, y1f, hw]
      push_cast
      rfl
theorem y11q (L : List Ins) (gc : Nat) (o1 o3 o6 o7 o8 : AO) (hrl : (lst f.rows).length ≤ 2 ^ 38) : ∀ (d k gr : Nat) (o9 o10 : AO), k + d = (lst f.rows).length →
    ∃ gr' o9' o10', yl9 (.lp 1 1 0 0) (.ls 2 1 1 0 (lst f.code).length) (.ls 4 1 1 0 ((lst f.code).length + 1)) (.lp 5 1 0 0) (slA f.rows) (.int .i64 (lst f.rows).length) (.int .i64 k)
        [AB f, o1, AL 1 (kpL f (lst f.code).length), o3, AI 1 (plcL f ((lst f.code).length + 1)), AG f L gc (y1y f k) gr, o6, o7, o8, o9, o10, y13 gr D0 (y1y f k)] =
      y18v (.lp 1 1 0 0) (.lp 5 1 0 0)
        [AB f, o1, AL 1 (kpL f (lst f.code).length), o3, AI 1 (plcL f ((lst f.code).length + 1)), AG f L gc (y1y f (lst f.rows).length) gr', o6, o7, o8, o9', o10', y13 gr' D0 (y1y f (lst f.rows).length)] := by
  have e38 : (2:Nat)^38 = 274877906944 := by decide
  have hl := w.n2
  intro d
  induction d with
  | zero =>
    intro k gr o9 o10 hk
    have hk' : k = (lst f.rows).length := by omega
    have hn : ¬ ((k : Int) < ((lst f.rows).length : Int)) := by omega
    refine ⟨gr, o9, o10, ?_⟩
    rw [yks]
    simp only [y1gg, yq, hn, decide_false, y4, y1k3, y1t]
    rw [hk']
  | succ d ih =>
    intro k gr o9 o10 hk
    have hlt : k < (lst f.rows).length := by omega
    have hc : ((k : Int) < ((lst f.rows).length : Int)) := by omega
    have hw := y2j hlt (by omega)
    have hgr := y09 f k
    obtain ⟨r, hr⟩ : ∃ r, (lst f.rows)[k]? = some r := ⟨_, List.getElem?_eq_getElem hlt⟩
    have hin := w.row (List.mem_of_getElem? hr)
    have k1 := yng (o := f.rows) hr .i64
    have hsucc := yy6 hr
    rw [yks]
    have ixA := y9z (n := (lst f.code).length) hin.a0 hin.an 2 1 .i64
    have ixF := y9z (n := (lst f.code).length + 1) hin.f0 (by have := hin.ft; have := hin.tn; omega) 4 1 .i64
    have ixT := y9z (n := (lst f.code).length + 1) (p := r.t) (by have := hin.ft; have := hin.f0; omega) (by have := hin.tn; omega) 4 1 .i64
    have ixQ := y9z (n := (lst f.code).length + 1) hin.a0 (by have := hin.an; omega) 4 1 .i64
    generalize hg9 : o9.gen + 1 = g9 at *
    have AR : ∀ (g : Nat) (L' : List Row) (b c : AO), evLd false 1 (.lp 2 1 r.at_.toNat 0) [AB f, o1, AL 1 (kpL f (lst f.code).length), o3, AI 1 (plcL f ((lst f.code).length + 1)), AG f L gc L' g, o6, o7, o8, ⟨g9, .arr true false 4 [enc r]⟩, b, c] = some (.bool (y5l f r.at_.toNat)) := fun g L' b c =>
      yzk (α := Bool) (id := 2) (g := 1) (v := .bool (y5l f r.at_.toNat)) rfl (ynb (by have := hin.an; have := hin.a0; omega)) rfl
    have PL : ∀ (p : Nat) (g : Nat) (L' : List Row) (b c : AO), p ≤ (lst f.code).length → evLd false 1 (.lp 4 1 p 0) [AB f, o1, AL 1 (kpL f (lst f.code).length), o3, AI 1 (plcL f ((lst f.code).length + 1)), AG f L gc L' g, o6, o7, o8, ⟨g9, .arr true false 4 [enc r]⟩, b, c] = some (.int .i64 (plc f p)) := fun p g L' b c hp =>
      yzk (α := Int) (id := 4) (g := 1) (v := .int .i64 (plc f p)) rfl (yxj hp) rfl
    have pF := fun g L' b c => PL r.f.toNat g L' b c (by have := hin.ft; have := hin.tn; omega)
    have pT := fun g L' b c => PL r.t.toNat g L' b c (by have := hin.tn; omega)
    have pA := fun g L' b c => PL r.at_.toNat g L' b c (by have := hin.an; omega)
    have lb : ∀ (j : Nat) (g : Nat) (L' : List Row) (b c : AO), evLd false 1 (.lp 9 g9 0 j) [AB f, o1, AL 1 (kpL f (lst f.code).length), o3, AI 1 (plcL f ((lst f.code).length + 1)), AG f L gc L' g, o6, o7, o8, ⟨g9, .arr true false 4 [enc r]⟩, b, c] = ((enc r).drop j).head? := fun j g L' b c => by simp
    have d0 : ((enc r).drop 0).head? = some (.int .i64 r.f) := rfl
    have d1 : ((enc r).drop 1).head? = some (.int .i64 r.t) := rfl
    have d2 : ((enc r).drop 2).head? = some (.int .i64 r.at_) := rfl
    have d3 : ((enc r).drop 3).head? = some (.str r.c) := rfl
    have e6 : y1gg (.lp 1 1 0 0) (.ls 2 1 1 0 (lst f.code).length) (.ls 4 1 1 0 ((lst f.code).length + 1)) (.lp 5 1 0 0) (slA f.rows) (.int .i64 (lst f.rows).length) (.int .i64 k)
        [AB f, o1, AL 1 (kpL f (lst f.code).length), o3, AI 1 (plcL f ((lst f.code).length + 1)), AG f L gc (y1y f k) gr, o6, o7, o8, o9, o10, y13 gr D0 (y1y f k)] =
      yyb (.lp 1 1 0 0) (.ls 2 1 1 0 (lst f.code).length) (.ls 4 1 1 0 ((lst f.code).length + 1)) (.lp 5 1 0 0) (slA f.rows) (.int .i64 (lst f.rows).length) (.int .i64 k)
        [AB f, o1, AL 1 (kpL f (lst f.code).length), o3, AI 1 (plcL f ((lst f.code).length + 1)), AG f L gc (y1y f k) gr, o6, o7, o8, o9, o10, y13 gr D0 (y1y f k)] := by
      simp only [y1gg, yq, hc, decide_true, y4, y1k3, y1h]
    have lr : ∀ t : Heap, evLd true 4 (.rp (enc r)) t = some (.agg (enc r)) := fun t => by simp
    have nc : newC 0 (some 9) [.int .i64 0, .int .i64 0, .int .i64 0, .str []] [AB f, o1, AL 1 (kpL f (lst f.code).length), o3, AI 1 (plcL f ((lst f.code).length + 1)), AG f L gc (y1y f k) gr, o6, o7, o8, o9, o10, y13 gr D0 (y1y f k)] =
        some (.lp 9 g9 0 0, [AB f, o1, AL 1 (kpL f (lst f.code).length), o3, AI 1 (plcL f ((lst f.code).length + 1)), AG f L gc (y1y f k) gr, o6, o7, o8, ⟨g9, .arr true false 4 [[.int .i64 0, .int .i64 0, .int .i64 0, .str []]]⟩, o10, y13 gr D0 (y1y f k)]) := by
      simp [newC, y6z, place, hg9]
    have s9 : evSt 4 (.lp 9 g9 0 0) (.agg (enc r)) [AB f, o1, AL 1 (kpL f (lst f.code).length), o3, AI 1 (plcL f ((lst f.code).length + 1)), AG f L gc (y1y f k) gr, o6, o7, o8, ⟨g9, .arr true false 4 [[.int .i64 0, .int .i64 0, .int .i64 0, .str []]]⟩, o10, y13 gr D0 (y1y f k)] =
        some (.tup [], [AB f, o1, AL 1 (kpL f (lst f.code).length), o3, AI 1 (plcL f ((lst f.code).length + 1)), AG f L gc (y1y f k) gr, o6, o7, o8, ⟨g9, .arr true false 4 [enc r]⟩, o10, y13 gr D0 (y1y f k)]) := by
      simp [y2l]
    rw [e6]
    by_cases hb : y5l f r.at_.toNat = true ∧ plc f r.f.toNat < plc f r.t.toNat
    · have hT : yj6 f r = [⟨plc f r.f.toNat, plc f r.t.toNat, plc f r.at_.toNat, r.c⟩] := by rw [yj6, hb.1]; simp [hb.2]
      rw [hT] at hsucc
      generalize hnr : (⟨plc f r.f.toNat, plc f r.t.toNat, plc f r.at_.toNat, r.c⟩ : Row) = nr at *
      have hlt2 : ((plc f r.f.toNat : Nat) : Int) < ((plc f r.t.toNat : Nat) : Int) := by have := hb.2; omega
      obtain ⟨gr2, ha⟩ := y1u0 (H := [AB f, o1, AL 1 (kpL f (lst f.code).length), o3, AI 1 (plcL f ((lst f.code).length + 1)), AG f L gc (y1y f k) gr, o6, o7, o8, ⟨g9, .arr true false 4 [enc r]⟩, ⟨o10.gen + 1, .arr false false 4 [enc nr]⟩, y13 gr D0 (y1y f k)]) (fb := 0) (j := 11) (g := gr) (o := D0) (y := .ls 10 (o10.gen + 1) 4 0 1) (L := y1y f k) (x := nr) (by simp) rfl (by omega)
      have ha' : y26 0 (some 11) 4 40 (y1b Row 11 gr (y1y f k)) (.ls 10 (o10.gen + 1) 4 0 1) [AB f, o1, AL 1 (kpL f (lst f.code).length), o3, AI 1 (plcL f ((lst f.code).length + 1)), AG f L gc (y1y f k) gr, o6, o7, o8, ⟨g9, .arr true false 4 [enc r]⟩, ⟨o10.gen + 1, .arr false false 4 [enc nr]⟩, y13 gr D0 (y1y f k)] =
          some (y1b Row 11 gr2 (y1y f k ++ [nr]), [AB f, o1, AL 1 (kpL f (lst f.code).length), o3, AI 1 (plcL f ((lst f.code).length + 1)), AG f L gc (y1y f k) gr, o6, o7, o8, ⟨g9, .arr true false 4 [enc r]⟩, ⟨o10.gen + 1, .arr false false 4 [enc nr]⟩, y13 gr2 D0 (y1y f k ++ [nr])]) := ha
      obtain ⟨gr', o9', o10', ih⟩ := ih (k + 1) gr2 ⟨g9, .arr true false 4 [enc r]⟩ ⟨o10.gen + 1, .arr false false 4 [enc nr]⟩ (by omega)
      refine ⟨gr', o9', o10', ?_⟩
      rw [← ih, hsucc]
      have l54 : ∀ (b c : AO), evLd false 1 (.lp 5 1 0 4) [AB f, o1, AL 1 (kpL f (lst f.code).length), o3, AI 1 (plcL f ((lst f.code).length + 1)), AG f L gc (y1y f k) gr, o6, o7, o8, ⟨g9, .arr true false 4 [enc r]⟩, b, c] = some (y1b Row 11 gr (y1y f k)) := fun b c => by simp
      have bd : yd [.int .i64 0, .int .i64 0, .int .i64 0, .str []] [(0, 1, .int .i64 (plc f r.f.toNat)), (1, 1, .int .i64 (plc f r.t.toNat)), (2, 1, .int .i64 (plc f r.at_.toNat)), (3, 1, .str r.c)] = some (.agg (enc nr)) := by
        rw [← hnr]; simp [yd, y2x, known, yr, y1w9]
      have bs : ym 0 (some 10) 4 1 [.int .i64 0, .int .i64 0, .int .i64 0, .str []] [(0, .agg (enc nr))] [AB f, o1, AL 1 (kpL f (lst f.code).length), o3, AI 1 (plcL f ((lst f.code).length + 1)), AG f L gc (y1y f k) gr, o6, o7, o8, ⟨g9, .arr true false 4 [enc r]⟩, o10, y13 gr D0 (y1y f k)] =
          some (.ls 10 (o10.gen + 1) 4 0 1, [AB f, o1, AL 1 (kpL f (lst f.code).length), o3, AI 1 (plcL f ((lst f.code).length + 1)), AG f L gc (y1y f k) gr, o6, o7, o8, ⟨g9, .arr true false 4 [enc r]⟩, ⟨o10.gen + 1, .arr false false 4 [enc nr]⟩, y13 gr D0 (y1y f k)]) := by
        simp [ym, y1d]
      have s5 : ∀ (b c : AO), evSt 1 (.lp 5 1 0 4) (y1b Row 11 gr2 (y1y f k ++ [nr])) [AB f, o1, AL 1 (kpL f (lst f.code).length), o3, AI 1 (plcL f ((lst f.code).length + 1)), AG f L gc (y1y f k) gr, o6, o7, o8, ⟨g9, .arr true false 4 [enc r]⟩, b, c] =
          some (.tup [], [AB f, o1, AL 1 (kpL f (lst f.code).length), o3, AI 1 (plcL f ((lst f.code).length + 1)), AG f L gc (y1y f k ++ [nr]) gr2, o6, o7, o8, ⟨g9, .arr true false 4 [enc r]⟩, b, c]) := fun b c => by simp [y2l, yr]
      have hp : yz [([], []), (ids1 (.lp 5 1 0 4), []), ([], []), ([], []), (ids1 (.lp 9 g9 0 0), []), ([], []), (ids1 (.lp 4 1 r.f.toNat 0), []), ([], []), ([], []), (ids1 (.lp 9 g9 0 1), []), ([], []), (ids1 (.lp 4 1 r.t.toNat 0), []), ([], []), ([], []), (ids1 (.lp 9 g9 0 2), []), ([], []), (ids1 (.lp 4 1 r.at_.toNat 0), []), ([], []), (ids1 (.lp 9 g9 0 3), []), ([], []), ([], [10]),
          (ids1 (.ls 10 (o10.gen + 1) 4 0 1), ids1 (y1b Row 11 gr (y1y f k)) ++ [11]), ([], []), ([], ids1 (.lp 5 1 0 4))] [(1, 20)] = true := by simp [yz, y27, meets]
      simp only [yyb, k1, y4, lr, nc, y8, s9, y3g, Nat.zero_add, lb, d0, d1, d2, d3, ixA, AR, hb.1, ybg, ixF, pF, ixT, pT, yq, hlt2, decide_true, y2o, y1h, l54, ixQ, pA, bd, bs, ha', s5, hp, y1vh, yz8, y1f, hw]
      push_cast
      rfl
    · have hT : yj6 f r = [] := by
        rw [yj6]
        cases hk2 : y5l f r.at_.toNat with
        | false => rfl
        | true =>
          have : ¬ plc f r.f.toNat < plc f r.t.toNat := fun h => hb ⟨hk2, h⟩
          simp [this]
      rw [hT, List.append_nil] at hsucc
      obtain ⟨gr', o9', o10', ih⟩ := ih (k + 1) gr ⟨g9, .arr true false 4 [enc r]⟩ o10 (by omega)
      refine ⟨gr', o9', o10', ?_⟩
      rw [← ih, hsucc]
      cases hk2 : y5l f r.at_.toNat with
      | false =>
        simp only [yyb, k1, y4, lr, nc, y8, s9, y3g, Nat.zero_add, lb, d0, d1, d2, d3, ixA, AR, hk2, ygc, ygp, y33, y1t, yz8, y1f, hw]
        push_cast
        rfl
      | true =>
        have hlt2 : ¬ ((plc f r.f.toNat : Nat) : Int) < ((plc f r.t.toNat : Nat) : Int) := by
          have : ¬ plc f r.f.toNat < plc f r.t.toNat := fun h => hb ⟨hk2, h⟩
          omega
        simp only [yyb, k1, y4, lr, nc, y8, s9, y3g, Nat.zero_add, lb, d0, d1, d2, d3, ixA, AR, hk2, ybg, ixF, pF, ixT, pT, yq, hlt2, decide_false, y2o, y1t, yz8, y1f, hw]
        push_cast
        rfl
end
theorem yz2 (f g : Fn) {H : Heap} {gc gr : Nat} {L : List Ins} {R : List Row} (h8 : H[8]? = some (y13 gc D0 L)) (h11 : H[11]? = some (y13 gr D0 R)) (hg : g = { regs := f.regs, params := f.params, ret := f.ret, code := nz L, rows := nz R }) :
    ∃ r, yi H (.agg [slA f.regs, slA f.params, .int .i64 f.ret, y1b Ins 8 gc L, y1b Row 11 gr R]) = some r ∧ ynl r (.agg (enc g)) := by
  have x1 : ∀ os, expo H 11 (y1b Ins 8 gc L) os = some ⟨exV os.length (nz L), os ++ exOs (nz L), L.all scal, ownI 8 (nz L), []⟩ := by
    intro os
    cases L with
    | nil => exact y4f (α := Ins) (H := H) (j := 8) (g := gc) (k := 10) (d := D0) (o := none) h8 os
    | cons x L => exact y4f (α := Ins) (H := H) (j := 8) (g := gc) (k := 10) (d := D0) (o := some (x :: L)) h8 os
  have x2 : ∀ os, expo H 11 (y1b Row 11 gr R) os = some ⟨exV os.length (nz R), os ++ exOs (nz R), R.all scal, ownI 11 (nz R), []⟩ := by
    intro os
    cases R with
    | nil => exact y4f (α := Row) (H := H) (j := 11) (g := gr) (k := 10) (d := D0) (o := none) h11 os
    | cons x R => exact y4f (α := Row) (H := H) (j := 11) (g := gr) (k := 10) (d := D0) (o := some (x :: R)) h11 os
  rw [yaa]
  simp only [y3m, yhy (yan f.regs) H 10, yhy (yan f.params) H 10, yhy (show pure1 (.int .i64 f.ret) = true from rfl) H 10, x1, x2, List.nil_append, List.append_nil, List.length_nil]
  have ap : y32 (ownI 8 (nz L) ++ ownI 11 (nz R)) [] = true := by
    cases L <;> cases R <;> rfl
  rw [if_pos ap]
  refine ⟨_, rfl, ?_⟩
  have h3 := yh1 (nz L) [] (exOs (nz R)) 9
  have h4 := yh1 (nz R) (exOs (nz L)) [] 9
  simp only [List.nil_append, List.append_nil, List.length_nil] at h3 h4
  refine ⟨_, (yap _ 11 _).trans (by
    simp only [yo, fz_p (yan f.regs) _ 10, fz_p (yan f.params) _ 10, fz_p (show pure1 (.int .i64 f.ret) = true from rfl) _ 10, h3, h4, y14]
    rfl), by rw [hg]; rfl⟩
structure FnRd (f : Fn) : Prop where
  fit : FnFit f
  sm : FnSm f
set_option maxHeartbeats 1000000 in
theorem y20d (f : Fn) (hf : FnRd f) (hr : (lst f.rows).length ≤ 1000000) : ∃ r, (yb E).p 100 [.agg (enc f)] = some r ∧ ynl r (.agg (enc (ydo f))) := by
  rw [y26p]
  have hcp := y1qh f hf.sm
  have hck := y1ez f hf.fit
  have ha : ∀ H : Heap, yj (fz H y19) [.agg (enc f)] = some ⟨[.agg (enc f)], scal f && true, []⟩ := fun H => by
    rw [yo, yak, y14]; rfl
  have c1 : ∀ H, y9 E (yb E) 0 none true 13 [.agg (enc f)] H = some (.agg (enc f), H) := fun H => y39 rfl (ha H) rfl hcp (ybe f)
  have c2 : ∀ H, y9 E (yb E) 0 none true 8 [.agg (enc f)] H = some (.int .i64 (if wf f then 0 else 80), H) := fun H => y39 rfl (ha H) rfl hck ⟨_, rfl, rfl⟩
  have l0 : ∀ t : Heap, evLd true 5 (.lp 0 1 0 0) (AB f :: t) = some (.agg (enc f)) := fun t => by simp
  have s0 : ∀ t : Heap, evSt 5 (.lp 0 1 0 0) (.agg (enc f)) (AB f :: t) = some (.tup [], AB f :: t) := fun t => by simp [y2l]
  have e46 : ytf (.agg (enc f)) [D0, D0, D0, D0, D0, D0, D0, D0, D0, D0, D0, D0] = yin (.lp 0 1 0 0) (.lp 1 1 0 0) [AB f, ⟨1, .arr true false 5 [[.nils, .nils, .int .i64 0, .nils, .nils]]⟩, D0, D0, D0, D0, D0, D0, D0, D0, D0, D0] := by
    have n1 : newC 0 (some 0) (cellsOf (.agg (enc f))) [D0, D0, D0, D0, D0, D0, D0, D0, D0, D0, D0, D0] = some (.lp 0 1 0 0, [AB f, D0, D0, D0, D0, D0, D0, D0, D0, D0, D0, D0]) := by simp
    have n2 : newC 0 (some 1) [.nils, .nils, .int .i64 0, .nils, .nils] [AB f, D0, D0, D0, D0, D0, D0, D0, D0, D0, D0, D0] = some (.lp 1 1 0 0, [AB f, ⟨1, .arr true false 5 [[.nils, .nils, .int .i64 0, .nils, .nils]]⟩, D0, D0, D0, D0, D0, D0, D0, D0, D0, D0]) := by simp
    simp only [ytf, n1, y8, n2, y0t, l0, y4, c1, s0]
  rw [e46]
  cases hw : wf f with
  | false =>
    rw [hw] at c2
    have s1 : ∀ (a : AO) (t : Heap), evSt 5 (.lp 1 1 0 0) (.agg (enc f)) (AB f :: ⟨1, .arr true false 5 [[.nils, .nils, .int .i64 0, .nils, .nils]]⟩ :: t) = some (.tup [], AB f :: AB f :: t) := fun a t => by simp [y2l]
    have l1 : ∀ t : Heap, evLd true 5 (.lp 1 1 0 0) (AB f :: AB f :: t) = some (.agg (enc f)) := fun t => by simp
    have hx : ydo f = f := by rw [ydo, hw]; rfl
    rw [hx]
    simp only [yin, l0, y4, c2, y8, Bool.false_eq_true, if_false, yl7, show decide ((80 : Int) ≠ 0) = true from rfl, y1h, s1 D0, l1, y1fy]
    exact ⟨_, rfl, _, yak f _, rfl⟩
  | true =>
    have w := y1hv hw
    rw [hw] at c2
    have hR := y1wd f (by have := w.n2; omega) hr
    have hn := w.n2
    have cR := yae (E := E) (C := yb E) (fb := 0) (j := 2) (f := 101) (N := some (y88 f)) (H := [AB f, ⟨1, .arr true false 5 [[.nils, .nils, .int .i64 0, .nils, .nils]]⟩, D0, D0, D0, D0, D0, D0, D0, D0, D0, D0]) rfl (ha _) hR rfl rfl
    simp only [ownV, ownO, Nat.zero_add, List.set_cons_zero, List.set_cons_succ, y174, ybt] at cR
    obtain ⟨o3, h35⟩ := y15e f w ⟨1, .arr true false 5 [[.nils, .nils, .int .i64 0, .nils, .nils]]⟩ D0 D0 D0 D0 D0 D0 D0 D0 _ 0 D0 (Nat.zero_add _)
    have h25 := yyt f w ⟨1, .arr true false 5 [[.nils, .nils, .int .i64 0, .nils, .nils]]⟩ o3 D0 D0 D0 D0 D0 D0 D0 _ 0 (Nat.zero_add _)
    obtain ⟨gc, o6, o7, h10⟩ := y1dj f w ⟨1, .arr true false 5 [[.nils, .nils, .int .i64 0, .nils, .nils]]⟩ o3 D0 D0 D0 _ 0 0 D0 D0 (Nat.zero_add _)
    have hr38 : (lst f.rows).length ≤ 2 ^ 38 := by
      have : (2:Nat)^38 = 274877906944 := by decide
      omega
    obtain ⟨gr, o9, o10, h2⟩ := y11q f w (y1a f (lst f.code).length) gc ⟨1, .arr true false 5 [[.nils, .nils, .int .i64 0, .nils, .nils]]⟩ o3 o6 o7 (y13 gc D0 (y1a f (lst f.code).length)) hr38 _ 0 0 D0 D0 (Nat.zero_add _)
    have r0 : y1y f 0 = [] := rfl
    have g0 : y1a f 0 = [] := rfl
    have p0 : plc f 0 = 0 := rfl
    simp only [Int.ofNat_zero, r0, g0, p0, yaz, ykr, y27v] at h35 h25 h10 h2
    have lc : ∀ t : Heap, evLd false 1 (.lp 0 1 0 3) (AB f :: t) = some (slA f.code) := fun t => by simp
    have lr : ∀ t : Heap, evLd false 1 (.lp 0 1 0 4) (AB f :: t) = some (slA f.rows) := fun t => by simp
    have la : ∀ t : Heap, evLd false 1 (.lp 0 1 0 0) (AB f :: t) = some (slA f.regs) := fun t => by simp
    have lb : ∀ t : Heap, evLd false 1 (.lp 0 1 0 1) (AB f :: t) = some (slA f.params) := fun t => by simp
    have ld : ∀ t : Heap, evLd false 1 (.lp 0 1 0 2) (AB f :: t) = some (.int .i64 f.ret) := fun t => by simp
    have b1 : ((lst f.code).length : Int) + 1 ≤ 17592186044416 := by omega
    have b2 : ((lst f.code).length : Int) + 1 ≤ 4611686018427387904 := by omega
    have b3 : (0 : Int) ≤ ((lst f.code).length : Int) + 1 := by omega
    have b4 : (((lst f.code).length : Int) + 1).toNat = (lst f.code).length + 1 := by omega
    have b5 : (((lst f.code).length : Int) + 1) * 8 ≤ 140737488355328 := by omega
    have hwr : IntKind.wrap .i64 (((lst f.code).length : Int) + 1) = ((lst f.code).length : Int) + 1 := by rw [y22] <;> omega
    have mk : mkSC 0 (some 4) 1 8 [.int .i64 0] (.int .i64 (((lst f.code).length : Int) + 1)) (.int .i64 (((lst f.code).length : Int) + 1)) [AB f, ⟨1, .arr true false 5 [[.nils, .nils, .int .i64 0, .nils, .nils]]⟩, AL 1 (kpL f (lst f.code).length), o3, D0, D0, D0, D0, D0, D0, D0, D0] =
        some (.ls 4 1 1 0 ((lst f.code).length + 1), [AB f, ⟨1, .arr true false 5 [[.nils, .nils, .int .i64 0, .nils, .nils]]⟩, AL 1 (kpL f (lst f.code).length), o3, AI 1 (plcL f 0), D0, D0, D0, D0, D0, D0, D0]) := by
      rw [y21x]
      simp [mkSC, b2, b3, b4, b5]
    have e34 : yhc (.lp 0 1 0 0) (.lp 1 1 0 0) (.ls 2 1 1 0 (lst f.code).length) [AB f, ⟨1, .arr true false 5 [[.nils, .nils, .int .i64 0, .nils, .nils]]⟩, AL 1 (kpL f (lst f.code).length), o3, D0, D0, D0, D0, D0, D0, D0, D0] =
        ygy (.lp 0 1 0 0) (.lp 1 1 0 0) (.ls 2 1 1 0 (lst f.code).length) (.ls 4 1 1 0 ((lst f.code).length + 1)) [AB f, ⟨1, .arr true false 5 [[.nils, .nils, .int .i64 0, .nils, .nils]]⟩, AL 1 (kpL f (lst f.code).length), o3, AI 1 (plcL f ((lst f.code).length + 1)), D0, D0, D0, D0, D0, D0, D0] := by
      rw [← h25]
      simp only [yhc, y3g, Nat.zero_add, y4, lc, y6j, y1f, hwr, mk, y8, y1dy, y15p]
    have bg : yd [.nils, .nils, .int .i64 0, .nils, .nils] [(0, 1, slA f.regs), (1, 1, slA f.params), (2, 1, .int .i64 f.ret)] = some (.agg [slA f.regs, slA f.params, .int .i64 f.ret, .nils, .nils]) := by
      have k1 : known (slA f.regs) = true := by cases f.regs <;> rfl
      have k2 : known (slA f.params) = true := by cases f.params <;> rfl
      have k3 : known (.int .i64 f.ret) = true := rfl
      simp [yd, y2x, k1, k2, k3, yr]
    have e23 : ygy (.lp 0 1 0 0) (.lp 1 1 0 0) (.ls 2 1 1 0 (lst f.code).length) (.ls 4 1 1 0 ((lst f.code).length + 1)) [AB f, ⟨1, .arr true false 5 [[.nils, .nils, .int .i64 0, .nils, .nils]]⟩, AL 1 (kpL f (lst f.code).length), o3, AI 1 (plcL f ((lst f.code).length + 1)), D0, D0, D0, D0, D0, D0, D0] =
        yzg (.lp 0 1 0 0) (.lp 1 1 0 0) (.ls 2 1 1 0 (lst f.code).length) (.ls 4 1 1 0 ((lst f.code).length + 1)) (.lp 5 1 0 0) [AB f, ⟨1, .arr true false 5 [[.nils, .nils, .int .i64 0, .nils, .nils]]⟩, AL 1 (kpL f (lst f.code).length), o3, AI 1 (plcL f ((lst f.code).length + 1)), AG f (y1a f (lst f.code).length) gc [] 0, o6, o7, y13 gc D0 (y1a f (lst f.code).length), D0, D0, D0] := by
      rw [← h10]
      have n5 : newC 0 (some 5) [.nils, .nils, .int .i64 0, .nils, .nils] [AB f, ⟨1, .arr true false 5 [[.nils, .nils, .int .i64 0, .nils, .nils]]⟩, AL 1 (kpL f (lst f.code).length), o3, AI 1 (plcL f ((lst f.code).length + 1)), D0, D0, D0, D0, D0, D0, D0] =
          some (.lp 5 1 0 0, [AB f, ⟨1, .arr true false 5 [[.nils, .nils, .int .i64 0, .nils, .nils]]⟩, AL 1 (kpL f (lst f.code).length), o3, AI 1 (plcL f ((lst f.code).length + 1)), ⟨1, .arr true false 5 [[.nils, .nils, .int .i64 0, .nils, .nils]]⟩, D0, D0, D0, D0, D0, D0]) := by simp
      have s5 : evSt 5 (.lp 5 1 0 0) (.agg [slA f.regs, slA f.params, .int .i64 f.ret, .nils, .nils]) [AB f, ⟨1, .arr true false 5 [[.nils, .nils, .int .i64 0, .nils, .nils]]⟩, AL 1 (kpL f (lst f.code).length), o3, AI 1 (plcL f ((lst f.code).length + 1)), ⟨1, .arr true false 5 [[.nils, .nils, .int .i64 0, .nils, .nils]]⟩, D0, D0, D0, D0, D0, D0] =
          some (.tup [], [AB f, ⟨1, .arr true false 5 [[.nils, .nils, .int .i64 0, .nils, .nils]]⟩, AL 1 (kpL f (lst f.code).length), o3, AI 1 (plcL f ((lst f.code).length + 1)), AG f [] 0 [] 0, D0, D0, D0, D0, D0, D0]) := by simp [y2l, yr]
      simp only [ygy, y3g, Nat.zero_add, y4, la, lb, ld, bg, n5, y8, s5, y1b6, lc, y6j, yaz]
    have e8 : yzg (.lp 0 1 0 0) (.lp 1 1 0 0) (.ls 2 1 1 0 (lst f.code).length) (.ls 4 1 1 0 ((lst f.code).length + 1)) (.lp 5 1 0 0) [AB f, ⟨1, .arr true false 5 [[.nils, .nils, .int .i64 0, .nils, .nils]]⟩, AL 1 (kpL f (lst f.code).length), o3, AI 1 (plcL f ((lst f.code).length + 1)), AG f (y1a f (lst f.code).length) gc [] 0, o6, o7, y13 gc D0 (y1a f (lst f.code).length), D0, D0, D0] =
        y18v (.lp 1 1 0 0) (.lp 5 1 0 0) [AB f, ⟨1, .arr true false 5 [[.nils, .nils, .int .i64 0, .nils, .nils]]⟩, AL 1 (kpL f (lst f.code).length), o3, AI 1 (plcL f ((lst f.code).length + 1)), AG f (y1a f (lst f.code).length) gc (y1y f (lst f.rows).length) gr, o6, o7, y13 gc D0 (y1a f (lst f.code).length), o9, o10, y13 gr D0 (y1y f (lst f.rows).length)] := by
      rw [← h2]
      simp only [yzg, y3g, Nat.zero_add, y4, lr, y6j, yaz]
    have e44 : yin (.lp 0 1 0 0) (.lp 1 1 0 0) [AB f, ⟨1, .arr true false 5 [[.nils, .nils, .int .i64 0, .nils, .nils]]⟩, D0, D0, D0, D0, D0, D0, D0, D0, D0, D0] =
        yhc (.lp 0 1 0 0) (.lp 1 1 0 0) (.ls 2 1 1 0 (lst f.code).length) [AB f, ⟨1, .arr true false 5 [[.nils, .nils, .int .i64 0, .nils, .nils]]⟩, AL 1 (kpL f (lst f.code).length), o3, D0, D0, D0, D0, D0, D0, D0, D0] := by
      rw [← h35]
      simp only [yin, l0, y4, c2, y8, if_true, yl7, show decide ((0 : Int) ≠ 0) = false from rfl, y1t, y1cl, cR, y163, y3g, Nat.zero_add, lc, y6j]
    rw [e44, e34, e23, e8]
    have l5 : ∀ (a b c d e g : AO) (L : List Ins) (R : List Row) (gc gr : Nat), evLd true 5 (.lp 5 1 0 0) [a, b, c, d, e, AG f L gc R gr, o6, o7, g, o9, o10, y13 gr D0 R] = some (.agg [slA f.regs, slA f.params, .int .i64 f.ret, y1b Ins 8 gc L, y1b Row 11 gr R]) := fun a b c d e g L R gc gr => by simp [y43]
    have s1 : ∀ (a c d e g : AO) (t : Heap) (V W : AV) (hV : yx V = true) (hW : yx W = true), evSt 5 (.lp 1 1 0 0) (.agg [slA f.regs, slA f.params, .int .i64 f.ret, V, W]) (a :: ⟨1, .arr true false 5 [[.nils, .nils, .int .i64 0, .nils, .nils]]⟩ :: t) = some (.tup [], a :: ⟨1, .arr true false 5 [[slA f.regs, slA f.params, .int .i64 f.ret, V, W]]⟩ :: t) := fun a c d e g t V W hV hW => by simp [y2l, yr, hV, hW]
    have l1 : ∀ (a : AO) (t : Heap) (V W : AV), evLd true 5 (.lp 1 1 0 0) (a :: ⟨1, .arr true false 5 [[slA f.regs, slA f.params, .int .i64 f.ret, V, W]]⟩ :: t) = some (.agg [slA f.regs, slA f.params, .int .i64 f.ret, V, W]) := fun a t V W => by simp [y43]
    simp only [y18v, l5, y4, s1 (AB f) D0 D0 D0 D0 _ _ _ (ybn _ _ _) (ybn _ _ _), y8, l1]
    exact yz2 f (ydo f) rfl rfl (by rw [ydo, hw]; rfl)
end Go.Vm
namespace Go.Vm
open Cel
def hI0 : Ins := ⟨8, 0, 1, 0, 0, 0, 0, [], none⟩
def hI1 : Ins := ⟨15, 0, 1, 0, 0, 0, 0, [], none⟩
def hI3 : Ins := ⟨30, 0, -1, 0, 0, 0, 0, [], none⟩
def hF0 : Fn := ⟨some [1, 3], some [1], 0, some [hI0, hI1, hI0, hI3], none⟩
def hF1 : Fn := ⟨some [1, 3], some [1], 0, some [hI0, hI1, nopI, hI3], none⟩
theorem y222 : wf hF0 = true := by kernel_rfl
theorem y1u1 {T : KTab} (v : InvK hF0 (T, [])) : knoF hF0 T = hF1 := by
  have hz := v.ok.zero
  simp only at hz
  have g0 : y3l hF0 T 0 = false := by
    unfold y3l
    rw [hz]
    rfl
  have g1 : y3l hF0 T 1 = false := rfl
  have g3 : y3l hF0 T 3 = false := rfl
  have n0 : y1v hF0 (0 : Nat) = [1] := by decide
  have n1 : y1v hF0 (1 : Nat) = [2] := by decide
  have r0 : Rch (lst hF0.code).length (fun i => yv hF0 i ++ y1v hF0 i) [0] 0 := .base (j := 0) (by simp) (by decide) (by decide)
  have r1 : Rch (lst hF0.code).length (fun i => yv hF0 i ++ y1v hF0 i) [0] 1 := .step (j := 1) r0 (by rw [List.mem_append, n0]; right; simp) (by decide) (by decide)
  have r2 : Rch (lst hF0.code).length (fun i => yv hF0 i ++ y1v hF0 i) [0] 2 := .step (j := 2) r1 (by rw [List.mem_append, n1]; right; simp) (by decide) (by decide)
  have g2 : y3l hF0 T 2 = true := yiy v (yme v r2) (c := (8, 1, -1)) rfl ⟨by decide, .inr ⟨⟨by decide, .inl rfl⟩, .inr ⟨by decide, by decide⟩⟩⟩
  have e : knoL hF0 T = [knoI hF0 T 0, knoI hF0 T 1, knoI hF0 T 2, knoI hF0 T 3] := rfl
  have i0 : knoI hF0 T 0 = hI0 := by rw [knoI, g0]; rfl
  have i1 : knoI hF0 T 1 = hI1 := by rw [knoI, g1]; rfl
  have i2 : knoI hF0 T 2 = nopI := by rw [knoI, g2]; rfl
  have i3 : knoI hF0 T 3 = hI3 := by rw [knoI, g3]; rfl
  rw [knoF, e, i0, i1, i2, i3]
  rfl
theorem y0z : FnFit hF0 ∧ FnSm hF0 := by
  refine ⟨⟨fun x hx => ?_, by decide, by decide, by decide, by decide⟩, ⟨by decide, by decide, by decide, by decide, fun x hx => ?_⟩⟩
  · have hx' : x ∈ [hI0, hI1, hI0, hI3] := hx
    simp only [List.mem_cons, List.not_mem_nil, or_false] at hx'
    rcases hx' with rfl | rfl | rfl | rfl <;> exact ⟨by decide, by decide, by decide⟩
  · have hx' : x ∈ [hI0, hI1, hI0, hI3] := hx
    simp only [List.mem_cons, List.not_mem_nil, or_false] at hx'
    rcases hx' with rfl | rfl | rfl | rfl <;> decide
@[simp] theorem y1ym : (yb E).p 165 [] = some ⟨.bool true, [], true, [], []⟩ := by
  have e2 : ym 0 (some 0) 1 2 [.int .i64 0] [(0, .int .i64 1), (1, .int .i64 3)] [D0, D0, D0, D0] = some (.ls 0 1 1 0 2, [AI 1 [1, 3], D0, D0, D0]) := rfl
  have e3 : ym 0 (some 1) 1 1 [.int .i64 0] [(0, .int .i64 1)] [AI 1 [1, 3], D0, D0, D0] = some (.ls 1 1 1 0 1, [AI 1 [1, 3], AI 1 [1], D0, D0]) := rfl
  have b4 : yd y50 [(0, 1, .int .i64 8), (2, 1, .int .i64 1)] = some (.agg (enc hI0)) := rfl
  have b5 : yd y50 [(0, 1, .int .i64 15), (1, 1, .int .i64 0), (2, 1, .int .i64 1)] = some (.agg (enc hI1)) := rfl
  have b7 : yd y50 [(0, 1, .int .i64 30), (2, 1, .int .i64 (-1))] = some (.agg (enc hI3)) := rfl
  have e8 : ym 0 (some 2) 9 4 y50 [(0, .agg (enc hI0)), (1, .agg (enc hI1)), (2, .agg (enc hI0)), (3, .agg (enc hI3))] [AI 1 [1, 3], AI 1 [1], D0, D0] = some (.ls 2 1 9 0 4, [AI 1 [1, 3], AI 1 [1], ⟨1, .arr false false 9 ([hI0, hI1, hI0, hI3].map enc)⟩, D0]) := rfl
  have b9 : yd [.nils, .nils, .int .i64 0, .nils, .nils] [(0, 1, .ls 0 1 1 0 2), (1, 1, .ls 1 1 1 0 1), (3, 1, .ls 2 1 9 0 4)] = some (.agg [.ls 0 1 1 0 2, .ls 1 1 1 0 1, .int .i64 0, .ls 2 1 9 0 4, .nils]) := rfl
  obtain ⟨_, d2⟩ := y189 hF0 y0z.1 y0z.2 (by decide) (by decide) (by decide)
  obtain ⟨T, v, hP⟩ := d2 y222
  rw [y1u1 v] at hP
  have hz : yj (fz [AI 1 [1, 3], AI 1 [1], ⟨1, .arr false false 9 ([hI0, hI1, hI0, hI3].map enc)⟩, D0] y19) [.agg [.ls 0 1 1 0 2, .ls 1 1 1 0 1, .int .i64 0, .ls 2 1 9 0 4, .nils]] = some ⟨[.agg (enc hF0)], true, [0, 1, 2]⟩ := rfl
  have c := yf8 (E := E) (C := yb E) (fb := 0) (f := 166) rfl hz (by rfl) hP (ybe hF1)
  rw [y266, show ([⟨0, .dead⟩, ⟨0, .dead⟩, ⟨0, .dead⟩, ⟨0, .dead⟩] : Heap) = [D0, D0, D0, D0] from rfl, y1yi, e2, y8, e3, y8, b4, y4, b5, y4, y4, b7, y4, e8, y8, b9, y4, c, y8]
  rfl
end Go.Vm
namespace Go.Vm
open Cel
theorem y1o0 {H : Heap} {a k : Nat} {c : List AV} {v : AV} (h : H[a]? = some ⟨1, .arr true false 5 [c]⟩) (hl : c.length = 5) (hk : k < 5) (hv : cellsOf v = [v]) (hf : yx v = true) :
    evSt 1 (.lp a 1 0 k) v H = some (.tup [], H.set a ⟨1, .arr true false 5 [yr k [v] c]⟩) := by
  have hr : yk H a 1 = some (false, 5, [c]) := by simp [yk, y2w, h]
  rw [y2l, hr]
  simp only [List.getElem?_cons_zero, hv]
  rw [if_pos ⟨rfl, by rw [hl]; omega, by simp [hf]⟩, y1e, h]
  rfl
theorem y22m (a m : Int) (h0 : 0 < m) (h1 : m ≤ 100) : ∃ q : Int, y6 .rem (.int .i64 a) (.int .i64 m) = some (.int .i64 (a.tmod m)) ∧ y6 .add (.int .i64 (a.tmod m)) (.int .i64 m) = some (.int .i64 (a.tmod m + m)) ∧
    y6 .rem (.int .i64 (a.tmod m + m)) (.int .i64 m) = some (.int .i64 q) ∧ y6 .add (.int .i64 q) (.int .i64 1) = some (.int .i64 (q + 1)) ∧ 0 ≤ q ∧ q < m := by
  have g1 := Int.tmod_lt_of_pos a h0
  have g2 := Int.lt_tmod_of_pos a h0
  have hm : ¬ m = 0 := by omega
  have r : ∀ b : Int, y6 .rem (.int .i64 b) (.int .i64 m) = some (.int .i64 (b.tmod m)) := fun b => by
    show (if m = 0 then none else some (AV.int .i64 (Int.tmod b m))) = _
    rw [if_neg hm]
  generalize hz : a.tmod m = z at *
  have g3 : (z + m).tmod m = (z + m) % m := Int.tmod_eq_emod_of_nonneg (by omega)
  have g4 := Int.emod_nonneg (z + m) hm
  have g5 := Int.emod_lt_of_pos (z + m) h0
  refine ⟨(z + m) % m, by rw [r, hz], ?_, by rw [r, g3], ?_, g4, g5⟩
  · rw [y1f, y22 (by omega) (by omega)]
  · rw [y1f, y22 (by omega) (by omega)]
theorem fb0 (j : Nat) : 0 + j = j := Nat.zero_add j
end Go.Vm
namespace Go.Vm
end Go.Vm
namespace Go.Vm
open Cel
theorem fz_f (f : Fn) (H : Heap) : yj (fz H y19) [.agg (enc f)] = some ⟨[.agg (enc f)], scal f && true, []⟩ := by
  rw [yo, yak, y14]; rfl
theorem FnIn.sm {f : Fn} (hf : FnIn f) (h1 : (lst f.code).length ≤ 400) (h3 : (lst f.rows).length ≤ 100) : FnSm f := by
  have e : reachBytes = 140737488351232 := rfl
  have e38 : (2:Nat)^38 = 274877906944 := by decide
  refine ⟨?_, ?_, ?_, ?_, fun x hx => ?_⟩
  · have := hf.regs; omega
  · have := hf.params; omega
  · omega
  · omega
  · have := (hf.insI x hx).len; omega
end Go.Vm
namespace Go.Vm
open Cel
structure OSt (H : Heap) (x : Ins) (C : List Ins) (gc : Nat) : Prop where
  len : H.length = 12
  chk : H[0]? = some (AX 1 x)
  regs : H[1]? = some (AI 1 [1, 3])
  pars : H[2]? = some (AI 1 [0, 1])
  box : H[3]? = some ⟨1, .arr true false 5 [[.ls 1 1 1 0 2, .ls 2 1 1 0 2, .int .i64 0, y1b Ins 5 gc C, .nils]]⟩
  code : H[5]? = some (y13 gc D0 C)
theorem yql {H : Heap} {x : Ins} {C M : List Ins} {gc : Nat} (S : OSt H x C gc) (t s : Nat) (ht : t = 4 ∨ t = 6 ∨ t = 8 ∨ t = 10) (hs : s = 5 ∨ C ≠ []) (hl : C.length + M.length ≤ 1000) (parts : List (Nat × AV)) (k : Nat)
    (hb : ∀ o, H[0 + t]? = some o → ym 0 (some t) 9 k y50 parts H = some (.ls t (o.gen + 1) 9 0 M.length, H.set t ⟨o.gen + 1, .arr false false 9 (M.map enc)⟩)) :
    evLd false 1 (.lp 3 1 0 3) H = some (y1b Ins 5 gc C) ∧ ∃ v H1 H2 H3 gc', ym 0 (some t) 9 k y50 parts H = some (v, H1) ∧ y26 0 (some s) 9 96 (y1b Ins 5 gc C) v H1 = some (y1b Ins 5 gc' (C ++ M), H2) ∧
      evSt 1 (.lp 3 1 0 3) (y1b Ins 5 gc' (C ++ M)) H2 = some (.tup [], H3) ∧ OSt H3 x (C ++ M) gc' := by
  have hlen := S.len
  obtain ⟨o, ho⟩ : ∃ o, H[0 + t]? = some o := ⟨_, List.getElem?_eq_getElem (by omega)⟩
  have b := hb o ho
  have hr := y17a (α := Ins) (H := H.set t ⟨o.gen + 1, .arr false false 9 (M.map enc)⟩) (id := t) (g := o.gen + 1) (L := M) (y4e (by omega))
  have hbd : (2 * (C.length + M.length) + 512) * 96 ≤ 2 ^ 48 := by
    have : (2 * (C.length + M.length) + 512) * 96 ≤ (2 * 1000 + 512) * 96 := Nat.mul_le_mul_right 96 (by omega)
    exact Nat.le_trans this (by decide)
  have h5 : (H.set t ⟨o.gen + 1, .arr false false 9 (M.map enc)⟩)[5]? = some (y13 gc D0 C) := by rw [y11 (by omega)]; exact S.code
  have ap : ∃ gc', y26 0 (some s) 9 96 (y1b Ins 5 gc C) (.ls t (o.gen + 1) 9 0 M.length) (H.set t ⟨o.gen + 1, .arr false false 9 (M.map enc)⟩) = some (y1b Ins 5 gc' (C ++ M), (H.set t ⟨o.gen + 1, .arr false false 9 (M.map enc)⟩).set 5 (y13 gc' D0 (C ++ M))) := by
    by_cases hC : C = []
    · have e5 : s = 5 := hs.resolve_right (fun h => h hC)
      subst e5
      obtain ⟨gc', ap⟩ := yde (α := Ins) (fb := 0) (j := 5) (M := M) (b := 96) (L := C) (g := gc) (o := D0) hr (by rw [fb0]; exact h5) hbd
      rw [fb0] at ap
      exact ⟨gc', ap⟩
    · rw [ykf hC] at h5
      have ap := yk2 (α := Ins) (fb := 0) (sl := some s) (id := 5) (g := gc) (M := M) (b := 96) (L := C) (T := []) hr (by rw [List.append_nil]; exact h5) hbd
      refine ⟨gc + 1, ?_⟩
      rw [yj4 hC, yj4 (by simp [hC]), ykf (by simp [hC])]
      exact ap
  obtain ⟨gc', ap⟩ := ap
  have hbx : ((H.set t ⟨o.gen + 1, .arr false false 9 (M.map enc)⟩).set 5 (y13 gc' D0 (C ++ M)))[3]? = some ⟨1, .arr true false 5 [[.ls 1 1 1 0 2, .ls 2 1 1 0 2, .int .i64 0, y1b Ins 5 gc C, .nils]]⟩ := by
    rw [y11 (by omega), y11 (by omega)]; exact S.box
  have st := y1o0 (k := 3) (v := y1b Ins 5 gc' (C ++ M)) hbx rfl (by omega) (yl3 ..) (ybn ..)
  refine ⟨ypq S.box rfl, _, _, _, _, gc', b, ap, st, ⟨by simp [hlen], ?_, ?_, ?_, y4e (by simp [hlen]), ?_⟩⟩
  · rw [y11 (by omega), y11 (by omega), y11 (by omega)]; exact S.chk
  · rw [y11 (by omega), y11 (by omega), y11 (by omega)]; exact S.regs
  · rw [y11 (by omega), y11 (by omega), y11 (by omega)]; exact S.pars
  · rw [y11 (by omega), y4e (by simp [hlen])]
theorem bs_x {H : Heap} {t : Nat} (x : Ins) {o : AO} (h : H[0 + t]? = some o) : ym 0 (some t) 9 1 y50 [(0, .agg (enc x))] H = some (.ls t (o.gen + 1) 9 0 [x].length, H.set t ⟨o.gen + 1, .arr false false 9 ([x].map enc)⟩) := by
  rw [fb0] at h
  simp [ym, y1d, y2z, place, h]
theorem y25o {H : Heap} {t : Nat} (x y : Ins) {o : AO} (h : H[0 + t]? = some o) : ym 0 (some t) 9 2 y50 [(0, .agg (enc x)), (1, .agg (enc y))] H = some (.ls t (o.gen + 1) 9 0 [x, y].length, H.set t ⟨o.gen + 1, .arr false false 9 ([x, y].map enc)⟩) := by
  rw [fb0] at h
  simp [ym, y1d, y2z, place, h]
section
variable {x : Ins}
theorem y1p0 (n : Nat) (hn : n ≤ 30) (v1 : AV) : ∀ (d i : Nat), i + d = n → ∀ (H : Heap) (gc : Nat), OSt H x (List.replicate i x) gc →
    ∃ H' gc', yfk v1 (.lp 0 1 0 0) (.lp 3 1 0 0) (.int .i64 (n : Int)) (.int .i64 (i : Int)) H = yx6 v1 (.lp 0 1 0 0) (.lp 3 1 0 0) H' ∧ OSt H' x (List.replicate n x) gc' := by
  have fa : evFa 3 (.lp 3 1 0 0) = some (.lp 3 1 0 3) := rfl
  intro d
  induction d with
  | zero =>
    intro i hi H gc S
    have e : i = n := by omega
    subst e
    have hc : ¬ (i : Int) < (i : Int) := by omega
    refine ⟨H, gc, ?_, S⟩
    rw [yhx, yvi, yq, y4, decide_eq_false hc, yw4, y1t]
  | succ d ih =>
    intro i hi H gc S
    have hlt : i < n := by omega
    have hc : (i : Int) < (n : Int) := by omega
    obtain ⟨l3, v, H1, H2, H3, gc', b, ap, st, S3⟩ := yql S 4 5 (.inl rfl) (.inl rfl) (M := [x]) (by simp; omega) [(0, .agg (enc x))] 1 (fun o h => bs_x x h)
    have lx := y1lg S.chk
    have er : List.replicate i x ++ [x] = List.replicate (i + 1) x := List.replicate_succ'.symm
    rw [er] at ap st S3
    obtain ⟨H4, gc4, q1, q2⟩ := ih (i + 1) (by omega) H3 gc' S3
    refine ⟨H4, gc4, ?_, q2⟩
    rw [yhx, yvi, yq, y4, decide_eq_true hc, yw4, y1h, y17d, fa, y4, l3, y4, lx, y4, b, y8, ap, y8, y4, st, y8, y15b, yf9 hlt (by omega), y4]
    exact q1
theorem y1mi (m : Nat) (hm : m ≤ 30) (A : List Ins) (hA : A ≠ []) (hA2 : A.length ≤ 40) : ∀ (d i : Nat), i + d = m → ∀ (H : Heap) (gc : Nat), OSt H x (A ++ List.replicate i x) gc →
    ∃ H' gc', ym5 (.lp 0 1 0 0) (.lp 3 1 0 0) (.int .i64 (m : Int)) (.int .i64 (i : Int)) H = y0v (.lp 3 1 0 0) H' ∧ OSt H' x (A ++ List.replicate m x) gc' := by
  have fa : evFa 3 (.lp 3 1 0 0) = some (.lp 3 1 0 3) := rfl
  intro d
  induction d with
  | zero =>
    intro i hi H gc S
    have e : i = m := by omega
    subst e
    have hc : ¬ (i : Int) < (i : Int) := by omega
    refine ⟨H, gc, ?_, S⟩
    rw [ymy, y1mx, yq, y4, decide_eq_false hc, y1kp, y1t]
  | succ d ih =>
    intro i hi H gc S
    have hlt : i < m := by omega
    have hc : (i : Int) < (m : Int) := by omega
    obtain ⟨l3, v, H1, H2, H3, gc', b, ap, st, S3⟩ := yql S 8 9 (.inr (.inr (.inl rfl))) (.inr (by simp [hA])) (M := [x]) (by simp; omega) [(0, .agg (enc x))] 1 (fun o h => bs_x x h)
    have lx := y1lg S.chk
    have er : A ++ List.replicate i x ++ [x] = A ++ List.replicate (i + 1) x := by rw [List.append_assoc, List.replicate_succ'.symm]
    rw [er] at ap st S3
    obtain ⟨H4, gc4, q1, q2⟩ := ih (i + 1) (by omega) H3 gc' S3
    refine ⟨H4, gc4, ?_, q2⟩
    rw [ymy, y1mx, yq, y4, decide_eq_true hc, y1kp, y1h, y1yc, fa, y4, l3, y4, lx, y4, b, y8, ap, y8, y4, st, y8, y1xd, yf9 hlt (by omega), y4]
    exact q1
theorem y23g (hx : IsC x) {n m : Nat} (hn : 1 ≤ n) (hm : 1 ≤ m) (hn2 : n ≤ 30) (hm2 : m ≤ 30) {H : Heap} {gc : Nat} (S : OSt H x (List.replicate n x ++ [gsI 0 0, gsI 1 2] ++ List.replicate m x) gc) :
    y0v (.lp 3 1 0 0) H = some ⟨.bool true, [], true, [], []⟩ := by
  have fa : evFa 3 (.lp 3 1 0 0) = some (.lp 3 1 0 3) := rfl
  have bl : yd y50 [(0, 1, .int .i64 30), (2, 1, .int .i64 (-1))] = some (.agg (enc rtI)) := rfl
  have hne : List.replicate n x ++ [gsI 0 0, gsI 1 2] ++ List.replicate m x ≠ [] := by simp
  obtain ⟨l3, v, H1, H2, H3, gc', b, ap, st, S3⟩ := yql S 10 11 (.inr (.inr (.inr rfl))) (.inr hne) (M := [rtI]) (by simp; omega) [(0, .agg (enc rtI))] 1 (fun o h => bs_x rtI h)
  have eC : List.replicate n x ++ [gsI 0 0, gsI 1 2] ++ List.replicate m x ++ [rtI] = onC x n m := by
    unfold onC
    simp only [List.append_assoc]
  rw [eC] at ap st S3
  have hCn : onC x n m ≠ [] := by
    intro e
    have := y8k x n m
    rw [e] at this
    simp at this
  have A : FnAt H3 (onF x n m) (fun i => if i = 0 then 1 else if i = 1 then 2 else 5) (fun i => if i = 0 then 1 else if i = 1 then 1 else gc') := by
    refine ⟨fun L h => ?_, fun L h => ?_, fun L h => ?_, fun L h => ?_, fun i j i4 j4 hij hi hj => ?_⟩
    · have : [(1 : Int), 3] = L := Option.some.inj h
      subst this; exact S3.regs
    · have : [(0 : Int), 1] = L := Option.some.inj h
      subst this; exact S3.pars
    · have : onC x n m = L := Option.some.inj h
      subst this
      have := S3.code
      rw [ykf hCn] at this
      exact this
    · cases h
    · have k3 : hasL (onF x n m) 3 = false := rfl
      match i, j, i4, j4 with
      | 0, 0, _, _ => omega
      | 0, 1, _, _ => decide
      | 0, 2, _, _ => decide
      | 1, 0, _, _ => decide
      | 1, 1, _, _ => omega
      | 1, 2, _, _ => decide
      | 2, 0, _, _ => decide
      | 2, 1, _, _ => decide
      | 2, 2, _, _ => omega
      | 3, _, _, _ => rw [k3] at hi; cases hi
      | 0, 3, _, _ => rw [k3] at hj; cases hj
      | 1, 3, _, _ => rw [k3] at hj; cases hj
      | 2, 3, _, _ => rw [k3] at hj; cases hj
  have ld : evLd true 5 (.lp 3 1 0 0) H3 = some (fnV (onF x n m) (fun i => if i = 0 then 1 else if i = 1 then 2 else 5) (fun i => if i = 0 then 1 else if i = 1 then 1 else gc')) := by
    rw [yn8 S3.box rfl, yj4 hCn]
    rfl
  obtain ⟨ff, fs⟩ := y1wk hx hn2 hm2
  have hwf := y26f hx hn hn2 hm2
  have hl : (lst (onF x n m).code).length = n + m + 3 := y8k x n m
  obtain ⟨_, d2⟩ := y189 (onF x n m) ff fs (by omega) (by show 2 ≤ 100; decide) (by show 0 ≤ 1000000; decide)
  obtain ⟨T, tv, hP⟩ := d2 hwf
  have hp := y1qm hx hn hm tv (n + m + 3) (Nat.le_refl _)
  rw [if_neg (by omega), if_neg (by omega), if_neg (by omega), if_neg (by omega), if_neg (by omega)] at hp
  have har := y1or hx (n := n) (m := m) (T := T)
  have kwf := y1xp (T := T) hwf
  have kfit := y1om (T := T) ff
  have ksm : FnSm (knoF (onF x n m) T) := by
    have hk := (y61 (onF x n m) T).len
    have e38 : (2:Nat)^38 = 274877906944 := by decide
    exact ⟨by show 2 ≤ 17592186043904; decide, by show 2 ≤ 17592186043904; decide, by omega, by show 0 ≤ 2 ^ 38; decide, y1fc fs.args⟩
  have kl := (y61 (onF x n m) T).len
  rw [hl] at kl
  have hrows : (knoF (onF x n m) T).rows = none := rfl
  generalize knoF (onF x n m) T = G at *
  have hfr : (y1s G).fresh = true := by
    have e1 : (lst G.code).all scal = true := by
      rw [List.all_eq_true]
      intro y hy
      have := har y hy
      obtain ⟨op, d, a, b, c, nn, t, ss, ar⟩ := y
      simp only at this
      subst this
      rfl
    have e2 : lst G.rows = [] := by rw [hrows]; rfl
    simp only [y1s, e1, e2, List.all_nil, Bool.and_self]
  obtain ⟨fr, ids, hz⟩ := A.fz
  have c166 : y9 E (yb E) 0 none true 166 [fnV (onF x n m) (fun i => if i = 0 then 1 else if i = 1 then 2 else 5) (fun i => if i = 0 then 1 else if i = 1 then 1 else gc')] H3 = some (.agg (enc G), H3) := by
    refine yf8 (fa := ⟨[.agg (enc (onF x n m))], fr && true, ids ++ []⟩) rfl ?_ hfr hP (ybe _)
    rw [yo, hz, y14]
  obtain ⟨r, hr, hrd⟩ := y20d G ⟨kfit, ksm⟩ (by rw [hrows]; show 0 ≤ 1000000; decide)
  have c100 : y9 E (yb E) 0 none true 100 [.agg (enc G)] H3 = some (.agg (enc (ydo G)), H3) := y39 rfl (fz_f G H3) rfl hr hrd
  have hcode : (ydo G).code = nz (y1a G (lst G.code).length) := by
    unfold ydo
    rw [kwf]
    rfl
  have hf3 : y1ji false 3 1 (.agg (enc (ydo G))) = some (slA (ydo G).code) := rfl
  have hlen : y12 1 (slA (ydo G).code) H3 = some (.int .i64 (5 : Nat)) := by
    rw [y6j, hcode, ydt, yfo, kl, hp]
  have q : y6 .eql (.int .i64 ((5 : Nat) : Int)) (.int .i64 5) = some (.bool true) := rfl
  rw [y0v, fa, y4, l3, y4, bl, y4, b, y8, ap, y8, y4, st, y8, ld, y4, c166, y8, c100, y8, hf3, y4, hlen, y4, q, y4]
  rfl
end
end Go.Vm
namespace Go.Vm
open Cel
theorem y28c (a : Int) : ∃ q : Nat, q < 4 ∧ y6 .and (.int .i64 a) (.int .i64 3) = some (.int .i64 (q : Int)) := by
  refine ⟨(BitVec.ofInt 64 a &&& BitVec.ofInt 64 3).toNat, ?_, ?_⟩
  · rw [BitVec.toNat_and]
    exact Nat.and_lt_two_pow (n := 2) _ (by decide)
  · have h : (BitVec.ofInt 64 a &&& BitVec.ofInt 64 3).toNat < 4 := by
      rw [BitVec.toNat_and]
      exact Nat.and_lt_two_pow (n := 2) _ (by decide)
    show some (AV.int .i64 (IntKind.wrap .i64 ((BitVec.ofInt 64 a &&& BitVec.ofInt 64 3).toNat : Int))) = _
    rw [y22 (by omega) (by omega)]
theorem yjq (a c o : Int) : (yb E).p 164 [.int .i64 a, .int .i64 c, .int .i64 o] = some ⟨.bool true, [], true, [], []⟩ := by
  have ch : ∀ H : Heap, y9 E (yb E) 0 none true 165 [] H = some (.bool true, H) := fun H => y39 (fa := ⟨[], true, []⟩) rfl rfl rfl y1ym ⟨_, rfl, rfl⟩
  obtain ⟨q, a1, a2, a3, a4, a5, a6⟩ := y22m a 30 (by omega) (by omega)
  obtain ⟨r, b1, b2, b3, b4, b5, b6⟩ := y22m c 30 (by omega) (by omega)
  obtain ⟨n, hn⟩ : ∃ n : Nat, q + 1 = n := ⟨(q + 1).toNat, by omega⟩
  obtain ⟨m, hm⟩ : ∃ m : Nat, r + 1 = m := ⟨(r + 1).toNat, by omega⟩
  rw [hn] at a4
  rw [hm] at b4
  obtain ⟨z, hz, e27⟩ := y28c o
  have e21 : yd y50 [(0, 1, .int .i64 8), (2, 1, .int .i64 1)] = some (.agg (enc cNul)) := rfl
  have e22 : yd y50 [(0, 1, .int .i64 9), (2, 1, .int .i64 1), (3, 1, .int .i64 0)] = some (.agg (enc cBnd)) := rfl
  have e23 : yd y50 [(0, 1, .int .i64 7), (2, 1, .int .i64 0)] = some (.agg (enc cZer)) := rfl
  have e24 : yd y50 [(0, 1, .int .i64 10), (2, 1, .int .i64 0)] = some (.agg (enc cSiz)) := rfl
  have e25 : yd (y50 ++ y50 ++ y50 ++ y50) [(0, 9, .agg (enc cNul)), (9, 9, .agg (enc cBnd)), (18, 9, .agg (enc cZer)), (27, 9, .agg (enc cSiz))] = some (.agg (enc cNul ++ enc cBnd ++ enc cZer ++ enc cSiz)) := rfl
  have e25' : yd [.int .i64 0, .int .i64 0, .int .i64 0, .int .i64 0, .int .i64 0, .int .i64 0, .int .i64 0, .str [], .nils, .int .i64 0, .int .i64 0, .int .i64 0, .int .i64 0, .int .i64 0, .int .i64 0, .int .i64 0, .str [], .nils, .int .i64 0, .int .i64 0, .int .i64 0, .int .i64 0, .int .i64 0, .int .i64 0, .int .i64 0, .str [], .nils, .int .i64 0, .int .i64 0, .int .i64 0, .int .i64 0, .int .i64 0, .int .i64 0, .int .i64 0, .str [], .nils] [(0, 9, .agg (enc cNul)), (9, 9, .agg (enc cBnd)), (18, 9, .agg (enc cZer)), (27, 9, .agg (enc cSiz))] = some (.agg (enc cNul ++ enc cBnd ++ enc cZer ++ enc cSiz)) := e25
  obtain ⟨x, hx, e28⟩ : ∃ x, IsC x ∧ yfy true 4 9 (.agg (enc cNul ++ enc cBnd ++ enc cZer ++ enc cSiz)) (.int .i64 (z : Int)) = some (.agg (enc x)) := by
    match z, hz with
    | 0, _ => exact ⟨cNul, .inl rfl, rfl⟩
    | 1, _ => exact ⟨cBnd, .inr (.inl rfl), rfl⟩
    | 2, _ => exact ⟨cZer, .inr (.inr (.inl rfl)), rfl⟩
    | 3, _ => exact ⟨cSiz, .inr (.inr (.inr rfl)), rfl⟩
  have n0 : newC 0 (some 0) y50 (List.replicate 12 D0) = some (.lp 0 1 0 0, AX 1 default :: List.replicate 11 D0) := y22r (H := List.replicate 12 D0) (fb := 0) (j := 0) (o := D0) rfl
  have s0 : evSt 9 (.lp 0 1 0 0) (.agg (enc x)) (AX 1 default :: List.replicate 11 D0) = some (.tup [], AX 1 x :: List.replicate 11 D0) := st_x (H := AX 1 default :: List.replicate 11 D0) (id := 0) (g := 1) (x := default) rfl
  have b29 : ym 0 (some 1) 1 2 [.int .i64 0] [(0, .int .i64 1), (1, .int .i64 3)] (AX 1 x :: List.replicate 11 D0) = some (.ls 1 1 1 0 2, AX 1 x :: AI 1 [1, 3] :: List.replicate 10 D0) := rfl
  have b30 : ym 0 (some 2) 1 2 [.int .i64 0] [(0, .int .i64 0), (1, .int .i64 1)] (AX 1 x :: AI 1 [1, 3] :: List.replicate 10 D0) = some (.ls 2 1 1 0 2, AX 1 x :: AI 1 [1, 3] :: AI 1 [0, 1] :: List.replicate 9 D0) := rfl
  have b31 : yd [.nils, .nils, .int .i64 0, .nils, .nils] [(0, 1, .ls 1 1 1 0 2), (1, 1, .ls 2 1 1 0 2)] = some (.agg [.ls 1 1 1 0 2, .ls 2 1 1 0 2, .int .i64 0, .nils, .nils]) := rfl
  have n3 : newC 0 (some 3) [.nils, .nils, .int .i64 0, .nils, .nils] (AX 1 x :: AI 1 [1, 3] :: AI 1 [0, 1] :: List.replicate 9 D0) = some (.lp 3 1 0 0, AX 1 x :: AI 1 [1, 3] :: AI 1 [0, 1] :: ⟨1, .arr true false 5 [[.nils, .nils, .int .i64 0, .nils, .nils]]⟩ :: List.replicate 8 D0) := rfl
  have s3 : evSt 5 (.lp 3 1 0 0) (.agg [.ls 1 1 1 0 2, .ls 2 1 1 0 2, .int .i64 0, .nils, .nils]) (AX 1 x :: AI 1 [1, 3] :: AI 1 [0, 1] :: ⟨1, .arr true false 5 [[.nils, .nils, .int .i64 0, .nils, .nils]]⟩ :: List.replicate 8 D0) = some (.tup [], AX 1 x :: AI 1 [1, 3] :: AI 1 [0, 1] :: ⟨1, .arr true false 5 [[.ls 1 1 1 0 2, .ls 2 1 1 0 2, .int .i64 0, .nils, .nils]]⟩ :: List.replicate 8 D0) := rfl
  have S0 : OSt (AX 1 x :: AI 1 [1, 3] :: AI 1 [0, 1] :: ⟨1, .arr true false 5 [[.ls 1 1 1 0 2, .ls 2 1 1 0 2, .int .i64 0, .nils, .nils]]⟩ :: List.replicate 8 D0) x (List.replicate 0 x) 0 := ⟨rfl, rfl, rfl, rfl, rfl, rfl⟩
  obtain ⟨H1, g1, q1, S1⟩ := y1p0 n (by omega) (.int .i64 (m : Int)) n 0 (Nat.zero_add _) _ 0 S0
  have fa : evFa 3 (.lp 3 1 0 0) = some (.lp 3 1 0 3) := rfl
  have e44 : yd y50 [(0, 1, .int .i64 18), (1, 1, .int .i64 0)] = some (.agg (enc (gsI 0 0))) := rfl
  have e45 : yd y50 [(0, 1, .int .i64 18), (1, 1, .int .i64 1), (5, 1, .int .i64 2)] = some (.agg (enc (gsI 1 2))) := rfl
  obtain ⟨l3, v, K1, K2, K3, g2, b, ap, st, S2⟩ := yql S1 6 7 (.inr (.inl rfl)) (.inr (by simp; omega)) (M := [gsI 0 0, gsI 1 2]) (by simp; omega) [(0, .agg (enc (gsI 0 0))), (1, .agg (enc (gsI 1 2)))] 2 (fun o h => y25o _ _ h)
  have S2' : OSt K3 x (List.replicate n x ++ [gsI 0 0, gsI 1 2] ++ List.replicate 0 x) g2 := by rw [List.replicate_zero, List.append_nil]; exact S2
  obtain ⟨H4, g4, q4, S4⟩ := y1mi m (by omega) (List.replicate n x ++ [gsI 0 0, gsI 1 2]) (by simp) (by simp; omega) m 0 (Nat.zero_add _) K3 g2 S2'
  have en := y23g hx (by omega) (by omega) (by omega) (by omega) S4
  have z0 : ((0 : Nat) : Int) = 0 := rfl
  rw [z0] at q1 q4
  have hp : ([⟨0, .dead⟩, ⟨0, .dead⟩, ⟨0, .dead⟩, ⟨0, .dead⟩, ⟨0, .dead⟩, ⟨0, .dead⟩, ⟨0, .dead⟩, ⟨0, .dead⟩, ⟨0, .dead⟩, ⟨0, .dead⟩, ⟨0, .dead⟩, ⟨0, .dead⟩] : Heap) = List.replicate 12 D0 := rfl
  rw [y263, hp, y17z, y16j, ch, y8, y3f, y4, Bool.not_true, y1t, y1fd, a1, y4, a2, y4, a3, y4, a4, y4, b1, y4, b2, y4, b3, y4, b4, y4,
    y1f5, e21, y4, e22, y4, e23, y4, e24, y4, e25', y4, e27, y4, e28, y4, n0, y8, s0, y8, y18z, b29, y8, b30, y8, b31, y4, n3, y8, s3, y8, y19r, q1,
    yx6, fa, y4, l3, y4, e44, y4, e45, y4, b, y8, ap, y8, y4, st, y8, y1um, q4, en]
end Go.Vm
