/- FoldWays: a way whose numbers are known is gone, or always gone; checks stay as they are. -/
import Derived.Test.YtgbajicpokolcaaWTd
set_option linter.unusedSimpArgs false
set_option linter.unusedVariables false
set_option linter.unusedSectionVars false
namespace Go.Vm
open Cel
abbrev ways (c a b : Int) : List Ins := [y19 0 a, y19 1 b, zchk, schk, ifI c, retA 0, retA 1]
abbrev HWy (c a b : Int) (o3 : AO) : Heap := [AI 1 [1, 1], ⟨1, .arr false false 9 ((ways c a b).map enc)⟩, ⟨1, .arr true false 5 [[.ls 0 1 1 0 2, .nils, .int .i64 1, .ls 1 1 9 0 7, .nils]]⟩, o3]
theorem y1ig (c a b : Int) (hc : 0 ≤ c ∧ c < 6) (ha : y32 a) (hb : y32 b) : FnFit (wayF c a b) ∧ FnSm (wayF c a b) := by
  have e38 : (2:Nat)^38 = 274877906944 := by decide
  have r1 : (lst (wayF c a b).regs).length = 2 := rfl
  have r2 : (lst (wayF c a b).params).length = 0 := rfl
  have r3 : (lst (wayF c a b).rows).length = 0 := rfl
  have r4 : (lst (wayF c a b).code).length = 7 := rfl
  have hx : ∀ x ∈ lst (wayF c a b).code, y24 x.n ∧ x.s = [] ∧ x.args = none := by
    intro x hx
    have hx' : x ∈ ways c a b := hx
    unfold y32 at ha hb
    simp only [ways, List.mem_cons, List.not_mem_nil, or_false] at hx'
    rcases hx' with rfl | rfl | rfl | rfl | rfl | rfl | rfl
    · exact ⟨by show y24 a; unfold y24; omega, rfl, rfl⟩
    · exact ⟨by show y24 b; unfold y24; omega, rfl, rfl⟩
    · exact ⟨by show y24 0; decide, rfl, rfl⟩
    · exact ⟨by show y24 0; decide, rfl, rfl⟩
    · exact ⟨by show y24 c; unfold y24; omega, rfl, rfl⟩
    · exact ⟨by show y24 0; decide, rfl, rfl⟩
    · exact ⟨by show y24 0; decide, rfl, rfl⟩
  refine ⟨⟨fun x h => ⟨(hx x h).1, ?_, ?_⟩, by omega, by omega, by omega, by omega⟩, ⟨by omega, by omega, by omega, by omega, fun x h => ?_⟩⟩
  · rw [(hx x h).2.1]; exact Nat.zero_le _
  · rw [(hx x h).2.2]; exact Nat.zero_le _
  · rw [(hx x h).2.2]; exact Nat.zero_le _
theorem ykj (c a b : Int) (hc : inI c) (ha : y32 a) (hb : y32 b) : (y5 E).p 122 [.int .i64 c, .int .i32 a, .int .i32 b] = some ⟨.bool true, [], true, [], []⟩ := by
  rw [y256]
  have ch : ∀ H : Heap, y4 E (y5 E) 0 none true 124 [] H = some (.bool true, H) := fun H => y1s (fa := ⟨[], true, []⟩) rfl rfl rfl y1q7 ⟨_, rfl, rfl⟩
  have rem : ∀ x : Int, y2 .rem (.int .i64 x) (.int .i64 6) = some (.int .i64 (x.tmod 6)) := fun x => by simp [y2, y1p, y2a]
  obtain ⟨q, hq, hq2⟩ : ∃ q : Int, (0 ≤ q ∧ q < 6) ∧ (IntKind.wrap .i64 (c.tmod 6 + 6)).tmod 6 = q := by
    have h1 := Int.tmod_lt_of_pos c (show (0 : Int) < 6 by omega)
    have h2 := Int.lt_tmod_of_pos c (show (0 : Int) < 6 by omega)
    have w1 : IntKind.wrap .i64 (c.tmod 6 + 6) = c.tmod 6 + 6 := y27 (by omega) (by omega)
    rw [w1]
    generalize c.tmod 6 = z at *
    have h3 : (z + 6).tmod 6 = (z + 6) % 6 := Int.tmod_eq_emod_of_nonneg (by omega)
    rw [h3]
    exact ⟨_, ⟨by omega, by omega⟩, rfl⟩
  have wa : IntKind.wrap .i64 a = a := y5l (y6p ha)
  have wb : IntKind.wrap .i64 b = b := y5l (y6p hb)
  have b16 : y14 0 (some 0) 1 2 [.int .i64 0] [(0, .int .i64 1), (1, .int .i64 1)] [⟨0, .dead⟩, ⟨0, .dead⟩, ⟨0, .dead⟩, ⟨0, .dead⟩] = some (.ls 0 1 1 0 2, [AI 1 [1, 1], D0, D0, D0]) := by rfl
  have b19 : ∀ v : Int, yb yc5 [(0, 1, .int .i64 1), (1, 1, .int .i64 0), (5, 1, .int .i64 v)] = some (.agg (enc (y19 0 v))) := fun v => rfl
  have b22 : ∀ v : Int, yb yc5 [(0, 1, .int .i64 1), (1, 1, .int .i64 1), (5, 1, .int .i64 v)] = some (.agg (enc (y19 1 v))) := fun v => rfl
  have b23 : yb yc5 [(0, 1, .int .i64 7), (2, 1, .int .i64 0)] = some (.agg (enc zchk)) := rfl
  have b24 : yb yc5 [(0, 1, .int .i64 10), (2, 1, .int .i64 1)] = some (.agg (enc schk)) := rfl
  have b26 : yb yc5 [(0, 1, .int .i64 28), (5, 1, .int .i64 q), (2, 1, .int .i64 0), (3, 1, .int .i64 1), (6, 1, .int .i64 6)] = some (.agg (enc (ifI q))) := rfl
  have b27 : yb yc5 [(0, 1, .int .i64 30), (2, 1, .int .i64 0)] = some (.agg (enc (retA 0))) := rfl
  have b28 : yb yc5 [(0, 1, .int .i64 30), (2, 1, .int .i64 1)] = some (.agg (enc (retA 1))) := rfl
  have b29 : y14 0 (some 1) 9 7 yc5 [(0, .agg (enc (y19 0 a))), (1, .agg (enc (y19 1 b))), (2, .agg (enc zchk)), (3, .agg (enc schk)), (4, .agg (enc (ifI q))), (5, .agg (enc (retA 0))), (6, .agg (enc (retA 1)))] [AI 1 [1, 1], D0, D0, D0] = some (.ls 1 1 9 0 7, [AI 1 [1, 1], ⟨1, .arr false false 9 ((ways q a b).map enc)⟩, D0, D0]) := by rfl
  have b30 : yb [.nils, .nils, .int .i64 0, .nils, .nils] [(0, 1, .ls 0 1 1 0 2), (2, 1, .int .i64 1), (3, 1, .ls 1 1 9 0 7)] = some (.agg [.ls 0 1 1 0 2, .nils, .int .i64 1, .ls 1 1 9 0 7, .nils]) := rfl
  have n2 : newC 0 (some 2) [.nils, .nils, .int .i64 0, .nils, .nils] [AI 1 [1, 1], ⟨1, .arr false false 9 ((ways q a b).map enc)⟩, D0, D0] = some (.lp 2 1 0 0, [AI 1 [1, 1], ⟨1, .arr false false 9 ((ways q a b).map enc)⟩, ⟨1, .arr true false 5 [[.nils, .nils, .int .i64 0, .nils, .nils]]⟩, D0]) := by rfl
  have s2 : evSt 5 (.lp 2 1 0 0) (.agg [.ls 0 1 1 0 2, .nils, .int .i64 1, .ls 1 1 9 0 7, .nils]) [AI 1 [1, 1], ⟨1, .arr false false 9 ((ways q a b).map enc)⟩, ⟨1, .arr true false 5 [[.nils, .nils, .int .i64 0, .nils, .nils]]⟩, D0] = some (.tup [], HWy q a b D0) := by rfl
  have A : FnAt (HWy q a b D0) (wayF q a b) (fun i => if i = 2 then 1 else 0) (fun _ => 1) := by
    refine ⟨fun L h => ?_, fun L h => ?_, fun L h => ?_, fun L h => ?_, fun i j h1 h2 h3 h4 h5 => ?_⟩
    · have : [1, 1] = L := Option.some.inj h
      subst this; rfl
    · cases h
    · have : ways q a b = L := Option.some.inj h
      subst this; rfl
    · cases h
    · have k1 : hasL (wayF q a b) 1 = false := rfl
      have k3 : hasL (wayF q a b) 3 = false := rfl
      match i, j, h1, h2 with
      | 0, 0, _, _ => omega
      | 0, 2, _, _ => decide
      | 2, 0, _, _ => decide
      | 2, 2, _, _ => omega
      | 1, _, _, _ => rw [k1] at h4; cases h4
      | 3, _, _, _ => rw [k3] at h4; cases h4
      | 0, 1, _, _ => rw [k1] at h5; cases h5
      | 2, 1, _, _ => rw [k1] at h5; cases h5
      | 0, 3, _, _ => rw [k3] at h5; cases h5
      | 2, 3, _, _ => rw [k3] at h5; cases h5
  have ld : evLd true 5 (.lp 2 1 0 0) (HWy q a b D0) = some (fnV (wayF q a b) (fun i => if i = 2 then 1 else 0) (fun _ => 1)) := by rfl
  obtain ⟨ff, fs⟩ := y1ig q a b hq ha hb
  have hwf := y1sx hq ha hb
  obtain ⟨_, d2⟩ := y1qz (wayF q a b) ff fs (by show 0 ≤ _; omega)
  have hP := d2 hwf
  have k := y1jm hwf ff.num
  rw [y1cr] at hP k
  have hgw := k.wf hwf
  have hfg := k.fit ff
  have hag := k.args fs.args
  have e38 : (2:Nat)^38 = 274877906944 := by decide
  have eG : ∀ x : Ins, y5u (wayF q a b) [y19 0 a, y19 1 b, zchk, schk, x, retA 0, retA 1] = wayG a b x := fun x => rfl
  rw [eG] at hP hgw hfg hag
  generalize hx : (if y5v q a b = true then y85 6 else nopI) = x at *
  have hxa : scal x = true := by rw [← hx]; split <;> decide
  have hfr : (y1m (wayG a b x)).fresh = true := by
    show ([y19 0 a, y19 1 b, zchk, schk, x, retA 0, retA 1].all scal && ([] : List Row).all scal) = true
    simp only [List.all_cons, List.all_nil, hxa]
    rfl
  have hgs : FnSm (wayG a b x) := ⟨by show 2 ≤ _; omega, by show 0 ≤ _; omega, by rw [e38]; show 7 ≤ _; omega, by rw [e38]; show 0 ≤ _; omega, hag⟩
  obtain ⟨fr, ids, hz⟩ := A.fz
  have c1 : y4 E (y5 E) 0 none true 125 [fnV (wayF q a b) (fun i => if i = 2 then 1 else 0) (fun _ => 1)] (HWy q a b D0) = some (.agg (enc (wayG a b x)), HWy q a b D0) := by
    refine y128 (fa := ⟨[.agg (enc (wayF q a b))], fr && true, ids ++ []⟩) rfl ?_ hfr hP (yih _)
    rw [yx, hz, y16]
  have n3 : newC 0 (some 3) [.nils, .nils, .int .i64 0, .nils, .nils] (HWy q a b D0) = some (.lp 3 1 0 0, HWy q a b ⟨1, .arr true false 5 [[.nils, .nils, .int .i64 0, .nils, .nils]]⟩) := by rfl
  have s3 : evSt 5 (.lp 3 1 0 0) (.agg (enc (wayG a b x))) (HWy q a b ⟨1, .arr true false 5 [[.nils, .nils, .int .i64 0, .nils, .nils]]⟩) = some (.tup [], HWy q a b (AFn (wayG a b x))) := by rfl
  have l33 : evLd false 1 (.lp 3 1 0 3) (HWy q a b (AFn (wayG a b x))) = some (slA (wayG a b x).code) := by rfl
  have l35 : evLd true 5 (.lp 3 1 0 0) (HWy q a b (AFn (wayG a b x))) = some (.agg (enc (wayG a b x))) := by rfl
  have gl : (wayG a b x).code = some [y19 0 a, y19 1 b, zchk, schk, x, retA 0, retA 1] := rfl
  have k2 : yi 9 (slA (wayG a b x).code) (.int .i64 2) = some (.rp (enc zchk)) := y6o (i := 2) (by rw [gl]; rfl) .i64
  have k3 : yi 9 (slA (wayG a b x).code) (.int .i64 3) = some (.rp (enc schk)) := y6o (i := 3) (by rw [gl]; rfl) .i64
  have k4 : yi 9 (slA (wayG a b x).code) (.int .i64 4) = some (.rp (enc x)) := y6o (i := 4) (by rw [gl]; rfl) .i64
  have o2 : ∀ H : Heap, evLd false 1 (.rp (enc zchk)) H = some (.int .i64 7) := fun H => rfl
  have o3 : ∀ H : Heap, evLd false 1 (.rp (enc schk)) H = some (.int .i64 10) := fun H => rfl
  obtain ⟨r, hT, hR⟩ := y1yr (wayG a b x) ⟨hfg, hgs⟩ (by show 0 ≤ _; omega)
  have cT : ∀ H, y4 E (y5 E) 0 none true 100 [.agg (enc (wayG a b x))] H = some (.agg (enc (yd6 (wayG a b x))), H) := fun H => y1s rfl (fz_f _ H) rfl hT hR
  have ef : y1g5 false 3 1 (.agg (enc (yd6 (wayG a b x)))) = some (slA (yd6 (wayG a b x)).code) := rfl
  have e4 : y1ma (.int .i64 q) (.int .i32 a) (.int .i32 b) (.lp 3 1 0 0) (HWy q a b (AFn (wayG a b x))) = yx9 (.lp 3 1 0 0) (.bool (y5v q a b)) (HWy q a b (AFn (wayG a b x))) := by
    have bb : ∀ v0 v1 v2 v3 v4 v5 : Bool, yb [.bool false, .bool false, .bool false, .bool false, .bool false, .bool false] [(0, 1, .bool v0), (1, 1, .bool v1), (2, 1, .bool v2), (3, 1, .bool v3), (4, 1, .bool v4), (5, 1, .bool v5)] = some (.agg [.bool v0, .bool v1, .bool v2, .bool v3, .bool v4, .bool v5]) := fun _ _ _ _ _ _ => rfl
    have ix : yf9 false 6 1 (.agg [.bool (decide (a = b)), .bool (decide (a ≠ b)), .bool (decide (a < b)), .bool (decide (b ≤ a)), .bool (decide (b < a)), .bool (decide (a ≤ b))]) (.int .i64 q) = some (.bool (y5v q a b)) := by
      have : q = 0 ∨ q = 1 ∨ q = 2 ∨ q = 3 ∨ q = 4 ∨ q = 5 := by omega
      rcases this with rfl | rfl | rfl | rfl | rfl | rfl <;> rfl
    simp only [y1ma, yl, y4v, yn, y8m, yae, ya6, y6, bb, ix]
  have e9 : y1kr (.int .i64 c) (.int .i32 a) (.int .i32 b) [⟨0, .dead⟩, ⟨0, .dead⟩, ⟨0, .dead⟩, ⟨0, .dead⟩] = yx9 (.lp 3 1 0 0) (.bool (y5v q a b)) (HWy q a b (AFn (wayG a b x))) := by
    rw [← e4]
    simp only [y1kr, y1tk, ch, yj, y3d, Bool.not_true, y6, y1y, y1qn, rem, yw, hq2, y1r1, b16, ylg, wa, wb, b19, b22, b23, b24, b26, b27, b28, b29, b30, n2, s2, y1ph, ld, c1, n3, s3]
  rw [e9]
  have ne7 : decide ((7 : Int) ≠ 7) = false := rfl
  have ne10 : decide ((10 : Int) ≠ 10) = false := rfl
  cases hh : y5v q a b with
  | true =>
    rw [hh] at hx
    simp only [if_true] at hx
    subst hx
    have hl := y1j5 a b hgw
    have o40 : ∀ H : Heap, evLd false 1 (.rp (enc (y85 6))) H = some (.int .i64 27) := fun H => rfl
    have f46 : evFa 6 (.rp (enc (y85 6))) = some (.rp ((enc (y85 6)).drop 6)) := rfl
    have o46 : ∀ H : Heap, evLd false 1 (.rp ((enc (y85 6)).drop 6)) H = some (.int .i64 6) := fun H => rfl
    have f0 : ∀ y : Ins, evFa 0 (.rp (enc y)) = some (.rp (enc y)) := fun y => rfl
    simp only [yx9, yq, Nat.zero_add, y6, l33, k2, k3, k4, f0, o2, o3, y4v, ne7, ne10, yno, y2y, y1y, y1h1, y1g, o40, yl, decide_true, yal, y1x7, f46, o46, y2e, l35, cT, yj, ef, y3p, hl, y34]
    rfl
  | false =>
    rw [hh] at hx
    simp only [Bool.false_eq_true, if_false] at hx
    subst hx
    have hl := y1u4 a b hgw
    have o40 : ∀ H : Heap, evLd false 1 (.rp (enc nopI)) H = some (.int .i64 33) := fun H => rfl
    have f0 : ∀ y : Ins, evFa 0 (.rp (enc y)) = some (.rp (enc y)) := fun y => rfl
    simp only [yx9, yq, Nat.zero_add, y6, l33, k2, k3, k4, f0, o2, o3, y4v, ne7, ne10, yno, y2y, y1y, y1h1, y1tl, o40, yl, decide_true, yal, y1x7, y2e, l35, cT, yj, ef, y3p, hl, y34]
    rfl
end Go.Vm
