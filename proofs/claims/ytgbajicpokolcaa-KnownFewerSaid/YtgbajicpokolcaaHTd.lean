/- known.Pass's closure on the machine: facts flow to a place. Which instructions may throw. A number in a list: the library's 'Contains'. flow.Next, flow.Caught. known.Pass on the machine: the rounds of its work. The instruction that does nothing. What 'kinds' answers. What 'other' answers; all of 'kinds'. Whether one instruction is well formed: 'right'. 'right', whole. Whether a function is well formed: 'Check': its lists of registers, parameters, rows. known.Pass on the machine: the pass itself. -/
import Derived.Test.YtgbajicpokolcaaHX
import Derived.Test.YtgbajicpokolcaaHTc
set_option linter.unusedSimpArgs false
set_option linter.unusedVariables false
set_option linter.unusedSectionVars false
namespace Go.Vm
open Cel
theorem yr5 {H : Heap} {a : Nat} {v : AV} (h : H[a]? = some ⟨1, .arr true false 1 [[v]]⟩) : evLd false 1 (.lp a 1 0 0) H = some v := by
  have hr : yt H a 1 = some (false, 1, [[v]]) := by simp [yt, y3w, h]
  rw [y3y, hr]
  rfl
theorem y20x {H : Heap} {a : Nat} {v w : AV} (h : H[a]? = some ⟨1, .arr true false 1 [[v]]⟩) (hv : cellsOf w = [w]) (hl : y16 w = true) : evSt 1 (.lp a 1 0 0) w H = some (.tup [], H.set a ⟨1, .arr true false 1 [[w]]⟩) := by
  have hr : yt H a 1 = some (false, 1, [[v]]) := by simp [yt, y3w, h]
  rw [y76, hr]
  simp only [List.getElem?_cons_zero, hv]
  rw [if_pos (by simp [hl]), y23, h]
  rfl
theorem yik {k n : Nat} (h : k < n) (hn : n ≤ 9223372036854775807) : y6 .add (.int .i64 (k : Int)) (.int .i64 1) = some (.int .i64 ((k + 1 : Nat) : Int)) := by
  rw [y46]
  congr 2
  rw [y2r] <;> omega
def rowK (T : KTab) (i : Nat) : AV := if i = 0 then .lm 12 1 else match kAt T i with
  | none => .nilm
  | some s => .rm (mE s)
def tabK (T : KTab) : List (List AV) := (List.range T.length).map fun i => [rowK T i]
theorem y78 {T : KTab} {i : Nat} (h : i < T.length) : (tabK T)[i]? = some [rowK T i] := by
  simp [tabK, h]
theorem y24w {T : KTab} {i : Nat} (h0 : i ≠ 0) (h : i < T.length) (n : Fs) : (tabK T).set i [.rm (mE n)] = tabK (T.set i (some n)) := by
  refine List.ext_getElem? fun j => ?_
  rw [List.getElem?_set]
  have hl : (tabK T).length = T.length := by simp [tabK]
  by_cases e : i = j
  · subst e
    rw [if_pos rfl, if_pos (by rw [hl]; exact h), y78 (by rw [List.length_set]; exact h), rowK, if_neg h0, yeu h, if_pos rfl]
  · rw [if_neg e]
    by_cases hj : j < T.length
    · rw [y78 hj, y78 (by rw [List.length_set]; exact hj), rowK, rowK, yeu h, if_neg e]
    · rw [List.getElem?_eq_none (by rw [hl]; omega), List.getElem?_eq_none (by simp [tabK]; omega)]
def IsK (v : AV) (s : Fs) : Prop := v = .rm (mE s) ∨ (v = .lm 12 1 ∧ s = [])
theorem yqq {T : KTab} {i : Nat} {t : Fs} (hz : kAt T 0 = some []) (h : kAt T i = some t) : IsK (rowK T i) t := by
  unfold rowK
  by_cases e : i = 0
  · subst e
    rw [hz] at h
    injection h with h
    rw [if_pos rfl]
    exact .inr ⟨rfl, h.symm⟩
  · rw [if_neg e, h]
    exact .inl rfl
theorem IsK.fz {v : AV} {s : Fs} (h : IsK v s) {H : Heap} (m0 : H[12]? = some (AK 1 [])) (k : Nat) : ∃ fr ids, Go.Vm.fz H (k + 3) v = some ⟨.rm (mE s), fr, ids⟩ ∧ (ids = [] ∨ ids = [12]) := by
  rcases h with rfl | ⟨rfl, rfl⟩
  · exact ⟨_, _, rfl, .inl rfl⟩
  · exact ⟨_, _, y29r k m0, .inr rfl⟩
theorem IsK.len {v : AV} {s : Fs} (h : IsK v s) {H : Heap} (m0 : H[12]? = some (AK 1 [])) : yv 2 v H = some (.int .i64 s.length) := by
  rcases h with rfl | ⟨rfl, rfl⟩
  · simp [yv, y2a4]
  · simp [yv, yez m0, mE]
theorem IsK.nn {v : AV} {s : Fs} (h : IsK v s) : y9c 2 false v AV.nilm = some (.bool false) ∧ y9c 2 true v AV.nilm = some (.bool true) := by
  rcases h with rfl | ⟨rfl, rfl⟩ <;> exact ⟨rfl, rfl⟩
theorem yqs {H : Heap} {fb f : Nat} {args args' : List AV} {s : Fs} {fr : Bool} {ids : List Nat} (hE : E.pure f = true) (ha : yl (fz H y18) args = some ⟨args', fr, ids⟩) (hc : (y8 E).p f args' = some (exK2 s)) :
    y7 E (y8 E) fb none true f args H = some (.rm (mE s), H) ∧ y2k E (y8 E) fb none true f args H = some (ids, []) := by
  refine ⟨ykn (fa := ⟨args', fr, ids⟩) hE ha rfl hc ⟨_, y2gd s, rfl⟩, ?_⟩
  simp [y2k, hE, ha, hc]
structure KSt (H : Heap) (f : Fn) (p g : Nat → Nat) (T : KTab) (W : List Int) : Prop where
  d : DSt H f p g 17
  tab : H[10]? = some ⟨1, .arr false false 1 (tabK T)⟩
  tbx : H[11]? = some ⟨1, .arr true false 1 [[.ls 10 1 1 0 T.length]]⟩
  m0 : H[12]? = some (AK 1 [])
  wk : ∃ gw D, H[13]? = some (AI gw (W ++ D)) ∧ H[14]? = some ⟨1, .arr true false 1 [[.ls 13 gw 1 0 W.length]]⟩
theorem KSt.grow {H : Heap} {f : Fn} {p g : Nat → Nat} {T : KTab} {W : List Int} (S : KSt H f p g T W) (X : Heap) : KSt (H ++ X) f p g T W := by
  obtain ⟨gw, D, w1, w2⟩ := S.wk
  exact ⟨S.d.grow X, yiu S.tab, yiu S.tbx, yiu S.m0, gw, D, yiu w1, yiu w2⟩
theorem KSt.set {H : Heap} {f : Fn} {p g : Nat → Nat} {T : KTab} {W : List Int} (S : KSt H f p g T W) {a : Nat} {x : AO} (ha : 15 ≤ a) : KSt (H.set a x) f p g T W := by
  obtain ⟨gw, D, w1, w2⟩ := S.wk
  exact ⟨S.d.set (by omega), by rw [y1o (by omega)]; exact S.tab, by rw [y1o (by omega)]; exact S.tbx, by rw [y1o (by omega)]; exact S.m0, gw, D, by rw [y1o (by omega)]; exact w1, by rw [y1o (by omega)]; exact w2⟩
section
variable {f : Fn} {p g : Nat → Nat} {T : KTab} {W : List Int} {to : Int} (t0 : 0 ≤ to) (t1 : to < T.length) (hb : W.length ≤ 1000000000)
include t0 t1 hb
theorem yun {H : Heap} (S : KSt H f p g T W) {fb : Nat} (hf : 17 ≤ fb) (h1 : H[fb + 0]? = some D0) :
    ∃ H', y1r3 fb (.int .i64 to) (.lp 14 1 0 0) H = some (.tup [], H') ∧ KSt H' f p g T (W ++ [to]) := by
  obtain ⟨gw, D, w1, w2⟩ := S.wk
  have l2 := yr5 w2
  have b1 := y2a9 to h1
  have S2 := S.set (a := fb + 0) (x := AI (D0.gen + 1) [to]) (by omega)
  have h14 := y6h w2
  have h13 := y6h w1
  have n14 : (H.set (fb + 0) (AI (D0.gen + 1) [to]))[14]? = some ⟨1, .arr true false 1 [[.ls 13 gw 1 0 W.length]]⟩ := by rw [y1o (by omega)]; exact w2
  have n13 : (H.set (fb + 0) (AI (D0.gen + 1) [to]))[13]? = some (AI gw (W ++ D)) := by rw [y1o (by omega)]; exact w1
  have nfb : (H.set (fb + 0) (AI (D0.gen + 1) [to]))[fb + 0]? = some (AI (D0.gen + 1) [to]) := y7c (y6h h1)
  generalize H.set (fb + 0) (AI (D0.gen + 1) [to]) = H2 at *
  have ap : y3c fb (some 1) 1 8 (.ls 13 gw 1 0 W.length) (.ls (fb + 0) (D0.gen + 1) 1 0 1) H2 = some (.ls 13 (gw + 1) 1 0 (W ++ [to]).length, H2.set 13 (AI (gw + 1) (W ++ [to]))) :=
    y1rl (α := Int) (M := [to]) (y2d6 (α := Int) (L := [to]) nfb) n13 (ywm (by simp; omega))
  have S3d := S2.d.set (a := 13) (x := AI (gw + 1) (W ++ [to])) (by omega)
  have k14 : (H2.set 13 (AI (gw + 1) (W ++ [to])))[14]? = some ⟨1, .arr true false 1 [[.ls 13 gw 1 0 W.length]]⟩ := by rw [y1o (by omega)]; exact n14
  have k13 : (H2.set 13 (AI (gw + 1) (W ++ [to])))[13]? = some (AI (gw + 1) (W ++ [to])) := y7c (y6h n13)
  have k11 : (H2.set 13 (AI (gw + 1) (W ++ [to])))[11]? = some ⟨1, .arr true false 1 [[.ls 10 1 1 0 T.length]]⟩ := by rw [y1o (by omega)]; exact S2.tbx
  have k10 : (H2.set 13 (AI (gw + 1) (W ++ [to])))[10]? = some ⟨1, .arr false false 1 (tabK T)⟩ := by rw [y1o (by omega)]; exact S2.tab
  have k12 : (H2.set 13 (AI (gw + 1) (W ++ [to])))[12]? = some (AK 1 []) := by rw [y1o (by omega)]; exact S2.m0
  generalize H2.set 13 (AI (gw + 1) (W ++ [to])) = H3 at *
  have s14 := y20x (w := .ls 13 (gw + 1) 1 0 (W ++ [to]).length) k14 rfl rfl
  refine ⟨H3.set 14 ⟨1, .arr true false 1 [[.ls 13 (gw + 1) 1 0 (W ++ [to]).length]]⟩, ?_, S3d.set (by omega), ?_, ?_, ?_, gw + 1, [], ?_, y7c (y6h k14)⟩
  · rw [y1r3, l2, y5, b1, yc, ap, yc, s14, yc]
  · rw [y1o (by omega)]; exact k10
  · rw [y1o (by omega)]; exact k11
  · rw [y1o (by omega)]; exact k12
  · rw [y1o (by omega), List.append_nil]; exact k13
omit hb in
theorem y12s {H : Heap} (S : KSt H f p g T W) (h0 : to.toNat ≠ 0) (n : Fs) :
    ∃ H1, evSt 1 (.lp 10 1 to.toNat 0) (.rm (mE n)) H = some (.tup [], H1) ∧ KSt H1 f p g (T.set to.toNat (some n)) W ∧ ∀ a, a ≠ 10 → H1[a]? = H[a]? := by
  obtain ⟨gw, D, w1, w2⟩ := S.wk
  have hlt : to.toNat < T.length := by omega
  have st := y2b1 (v := .rm (mE n)) S.tab (y78 hlt) rfl rfl
  rw [y24w h0 hlt] at st
  refine ⟨_, st, ⟨S.d.set (by omega), y7c (y6h S.tab), by rw [y1o (by omega), List.length_set]; exact S.tbx, by rw [y1o (by omega)]; exact S.m0, gw, D, by rw [y1o (by omega)]; exact w1, by rw [y1o (by omega)]; exact w2⟩, fun a ha => y1o (fun e => ha e.symm)⟩
theorem y1jb {H : Heap} (S : KSt H f p g T W) (hz : kAt T 0 = some []) (hnd : ∀ t, kAt T to.toNat = some t → t.Nodup) {v : AV} {s : Fs} (hv : IsK v s) :
    ∃ H', ynn E (y8 E) 0 none true (.fn 167 [.lp 11 1 0 0, .lp 14 1 0 0]) [.int .i64 to, v] H = some (.tup [], H') ∧ KSt H' f p g (yeg s to (T, W)).1 (yeg s to (T, W)).2 := by
  have e1 : ynn E (y8 E) 0 none true (.fn 167 [.lp 11 1 0 0, .lp 14 1 0 0]) [.int .i64 to, v] H = y270 H.length (.int .i64 to) v (.lp 11 1 0 0) (.lp 14 1 0 0) (H ++ y17 2) := by
    rw [ynn]
    show y7 E (y8 E) 0 none true 167 [.int .i64 to, v, .lp 11 1 0 0, .lp 14 1 0 0] H = _
    rw [y7, if_neg (by simp), y2tq, if_pos rfl]
  rw [e1]
  have S0 := S.grow (y17 2)
  have hfb : 17 ≤ H.length := S.d.len
  have d1 : (H ++ y17 2)[H.length + 0]? = some D0 := y2v5 (by omega)
  generalize H ++ y17 2 = H0 at *
  generalize H.length = fb at *
  have hlt : to.toNat < T.length := by omega
  have l1 := yr5 S0.tbx
  have ix := y1sy (n := T.length) t0 t1 10 1 .i64
  have lr := y11t S0.tab (y78 hlt)
  obtain ⟨fr, ids, hz1, hids⟩ := hv.fz S0.m0 9
  rw [y270, l1, y5, ix, y5, lr, y5]
  unfold yeg
  simp only
  cases ho : kAt T to.toNat with
  | none =>
    have h0 : to.toNat ≠ 0 := fun e => by rw [e, hz] at ho; cases ho
    have er : rowK T to.toNat = .nilm := by rw [rowK, if_neg h0, ho]
    have ne : y9c 2 false AV.nilm AV.nilm = some (.bool true) := rfl
    have ha : yl (fz H0 y18) [v] = some ⟨[.rm (mE s)], fr && true, ids ++ []⟩ := by
      rw [yj, show y18 = 9 + 3 from rfl, hz1, y15]
    obtain ⟨c, fp⟩ := yqs (fb := fb) (f := 161) rfl ha (y12f s)
    obtain ⟨H1, st, S1, hk⟩ := y12s t0 t1 S0 h0 s
    obtain ⟨H2, r1, r2⟩ := yun t0 (by rw [List.length_set]; exact t1) hb S1 hfb (by rw [hk _ (by omega)]; exact d1)
    refine ⟨H2, ?_, r2⟩
    have hp : ye [(ids1 (.lp 11 1 0 0), []), ([], []), ([], []), (ids ++ [], []), ([], []), ([], ids1 (.lp 10 1 to.toNat 0))] [(0, 3)] = true := by
      simp [ye, yq, meets]
    rw [er, ne, y5, y23x, y22, l1, y5, fp, y6v, c, yc, ix, y5, st, yc, y1up hp, r1]
  | some t =>
    have hi := yqq hz ho
    obtain ⟨fr2, ids2, hz2, _⟩ := hi.fz S0.m0 9
    have ha : yl (fz H0 y18) [rowK T to.toNat, v] = some ⟨[.rm (mE t), .rm (mE s)], fr2 && (fr && true), ids2 ++ (ids ++ [])⟩ := by
      rw [yj, yj, show y18 = 9 + 3 from rfl, hz1, hz2, y15]
    obtain ⟨c, _⟩ := yqs (fb := fb) (f := 170) rfl ha (y2jb t s (hnd t ho))
    have ln : yv 2 (.rm (mE (y4k t s))) H0 = some (.int .i64 (y4k t s).length) := by simp [yv, y2a4]
    rw [hi.nn.1, y5, y23x, y28, y2ia, l1, y5, ix, y5, lr, y5, c, yc, y2bz, ln, y5, l1, y5, ix, y5, lr, y5, hi.len S0.m0, y5, yu, y5]
    simp only
    by_cases e : (y4k t s).length = t.length
    · rw [if_pos e, decide_eq_true (by omega), y22]
      exact ⟨H0, rfl, S0⟩
    · have h0 : to.toNat ≠ 0 := fun e2 => by
        rw [e2, hz] at ho
        injection ho with ho
        subst ho
        exact e rfl
      rw [if_neg e, decide_eq_false (by omega), y28]
      obtain ⟨H1, st, S1, hk⟩ := y12s t0 t1 S0 h0 (y4k t s)
      obtain ⟨H2, r1, r2⟩ := yun t0 (by rw [List.length_set]; exact t1) hb S1 hfb (by rw [hk _ (by omega)]; exact d1)
      refine ⟨H2, ?_, r2⟩
      rw [y2it, l1, y5, ix, y5, st, yc, r1]
end
end Go.Vm
namespace Go.Vm
open Cel
attribute [local simp] y7 y25 ym
@[simp] theorem y2qp (x : Ins) : (y8 E).p 18 [.agg (enc x)] = some ⟨.bool (throws x.op), [], true, [], []⟩ := by
  rw [y2ru]
  rcases ybp x.op with h|h|h|h|h|h|h|h|h|h|h|h|h|h|h|h|h|h|h|h|h|h|h|h|h|h|h|h|h|h|h|h|h|h|h <;> first | (simp [h, throws, calls, y1rn]; done) | (simp [lo_f h, throws, calls, y1rn]; done) | simp [hi_f h, throws, calls, y1rn]
end Go.Vm
namespace Go.Vm
open Cel
attribute [local simp] y7 y25 ym
theorem y29z {α : Type} [Cel α] (o : Option (List α)) (i : Nat) (h : i ≤ (lst o).length) (k : IntKind) : ycp (es α) (slA o) none (some (.int k i)) = some (slA (o.map (List.take i))) := by
  have h2 : (0 : Int) ≤ (i : Int) ∧ (i : Int) ≤ ((lst o).length : Int) := by omega
  cases o with
  | none =>
    have : i = 0 := by simpa using h
    subst this
    simp [ycp, slA, yyx, ya5, yhy]
  | some L =>
    simp only [ybd] at h2
    simp [ycp, slA, yyx, ya5, yhy, h2, List.map_take]
theorem y1f8 (o : Option (List Int)) (r : Int) (hl : (lst o).length ≤ 9223372036854775807) (h : Heap) : ∀ (d i : Nat), i + d = (lst o).length →
    ∃ k : Int, yir (slA o) (.int .i64 r) (.int .i64 (lst o).length) (.int .i64 i) h = some ⟨.int .i64 k, [], true, [], []⟩ ∧ (0 ≤ k ↔ r ∈ (lst o).drop i) := by
  intro d
  induction d with
  | zero =>
    intro i hi
    have e1 : (lst o).drop i = [] := List.drop_eq_nil_of_le (by omega)
    have hn : ¬ ((i : Int) < ((lst o).length : Int)) := by omega
    rw [yme, e1]
    exact ⟨-1, by simp [yon, ymy, ynq, yo3, yoe, yp8, yg7, hn], by simp⟩
  | succ d ih =>
    intro i hi
    have hlt : i < (lst o).length := by omega
    have hn : ((i : Int) < ((lst o).length : Int)) := by omega
    have k1 := y3l (o := o) (i := i) (List.getElem?_eq_getElem hlt) .i64
    have hm : r ∈ (lst o).drop i ↔ r = (lst o)[i] ∨ r ∈ (lst o).drop (i + 1) := by rw [List.drop_eq_getElem_cons hlt, List.mem_cons]
    rw [yme, hm]
    by_cases he : r = (lst o)[i]
    · exact ⟨i, by simp [yon, ymy, ynq, yo3, yoe, yp8, yg7, hn, k1, he], by simp [he]⟩
    · obtain ⟨k, h1, h2⟩ := ih (i + 1) (by omega)
      push_cast at h1
      refine ⟨k, ?_, ?_⟩
      · simp [yon, ymy, ynq, yo3, yoe, yp8, yg7, hn, k1, he, y1j hlt hl, h1]
      · rw [h2]; simp [he]
@[simp] theorem yc1 (o : Option (List Int)) (r : Int) (hl : (lst o).length ≤ 9223372036854775807) : (y8 E).p 46 [slA o, .int .i64 r] = some ⟨.bool ((lst o).contains r), [], true, [], []⟩ := by
  obtain ⟨k, h1, h2⟩ := y1f8 o r hl [] (lst o).length 0 (by omega)
  simp only [Int.ofNat_zero, List.drop_zero] at h1 h2
  have hi : (y8 E).p 45 [slA o, .int .i64 r] = some ⟨.int .i64 k, [], true, [], []⟩ := by
    rw [y2nu, ← h1]
    simp [yon, ymy, ynq, yo3, yoe, yp8, yg7]
  rw [y2o0]
  by_cases h0 : 0 ≤ k
  · have := h2.1 h0
    simp [y176, hi, h0, this]
  · have : r ∉ lst o := fun h => h0 (h2.2 h)
    simp [y176, hi, h0, this]
end Go.Vm
namespace Go.Vm
open Cel
attribute [local simp] y7 y25 ym
theorem yv3 (a b : Int) : (y8 E).p 46 [.rs 1 [[.int .i64 a]], .int .i64 b] = some ⟨.bool ([a].contains b), [], true, [], []⟩ := by
  have := yc1 (some [a]) b (by simp)
  exact this
theorem y2l2 (f : Fn) (i : Int) (hl : (lst f.code).length ≤ 9223372036854775807) : (y8 E).p 81 [.agg (enc f), .int .i64 i] = some (exO (nz (y3d f i))) := by
  rw [y2tm]
  by_cases h0 : i < 0
  · simp [ylu, yly, ylw, y1z3, y1nk, y1nd, y1fo, h0, y3d, nz]; rfl
  by_cases h1 : ((lst f.code).length : Int) ≤ i
  · simp [ylu, yly, ylw, y1z3, y1nk, y1nd, y1fo, h0, h1, y3d, nz]; rfl
  have g0 : 0 ≤ i := by omega
  have hx := y3p (f := f) (i := i.toNat) (by omega)
  have k1 := y6s (o := f.code) g0 hx .i64
  have hw := ywe g0 (by omega) hl
  have hn : y3d f i = yr1 (yk f i.toNat) i := by rw [y3d, if_neg (by omega)]
  rw [hn]
  generalize yk f i.toNat = x at *
  have e : y1fo (.agg (enc f)) (.int .i64 i) [⟨0, .dead⟩, ⟨0, .dead⟩, ⟨0, .dead⟩, ⟨0, .dead⟩, ⟨0, .dead⟩, ⟨0, .dead⟩] = ylw (.int .i64 i) (.lp 1 1 0 0) .nils [⟨1, .arr true false 5 [enc f]⟩, ⟨1, .arr true false 9 [enc x]⟩, ⟨0, .dead⟩, ⟨0, .dead⟩, ⟨0, .dead⟩, ⟨0, .dead⟩] := by
    simp [y1fo, y1nd, y1nk, y1z3, h0, h1, k1]
  rw [e, yr1]
  cases he : ends x.op with
  | true =>
    cases hd : leads x.op with
    | false => simp [ylw, yly, ylu, he, hd, nz]; rfl
    | true =>
      have := yc1 none x.t (by simp)
      simp [ylw, yly, ylu, he, hd, nz, slA] at this ⊢
      simp [this, y10, y1b, y3c, addN]
      exact y61 (by simp)
  | false =>
    cases hd : leads x.op with
    | false =>
      simp [ylw, yly, ylu, he, hd, hw, y10, y1b, y3c]
      exact y61 (by simp)
    | true =>
      have hz : fz [⟨1, .arr true false 5 [enc f]⟩, ⟨1, .arr true false 9 [enc x]⟩, ⟨1, .arr false false 1 [[.int .i64 (i + 1)]]⟩, ⟨1, .arr false false 1 [[.int .i64 (i + 1)]]⟩, ⟨0, .dead⟩, ⟨0, .dead⟩] y18 (.ls 3 1 1 0 1) = some ⟨.rs 1 [[.int .i64 (i + 1)]], true, [3]⟩ := by
        rw [y1z9]; rfl
      generalize hxt : x.t = t at *
      by_cases hc : i + 1 = t
      · subst hc
        simp [ylw, yly, ylu, he, hd, hw, y10, y1b, y3c, hz, yv3, addN, hxt]
        exact y61 (by simp)
      · have hc' : ¬ t = i + 1 := fun h => hc h.symm
        simp [ylw, yly, ylu, he, hd, hw, y10, y1b, y3c, hz, yv3, hc, hc', addN, hxt]
        exact yo4 (by simp)
theorem yye (f : Fn) (i : Int) (hl : (lst f.rows).length ≤ 10000000000000) : ∀ (d k g : Nat) (L : List Int) (o1 o2 : AO), k + d = (lst f.rows).length → L.length ≤ k →
    yss (.int .i64 i) (y2g Int 3 g L) (slA f.rows) (.int .i64 (lst f.rows).length) (.int .i64 k) [⟨1, .arr true false 5 [enc f]⟩, o1, o2, y2d g D0 L] = some (exO (nz (y2o i ((lst f.rows).drop k) L))) := by
  intro d
  induction d with
  | zero =>
    intro k g L o1 o2 hk _
    have e1 : (lst f.rows).drop k = [] := List.drop_eq_nil_of_le (by omega)
    have hn : ¬ ((k : Int) < ((lst f.rows).length : Int)) := by omega
    have hx := y50 (H := [⟨1, .arr true false 5 [enc f]⟩, o1, o2, y2d g D0 L]) (j := 3) (g := g) (o := D0) (L := L) rfl
    rw [yu9, e1]
    simp [yvn, y0n, y1ob, hn, y2o, hx]
  | succ d ih =>
    intro k g L o1 o2 hk hL
    have hlt : k < (lst f.rows).length := by omega
    have hc : ((k : Int) < ((lst f.rows).length : Int)) := by omega
    have k1 := ydi (o := f.rows) (i := k) (List.getElem?_eq_getElem hlt) .i64
    rw [yu9, List.drop_eq_getElem_cons hlt]
    generalize hr : (lst f.rows)[k] = r at *
    have ih0 := fun g L o1 o2 hL => ih (k + 1) g L o1 o2 (by omega) hL
    push_cast at ih0
    have hw := y1j hlt (by omega)
    have e11 : yvn (.int .i64 i) (y2g Int 3 g L) (slA f.rows) (.int .i64 (lst f.rows).length) (.int .i64 k) [⟨1, .arr true false 5 [enc f]⟩, o1, o2, y2d g D0 L] =
        yzw (.int .i64 i) (y2g Int 3 g L) (.lp 1 (o1.gen + 1) 0 0) (slA f.rows) (.int .i64 (lst f.rows).length) (.int .i64 k) [⟨1, .arr true false 5 [enc f]⟩, ⟨o1.gen + 1, .arr true false 4 [enc r]⟩, o2, y2d g D0 L] := by
      simp [yvn, y0n, y2hd, hc, k1]
    rw [e11]
    generalize (o1.gen + 1) = g1
    by_cases h1 : i < r.f
    · have : ¬ (r.f ≤ i ∧ i < r.t) := by omega
      simp [yzw, y1g8, h1, hw, y2o, this, ih0 g L _ _ (by omega)]
    by_cases h2 : r.t ≤ i
    · have : ¬ (r.f ≤ i ∧ i < r.t) := by omega
      simp [yzw, y1g8, h1, h2, hw, y2o, this, ih0 g L _ _ (by omega)]
    have hin : r.f ≤ i ∧ i < r.t := by omega
    rw [y2o, if_pos hin]
    have hz : ∀ o2, fz [⟨1, .arr true false 5 [enc f]⟩, ⟨g1, .arr true false 4 [enc r]⟩, o2, y2d g D0 L] y18 (y2g Int 3 g L) = some ⟨slA (nz L), true, ids1 (y2g Int 3 g L)⟩ := fun o2 => y13k rfl
    have hct := yc1 (nz L) r.at_ (by rw [y9j]; omega)
    rw [y9j] at hct
    have tail : ∀ g L o2, L.length ≤ k + 1 → y1dq (.int .i64 i) (y2g Int 3 g L) (.lp 1 g1 0 0) (slA f.rows) (.int .i64 (lst f.rows).length) (.int .i64 k) [⟨1, .arr true false 5 [enc f]⟩, ⟨g1, .arr true false 4 [enc r]⟩, o2, y2d g D0 L] =
        some (exO (nz (if r.c = [] then L else y2o i ((lst f.rows).drop (k + 1)) L))) := by
      intro g L o2 hL
      have hx := y50 (H := [⟨1, .arr true false 5 [enc f]⟩, ⟨g1, .arr true false 4 [enc r]⟩, o2, y2d g D0 L]) (j := 3) (g := g) (o := D0) (L := L) rfl
      by_cases hcl : r.c = []
      · simp [y1dq, y1ob, hcl, hx]
      · simp [y1dq, y1g8, hcl, hw, ih0 g L _ _ hL]
    unfold addN
    cases hb : L.contains r.at_ with
    | true =>
      rw [hb] at hct
      rw [if_pos rfl]
      have := tail g L o2 (by omega)
      simp [yzw, y228, h1, h2, hz, hct, this]
    | false =>
      rw [hb] at hct
      rw [if_neg Bool.false_ne_true]
      obtain ⟨g', ha⟩ := yyi (H := [⟨1, .arr true false 5 [enc f]⟩, ⟨g1, .arr true false 4 [enc r]⟩, ⟨o2.gen + 1, .arr false false 1 [[.int .i64 r.at_]]⟩, y2d g D0 L]) (fb := 0) (j := 3) (g := g) (o := D0) (y := .ls 2 (o2.gen + 1) 1 0 1) (L := L) (n := r.at_) (by simp) rfl (by omega)
      have ha' : y3c 0 (some 3) 1 8 (y2g Int 3 g L) (.ls 2 (o2.gen + 1) 1 0 1) [⟨1, .arr true false 5 [enc f]⟩, ⟨g1, .arr true false 4 [enc r]⟩, ⟨o2.gen + 1, .arr false false 1 [[.int .i64 r.at_]]⟩, y2d g D0 L] = some (y2g Int 3 g' (L ++ [r.at_]), [⟨1, .arr true false 5 [enc f]⟩, ⟨g1, .arr true false 4 [enc r]⟩, ⟨o2.gen + 1, .arr false false 1 [[.int .i64 r.at_]]⟩, y2d g' D0 (L ++ [r.at_])]) := ha
      have := tail g' (L ++ [r.at_]) ⟨o2.gen + 1, .arr false false 1 [[.int .i64 r.at_]]⟩ (by simp; omega)
      simp [yzw, y228, h1, h2, hz, hct, y10, y1b, ha', this]
theorem y22a (f : Fn) (i : Int) (hl : (lst f.rows).length ≤ 10000000000000) : (y8 E).p 79 [.agg (enc f), .int .i64 i] = some (exO (nz (y11 f i))) := by
  rw [y2u9]
  by_cases h0 : i < 0
  · simp [yoo, ymh, h0, y11, nz]; rfl
  by_cases h1 : ((lst f.code).length : Int) ≤ i
  · simp [yoo, ymh, h0, h1, y11, nz]; rfl
  have g0 : 0 ≤ i := by omega
  have hx := y3p (f := f) (i := i.toNat) (by omega)
  have k1 := y6s (o := f.code) g0 hx .i64
  have hn : y11 f i = if throws (yk f i.toNat).op then y2o i (lst f.rows) [] else [] := by rw [y11, if_neg (by omega)]
  rw [hn]
  generalize yk f i.toNat = x at *
  have lp := yye f i hl _ 0 0 [] D0 D0 (Nat.zero_add _) (Nat.zero_le _)
  simp only [ydm, ydv, List.drop_zero, Int.ofNat_zero] at lp
  cases ht : throws x.op with
  | false => simp [yoo, ymh, h0, h1, k1, ht, nz]; rfl
  | true => simp [yoo, ymh, y1rk, y1ou, h0, h1, k1, ht, lp]
end Go.Vm
namespace Go.Vm
open Cel
abbrev V1 : AV := .lp 0 1 0 0
abbrev V2 : AV := .lp 1 1 0 0
abbrev V3 : AV := .lp 11 1 0 0
abbrev V4 : AV := .lp 14 1 0 0
abbrev V5 : AV := .fn 167 [V3, V4]
section
variable {f : Fn} {p g : Nat → Nat}
theorem y2cv {s : Fs} (hs : FsOk f s) (l : List Int) (hl : ∀ to ∈ l, 0 ≤ to ∧ to < (lst f.code).length ∧ ∀ c, yav f to.toNat c → c ∈ s) (hll : l.length ≤ 1000000) :
    ∀ (d k : Nat), k + d = l.length → ∀ (H : Heap) (T : KTab) (W : List Int), KSt H f p g T W → TOkK f T → meaK f (T, W) ≤ 1000000000 →
      ∃ H', yji V1 V2 V3 V4 V5 (.rm (mE s)) (slA (nz l)) (.int .i64 l.length) (.int .i64 (k : Int)) H = ydb V1 V2 V3 V4 V5 H' ∧ KSt H' f p g (y4g s (l.drop k) (T, W)).1 (y4g s (l.drop k) (T, W)).2 := by
  intro d
  induction d with
  | zero =>
    intro k hkd H T W S hT hm
    have hc : ¬ (k : Int) < (l.length : Int) := by omega
    have e : l.drop k = [] := List.drop_eq_nil_of_le (by omega)
    rw [e, yp3, y13d, y12, y5, decide_eq_false hc, y152, y28]
    exact ⟨H, rfl, S⟩
  | succ d ih =>
    intro k hkd H T W S hT hm
    have hlt : k < l.length := by omega
    have hc : (k : Int) < (l.length : Int) := by omega
    have kx := y3l (o := nz l) (i := k) (by rw [y9j]; exact List.getElem?_eq_getElem hlt) .i64
    have hd : l.drop k = l[k] :: l.drop (k + 1) := List.drop_eq_getElem_cons hlt
    have hto := hl l[k] (List.getElem_mem hlt)
    rw [hd]
    generalize l[k] = to at *
    have lx : ∀ H : Heap, evLd false 1 (.rp [.int .i64 to]) H = some (.int .i64 to) := fun H => by simp
    have hTl := hT.len
    have hWb : W.length ≤ 1000000000 := Nat.le_trans (Nat.le_add_left _ _) hm
    obtain ⟨H1, c1, S1⟩ := y1jb hto.1 (by rw [hTl]; exact hto.2.1) hWb S hT.zero (fun t ht => (hT.rows _ t ht).1) (v := .rm (mE s)) (s := s) (.inl rfl)
    obtain ⟨a1, _⟩ := ybw (p := (T, W)) hT hs hto.2.2 hto.1 hto.2.1
    have e2 : y4g s (to :: l.drop (k + 1)) (T, W) = y4g s (l.drop (k + 1)) (yeg s to (T, W)) := rfl
    rw [e2]
    have hp := a1.pot
    have hok := a1.ok
    generalize yeg s to (T, W) = q at *
    obtain ⟨T1, W1⟩ := q
    obtain ⟨H2, r1, r2⟩ := ih (k + 1) (by omega) H1 T1 W1 S1 hok (Nat.le_trans hp hm)
    refine ⟨H2, ?_, r2⟩
    rw [yp3, y13d, y12, y5, decide_eq_true hc, y152, y22, y1u8, kx, y5, lx, y5, c1, yc, y1nc, yik hlt (by omega), y5]
    exact r1
theorem y2bl {t : Fs} {i : Nat} (ht : FsOk f t) (l : List Int) (hl : ∀ to ∈ l, 0 ≤ to ∧ to < (lst f.code).length ∧ ∀ c, yav f to.toNat c → c ∈ t) (hll : l.length ≤ 1000000) :
    ∀ (d k : Nat), k + d = l.length → ∀ (H : Heap) (T : KTab) (W : List Int), KSt H f p g T W → TOkK f T → kAt T i = some t → meaK f (T, W) ≤ 1000000000 →
      ∃ H', yjd V1 V2 V3 V4 V5 (.int .i64 (i : Int)) (slA (nz l)) (.int .i64 l.length) (.int .i64 (k : Int)) H = y138 V1 V2 V3 V4 V5 (.int .i64 (i : Int)) H' ∧ KSt H' f p g (y4g t (l.drop k) (T, W)).1 (y4g t (l.drop k) (T, W)).2 := by
  intro d
  induction d with
  | zero =>
    intro k hkd H T W S hT hi hm
    have hc : ¬ (k : Int) < (l.length : Int) := by omega
    have e : l.drop k = [] := List.drop_eq_nil_of_le (by omega)
    rw [e, ypa, y14d, y12, y5, decide_eq_false hc, y1a6, y28]
    exact ⟨H, rfl, S⟩
  | succ d ih =>
    intro k hkd H T W S hT hi hm
    have hlt : k < l.length := by omega
    have hc : (k : Int) < (l.length : Int) := by omega
    have kx := y3l (o := nz l) (i := k) (by rw [y9j]; exact List.getElem?_eq_getElem hlt) .i64
    have hd : l.drop k = l[k] :: l.drop (k + 1) := List.drop_eq_getElem_cons hlt
    have hto := hl l[k] (List.getElem_mem hlt)
    rw [hd]
    generalize l[k] = to at *
    have lx : ∀ H : Heap, evLd false 1 (.rp [.int .i64 to]) H = some (.int .i64 to) := fun H => by simp
    have hTl := hT.len
    have hiT := y2b8 hi
    have hWb : W.length ≤ 1000000000 := Nat.le_trans (Nat.le_add_left _ _) hm
    have lb := yr5 S.tbx
    have ix := y1sy (n := T.length) (p := (i : Int)) (by omega) (by omega) 10 1 .i64
    rw [Int.toNat_natCast] at ix
    have lr := y11t S.tab (y78 hiT)
    obtain ⟨H1, c1, S1⟩ := y1jb hto.1 (by rw [hTl]; exact hto.2.1) hWb S hT.zero (fun t ht => (hT.rows _ t ht).1) (yqq hT.zero hi)
    obtain ⟨a1, _⟩ := ybw (p := (T, W)) hT ht hto.2.2 hto.1 hto.2.1
    have hse := yng (p := (T, W)) (to := to) hi ⟨hto.1, by rw [hTl]; exact hto.2.1⟩
    have e2 : y4g t (to :: l.drop (k + 1)) (T, W) = y4g t (l.drop (k + 1)) (yeg t to (T, W)) := rfl
    rw [e2]
    have hp := a1.pot
    have hok := a1.ok
    generalize yeg t to (T, W) = q at *
    obtain ⟨T1, W1⟩ := q
    obtain ⟨H2, r1, r2⟩ := ih (k + 1) (by omega) H1 T1 W1 S1 hok hse (Nat.le_trans hp hm)
    refine ⟨H2, ?_, r2⟩
    rw [ypa, y14d, y12, y5, decide_eq_true hc, y1a6, y22, y1v7, kx, y5, lx, y5, lb, y5, ix, y5, lr, y5, c1, yc, y1nz, yik hlt (by omega), y5]
    exact r1
variable (w : Wf f) (hr : (lst f.rows).length ≤ 1000000)
include w hr
theorem y2uz : ∀ (m : Nat) (H : Heap) (T : KTab) (W : List Int), meaK f (T, W) ≤ m → KSt H f p g T W → InvK f (T, W) → meaK f (T, W) ≤ 1000000000 →
    ∃ H' T', ydb V1 V2 V3 V4 V5 H = y22x V1 V2 V3 H' ∧ KSt H' f p g T' [] ∧ InvK f (T', []) := by
  intro m
  induction m with
  | zero =>
    intro H T W hm S v hb
    have hW : W = [] := by
      refine List.eq_nil_of_length_eq_zero ?_
      unfold meaK at hm
      simp only at hm
      omega
    subst hW
    obtain ⟨gw, D, w1, w2⟩ := S.wk
    have l := yr5 w2
    refine ⟨H, T, ?_, S, v⟩
    rw [yew, yt8, l, y5, y6q, y5, y7o, y5, decide_eq_false (by simp), y28]
  | succ m ih =>
    intro H T W hm S v hb
    by_cases hW : W = []
    · subst hW
      obtain ⟨gw, D, w1, w2⟩ := S.wk
      have l := yr5 w2
      refine ⟨H, T, ?_, S, v⟩
      rw [yew, yt8, l, y5, y6q, y5, y7o, y5, decide_eq_false (by simp), y28]
    · obtain ⟨W', i, rfl⟩ : ∃ W' i, W = W' ++ [i] := ⟨W.dropLast, W.getLast hW, (List.dropLast_concat_getLast hW).symm⟩
      obtain ⟨gw, D, w1, w2⟩ := S.wk
      obtain ⟨q1, q2⟩ := y28a w v
      obtain ⟨i0, i1, hn⟩ := v.wk i (by simp)
      obtain ⟨t, ht⟩ := notN hn
      simp only at ht
      have ei : ((i.toNat : Nat) : Int) = i := by omega
      have hil : i.toNat < (lst f.code).length := by omega
      have hTok := v.ok
      simp only at hTok
      have hWl : (W' ++ [i]).length = W'.length + 1 := by simp
      have hWb : W'.length ≤ 1000000000 := by unfold meaK at hb; simp only [hWl] at hb; omega
      rw [hWl] at w2
      have l1 := yr5 w2
      have gt : y6 .gtr (.int .i64 ((W'.length + 1 : Nat) : Int)) (.int .i64 0) = some (.bool true) := by rw [y7o, decide_eq_true (by omega)]
      have sb : y6 .sub (.int .i64 ((W'.length + 1 : Nat) : Int)) (.int .i64 1) = some (.int .i64 (W'.length : Int)) := by
        rw [yuq]
        congr 2
        rw [y2r] <;> omega
      have ix := y2l1 13 gw W'.length
      have hl13 := y2sh (α := Int) (H := H) (id := 13) (g := gw) (i := W'.length) (x := i) (v := .int .i64 i) w1 (by simp) rfl
      have sl := y2e3 13 gw W'.length
      have st := y20x (w := .ls 13 gw 1 0 W'.length) w2 rfl rfl
      have S1 : KSt (H.set 14 ⟨1, .arr true false 1 [[.ls 13 gw 1 0 W'.length]]⟩) f p g T W' := by
        refine ⟨S.d.set (by omega), by rw [y1o (by omega)]; exact S.tab, by rw [y1o (by omega)]; exact S.tbx, by rw [y1o (by omega)]; exact S.m0, gw, i :: D, ?_, y7c (y6h w2)⟩
        rw [y1o (by omega), w1, List.append_assoc]
        rfl
      generalize H.set 14 ⟨1, .arr true false 1 [[.ls 13 gw 1 0 W'.length]]⟩ = H1 at *
      have hcl : (y11 f i).length ≤ 1000000 := Nat.le_trans (yd4 f i) hr
      have hnl : (y3d f i).length ≤ 1000000 := by have := yhs f i; omega
      have fr : ∀ l : List Int, (exO (nz l)).fresh = true := fun l => by rw [yuy, y9j]; simp
      have c79 := S1.d.call2 (E := E) (C := y8 E) (fb := 0) (sl := none) (k := 79) (i := i) rfl (fr _) (y22a f i (by omega)) ⟨_, yvo _, rfl⟩
      have ln : ∀ (l : List Int) (H : Heap), yv 1 (slA (nz l)) H = some (.int .i64 l.length) := fun l H => by rw [y8z, y9j]
      have hmea1 : meaK f (T, W') ≤ 1000000000 := by unfold meaK at hb ⊢; simp only [hWl] at hb ⊢; omega
      obtain ⟨f1, _, f3, f4, f5, f6, f7, f8⟩ := yx0 w (p := (T, W')) hTok hil ht
      rw [ei] at f3 f4 f7 f8
      obtain ⟨H2, r1, S2⟩ := y2bl (t := t) (i := i.toNat) f5 (y11 f i) f7 hcl _ 0 (Nat.zero_add _) H1 T W' S1 hTok ht hmea1
      rw [List.drop_zero] at S2
      rw [ei] at r1
      have hA := (y8v f5 (y11 f i) (T, W') hTok f7).1.pot
      have etK : tK T i.toNat = t := by rw [tK, ht]; rfl
      have er : rndK f i.toNat (T, W') = y4g (behK t (yk f i.toNat)) (y3d f i) (y4g t (y11 f i) (T, W')) := by rw [rndK, ei]; simp only [etK]
      rw [er] at q1 q2
      generalize y4g t (y11 f i) (T, W') = q at *
      obtain ⟨T1, W1⟩ := q
      simp only at S2 f3 f4 hA
      have lb := yr5 S2.tbx
      have hT1 := y2b8 f4
      have ixT := y1sy (n := T1.length) (p := i) i0 (by omega) 10 1 .i64
      have lr := y11t S2.tab (y78 hT1)
      obtain ⟨L, hL⟩ : ∃ L, f.code = some L := by
        cases hc : f.code with
        | none => rw [hc] at hil; simp at hil
        | some L => exact ⟨L, rfl⟩
      have lc := S2.d.ldc
      have hov : ownV (p 2) (g 2) f.code = .ls (p 2) (g 2) 9 0 (lst f.code).length := by rw [hL]; rfl
      rw [hov] at lc
      have ixC := y1mn hil (p 2) (g 2) 9 .i64
      rw [ei] at ixC
      have lC := S2.d.ix hL (i := i.toNat) (x := yk f i.toNat) (by have := y3p hil; rwa [hL] at this)
      obtain ⟨fr1, ids1', hz1, _⟩ := (yqq f3.zero f4).fz S2.m0 9
      have ha : yl (fz H2 y18) [rowK T1 i.toNat, .agg (enc (yk f i.toNat))] = some ⟨[.rm (mE t), .agg (enc (yk f i.toNat))], fr1 && (scal (yk f i.toNat) && true), ids1' ++ ([] ++ [])⟩ := by
        rw [yj, yj, y81, show y18 = 9 + 3 from rfl, hz1, y15]
      obtain ⟨c168, _⟩ := yqs (fb := 0) (f := 168) rfl ha (y2ma t (yk f i.toNat) f5.nd)
      have c81 := S2.d.call2 (E := E) (C := y8 E) (fb := 0) (sl := none) (k := 81) (i := i) rfl (fr _) (y2l2 f i (by have := w.n2; omega)) ⟨_, yvo _, rfl⟩
      have hmea2 : meaK f (T1, W1) ≤ 1000000000 := by unfold meaK at hmea1 ⊢; simp only at hmea1 hA ⊢; omega
      obtain ⟨H3, r2, S3⟩ := y2cv (s := behK t (yk f i.toNat)) f6 (y3d f i) f8 hnl _ 0 (Nat.zero_add _) H2 T1 W1 S2 f3 hmea2
      rw [List.drop_zero] at S3
      generalize y4g (behK t (yk f i.toNat)) (y3d f i) (T1, W1) = q2' at *
      obtain ⟨T2, W2⟩ := q2'
      obtain ⟨H4, T', r3, S4, v4⟩ := ih H3 T2 W2 (by omega) S3 q1 (by omega)
      refine ⟨H4, T', ?_, S4, v4⟩
      have z : ((0 : Nat) : Int) = 0 := rfl
      rw [z] at r1 r2
      have fa : evFa 3 V1 = some (.lp 0 1 0 3) := rfl
      rw [yew, yt8, l1, y5, y6q, y5, gt, y5, y22, y1zm, l1, y5, y5, y6q, y5, sb, y5, ix, y5, hl13, y5, y1vh, l1, y5, y5, y6q, y5, sb, y5, sl, y5, st, yc,
        y1w0, S1.d.ld, y5, c79, yc, ln, y5, r1, y138, lb, y5, ixT, y5, lr, y5, fa, y5, lc, y5, ixC, y5, lC, y5, c168, yc, y1jo, S2.d.ld, y5, c81, yc, ln, y5, r2, r3]
end
end Go.Vm
namespace Go.Vm
def nopI : Ins := ⟨33, 0, 0, 0, 0, 0, 0, [], none⟩
end Go.Vm
namespace Go.Vm
open Cel
attribute [local simp] y7 y25 ym
@[simp] theorem y2t6 (a b c d : AV) (r : List AV) (h : r.length = 4) : y13 0 [a, b, c, d] r = [a, b, c, d] := by
  simp [y13, ← h]
@[simp] theorem y2s2 (h : Heap) (a b c d : Int) (o : Bool) : yd h (.tup [.agg [.int .i64 a, .int .i64 b, .int .i64 c, .int .i64 d], .bool o]) = some (exK (a, b, c, d, o)) := rfl
@[simp] theorem y2vk (a b c d : Int) : yx [.int .i64 0, .int .i64 0, .int .i64 0, .int .i64 0] [(0, 1, .int .i64 a), (1, 1, .int .i64 b), (2, 1, .int .i64 c), (3, 1, .int .i64 d)] = some (.agg [.int .i64 a, .int .i64 b, .int .i64 c, .int .i64 d]) := rfl
@[simp] theorem y2rp : yx [.int .i64 0, .int .i64 0, .int .i64 0, .int .i64 0] [] = some (.agg [.int .i64 0, .int .i64 0, .int .i64 0, .int .i64 0]) := rfl
@[simp] theorem y2rq (h : Heap) (a b c : Int) : fz h y18 (.tup [.int .i64 a, .int .i64 b, .int .i64 c]) = some ⟨.tup [.int .i64 a, .int .i64 b, .int .i64 c], true, []⟩ := rfl
@[simp] theorem y2sp (h : Heap) (a b c d : Int) (o : Bool) : fz h y18 (.tup [.agg [.int .i64 a, .int .i64 b, .int .i64 c, .int .i64 d], .bool o]) = some ⟨.tup [.agg [.int .i64 a, .int .i64 b, .int .i64 c, .int .i64 d], .bool o], true, []⟩ := rfl
@[simp] theorem agg4 (a b c d : AV) : y6b true 4 [a, b, c, d] = some (.agg [a, b, c, d]) := rfl
set_option maxHeartbeats 4000000 in
theorem y2ej (x : Ins) (h : x.op = 1 ∨ x.op = 2 ∨ x.op = 3 ∨ x.op = 4 ∨ x.op = 7 ∨ x.op = 8 ∨ x.op = 9 ∨ x.op = 10 ∨ x.op = 11 ∨ x.op = 13 ∨ x.op = 14 ∨ x.op = 15 ∨ x.op = 16 ∨ x.op = 17 ∨ x.op = 18 ∨ x.op = 19 ∨ x.op = 20 ∨ x.op = 27 ∨ x.op = 31 ∨ x.op = 32 ∨ x.op = 33) : (y8 E).p 47 [.agg (enc x)] = some (exK (yo x)) := by
  rw [y1k5]
  rcases h with h|h|h|h|h|h|h|h|h|h|h|h|h|h|h|h|h|h|h|h|h <;> simp [h, yh4, yf3, yh6, yh9, yh8, yhc, yhb, yha, yh5, ya4, y9z, y9q, ya2, y94, ya0, y97, y9s, y9f, y9b, y9m, y99, y9e, y9d, y9l, y9o, y9i, y95, y9g, y93, y8c, y9u, ya1, y9a, y9p, y9k, y9r, ya3, y9h, y9n, y68, y9v, y7y, y9t, y9x, y9w, ye, yq, meets, ids1, yo]
theorem y2et (x : Ins) (hs : x.s.length ≤ 9223372036854775807) (h : x.op = 12 ∨ x.op = 21 ∨ x.op = 22) : (y8 E).p 47 [.agg (enc x)] = some (exK (yo x)) := by
  rw [y1k5]
  have ht := y2ls x.s hs
  rcases h with h|h|h <;> simp [h, ht, yh4, yf3, yh6, yh9, yh8, yhc, yhb, yha, yh5, ya4, y9z, y9q, ya2, y94, ya0, y97, y9s, y9f, y9b, y9m, y99, y9e, y9d, y9l, y9o, y9i, y95, y9g, y93, y8c, y9u, ya1, y9a, y9p, y9k, y9r, ya3, y9h, y9n, y68, y9v, y7y, y9t, y9x, y9w, ye, yq, meets, ids1, yo]
theorem y2dm (x : Ins) (hn : -9223372036854775808 ≤ x.n ∧ x.n < 9223372036854775808) (h : x.op = 5 ∨ x.op = 6) : (y8 E).p 47 [.agg (enc x)] = some (exK (yo x)) := by
  rw [y1k5]
  have hk := y2bk x.n
  have hw := y2r hn.1 hn.2
  rcases h with h|h
  · simp [h, hk, hw, yh4, yf3, yh6, yh9, yh8, yhc, yhb, yha, yh5, ya4, y9z, y9q, ya2, y94, ya0, y97, y9s, y9f, y9b, y9m, y99, y9e, y9d, y9l, y9o, y9i, y95, y9g, y93, y8c, y9u, ya1, y9a, y9p, y9k, y9r, ya3, y9h, y9n, y68, y9v, y7y, y9t, y9x, y9w, ye, yq, meets, ids1, yo]
  · by_cases h0 : (numK x.n).1 = 0
    · simp [h, hk, hw, h0, yh4, yf3, yh6, yh9, yh8, yhc, yhb, yha, yh5, ya4, y9z, y9q, ya2, y94, ya0, y97, y9s, y9f, y9b, y9m, y99, y9e, y9d, y9l, y9o, y9i, y95, y9g, y93, y8c, y9u, ya1, y9a, y9p, y9k, y9r, ya3, y9h, y9n, y68, y9v, y7y, y9t, y9x, y9w, ye, yq, meets, ids1, yo]
    · simp [h, hk, hw, h0, yh4, yf3, yh6, yh9, yh8, yhc, yhb, yha, yh5, ya4, y9z, y9q, ya2, y94, ya0, y97, y9s, y9f, y9b, y9m, y99, y9e, y9d, y9l, y9o, y9i, y95, y9g, y93, y8c, y9u, ya1, y9a, y9p, y9k, y9r, ya3, y9h, y9n, y68, y9v, y7y, y9t, y9x, y9w, ye, yq, meets, ids1, yo]
theorem y2gj (x : Ins) (h : x.op = 28) : (y8 E).p 47 [.agg (enc x)] = some (exK (yo x)) := by
  rw [y1k5]
  by_cases h0 : 0 ≤ x.n
  · simp [h, h0, yh4, yf3, yh6, yh9, yh8, yhc, yhb, yha, yh5, ya4, y9z, y9q, ya2, y94, ya0, y97, y9s, y9f, y9b, y9m, y99, y9e, y9d, y9l, y9o, y9i, y95, y9g, y93, y8c, y9u, ya1, y9a, y9p, y9k, y9r, ya3, y9h, y9n, y68, y9v, y7y, y9t, y9x, y9w, ye, yq, meets, ids1, yo]
  · simp [h, h0, yh4, yf3, yh6, yh9, yh8, yhc, yhb, yha, yh5, ya4, y9z, y9q, ya2, y94, ya0, y97, y9s, y9f, y9b, y9m, y99, y9e, y9d, y9l, y9o, y9i, y95, y9g, y93, y8c, y9u, ya1, y9a, y9p, y9k, y9r, ya3, y9h, y9n, y68, y9v, y7y, y9t, y9x, y9w, ye, yq, meets, ids1, yo]
end Go.Vm
namespace Go.Vm
open Cel
attribute [local simp] y7 y25 ym
theorem y24p (x : Ins) (h : x.op = 29) : (y8 E).p 51 [.agg (enc x)] = some (exK (yo x)) := by
  rw [y22c]
  by_cases h0 : x.b = -1 <;> by_cases h1 : x.n = 0 <;> simp [h, h0, h1, yyb, yw7, yy9, yys, yrk, yyg, yze, yxe, yyd, yl1, ych, ylp, yle, yio, yka, yjm, yjw, yht, ye, yq, meets, yo]
theorem y222 (x : Ins) (h : x.op = 30) : (y8 E).p 51 [.agg (enc x)] = some (exK (yo x)) := by
  rw [y22c]
  by_cases h0 : x.a = -1 <;> simp [h, h0, yyb, yw7, yy9, yys, yrk, yyg, yze, yxe, yyd, yl1, ych, ylp, yle, yio, yka, yjm, yjw, yht, ye, yq, meets, yo]
set_option maxHeartbeats 4000000 in
theorem ypp (x : Ins) (h : x.op = 23 ∨ x.op = 24 ∨ x.op = 25 ∨ x.op = 26) : (y8 E).p 51 [.agg (enc x)] = some (exK (yo x)) := by
  rw [y22c]
  have e1 : ((0 : Int) < ((lst x.args).length : Int)) = (0 < (lst x.args).length) := by simp
  have e2 : (((lst x.args).length : Int) ≤ (21 : Int)) = ((lst x.args).length ≤ 21) := by simp; omega
  by_cases h0 : x.d = -1 <;> by_cases h1 : 0 ≤ x.n <;> by_cases h2 : 0 < (lst x.args).length <;> rcases h with h|h|h|h <;> simp [h, h0, h1, h2, e1, e2, yyb, yw7, yy9, yys, yrk, yyg, yze, yxe, yyd, yl1, ych, ylp, yle, yio, yka, yjm, yjw, yht, ye, yq, meets, yo]
theorem y2jn (x : Ins) (h : x.op < 1 ∨ 33 < x.op) : (y8 E).p 51 [.agg (enc x)] = some (exK (yo x)) := by
  rw [y22c, yna h]
  rcases h with h|h
  · simp [lo_f h, yyb, yw7, yy9, yys, yrk, yyg, yze, yxe, yyd, yl1, ych, ylp, yle, yio, yka, yjm, yjw, yht, ye, yq, meets]
  · simp [hi_f h, yyb, yw7, yy9, yys, yrk, yyg, yze, yxe, yyd, yl1, ych, ylp, yle, yio, yka, yjm, yjw, yht, ye, yq, meets]
theorem y2ji (x : Ins) (h : x.op = 29 ∨ x.op = 30 ∨ x.op = 23 ∨ x.op = 24 ∨ x.op = 25 ∨ x.op = 26 ∨ x.op < 1 ∨ 33 < x.op) : (y8 E).p 47 [.agg (enc x)] = some (exK (yo x)) := by
  have ho : (y8 E).p 51 [.agg (enc x)] = some (exK (yo x)) := by
    rcases h with h|h|h|h|h|h|h
    · exact y24p x h
    · exact y222 x h
    · exact ypp x (.inl h)
    · exact ypp x (.inr (.inl h))
    · exact ypp x (.inr (.inr (.inl h)))
    · exact ypp x (.inr (.inr (.inr h)))
    · exact y2jn x h
  rw [y1k5]
  generalize yo x = k at ho
  obtain ⟨a, b, c, d, o⟩ := k
  simp only [exK] at ho
  rcases h with h|h|h|h|h|h|h|h
  iterate 6 (simp [h, ho, yh4, yf3, yh6, yh9, yh8, yhc, yhb, yha, yh5, ya4, y9z, y9q, ya2, y94, ya0, y97, y9s, y9f, y9b, y9m, y99, y9e, y9d, y9l, y9o, y9i, y95, y9g, y93, y8c, y9u, ya1, y9a, y9p, y9k, y9r, ya3, y9h, y9n, y68, y9v, y7y, y9t, y9x, y9w, ye, yq, meets])
  · simp [lo_f h, ho, yh4, yf3, yh6, yh9, yh8, yhc, yhb, yha, yh5, ya4, y9z, y9q, ya2, y94, ya0, y97, y9s, y9f, y9b, y9m, y99, y9e, y9d, y9l, y9o, y9i, y95, y9g, y93, y8c, y9u, ya1, y9a, y9p, y9k, y9r, ya3, y9h, y9n, y68, y9v, y7y, y9t, y9x, y9w, ye, yq, meets]
  · simp [hi_f h, ho, yh4, yf3, yh6, yh9, yh8, yhc, yhb, yha, yh5, ya4, y9z, y9q, ya2, y94, ya0, y97, y9s, y9f, y9b, y9m, y99, y9e, y9d, y9l, y9o, y9i, y95, y9g, y93, y8c, y9u, ya1, y9a, y9p, y9k, y9r, ya3, y9h, y9n, y68, y9v, y7y, y9t, y9x, y9w, ye, yq, meets]
theorem y2jr (x : Ins) (hn : -9223372036854775808 ≤ x.n ∧ x.n < 9223372036854775808) (hs : x.s.length ≤ 9223372036854775807) : (y8 E).p 47 [.agg (enc x)] = some (exK (yo x)) := by
  by_cases h1 : x.op = 1 ∨ x.op = 2 ∨ x.op = 3 ∨ x.op = 4 ∨ x.op = 7 ∨ x.op = 8 ∨ x.op = 9 ∨ x.op = 10 ∨ x.op = 11 ∨ x.op = 13 ∨ x.op = 14 ∨ x.op = 15 ∨ x.op = 16 ∨ x.op = 17 ∨ x.op = 18 ∨ x.op = 19 ∨ x.op = 20 ∨ x.op = 27 ∨ x.op = 31 ∨ x.op = 32 ∨ x.op = 33
  · exact y2ej x h1
  by_cases h2 : x.op = 12 ∨ x.op = 21 ∨ x.op = 22
  · exact y2et x hs h2
  by_cases h3 : x.op = 5 ∨ x.op = 6
  · exact y2dm x hn h3
  by_cases h4 : x.op = 28
  · exact y2gj x h4
  exact y2ji x (by omega)
end Go.Vm
namespace Go.Vm
open Cel
attribute [local simp] y7 y25 ym
abbrev HR (f : Fn) (x : Ins) (a b c d : Int) : Heap := [⟨1, .arr true false 5 [enc f]⟩, ⟨1, .arr true false 9 [enc x]⟩, ⟨1, .arr true false 4 [[.int .i64 a, .int .i64 b, .int .i64 c, .int .i64 d]]⟩]
abbrev P0 : AV := .lp 0 1 0 0
abbrev P1 : AV := .lp 1 1 0 0
abbrev P2 : AV := .lp 2 1 0 0
theorem yd9 {f : Fn} {r : Int} (h : inR (lst f.regs) r = true) : yn 1 (slA f.regs) (.int .i64 r) = some (.rp [.int .i64 (regK (lst f.regs) r)]) := by
  obtain ⟨h0, h1, h2⟩ := yzl h
  exact y19h h0 h2 .i64
theorem yz3 (f : Fn) (x : Ins) (a b c d : Int) (i : Nat) (w r : Int) (v26 : AV) (hi : i < 4) (hw : [a, b, c, d][i]? = some w) :
    ye6 P0 P1 P2 (.int .i64 i) (.int .i64 r) v26 (.int .i64 i) (HR f x a b c d) =
      if y24 (lst f.regs) w r then yv1 P0 P1 P2 v26 (.int .i64 i) (HR f x a b c d) else some ⟨.bool false, [], true, [], []⟩ := by
  have e1 : yqu 4 1 P2 (.int .i64 i) = some (.lp 2 1 0 i) := by
    have : ((i : Int) < (4 : Int)) := by omega
    simp [yqu, this]
  have e2 : ∀ f x, evLd false 1 (.lp 2 1 0 i) (HR f x a b c d) = some (.int .i64 w) := by
    intro f x
    simp only [y3y]
    have : (yt (HR f x a b c d) 2 1) = some (false, 4, [[.int .i64 a, .int .i64 b, .int .i64 c, .int .i64 d]]) := rfl
    rw [this]
    simp only [List.getElem?_cons_zero, y79]
    match i, hi, hw with
    | 0, _, hw => simp at hw; simp [hw]
    | 1, _, hw => simp at hw; simp [hw]
    | 2, _, hw => simp at hw; simp [hw]
    | 3, _, hw => simp at hw; simp [hw]
  have e2 := e2 f x
  by_cases hw0 : w < 0
  · simp [ye6, e1, e2, y24, hw0]
  by_cases h0 : r < 0
  · have : ¬ 0 ≤ r := by omega
    simp [ye6, yjv, e1, e2, y24, hw0, h0, inR, this]
  by_cases h1 : r < ((lst f.regs).length : Int)
  · have h0' : 0 ≤ r := by omega
    have h1' : ¬ ((lst f.regs).length : Int) ≤ r := by omega
    have hin : inR (lst f.regs) r = true := by simp [inR, h0', h1]
    have hr := yd9 hin
    by_cases h2 : 0 < w
    · have h2' : ¬ w ≤ 0 := by omega
      by_cases h3 : regK (lst f.regs) r = w
      · simp [ye6, yjv, e1, e2, y24, hw0, h0, h1', h2, h2', hin, hr, h3]
      · simp [ye6, yjv, e1, e2, y24, hw0, h0, h1', h2, h2', hin, hr, h3]
    · have h2' : w ≤ 0 := by omega
      simp [ye6, yjv, e1, e2, y24, hw0, h0, h1', h2, h2', hin]
  · have h1' : ((lst f.regs).length : Int) ≤ r := by omega
    simp [ye6, yjv, e1, e2, y24, hw0, h0, h1', h1, inR]
theorem y1hp (f : Fn) (x : Ins) (a b c d : Int) (h1 : x.op = 1 → inR (lst f.regs) x.d = true) (h4 : x.op = 4 → inR (lst f.regs) x.d = true ∧ inR (lst f.regs) x.a = true) (h7 : x.op = 7 → inR (lst f.regs) x.a = true)
    (h30 : x.op = 30 → x.a = -1 ∨ inR (lst f.regs) x.a = true) :
    ya6 P0 P1 (HR f x a b c d) = some ⟨.bool (y3k (lst f.regs) f.ret (lst f.code).length x), [], true, [], []⟩ := by
  by_cases o1 : x.op = 1
  · have hr := yd9 (h1 o1)
    by_cases k3 : regK (lst f.regs) x.d = 3
    · simp [ya6, y3k, o1, hr, k3]
    · by_cases k2 : regK (lst f.regs) x.d = 2
      · simp [ya6, y3k, o1, hr, k2]
      · simp [ya6, y3k, o1, hr, k2, k3]
  by_cases o4 : x.op = 4
  · have hr := yd9 (h4 o4).1
    have hr2 := yd9 (h4 o4).2
    simp [ya6, y3k, o4, hr, hr2]
  by_cases o7 : x.op = 7
  · have hr := yd9 (h7 o7)
    simp [ya6, y3k, o7, hr]
  by_cases o30 : x.op = 30
  · by_cases ha : x.a = -1
    · by_cases hz : f.ret = 0
      · simp [ya6, y3k, o30, ha, hz]
      · simp [ya6, y3k, o30, ha, hz]
    · have hr := yd9 ((h30 o30).resolve_left ha)
      by_cases hz : f.ret = 0
      · simp [ya6, y3k, o30, ha, hz]
      · simp [ya6, y3k, o30, ha, hz, hr]
  · cases hl : leads x.op with
    | false => simp [ya6, y1yv, y3k, o1, o4, o7, o30, hl]
    | true =>
      by_cases ht : 0 ≤ x.t
      · simp [ya6, y1yv, y3k, o1, o4, o7, o30, hl, ht]
      · simp [ya6, y1yv, y3k, o1, o4, o7, o30, hl, ht]
end Go.Vm
namespace Go.Vm
open Cel
attribute [local simp] y7 y25 ym
theorem yty (f : Fn) (x : Ins) (a b c d : Int) (i : Nat) (r : Int) (v63 v64 : AV) :
    yjs P0 P1 (.int .i64 i) (.int .i64 r) v63 v64 (.int .i64 i) (HR f x a b c d) =
      if inR (lst f.regs) r && (!decide (i = 0) || !(decide (x.op = 24) || decide (x.op = 25)) || decide (regK (lst f.regs) r = 3)) then y1oj P0 P1 v63 v64 (.int .i64 i) (HR f x a b c d) else some ⟨.bool false, [], true, [], []⟩ := by
  by_cases h0 : r < 0
  · have : ¬ 0 ≤ r := by omega
    simp [yjs, h0, inR, this]
  by_cases h1 : r < ((lst f.regs).length : Int)
  · have h0' : 0 ≤ r := by omega
    have h1' : ¬ ((lst f.regs).length : Int) ≤ r := by omega
    have hin : inR (lst f.regs) r = true := by simp [inR, h0', h1]
    have hr := yd9 hin
    by_cases hi : i = 0
    · subst hi
      by_cases o1 : x.op = 24
      · by_cases h3 : regK (lst f.regs) r = 3
        · simp [yjs, h0, h1', hin, hr, o1, h3]
        · simp [yjs, h0, h1', hin, hr, o1, h3]
      · by_cases o2 : x.op = 25
        · by_cases h3 : regK (lst f.regs) r = 3
          · simp [yjs, h0, h1', hin, hr, o2, h3]
          · simp [yjs, h0, h1', hin, hr, o2, h3]
        · simp [yjs, h0, h1', hin, o1, o2]
    · have hi' : ¬ ((i : Int) = 0) := by omega
      simp [yjs, h0, h1', hin, hi, hi']
  · have h1' : ((lst f.regs).length : Int) ≤ r := by omega
    simp [yjs, h0, h1', h1, inR]
theorem y1dm (f : Fn) (x : Ins) (a b c d : Int) (T : Bool) (hc : calls x.op = true) (hl : (lst x.args).length ≤ 9223372036854775807) (hT : ya6 P0 P1 (HR f x a b c d) = some ⟨.bool T, [], true, [], []⟩) :
    ∀ (k i : Nat), i + k = (lst x.args).length → 0 < i →
    yk4 P0 P1 (slA x.args) (.int .i64 (lst x.args).length) (.int .i64 i) (HR f x a b c d) = some ⟨.bool (((lst x.args).drop i).all (inR (lst f.regs)) && T), [], true, [], []⟩ := by
  intro k
  induction k with
  | zero =>
    intro i hi _
    have e1 : (lst x.args).drop i = [] := List.drop_eq_nil_of_le (by omega)
    have hn : ¬ ((i : Int) < ((lst x.args).length : Int)) := by omega
    rw [yl0, e1]
    simp [yi1, yie, hn, hT]
  | succ k ih =>
    intro i hi h0
    have hlt : i < (lst x.args).length := by omega
    have hn : ((i : Int) < ((lst x.args).length : Int)) := by omega
    have e1 : ((lst x.args).drop i).all (inR (lst f.regs)) = (inR (lst f.regs) (lst x.args)[i] && ((lst x.args).drop (i + 1)).all (inR (lst f.regs))) := by rw [List.drop_eq_getElem_cons hlt, List.all_cons]
    have ih := ih (i + 1) (by omega) (by omega)
    push_cast at ih
    have k1 := y3l (o := x.args) (i := i) (List.getElem?_eq_getElem hlt) .i64
    have hz : ¬ i = 0 := by omega
    rw [yl0, e1]
    simp only [yi1, yie, y12, y5, hn, decide_true, y22]
    simp only [y1ko, k1, y5, yy3, y79, List.head?_cons]
    simp only [y1s4]
    simp only [y3y]
    simp only [ypu, ye9]
    simp only [List.getElem?_cons_zero, List.drop_zero, yr0, y5]
    simp only [y7, yzz, Option.isSome_none, Bool.and_false, Bool.not_false, Bool.and_self, if_true, y25, yj, y81, y15, yzj, ym, yq0, yc, Bool.true_or]
    simp only [y47, y5, hc, Bool.not_true, y28, yty]
    cases inR (lst f.regs) (lst x.args)[i]
    · simp
    · simp [hz, y1oj, y1j hlt hl, ih]
theorem y1fq (f : Fn) (x : Ins) (a b c d : Int) (T : Bool) (hl : (lst x.args).length ≤ 9223372036854775807) (hT : ya6 P0 P1 (HR f x a b c d) = some ⟨.bool T, [], true, [], []⟩) :
    yxc P0 P1 (HR f x a b c d) = some ⟨.bool (y8g (lst f.regs) x && T), [], true, [], []⟩ := by
  have e0 : yxc P0 P1 (HR f x a b c d) = yk4 P0 P1 (slA x.args) (.int .i64 (lst x.args).length) (.int .i64 0) (HR f x a b c d) := by simp [yxc]
  rw [e0, yl0]
  cases ha : lst x.args with
  | nil => simp [yi1, yie, hT, y8g, ylg, ha]
  | cons r rest =>
    have k1 := y3l (o := x.args) (i := 0) (x := r) (by rw [ha]; rfl) .i64
    have k1 : yn 1 (slA x.args) (.int .i64 0) = some (.rp [.int .i64 r]) := k1
    have hn : ((0 : Int) < ((lst x.args).length : Int)) := by rw [ha]; simp
    have hra := yty f x a b c d 0 r (slA x.args) (.int .i64 (lst x.args).length)
    simp only [Int.ofNat_zero, decide_true, Bool.not_true, Bool.false_or] at hra
    rw [← ha]
    cases hc : calls x.op with
    | false =>
      simp only [yi1, yie, y12, y5, hn, decide_true, y22]
      simp only [y1ko, k1, y5, yy3, y79, List.head?_cons]
      simp only [y1s4]
      simp only [y3y]
      simp only [ypu, ye9]
      simp only [List.getElem?_cons_zero, List.drop_zero, yr0, y5]
      simp only [y7, yzz, Option.isSome_none, Bool.and_false, Bool.not_false, Bool.and_self, if_true, y25, yj, y81, y15, yzj, ym, yq0, yc, Bool.true_or]
      simp only [y47, y5, hc, Bool.not_false, y22, hT, y8g, Bool.true_or, Bool.true_and]
    | true =>
      have hlp := y1dm f x a b c d T hc hl hT rest.length 1 (by rw [ha]; simp; omega) (by omega)
      have hd : (lst x.args).drop 1 = rest := by rw [ha]; rfl
      rw [hd] at hlp
      have hlp : yk4 P0 P1 (slA x.args) (.int .i64 (lst x.args).length) (.int .i64 1) (HR f x a b c d) = _ := hlp
      simp only [yi1, yie, y12, y5, hn, decide_true, y22]
      simp only [y1ko, k1, y5, yy3, y79, List.head?_cons]
      simp only [y1s4]
      simp only [y3y]
      simp only [ypu, ye9]
      simp only [List.getElem?_cons_zero, List.drop_zero, yr0, y5]
      simp only [y7, yzz, Option.isSome_none, Bool.and_false, Bool.not_false, Bool.and_self, if_true, y25, yj, y81, y15, yzj, ym, yq0, yc, Bool.true_or]
      simp only [y47, y5, hc, Bool.not_true, y28, hra]
      simp only [y8g, ylg, ha, List.all_cons]
      have hw : IntKind.wrap .i64 ((0 : Int) + 1) = 1 := y2r (n := 1) (by omega) (by omega)
      generalize (!(decide (x.op = 24) || decide (x.op = 25)) || decide (regK (lst f.regs) r = 3)) = B
      have hw2 : IntKind.wrap .i64 (1 : Int) = 1 := y2r (n := 1) (by omega) (by omega)
      cases inR (lst f.regs) r with
      | false => cases B <;> simp [hc]
      | true =>
        cases B with
        | false => simp [hc]
        | true =>
          simp only [Bool.and_self, if_true, y1oj, y46, y5]
          rw [show IntKind.wrap .i64 ((0 : Int) + 1) = 1 from hw]
          rw [← ha, hlp]
          simp [hc]
theorem y1zk (x : Ins) : (x.op = 1 → (yo x).1 = 0) ∧ (x.op = 4 → (yo x).1 = 0 ∧ (yo x).2.1 = 0) ∧ (x.op = 7 → (yo x).2.1 = 0) ∧ (x.op = 30 → x.a = -1 ∨ (yo x).2.1 = 0) := by
  refine ⟨fun h => ?_, fun h => ?_, fun h => ?_, fun h => ?_⟩ <;> simp [yo, h]
  by_cases ha : x.a = -1 <;> simp [ha]
theorem yer {R : List Int} {w r : Int} (h : y24 R w r = true) (hw : w = 0) : inR R r = true := by
  subst hw
  simpa [y24] using h
set_option maxHeartbeats 1000000 in
theorem y2g8 (f : Fn) (x : Ins) (hn : -9223372036854775808 ≤ x.n ∧ x.n < 9223372036854775808) (hs : x.s.length ≤ 9223372036854775807) (hl : (lst x.args).length ≤ 9223372036854775807) :
    (y8 E).p 63 [.agg (enc f), .agg (enc x)] = some ⟨.bool (y2a f x), [], true, [], []⟩ := by
  have hk := y2jr x hn hs
  obtain ⟨q1, q4, q7, q30⟩ := y1zk x
  rw [y2um]
  have red : ∀ X : Option (Ex AV), y2a f x = y2a f x → True := fun _ _ => trivial
  have e0 : ywi (.agg (enc f)) (.agg (enc x)) [⟨0, .dead⟩, ⟨0, .dead⟩, ⟨0, .dead⟩] =
      if (yo x).2.2.2.2 = true then ydh P0 P1 P2 (.agg [.int .i64 x.d, .int .i64 x.a, .int .i64 x.b, .int .i64 x.c]) (.int .i64 0) (HR f x (yo x).1 (yo x).2.1 (yo x).2.2.1 (yo x).2.2.2.1) else some ⟨.bool false, [], true, [], []⟩ := by
    unfold exK at hk
    generalize yo x = k at *
    obtain ⟨a, b, c, d, o⟩ := k
    simp only at hk ⊢
    cases o with
    | true => simp [ywi, y1be, y16j, y1zl, hk]
    | false => simp [ywi, y1be, y16j, hk]
  rw [e0, y2a]
  cases hok : (yo x).2.2.2.2 with
  | false => simp
  | true =>
    simp only [if_true, Bool.true_and]
    have step : ∀ (i : Nat) (w r : Int), i < 4 → [(yo x).1, (yo x).2.1, (yo x).2.2.1, (yo x).2.2.2.1][i]? = some w → [x.d, x.a, x.b, x.c][i]? = some r →
        ydh P0 P1 P2 (.agg [.int .i64 x.d, .int .i64 x.a, .int .i64 x.b, .int .i64 x.c]) (.int .i64 i) (HR f x (yo x).1 (yo x).2.1 (yo x).2.2.1 (yo x).2.2.2.1) =
        if y24 (lst f.regs) w r then ydh P0 P1 P2 (.agg [.int .i64 x.d, .int .i64 x.a, .int .i64 x.b, .int .i64 x.c]) (.int .i64 (i + 1 : Nat)) (HR f x (yo x).1 (yo x).2.1 (yo x).2.2.1 (yo x).2.2.2.1) else some ⟨.bool false, [], true, [], []⟩ := by
      intro i w r hi hw hr
      have hc : ((i : Int) < (4 : Int)) := by omega
      have hv : yqt false 4 1 (.agg [.int .i64 x.d, .int .i64 x.a, .int .i64 x.b, .int .i64 x.c]) (.int .i64 i) = some (.int .i64 r) := by
        match i, hi, hr with
        | 0, _, hr => simp at hr; simp [yqt, hr]
        | 1, _, hr => simp at hr; simp [yqt, hr]
        | 2, _, hr => simp at hr; simp [yqt, hr]
        | 3, _, hr => simp at hr; simp [yqt, hr]
      have hw2 : IntKind.wrap .i64 ((i : Int) + 1) = ((i + 1 : Nat) : Int) := by rw [y2r] <;> omega
      rw [ym8]
      simp only [y183, y177, y12, y5, hc, decide_true, y22]
      simp only [y1pi, hv, y5]
      rw [yz3 f x _ _ _ _ i w r _ hi hw]
      simp only [yv1, y46, y5, hw2]
    have s0 := step 0 _ _ (by omega) rfl rfl
    have s1 := step 1 _ _ (by omega) rfl rfl
    have s2 := step 2 _ _ (by omega) rfl rfl
    have s3 := step 3 _ _ (by omega) rfl rfl
    simp only [Int.ofNat_zero] at s0
    rw [s0]
    cases f0 : y24 (lst f.regs) (yo x).1 x.d with
    | false => simp
    | true =>
      simp only [if_true, Bool.true_and]
      rw [s1]
      cases f1 : y24 (lst f.regs) (yo x).2.1 x.a with
      | false => simp
      | true =>
        simp only [if_true, Bool.true_and]
        rw [s2]
        cases f2 : y24 (lst f.regs) (yo x).2.2.1 x.b with
        | false => simp
        | true =>
          simp only [if_true, Bool.true_and]
          rw [s3]
          cases f3 : y24 (lst f.regs) (yo x).2.2.2.1 x.c with
          | false => simp
          | true =>
            simp only [if_true, Bool.true_and]
            have ht := y1hp f x (yo x).1 (yo x).2.1 (yo x).2.2.1 (yo x).2.2.2.1 (fun h => yer f0 (q1 h)) (fun h => ⟨yer f0 (q4 h).1, yer f1 (q4 h).2⟩) (fun h => yer f1 (q7 h)) (fun h => (q30 h).imp id fun h => yer f1 h)
            rw [← y1fq f x _ _ _ _ _ hl ht]
            rw [ym8]
            simp [y183, y177]
end Go.Vm
namespace Go.Vm
open Cel
attribute [local simp] y7 y25 ym
abbrev HC (f : Fn) (o1 o2 : AO) : Heap := [⟨1, .arr true false 5 [enc f]⟩, o1, o2]
abbrev E80 : Option (Ex AV) := some ⟨.int .i64 80, [], true, [], []⟩
abbrev E0 : Option (Ex AV) := some ⟨.int .i64 0, [], true, [], []⟩
theorem y1gj (f : Fn) (o1 : AO) (n : Int) (hn : n = (lst f.code).length) (hl : (lst f.rows).length ≤ 9223372036854775807) : ∀ (d i : Nat) (o2 : AO), i + d = (lst f.rows).length →
    ymg P0 (.int .i64 n) (slA f.rows) (.int .i64 (lst f.rows).length) (.int .i64 i) (HC f o1 o2) = if ((lst f.rows).drop i).all (y4j (lst f.code)) then E0 else E80 := by
  intro d
  induction d with
  | zero =>
    intro i o2 hi
    have e1 : (lst f.rows).drop i = [] := List.drop_eq_nil_of_le (by omega)
    have hn : ¬ ((i : Int) < ((lst f.rows).length : Int)) := by omega
    rw [yu3, e1]
    simp [y23w, y20z, y2g7, hn]
  | succ d ih =>
    intro i o2 hi
    have hlt : i < (lst f.rows).length := by omega
    have hc : ((i : Int) < ((lst f.rows).length : Int)) := by omega
    have k1 := ydi (o := f.rows) (i := i) (List.getElem?_eq_getElem hlt) .i64
    rw [yu3]
    have e1 : ((lst f.rows).drop i).all (y4j (lst f.code)) = (y4j (lst f.code) (lst f.rows)[i] && ((lst f.rows).drop (i + 1)).all (y4j (lst f.code))) := by rw [List.drop_eq_getElem_cons hlt, List.all_cons]
    rw [e1]
    generalize hr : (lst f.rows)[i] = r at *
    have ih := fun o2 => ih (i + 1) o2 (by omega)
    push_cast at ih
    subst hn
    simp only [y23w, y20z, y12, y5, hc, decide_true, y22]
    by_cases h1 : r.f < 0
    · simp [yr8, k1, y4j, h1]
    by_cases h2 : r.t ≤ r.f
    · simp [yr8, k1, y4j, h1, h2]
    by_cases h3 : ((lst f.code).length : Int) < r.t
    · simp [yr8, k1, y4j, h1, h2, h3]
    by_cases h4 : r.at_ < 0
    · simp [yr8, k1, y4j, h1, h2, h3, h4]
    by_cases h5 : ((lst f.code).length : Int) ≤ r.at_
    · simp [yr8, k1, y4j, h1, h2, h3, h4, h5]
    · have hx : r.at_.toNat < (lst f.code).length := by omega
      have k2 := y6s (o := f.code) (n := r.at_) (by omega) (List.getElem?_eq_getElem hx) .i64
      have hg : (lst f.code).getD r.at_.toNat default = (lst f.code)[r.at_.toNat] := by rw [List.getD_eq_getElem?_getD, List.getElem?_eq_getElem hx]; rfl
      by_cases h6 : ((lst f.code)[r.at_.toNat]).op = 32
      · simp [yr8, k1, y4j, h1, h2, h3, h4, h5, k2, h6, hx, y2j6, y1j hlt hl, ih]
      · simp [yr8, k1, y4j, h1, h2, h3, h4, h5, k2, h6, hx]
theorem y1gq (f : Fn) (o1 o2 : AO) (n : Int) (hl : (lst f.regs).length ≤ 9223372036854775807) : ∀ (d i : Nat), i + d = (lst f.regs).length →
    yfw P0 (.int .i64 n) (slA f.regs) (.int .i64 (lst f.regs).length) (.int .i64 i) (HC f o1 o2) = if ((lst f.regs).drop i).all (fun k => decide (1 ≤ k) && decide (k ≤ 3)) then yue P0 (.int .i64 n) (HC f o1 o2) else E80 := by
  intro d
  induction d with
  | zero =>
    intro i hi
    have e1 : (lst f.regs).drop i = [] := List.drop_eq_nil_of_le (by omega)
    have hn : ¬ ((i : Int) < ((lst f.regs).length : Int)) := by omega
    rw [ynd, e1]
    simp [y162, y13q, hn]
  | succ d ih =>
    intro i hi
    have hlt : i < (lst f.regs).length := by omega
    have hc : ((i : Int) < ((lst f.regs).length : Int)) := by omega
    have k1 := y3l (o := f.regs) (i := i) (List.getElem?_eq_getElem hlt) .i64
    have e1 : ((lst f.regs).drop i).all (fun k => decide (1 ≤ k) && decide (k ≤ 3)) = ((decide (1 ≤ (lst f.regs)[i]) && decide ((lst f.regs)[i] ≤ 3)) && ((lst f.regs).drop (i + 1)).all (fun k => decide (1 ≤ k) && decide (k ≤ 3))) := by
      rw [List.drop_eq_getElem_cons hlt, List.all_cons]
    rw [ynd, e1]
    generalize hr : (lst f.regs)[i] = r at *
    have ih := ih (i + 1) (by omega)
    push_cast at ih
    simp only [y162, y13q, y12, y5, hc, decide_true, y22]
    by_cases h1 : r < 1
    · have : ¬ 1 ≤ r := by omega
      simp [ytx, k1, h1, this]
    by_cases h2 : 3 < r
    · have : ¬ r ≤ 3 := by omega
      simp [ytx, k1, h1, h2, this]
    · have a1 : 1 ≤ r := by omega
      have a2 : r ≤ 3 := by omega
      simp [ytx, k1, h1, h2, a1, a2, y1n1, y1j hlt hl, ih]
theorem yv5 (f : Fn) (o1 o2 : AO) (n : Int) (hl : (lst f.params).length ≤ 9223372036854775807) : ∀ (d i : Nat), i + d = (lst f.params).length →
    yfv P0 (.int .i64 n) (slA f.params) (.int .i64 (lst f.params).length) (.int .i64 i) (HC f o1 o2) = if ydd (lst f.regs) i ((lst f.params).take i) ((lst f.params).drop i) then ysd P0 (.int .i64 n) (HC f o1 o2) else E80 := by
  intro d
  induction d with
  | zero =>
    intro i hi
    have e1 : (lst f.params).drop i = [] := List.drop_eq_nil_of_le (by omega)
    have hn : ¬ ((i : Int) < ((lst f.params).length : Int)) := by omega
    rw [yn8, e1]
    simp [y14q, y19e, hn, ydd]
  | succ d ih =>
    intro i hi
    have hlt : i < (lst f.params).length := by omega
    have hc : ((i : Int) < ((lst f.params).length : Int)) := by omega
    have k1 := y3l (o := f.params) (i := i) (List.getElem?_eq_getElem hlt) .i64
    have ks := y29z (α := Int) f.params i (by omega) .i64
    simp only [ywx] at ks
    have hlm : lst (f.params.map (List.take i)) = (lst f.params).take i := by cases f.params <;> simp
    have e1 : ydd (lst f.regs) i ((lst f.params).take i) ((lst f.params).drop i) = ((inR (lst f.regs) (lst f.params)[i] && !((lst f.params).take i).contains (lst f.params)[i] && decide (i ≤ 20)) && ydd (lst f.regs) (i + 1) ((lst f.params).take (i + 1)) ((lst f.params).drop (i + 1))) := by
      rw [List.drop_eq_getElem_cons hlt, ydd, List.take_append_getElem]
    rw [yn8, e1]
    have hct : (y8 E).p 46 [slA (f.params.map (List.take i)), .int .i64 (lst f.params)[i]] = some ⟨.bool (((lst f.params).take i).contains (lst f.params)[i]), [], true, [], []⟩ := by
      rw [yc1 _ _ (by rw [hlm, List.length_take]; omega), hlm]
    generalize hr : (lst f.params)[i] = r at *
    generalize ((lst f.params).take i).contains r = B at *
    have ih := ih (i + 1) (by omega)
    push_cast at ih
    simp only [y14q, y19e, y12, y5, hc, decide_true, y22]
    have e20 : ((20 : Int) < (i : Int)) ↔ ¬ i ≤ 20 := by omega
    by_cases h1 : r < 0
    · have : ¬ 0 ≤ r := by omega
      simp [yjb, k1, inR, h1, this]
    by_cases h2 : ((lst f.regs).length : Int) ≤ r
    · have : ¬ r < ((lst f.regs).length : Int) := by omega
      simp [yjb, k1, inR, h1, h2, this]
    · have a1 : 0 ≤ r := by omega
      have a2 : r < ((lst f.regs).length : Int) := by omega
      cases B with
      | true => simp [yjb, k1, inR, h1, h2, a1, a2, ks, hct]
      | false =>
        by_cases h3 : i ≤ 20
        · have h3' : ¬ ((20 : Int) < (i : Int)) := by omega
          simp [yjb, k1, inR, h1, h2, a1, a2, ks, hct, h3, h3', y1ra, y1j hlt hl, ih]
        · have h3' : ((20 : Int) < (i : Int)) := by omega
          simp [yjb, k1, inR, h1, h2, a1, a2, ks, hct, h3, h3']
theorem y1hh {R : List Int} {ret : Int} {n : Nat} {x : Ins} (h : y3k R ret n x = true) (hl : leads x.op = true) : 0 ≤ x.t ∧ x.t < n := by
  have hne : ¬ x.op = 1 ∧ ¬ x.op = 4 ∧ ¬ x.op = 7 ∧ ¬ x.op = 30 := by
    simp only [leads, Bool.or_eq_true, decide_eq_true_eq] at hl
    omega
  simp only [y3k, hne, if_false, hl, Bool.not_true, Bool.false_or, Bool.and_eq_true, decide_eq_true_eq] at h
  exact h
theorem ykd {f : Fn} {x : Ins} (h : y2a f x = true) (hl : leads x.op = true) : 0 ≤ x.t ∧ x.t < (lst f.code).length := by
  simp only [y2a, Bool.and_eq_true] at h
  exact y1hh h.2 hl
structure InsFit (x : Ins) : Prop where
  n : -9223372036854775808 ≤ x.n ∧ x.n < 9223372036854775808
  s : x.s.length ≤ 9223372036854775807
  a : (lst x.args).length ≤ 9223372036854775807
theorem y1ga (f : Fn) (o2 : AO) (n : Int) (x : Ins) (i g : Nat) (v92 v93 v94 : AV) (hi : i < (lst f.code).length) (hl : (lst f.code).length ≤ 9223372036854775807) (ht : leads x.op = true → 0 ≤ x.t ∧ x.t < (lst f.code).length) :
    ycs P0 (.int .i64 n) (.int .i64 i) (.lp 1 g 0 0) v92 v93 v94 (HC f ⟨g, .arr true false 9 [enc x]⟩ o2) =
      if y44 (lst f.code) i x then y18q P0 (.int .i64 n) v92 v93 v94 (HC f ⟨g, .arr true false 9 [enc x]⟩ o2) else E80 := by
  by_cases h32 : x.op = 32
  · have hld : leads x.op = false := by simp [leads, h32]
    by_cases h0 : i = 0
    · subst h0
      simp [ycs, h32, y44]
    · have h0' : ¬ ((i : Int) = 0) := by omega
      have hp : i - 1 < (lst f.code).length := by omega
      have k1 := y4v (o := f.code) (i := i - 1) (List.getElem?_eq_getElem hp) .i64
      have hw : IntKind.wrap .i64 ((i : Int) - 1) = ((i - 1 : Nat) : Int) := by rw [y2r] <;> omega
      have hg : (lst f.code).getD (i - 1) default = (lst f.code)[i - 1] := by rw [List.getD_eq_getElem?_getD, List.getElem?_eq_getElem hp]; rfl
      have hld32 : leads 32 = false := by simp [leads]
      cases he : ends ((lst f.code)[i - 1]).op with
      | true => simp [ycs, h32, y44, h0, h0', hw, k1, hp, he, hld32]
      | false => simp [ycs, h32, y44, h0, h0', hw, k1, hp, he]
  · cases hld : leads x.op with
    | false => simp [ycs, h32, y44, hld]
    | true =>
      obtain ⟨t0, t1⟩ := ht hld
      have hx : x.t.toNat < (lst f.code).length := by omega
      have k2 := y6s (o := f.code) (n := x.t) t0 (List.getElem?_eq_getElem hx) .i64
      by_cases h6 : ((lst f.code)[x.t.toNat]).op = 32
      · simp [ycs, h32, y44, hld, k2, h6, hx]
      · simp [ycs, h32, y44, hld, k2, h6, hx]
theorem y1hf (f : Fn) (o2 : AO) (n : Int) (hfit : ∀ x ∈ lst f.code, InsFit x) (hl : (lst f.code).length ≤ 9223372036854775807) : ∀ (d i : Nat) (o1 : AO), i + d = (lst f.code).length →
    ∃ o1', yg5 P0 (.int .i64 n) (slA f.code) (.int .i64 (lst f.code).length) (.int .i64 i) (HC f o1 o2) = if y4w f (lst f.code) i ((lst f.code).drop i) then y1qm P0 (.int .i64 n) (HC f o1' o2) else E80 := by
  intro d
  induction d with
  | zero =>
    intro i o1 hi
    have e1 : (lst f.code).drop i = [] := List.drop_eq_nil_of_le (by omega)
    have hn : ¬ ((i : Int) < ((lst f.code).length : Int)) := by omega
    rw [yn9, e1]
    exact ⟨o1, by simp [y15q, y1as, hn, y4w]⟩
  | succ d ih =>
    intro i o1 hi
    have hlt : i < (lst f.code).length := by omega
    have hc : ((i : Int) < ((lst f.code).length : Int)) := by omega
    have k1 := y4v (o := f.code) (i := i) (List.getElem?_eq_getElem hlt) .i64
    have e1 : y4w f (lst f.code) i ((lst f.code).drop i) = (y2a f (lst f.code)[i] && y44 (lst f.code) i (lst f.code)[i] && y4w f (lst f.code) (i + 1) ((lst f.code).drop (i + 1))) := by
      rw [List.drop_eq_getElem_cons hlt, y4w]
    have fit := hfit _ (List.getElem_mem hlt)
    rw [yn9, e1]
    generalize hx : (lst f.code)[i] = x at *
    have hr := y2g8 f x fit.n fit.s fit.a
    simp only [y15q, y1as, y12, y5, hc, decide_true, y22]
    cases hok : y2a f x with
    | false =>
      rw [hok] at hr
      exact ⟨o1, by simp [yul, y115, k1, hr]⟩
    | true =>
      rw [hok] at hr
      have e13 : ∀ K : Option (Ex AV), yul P0 (.int .i64 n) (slA f.code) (.int .i64 (lst f.code).length) (.int .i64 i) (HC f o1 o2) = ycs P0 (.int .i64 n) (.int .i64 i) (.lp 1 (o1.gen + 1) 0 0) (slA f.code) (.int .i64 (lst f.code).length) (.int .i64 i) (HC f ⟨o1.gen + 1, .arr true false 9 [enc x]⟩ o2) := by
        intro _
        simp [yul, y115, k1, hr]
      rw [e13 none]
      rw [y1ga f o2 n x i _ _ _ _ hlt hl (fun h => ykd hok h)]
      cases hs : y44 (lst f.code) i x with
      | false => exact ⟨o1, by simp⟩
      | true =>
        obtain ⟨o1', ih⟩ := ih (i + 1) ⟨o1.gen + 1, .arr true false 9 [enc x]⟩ (by omega)
        push_cast at ih
        exact ⟨o1', by simp [y18q, y1j hlt hl, ih]⟩
structure FnFit (f : Fn) : Prop where
  ins : ∀ x ∈ lst f.code, InsFit x
  code : (lst f.code).length ≤ 9223372036854775807
  regs : (lst f.regs).length ≤ 9223372036854775807
  params : (lst f.params).length ≤ 9223372036854775807
  rows : (lst f.rows).length ≤ 9223372036854775807
theorem y20h (f : Fn) (hf : FnFit f) (o1 o2 : AO) (n : Int) (hn : n = (lst f.code).length) :
    yov P0 (.int .i64 n) (HC f o1 o2) = if (lst f.regs).all (fun k => decide (1 ≤ k) && decide (k ≤ 3)) && ydd (lst f.regs) 0 [] (lst f.params) && y4w f (lst f.code) 0 (lst f.code) && (lst f.rows).all (y4j (lst f.code)) then E0 else E80 := by
  have a1 := y1gq f o1 o2 n hf.regs _ 0 (Nat.zero_add _)
  have a2 := yv5 f o1 o2 n hf.params _ 0 (Nat.zero_add _)
  obtain ⟨o1', a3⟩ := y1hf f o2 n hf.ins hf.code _ 0 o1 (Nat.zero_add _)
  have a4 := y1gj f o1' n hn hf.rows _ 0 o2 (Nat.zero_add _)
  simp only [Int.ofNat_zero, List.drop_zero, List.take_zero] at a1 a2 a3 a4
  have e1 : yov P0 (.int .i64 n) (HC f o1 o2) = yfw P0 (.int .i64 n) (slA f.regs) (.int .i64 (lst f.regs).length) (.int .i64 0) (HC f o1 o2) := by simp [yov]
  have e2 : yue P0 (.int .i64 n) (HC f o1 o2) = yfv P0 (.int .i64 n) (slA f.params) (.int .i64 (lst f.params).length) (.int .i64 0) (HC f o1 o2) := by simp [yue]
  have e3 : ysd P0 (.int .i64 n) (HC f o1 o2) = yg5 P0 (.int .i64 n) (slA f.code) (.int .i64 (lst f.code).length) (.int .i64 0) (HC f o1 o2) := by simp [ysd]
  have e4 : y1qm P0 (.int .i64 n) (HC f o1' o2) = ymg P0 (.int .i64 n) (slA f.rows) (.int .i64 (lst f.rows).length) (.int .i64 0) (HC f o1' o2) := by simp [y1qm]
  rw [e1, a1, e2, a2, e3, a3, e4, a4]
  generalize (lst f.regs).all (fun k => decide (1 ≤ k) && decide (k ≤ 3)) = b1
  generalize ydd (lst f.regs) 0 [] (lst f.params) = b2
  generalize y4w f (lst f.code) 0 (lst f.code) = b3
  generalize (lst f.rows).all (y4j (lst f.code)) = b4
  cases b1 <;> cases b2 <;> cases b3 <;> cases b4 <;> rfl
set_option maxHeartbeats 1000000 in
theorem y2cq (f : Fn) (hf : FnFit f) : (y8 E).p 8 [.agg (enc f)] = some ⟨.int .i64 (if wf f then 0 else 80), [], true, [], []⟩ := by
  rw [y2uf]
  have hall := y20h f hf ⟨0, .dead⟩ ⟨0, .dead⟩ _ rfl
  by_cases h1 : (lst f.code).length < 1
  · have h1' : ((lst f.code).length : Int) < 1 := by omega
    have : ¬ 1 ≤ (lst f.code).length := by omega
    simp [ycb, ydu, ydw, h1', wf, this]
  have h1' : ¬ ((lst f.code).length : Int) < 1 := by omega
  have g1 : 1 ≤ (lst f.code).length := by omega
  by_cases h2 : 20000 < (lst f.code).length
  · have h2' : (20000 : Int) < ((lst f.code).length : Int) := by omega
    have : ¬ (lst f.code).length ≤ 20000 := by omega
    simp [ycb, ydu, ydw, h1', h2', wf, this]
  have h2' : ¬ (20000 : Int) < ((lst f.code).length : Int) := by omega
  have g2 : (lst f.code).length ≤ 20000 := by omega
  by_cases h3 : 20000 < (lst f.regs).length
  · have h3' : (20000 : Int) < ((lst f.regs).length : Int) := by omega
    have : ¬ (lst f.regs).length ≤ 20000 := by omega
    simp [ycb, ydu, ydw, h1', h2', h3', wf, this]
  have h3' : ¬ (20000 : Int) < ((lst f.regs).length : Int) := by omega
  have g3 : (lst f.regs).length ≤ 20000 := by omega
  by_cases h4 : f.ret < 0
  · have : ¬ 0 ≤ f.ret := by omega
    simp [ycb, ydu, ydw, h1', h2', h3', h4, wf, this]
  have g4 : 0 ≤ f.ret := by omega
  by_cases h5 : 3 < f.ret
  · have : ¬ f.ret ≤ 3 := by omega
    simp [ycb, ydu, ydw, h1', h2', h3', h4, h5, wf, this]
  have g5 : f.ret ≤ 3 := by omega
  have hp : (lst f.code).length - 1 < (lst f.code).length := by omega
  have k1 := y4v (o := f.code) (i := (lst f.code).length - 1) (List.getElem?_eq_getElem hp) .i64
  have hw : IntKind.wrap .i64 (((lst f.code).length : Int) - 1) = (((lst f.code).length - 1 : Nat) : Int) := by rw [y2r] <;> omega
  have hg : (lst f.code).getD ((lst f.code).length - 1) default = (lst f.code)[(lst f.code).length - 1] := by rw [List.getD_eq_getElem?_getD, List.getElem?_eq_getElem hp]; rfl
  cases he : ends ((lst f.code)[(lst f.code).length - 1]).op with
  | false =>
    have hwf : wf f = false := by rw [wf, hg, he]; simp
    rw [hwf]
    simp [ycb, ydu, ydw, h1', h2', h3', h4, h5, hw, k1, he]
  | true =>
    have hwf : wf f = ((lst f.regs).all (fun k => decide (1 ≤ k) && decide (k ≤ 3)) && ydd (lst f.regs) 0 [] (lst f.params) && y4w f (lst f.code) 0 (lst f.code) && (lst f.rows).all (y4j (lst f.code))) := by
      rw [wf, hg, he]
      simp only [g1, g2, g3, g4, g5, decide_true, Bool.true_and]
    have e : ycb (.agg (enc f)) [⟨0, .dead⟩, ⟨0, .dead⟩, ⟨0, .dead⟩] = yov P0 (.int .i64 (lst f.code).length) (HC f ⟨0, .dead⟩ ⟨0, .dead⟩) := by
      simp [ycb, ydu, ydw, h1', h2', h3', h4, h5, hw, k1, he]
    rw [e, hall, hwf]
    split <;> rfl
end Go.Vm
namespace Go.Vm
open Cel
def y7p (f : Fn) (T : KTab) (i : Nat) : Bool := match ofM (yk f i), kAt T i with
  | some c, some s => decide (c ∈ s)
  | _, _ => false
def knoI (f : Fn) (T : KTab) (i : Nat) : Ins := if y7p f T i then nopI else yk f i
def knoL (f : Fn) (T : KTab) : List Ins := (List.range (lst f.code).length).map (knoI f T)
def knoF (f : Fn) (T : KTab) : Fn := yd6 f (knoL f T)
def y7d (f : Fn) (T : KTab) (k : Nat) : List Ins := (List.range (lst f.code).length).map fun j => if j < k then knoI f T j else yk f j
theorem yen (f : Fn) (T : KTab) (k : Nat) : (y7d f T k).length = (lst f.code).length := by simp [y7d]
theorem y2k0 (f : Fn) (T : KTab) : y7d f T 0 = lst f.code := by
  refine List.ext_getElem? fun i => ?_
  unfold y7d
  rw [List.getElem?_map]
  by_cases h : i < (lst f.code).length
  · rw [List.getElem?_range h, y3p h]; rfl
  · rw [List.getElem?_eq_none (by simpa using h), List.getElem?_eq_none (by omega)]; rfl
theorem y1vb (f : Fn) (T : KTab) : y7d f T (lst f.code).length = knoL f T := by
  refine List.map_congr_left fun i hi => ?_
  rw [List.mem_range] at hi
  rw [if_pos hi]
theorem y1o4 (f : Fn) (T : KTab) (k : Nat) (hk : k < (lst f.code).length) : (y7d f T k).set k (knoI f T k) = y7d f T (k + 1) := by
  refine List.ext_getElem? fun j => ?_
  rw [List.getElem?_set]
  unfold y7d
  by_cases hj : j < (lst f.code).length
  · simp only [List.getElem?_map, List.getElem?_range hj, List.length_map, List.length_range, Option.map_some]
    by_cases e : k = j
    · subst e
      rw [if_pos rfl, if_pos hk, if_pos (by omega)]
    · rw [if_neg e]
      by_cases h : j < k
      · rw [if_pos h, if_pos (by omega)]
      · rw [if_neg h, if_neg (by omega)]
  · rw [if_neg (by omega), List.getElem?_eq_none (by simpa using hj), List.getElem?_eq_none (by simpa using hj)]
theorem yfg {f : Fn} {T : KTab} {k : Nat} (h : y7p f T k = false) : y7d f T (k + 1) = y7d f T k := by
  refine List.map_congr_left fun j hj => ?_
  by_cases e : j = k
  · subst e
    rw [if_pos (by omega), if_neg (by omega), knoI, h]
    rfl
  · by_cases h : j < k
    · rw [if_pos h, if_pos (by omega)]
    · rw [if_neg h, if_neg (by omega)]
theorem y28i {f : Fn} {T : KTab} {k : Nat} (hk : k < (lst f.code).length) : (y7d f T k)[k]? = some (yk f k) := by
  unfold y7d
  rw [List.getElem?_map, List.getElem?_range hk, Option.map_some, if_neg (by omega)]
structure NSt (H : Heap) (F : Fn) (p g : Nat → Nat) (T : KTab) : Prop where
  d : DSt H F p g 17
  tab : H[10]? = some ⟨1, .arr false false 1 (tabK T)⟩
  tbx : H[11]? = some ⟨1, .arr true false 1 [[.ls 10 1 1 0 T.length]]⟩
  m0 : H[12]? = some (AK 1 [])
theorem NSt.set {H : Heap} {F : Fn} {p g : Nat → Nat} {T : KTab} (S : NSt H F p g T) {a : Nat} {x : AO} (ha : 15 ≤ a) : NSt (H.set a x) F p g T :=
  ⟨S.d.set (by omega), by rw [y1o (by omega)]; exact S.tab, by rw [y1o (by omega)]; exact S.tbx, by rw [y1o (by omega)]; exact S.m0⟩
theorem NSt.code {H : Heap} {F : Fn} {p g : Nat → Nat} {T : KTab} {L L' : List Ins} (S : NSt H F p g T) (hL : F.code = some L) (hl : L.length = L'.length) : NSt (H.set (p 2) ⟨g 2, .arr false false 9 (L'.map enc)⟩) (yd6 F L') p g T := by
  have h2 := S.d.lo 2 (by omega) (by simp [hasL, hL])
  exact ⟨S.d.setCode hL hl, by rw [y1o (by omega)]; exact S.tab, by rw [y1o (by omega)]; exact S.tbx, by rw [y1o (by omega)]; exact S.m0⟩
section
variable {f : Fn} (w : Wf f) {T : KTab} (v : InvK f (T, [])) {p g : Nat → Nat}
include w v
theorem y21g : ∀ (d k : Nat), k + d = (lst f.code).length → ∀ (H : Heap), NSt H (yd6 f (y7d f T k)) p g T →
    ∃ H', yoz V1 V2 V3 (.ls (p 2) (g 2) 9 0 (lst f.code).length) (.int .i64 (lst f.code).length) (.int .i64 (k : Int)) H = y1ru V1 V2 H' ∧ DSt H' (knoF f T) p g 17 := by
  have hn2 := w.n2
  have hTl := v.ok.len
  have hz := v.ok.zero
  simp only at hTl hz
  intro d
  induction d with
  | zero =>
    intro k hkd H S
    have hc : ¬ (k : Int) < ((lst f.code).length : Int) := by omega
    have e : k = (lst f.code).length := by omega
    subst e
    have D := S.d
    rw [y1vb] at D
    refine ⟨H, ?_, D⟩
    rw [yrt, y26b, y12, y5, decide_eq_false hc, y22w, y28]
  | succ d ih =>
    intro k hkd H S
    have hk : k < (lst f.code).length := by omega
    have hc : (k : Int) < ((lst f.code).length : Int) := by omega
    have hcode : (yd6 f (y7d f T k)).code = some (y7d f T k) := rfl
    have ixc := y1mn hk (p 2) (g 2) 9 .i64
    have lc := S.d.ix hcode (y28i (T := T) hk)
    have hlen := S.d.len
    obtain ⟨o, ho⟩ : ∃ o, H[0 + 15]? = some o := ⟨_, List.getElem?_eq_getElem (by omega)⟩
    have nx := y23a ho
    rw [Nat.zero_add] at nx ho
    have sx := st_x (H := H.set 15 (AX (o.gen + 1) default)) (id := 15) (g := o.gen + 1) (y := yk f k) (y7c (y6h ho))
    rw [List.set_set] at sx
    have S1 := S.set (a := 15) (x := AX (o.gen + 1) (yk f k)) (by omega)
    have h15 : (H.set 15 (AX (o.gen + 1) (yk f k)))[15]? = some (AX (o.gen + 1) (yk f k)) := y7c (y6h ho)
    generalize H.set 15 (AX (o.gen + 1) (yk f k)) = H1 at *
    have lx := y1no h15
    have c169 : y7 E (y8 E) 0 none true 169 [.agg (enc (yk f k))] H1 = some (ofV (yk f k), H1) := y27 rfl (fz_x (yk f k) H1) rfl (s_of (yk f k)) ⟨_, rfl, rfl⟩
    have x0 : y42 0 (ofV (yk f k)) = some (vFa ((ofM (yk f k)).getD zF)) := rfl
    have x1 : y42 1 (ofV (yk f k)) = some (.bool (ofM (yk f k)).isSome) := rfl
    have hlen1 := S1.d.len
    obtain ⟨o16, ho16⟩ : ∃ o, H1[0 + 16]? = some o := ⟨_, List.getElem?_eq_getElem (by omega)⟩
    have nc := y1fa (j := 16) ho16
    rw [Nat.zero_add] at nc ho16
    have sc := st_c (H := H1.set 16 (AC (o16.gen + 1) zF)) (id := 16) (g := o16.gen + 1) (c := zF) (e := (ofM (yk f k)).getD zF) (y7c (y6h ho16))
    rw [List.set_set] at sc
    have S2 := S1.set (a := 16) (x := AC (o16.gen + 1) ((ofM (yk f k)).getD zF)) (by omega)
    have h16 : (H1.set 16 (AC (o16.gen + 1) ((ofM (yk f k)).getD zF)))[16]? = some (AC (o16.gen + 1) ((ofM (yk f k)).getD zF)) := y7c (y6h ho16)
    generalize H1.set 16 (AC (o16.gen + 1) ((ofM (yk f k)).getD zF)) = H2 at *
    have lb := yr5 S2.tbx
    have ixk := y1sy (n := T.length) (p := (k : Int)) (by omega) (by omega) 10 1 .i64
    rw [Int.toNat_natCast] at ixk
    have lr := y11t S2.tab (y78 (T := T) (i := k) (by omega))
    have la := y21f h16
    have next : ∀ H' : Heap, NSt H' (yd6 f (y7d f T (k + 1))) p g T →
        ∃ H'', y1x9 V1 V2 V3 (.ls (p 2) (g 2) 9 0 (lst f.code).length) (.int .i64 (lst f.code).length) (.int .i64 (k : Int)) H' = y1ru V1 V2 H'' ∧ DSt H'' (knoF f T) p g 17 := by
      intro H' S'
      obtain ⟨H'', r1, r2⟩ := ih (k + 1) (by omega) H' S'
      refine ⟨H'', ?_, r2⟩
      rw [y1x9, yik hk (by omega), y5]
      exact r1
    have pfx : ∀ R, (yz7 V1 V2 V3 (.ls (p 2) (g 2) 9 0 (lst f.code).length) (.int .i64 (lst f.code).length) (.int .i64 (k : Int)) H = R) →
        yoz V1 V2 V3 (.ls (p 2) (g 2) 9 0 (lst f.code).length) (.int .i64 (lst f.code).length) (.int .i64 (k : Int)) H = R := by
      intro R hR
      rw [yrt, y26b, y12, y5, decide_eq_true hc, y22w, y22, hR]
    have lov : ownV (p 2) (g 2) (yd6 f (y7d f T k)).code = .ls (p 2) (g 2) 9 0 (lst f.code).length := by
      show AV.ls (p 2) (g 2) 9 0 (y7d f T k).length = _
      rw [yen]
    cases hof : ofM (yk f k) with
    | none =>
      rw [hof] at sc x0 x1 la h16
      have hg : y7p f T k = false := by unfold y7p; rw [hof]
      obtain ⟨H'', r1, r2⟩ := next H2 (by rw [yfg hg]; exact S2)
      refine ⟨H'', pfx _ ?_, r2⟩
      rw [yz7, ixc, y5, lc, y5, nx, yc, sx, yc, lx, y5, c169, yc, x0, y5, x1, y5, nc, yc, sc, yc]
      simp only [Option.isSome_none, y82, y1i, y5, y28]
      exact r1
    | some c =>
      rw [hof] at sc x0 x1 la h16
      simp only [Option.getD_some] at la sc x0
      cases hT : kAt T k with
      | none =>
        have hg : y7p f T k = false := by unfold y7p; rw [hof, hT]
        have hk0 : k ≠ 0 := fun e => by rw [e, hz] at hT; cases hT
        have er : rowK T k = .nilm := by rw [rowK, if_neg hk0, hT]
        rw [er] at lr
        have ne : y9c 2 true AV.nilm AV.nilm = some (.bool false) := rfl
        obtain ⟨H'', r1, r2⟩ := next H2 (by rw [yfg hg]; exact S2)
        refine ⟨H'', pfx _ ?_, r2⟩
        rw [yz7, ixc, y5, lc, y5, nx, yc, sx, yc, lx, y5, c169, yc, x0, y5, x1, y5, nc, yc, sc, yc]
        simp only [Option.isSome_some, y5o, lb, ixk, lr, ne, y1c, y5, y82, y1i, y28]
        exact r1
      | some s =>
        have hi := yqq hz hT
        have mg : y6p true [0, 0, 0] (.bool false) false (rowK T k) (vFa c) H2 = some (.bool (decide (c ∈ s))) := by
          rcases hi with h | ⟨h, h'⟩
          · rw [h]; exact y299 c s
          · rw [h, h']; exact y2jk S2.m0 c
        have ne := hi.nn.2
        by_cases hm : c ∈ s
        · rw [decide_eq_true hm] at mg
          have hg : y7p f T k = true := by unfold y7p; rw [hof, hT]; exact decide_eq_true hm
          have fa : evFa 3 V1 = some (.lp 0 1 0 3) := rfl
          have lc2 := S2.d.ldc
          rw [lov] at lc2
          have bl : yx ypr [(0, 1, .int .i64 33)] = some (.agg (enc nopI)) := rfl
          have st := S2.d.st hcode (i := k) (by rw [yen]; exact hk) (knoI f T k)
          have ek : knoI f T k = nopI := by rw [knoI, hg]; rfl
          rw [y1o4 f T k hk, ek] at st
          have S3 := S2.code hcode (L' := y7d f T (k + 1)) (by rw [yen, yen])
          obtain ⟨H'', r1, r2⟩ := next _ S3
          refine ⟨H'', pfx _ ?_, r2⟩
          rw [yz7, ixc, y5, lc, y5, nx, yc, sx, yc, lx, y5, c169, yc, x0, y5, x1, y5, nc, yc, sc, yc]
          simp only [Option.isSome_some, y5o, lb, ixk, lr, ne, la, mg, y1c, y5, y22, fa, lc2, bl, ixc, st, yc]
          exact r1
        · rw [decide_eq_false hm] at mg
          have hg : y7p f T k = false := by unfold y7p; rw [hof, hT]; exact decide_eq_false hm
          obtain ⟨H'', r1, r2⟩ := next H2 (by rw [yfg hg]; exact S2)
          refine ⟨H'', pfx _ ?_, r2⟩
          rw [yz7, ixc, y5, lc, y5, nx, yc, sx, yc, lx, y5, c169, yc, x0, y5, x1, y5, nc, yc, sc, yc]
          simp only [Option.isSome_some, y5o, lb, ixk, lr, ne, la, mg, y1c, y5, y28]
          exact r1
end
theorem y23l (H : Heap) {j : Nat} {o : AO} (h : H[j]? = some o) (n : Nat) (hn : n ≤ 1000000) : mkSC 0 (some j) 1 8 [.nilm] (.int .i64 n) (.int .i64 n) H = some (.ls j (o.gen + 1) 1 0 n, H.set j ⟨o.gen + 1, .arr false false 1 (List.replicate n [.nilm])⟩) := by
  have h1 : (n : Int) * 8 ≤ 2 ^ 47 := by omega
  have h2 : (n : Int) ≤ 2 ^ 62 := by omega
  have z : [AV.nilm].length = 1 ∧ [AV.nilm].all y16 = true ∧ (0 : Int) ≤ (n : Int) ∧ (n : Int) ≤ n ∧ (n : Int) * ((8 : Nat) : Int) ≤ 2 ^ 47 ∧ (n : Int) ≤ 2 ^ 62 := ⟨rfl, rfl, by omega, by omega, h1, h2⟩
  rw [mkSC, if_pos z, y4d, place]
  simp only [Nat.zero_add, h, Option.map_some, Int.toNat_natCast, List.length_replicate]
theorem y1gv {f : Fn} (w : Wf f) : (List.replicate (lst f.code).length [AV.nilm]).set 0 [.lm 12 1] = tabK (y5e f) := by
  have hl : (y5e f).length = (lst f.code).length := by simp [y5e]
  refine List.ext_getElem? fun j => ?_
  rw [List.getElem?_set]
  have hn := w.n1
  by_cases e : 0 = j
  · subst e
    rw [if_pos rfl, if_pos (by rw [List.length_replicate]; omega), y78 (by omega), rowK, if_pos rfl]
  · rw [if_neg e]
    by_cases hj : j < (lst f.code).length
    · rw [y78 (by omega), rowK, if_neg (fun h => e h.symm), y0q w, if_neg (fun h => e h.symm), List.getElem?_replicate, if_pos hj]
    · rw [List.getElem?_eq_none (by simpa using hj), List.getElem?_eq_none (by simp [tabK, hl]; omega)]
theorem y295 {H : Heap} {j : Nat} (h : H[j]? = some D0) : newC 0 (some j) [.nils] H = some (.lp j 1 0 0, H.set j ⟨1, .arr true false 1 [[.nils]]⟩) := by
  simp [h]
theorem y2uq {H : Heap} {j : Nat} (h : H[j]? = some D0) : mkmC 0 (some j) H = some (.lm j 1, H.set j (AK 1 [])) := by
  simp [mkmC, place, h]
  rfl
theorem y1vq {f : Fn} (w : Wf f) {p g : Nat → Nat} {H : Heap} (D : DSt H f p g 17) (hd : ∀ k, 10 ≤ k → k < 17 → H[k]? = some D0) :
    ∃ H', y180 V1 V2 H = ydb V1 V2 V3 V4 V5 H' ∧ KSt H' f p g (y5e f) [0] := by
  have hn := w.n2
  have hn1 := w.n1
  have hlen := D.len
  have lc := D.ldc
  have hov : ownV (p 2) (g 2) f.code = .ls (p 2) (g 2) 9 0 (lst f.code).length := by
    cases hc : f.code with
    | none => rw [hc] at hn1; simp at hn1
    | some L => rfl
  rw [hov] at lc
  have fa3 : evFa 3 V1 = some (.lp 0 1 0 3) := rfl
  have mk := y23l H (j := 10) (o := D0) (hd 10 (by omega) (by omega)) (lst f.code).length (by omega)
  have D1 := D.set (a := 10) (x := ⟨D0.gen + 1, .arr false false 1 (List.replicate (lst f.code).length [.nilm])⟩) (by omega)
  have a10 : (H.set 10 ⟨D0.gen + 1, .arr false false 1 (List.replicate (lst f.code).length [.nilm])⟩)[10]? = some ⟨1, .arr false false 1 (List.replicate (lst f.code).length [.nilm])⟩ := y7c (by omega)
  have ad : ∀ k, 11 ≤ k → k < 17 → (H.set 10 ⟨D0.gen + 1, .arr false false 1 (List.replicate (lst f.code).length [.nilm])⟩)[k]? = some D0 := fun k h1 h2 => by rw [y1o (by omega)]; exact hd k (by omega) h2
  generalize H.set 10 ⟨D0.gen + 1, .arr false false 1 (List.replicate (lst f.code).length [.nilm])⟩ = H1 at *
  have n11 := y295 (ad 11 (by omega) (by omega))
  have hl1 := D1.len
  have s11 := y20x (H := H1.set 11 ⟨1, .arr true false 1 [[.nils]]⟩) (a := 11) (v := .nils) (w := .ls 10 (D0.gen + 1) 1 0 (lst f.code).length) (y7c (by omega)) rfl rfl
  rw [List.set_set] at s11
  have D2 := D1.set (a := 11) (x := ⟨1, .arr true false 1 [[.ls 10 (D0.gen + 1) 1 0 (lst f.code).length]]⟩) (by omega)
  have b10 : (H1.set 11 ⟨1, .arr true false 1 [[.ls 10 (D0.gen + 1) 1 0 (lst f.code).length]]⟩)[10]? = some ⟨1, .arr false false 1 (List.replicate (lst f.code).length [.nilm])⟩ := by rw [y1o (by omega)]; exact a10
  have b11 : (H1.set 11 ⟨1, .arr true false 1 [[.ls 10 (D0.gen + 1) 1 0 (lst f.code).length]]⟩)[11]? = some ⟨1, .arr true false 1 [[.ls 10 1 1 0 (lst f.code).length]]⟩ := y7c (by omega)
  have bd : ∀ k, 12 ≤ k → k < 17 → (H1.set 11 ⟨1, .arr true false 1 [[.ls 10 (D0.gen + 1) 1 0 (lst f.code).length]]⟩)[k]? = some D0 := fun k h1 h2 => by rw [y1o (by omega)]; exact ad k (by omega) h2
  generalize H1.set 11 ⟨1, .arr true false 1 [[.ls 10 (D0.gen + 1) 1 0 (lst f.code).length]]⟩ = H2 at *
  have l11 := yr5 b11
  have hl2 := D2.len
  have m12 := y2uq (bd 12 (by omega) (by omega))
  have D3 := D2.set (a := 12) (x := AK 1 []) (by omega)
  have c10 : (H2.set 12 (AK 1 []))[10]? = some ⟨1, .arr false false 1 (List.replicate (lst f.code).length [.nilm])⟩ := by rw [y1o (by omega)]; exact b10
  have c11 : (H2.set 12 (AK 1 []))[11]? = some ⟨1, .arr true false 1 [[.ls 10 1 1 0 (lst f.code).length]]⟩ := by rw [y1o (by omega)]; exact b11
  have c12 : (H2.set 12 (AK 1 []))[12]? = some (AK 1 []) := y7c (by omega)
  have cd : ∀ k, 13 ≤ k → k < 17 → (H2.set 12 (AK 1 []))[k]? = some D0 := fun k h1 h2 => by rw [y1o (by omega)]; exact bd k (by omega) h2
  generalize H2.set 12 (AK 1 []) = H3 at *
  have ix0 := y1sy (n := (lst f.code).length) (p := 0) (by omega) (by omega) 10 1 .i64
  rw [show Int.toNat 0 = 0 from rfl] at ix0
  have hrow : (List.replicate (lst f.code).length [AV.nilm])[0]? = some [AV.nilm] := by
    rw [List.getElem?_replicate, if_pos (by omega)]
  have st := y2b1 (v := .lm 12 1) c10 hrow rfl rfl
  rw [y1gv w] at st
  have D4 := D3.set (a := 10) (x := ⟨1, .arr false false 1 (tabK (y5e f))⟩) (by omega)
  have hl3 := D3.len
  have d10 : (H3.set 10 ⟨1, .arr false false 1 (tabK (y5e f))⟩)[10]? = some ⟨1, .arr false false 1 (tabK (y5e f))⟩ := y7c (by omega)
  have d11 : (H3.set 10 ⟨1, .arr false false 1 (tabK (y5e f))⟩)[11]? = some ⟨1, .arr true false 1 [[.ls 10 1 1 0 (lst f.code).length]]⟩ := by rw [y1o (by omega)]; exact c11
  have d12 : (H3.set 10 ⟨1, .arr false false 1 (tabK (y5e f))⟩)[12]? = some (AK 1 []) := by rw [y1o (by omega)]; exact c12
  have dd : ∀ k, 13 ≤ k → k < 17 → (H3.set 10 ⟨1, .arr false false 1 (tabK (y5e f))⟩)[k]? = some D0 := fun k h1 h2 => by rw [y1o (by omega)]; exact cd k (by omega) h2
  generalize H3.set 10 ⟨1, .arr false false 1 (tabK (y5e f))⟩ = H4 at *
  have hl4 := D4.len
  have b13 := y2a9 (H := H4) (fb := 0) (j := 13) (o := D0) 0 (by rw [Nat.zero_add]; exact dd 13 (by omega) (by omega))
  rw [Nat.zero_add] at b13
  have D5 := D4.set (a := 13) (x := AI (D0.gen + 1) [0]) (by omega)
  have e10 : (H4.set 13 (AI (D0.gen + 1) [0]))[10]? = some ⟨1, .arr false false 1 (tabK (y5e f))⟩ := by rw [y1o (by omega)]; exact d10
  have e11 : (H4.set 13 (AI (D0.gen + 1) [0]))[11]? = some ⟨1, .arr true false 1 [[.ls 10 1 1 0 (lst f.code).length]]⟩ := by rw [y1o (by omega)]; exact d11
  have e12 : (H4.set 13 (AI (D0.gen + 1) [0]))[12]? = some (AK 1 []) := by rw [y1o (by omega)]; exact d12
  have e13 : (H4.set 13 (AI (D0.gen + 1) [0]))[13]? = some (AI 1 [0]) := y7c (by omega)
  have ed : ∀ k, 14 ≤ k → k < 17 → (H4.set 13 (AI (D0.gen + 1) [0]))[k]? = some D0 := fun k h1 h2 => by rw [y1o (by omega)]; exact dd k (by omega) h2
  generalize H4.set 13 (AI (D0.gen + 1) [0]) = H5 at *
  have hl5 := D5.len
  have n14 := y295 (ed 14 (by omega) (by omega))
  have s14 := y20x (H := H5.set 14 ⟨1, .arr true false 1 [[.nils]]⟩) (a := 14) (v := .nils) (w := .ls 13 (D0.gen + 1) 1 0 1) (y7c (by omega)) rfl rfl
  rw [List.set_set] at s14
  have D6 := D5.set (a := 14) (x := ⟨1, .arr true false 1 [[.ls 13 (D0.gen + 1) 1 0 1]]⟩) (by omega)
  have hT : (y5e f).length = (lst f.code).length := by simp [y5e]
  refine ⟨_, ?_, ⟨D6, by rw [y1o (by omega)]; exact e10, by rw [y1o (by omega), hT]; exact e11, by rw [y1o (by omega)]; exact e12, 1, [], by rw [y1o (by omega)]; exact e13, y7c (by omega)⟩⟩
  rw [y180, fa3, y5, lc, y5, y6q, y5, mk, yc, n11, yc, s11, yc, y1ij, l11, y5, m12, yc, ix0, y5, st, yc, y1sn, b13, yc, n14, yc, s14, yc, y1j6, y5]
theorem y1iy (f : Fn) (hf : FnFit f) (hs : FnSm f) (h1 : (lst f.code).length ≤ 400) (h2 : (lst f.regs).length ≤ 100) (hr : (lst f.rows).length ≤ 1000000) :
    (wf f = false → (y8 E).p 166 [.agg (enc f)] = some (y2u f)) ∧ (wf f = true → ∃ T, InvK f (T, []) ∧ (y8 E).p 166 [.agg (enc f)] = some (y2u (knoF f T))) := by
  have n0 : newC 0 (some 0) (cellsOf (.agg (enc f))) (List.replicate 17 ⟨0, .dead⟩) = some (.lp 0 1 0 0, AB f :: List.replicate 16 D0) := by simp [List.replicate]
  have n1 : newC 0 (some 1) [.nils, .nils, .int .i64 0, .nils, .nils] (AB f :: List.replicate 16 D0) = some (.lp 1 1 0 0, AB f :: ⟨1, .arr true false 5 [[.nils, .nils, .int .i64 0, .nils, .nils]]⟩ :: List.replicate 15 D0) := by simp [List.replicate]
  have l0 : ∀ t : Heap, evLd true 5 (.lp 0 1 0 0) (AB f :: t) = some (.agg (enc f)) := fun t => by simp
  obtain ⟨H1, H2, p, g, e1, e2, D, hl2, hk2⟩ := y1hn hs (H := AB f :: ⟨1, .arr true false 5 [[.nils, .nils, .int .i64 0, .nils, .nils]]⟩ :: List.replicate 15 D0) rfl ⟨_, rfl, rfl⟩ (n := 17) (by omega) (by simp)
  have hck := y2cq f hf
  have c8 := D.call (E := E) (C := y8 E) (fb := 0) (sl := none) (k := 8) rfl rfl hck ⟨_, rfl, rfl⟩
  have e24 : (y8 E).p 166 [.agg (enc f)] = yxo V1 V2 H2 := by
    rw [y2v6]
    show y13a _ (List.replicate 17 ⟨0, .dead⟩) = _
    rw [y13a, n0, yc, n1, yc, y1yx, l0, y5, e1, yc, e2, yc]
  refine ⟨fun hw => ?_, fun hw => ?_⟩
  · rw [hw] at c8
    obtain ⟨H3, o1, o2, o3⟩ := D.out
    have z : y6 .neq (.int .i64 (if false = true then (0 : Int) else 80)) (.int .i64 0) = some (.bool true) := rfl
    rw [e24, yxo, D.ld, y5, c8, yc, z, y5, y22, D.ld, y5, o1, yc, o2, y5, o3]
  · rw [hw] at c8
    have w := y2nn hw
    obtain ⟨L, hL⟩ : ∃ L, f.code = some L := by
      cases hc : f.code with
      | none => have := w.n1; rw [hc] at this; simp at this
      | some L => exact ⟨L, rfl⟩
    have hlL : lst f.code = L := by rw [hL]; rfl
    obtain ⟨H3, q1, S3⟩ := y1vq w D (fun k h1 h2 => by
      rw [hk2 k (by omega)]
      rw [show k = (k - 2) + 2 by omega, List.getElem?_cons_succ, List.getElem?_cons_succ, List.getElem?_replicate, if_pos (by omega)])
    obtain ⟨H4, T, q2, S4, v⟩ := y2uz w hr _ H3 (y5e f) [0] (Nat.le_refl _) S3 (y2mu w) (y1hg h1 h2)
    refine ⟨T, v, ?_⟩
    have hself : yd6 f (y7d f T 0) = f := by rw [y2k0, hlL, yp6 hL]
    have N0 : NSt H4 (yd6 f (y7d f T 0)) p g T := ⟨by rw [hself]; exact S4.d, S4.tab, S4.tbx, S4.m0⟩
    obtain ⟨H8, t1, D8⟩ := y21g w v _ 0 (Nat.zero_add _) H4 N0
    obtain ⟨H9, o1, o2, o3⟩ := D8.out
    have z : y6 .neq (.int .i64 (if true = true then (0 : Int) else 80)) (.int .i64 0) = some (.bool false) := rfl
    have fa3 : evFa 3 V1 = some (.lp 0 1 0 3) := rfl
    have lc := S4.d.ldc
    have hov : ownV (p 2) (g 2) f.code = .ls (p 2) (g 2) 9 0 (lst f.code).length := by rw [hL]; rfl
    rw [hov] at lc
    have z0 : ((0 : Nat) : Int) = 0 := rfl
    rw [z0] at t1
    rw [e24, yxo, D.ld, y5, c8, yc, z, y5, y28, q1, q2, y22x, fa3, y5, lc, y5, y6q, y5, t1, y1ru, D8.ld, y5, o1, yc, o2, y5, o3]
end Go.Vm
