/- known.Pass's closure on the machine: facts flow to a place. Which instructions may throw. A number in a list: the library's 'Contains'. flow.Next, flow.Caught. known.Pass on the machine: the rounds of its work. The instruction that does nothing. What 'kinds' answers. What 'other' answers; all of 'kinds'. Whether one instruction is well formed: 'right'. 'right', whole. Whether a function is well formed: 'Check': its lists of registers, parameters, rows. known.Pass on the machine: the pass itself. -/
import Derived.Test.YtgbajicpokolcaaGX
import Derived.Test.YtgbajicpokolcaaGTc
set_option linter.unusedSimpArgs false
set_option linter.unusedVariables false
set_option linter.unusedSectionVars false
namespace Go.Vm
open Cel
theorem ypl {H : Heap} {a : Nat} {v : AV} (h : H[a]? = some ⟨1, .arr true false 1 [[v]]⟩) : evLd false 1 (.lp a 1 0 0) H = some v := by
  have hr : yn H a 1 = some (false, 1, [[v]]) := by simp [yn, y3m, h]
  rw [y3e, hr]
  rfl
theorem y22x {H : Heap} {a : Nat} {v w : AV} (h : H[a]? = some ⟨1, .arr true false 1 [[v]]⟩) (hv : cellsOf w = [w]) (hl : y1a w = true) : evSt 1 (.lp a 1 0 0) w H = some (.tup [], H.set a ⟨1, .arr true false 1 [[w]]⟩) := by
  have hr : yn H a 1 = some (false, 1, [[v]]) := by simp [yn, y3m, h]
  rw [y67, hr]
  simp only [List.getElem?_cons_zero, hv]
  rw [if_pos (by simp [hl]), y27, h]
  rfl
theorem yw3 {k n : Nat} (h : k < n) (hn : n ≤ 9223372036854775807) : y8 .add (.int .i64 (k : Int)) (.int .i64 1) = some (.int .i64 ((k + 1 : Nat) : Int)) := by
  rw [y2e]
  congr 2
  rw [y33] <;> omega
def rowK (T : KTab) (i : Nat) : AV := if i = 0 then .lm 12 1 else match kAt T i with
  | none => .nilm
  | some s => .rm (mE s)
def tabK (T : KTab) : List (List AV) := (List.range T.length).map fun i => [rowK T i]
theorem y7e {T : KTab} {i : Nat} (h : i < T.length) : (tabK T)[i]? = some [rowK T i] := by
  simp [tabK, h]
theorem y22u {T : KTab} {i : Nat} (h0 : i ≠ 0) (h : i < T.length) (n : Fs) : (tabK T).set i [.rm (mE n)] = tabK (T.set i (some n)) := by
  refine List.ext_getElem? fun j => ?_
  rw [List.getElem?_set]
  have hl : (tabK T).length = T.length := by simp [tabK]
  by_cases e : i = j
  · subst e
    rw [if_pos rfl, if_pos (by rw [hl]; exact h), y7e (by rw [List.length_set]; exact h), rowK, if_neg h0, yfe h, if_pos rfl]
  · rw [if_neg e]
    by_cases hj : j < T.length
    · rw [y7e hj, y7e (by rw [List.length_set]; exact hj), rowK, rowK, yfe h, if_neg e]
    · rw [List.getElem?_eq_none (by rw [hl]; omega), List.getElem?_eq_none (by simp [tabK]; omega)]
def IsK (v : AV) (s : Fs) : Prop := v = .rm (mE s) ∨ (v = .lm 12 1 ∧ s = [])
theorem ypt {T : KTab} {i : Nat} {t : Fs} (hz : kAt T 0 = some []) (h : kAt T i = some t) : IsK (rowK T i) t := by
  unfold rowK
  by_cases e : i = 0
  · subst e
    rw [hz] at h
    injection h with h
    rw [if_pos rfl]
    exact .inr ⟨rfl, h.symm⟩
  · rw [if_neg e, h]
    exact .inl rfl
theorem IsK.fz {v : AV} {s : Fs} (h : IsK v s) {H : Heap} (m0 : H[12]? = some (AK 1 [])) (k : Nat) : ∃ fr ids, Go.Vm.fz H (k + 3) v = some ⟨.rm (mE s), fr, ids⟩ ∧ (ids = [] ∨ ids = [12]) := by
  rcases h with rfl | ⟨rfl, rfl⟩
  · exact ⟨_, _, rfl, .inl rfl⟩
  · exact ⟨_, _, y25r k m0, .inr rfl⟩
theorem IsK.len {v : AV} {s : Fs} (h : IsK v s) {H : Heap} (m0 : H[12]? = some (AK 1 [])) : y10 2 v H = some (.int .i64 s.length) := by
  rcases h with rfl | ⟨rfl, rfl⟩
  · simp [y10, y27d]
  · simp [y10, yg6 m0, mE]
theorem IsK.nn {v : AV} {s : Fs} (h : IsK v s) : y4q 2 false v AV.nilm = some (.bool false) ∧ y4q 2 true v AV.nilm = some (.bool true) := by
  rcases h with rfl | ⟨rfl, rfl⟩ <;> exact ⟨rfl, rfl⟩
theorem yor {H : Heap} {fb f : Nat} {args args' : List AV} {s : Fs} {fr : Bool} {ids : List Nat} (hE : E.pure f = true) (ha : ym (fz H y19) args = some ⟨args', fr, ids⟩) (hc : (yb E).p f args' = some (exK2 s)) :
    y9 E (yb E) fb none true f args H = some (.rm (mE s), H) ∧ y4l E (yb E) fb none true f args H = some (ids, []) := by
  refine ⟨yp5 (fa := ⟨args', fr, ids⟩) hE ha rfl hc ⟨_, y2bp s, rfl⟩, ?_⟩
  simp [y4l, hE, ha, hc]
structure KSt (H : Heap) (f : Fn) (p g : Nat → Nat) (T : KTab) (W : List Int) : Prop where
  d : DSt H f p g 17
  tab : H[10]? = some ⟨1, .arr false false 1 (tabK T)⟩
  tbx : H[11]? = some ⟨1, .arr true false 1 [[.ls 10 1 1 0 T.length]]⟩
  m0 : H[12]? = some (AK 1 [])
  wk : ∃ gw D, H[13]? = some (AI gw (W ++ D)) ∧ H[14]? = some ⟨1, .arr true false 1 [[.ls 13 gw 1 0 W.length]]⟩
theorem KSt.grow {H : Heap} {f : Fn} {p g : Nat → Nat} {T : KTab} {W : List Int} (S : KSt H f p g T W) (X : Heap) : KSt (H ++ X) f p g T W := by
  obtain ⟨gw, D, w1, w2⟩ := S.wk
  exact ⟨S.d.grow X, yhq S.tab, yhq S.tbx, yhq S.m0, gw, D, yhq w1, yhq w2⟩
theorem KSt.set {H : Heap} {f : Fn} {p g : Nat → Nat} {T : KTab} {W : List Int} (S : KSt H f p g T W) {a : Nat} {x : AO} (ha : 15 ≤ a) : KSt (H.set a x) f p g T W := by
  obtain ⟨gw, D, w1, w2⟩ := S.wk
  exact ⟨S.d.set (by omega), by rw [yx (by omega)]; exact S.tab, by rw [yx (by omega)]; exact S.tbx, by rw [yx (by omega)]; exact S.m0, gw, D, by rw [yx (by omega)]; exact w1, by rw [yx (by omega)]; exact w2⟩
section
variable {f : Fn} {p g : Nat → Nat} {T : KTab} {W : List Int} {to : Int} (t0 : 0 ≤ to) (t1 : to < T.length) (hb : W.length ≤ 1000000000)
include t0 t1 hb
theorem yqs {H : Heap} (S : KSt H f p g T W) {fb : Nat} (hf : 17 ≤ fb) (h1 : H[fb + 0]? = some D0) :
    ∃ H', y1u0 fb (.int .i64 to) (.lp 14 1 0 0) H = some (.tup [], H') ∧ KSt H' f p g T (W ++ [to]) := by
  obtain ⟨gw, D, w1, w2⟩ := S.wk
  have l2 := ypl w2
  have b1 := yui to h1
  have S2 := S.set (a := fb + 0) (x := AI (D0.gen + 1) [to]) (by omega)
  have h14 := y3t w2
  have h13 := y3t w1
  have n14 : (H.set (fb + 0) (AI (D0.gen + 1) [to]))[14]? = some ⟨1, .arr true false 1 [[.ls 13 gw 1 0 W.length]]⟩ := by rw [yx (by omega)]; exact w2
  have n13 : (H.set (fb + 0) (AI (D0.gen + 1) [to]))[13]? = some (AI gw (W ++ D)) := by rw [yx (by omega)]; exact w1
  have nfb : (H.set (fb + 0) (AI (D0.gen + 1) [to]))[fb + 0]? = some (AI (D0.gen + 1) [to]) := y4c (y3t h1)
  generalize H.set (fb + 0) (AI (D0.gen + 1) [to]) = H2 at *
  have ap : y3y fb (some 1) 1 8 (.ls 13 gw 1 0 W.length) (.ls (fb + 0) (D0.gen + 1) 1 0 1) H2 = some (.ls 13 (gw + 1) 1 0 (W ++ [to]).length, H2.set 13 (AI (gw + 1) (W ++ [to]))) :=
    y1r6 (α := Int) (M := [to]) (y1ey (α := Int) (L := [to]) nfb) n13 (yqm (by simp; omega))
  have S3d := S2.d.set (a := 13) (x := AI (gw + 1) (W ++ [to])) (by omega)
  have k14 : (H2.set 13 (AI (gw + 1) (W ++ [to])))[14]? = some ⟨1, .arr true false 1 [[.ls 13 gw 1 0 W.length]]⟩ := by rw [yx (by omega)]; exact n14
  have k13 : (H2.set 13 (AI (gw + 1) (W ++ [to])))[13]? = some (AI (gw + 1) (W ++ [to])) := y4c (y3t n13)
  have k11 : (H2.set 13 (AI (gw + 1) (W ++ [to])))[11]? = some ⟨1, .arr true false 1 [[.ls 10 1 1 0 T.length]]⟩ := by rw [yx (by omega)]; exact S2.tbx
  have k10 : (H2.set 13 (AI (gw + 1) (W ++ [to])))[10]? = some ⟨1, .arr false false 1 (tabK T)⟩ := by rw [yx (by omega)]; exact S2.tab
  have k12 : (H2.set 13 (AI (gw + 1) (W ++ [to])))[12]? = some (AK 1 []) := by rw [yx (by omega)]; exact S2.m0
  generalize H2.set 13 (AI (gw + 1) (W ++ [to])) = H3 at *
  have s14 := y22x (w := .ls 13 (gw + 1) 1 0 (W ++ [to]).length) k14 rfl rfl
  refine ⟨H3.set 14 ⟨1, .arr true false 1 [[.ls 13 (gw + 1) 1 0 (W ++ [to]).length]]⟩, ?_, S3d.set (by omega), ?_, ?_, ?_, gw + 1, [], ?_, y4c (y3t k14)⟩
  · rw [y1u0, l2, y7, b1, ye, ap, ye, s14, ye]
  · rw [yx (by omega)]; exact k10
  · rw [yx (by omega)]; exact k11
  · rw [yx (by omega)]; exact k12
  · rw [yx (by omega), List.append_nil]; exact k13
omit hb in
theorem y11k {H : Heap} (S : KSt H f p g T W) (h0 : to.toNat ≠ 0) (n : Fs) :
    ∃ H1, evSt 1 (.lp 10 1 to.toNat 0) (.rm (mE n)) H = some (.tup [], H1) ∧ KSt H1 f p g (T.set to.toNat (some n)) W ∧ ∀ a, a ≠ 10 → H1[a]? = H[a]? := by
  obtain ⟨gw, D, w1, w2⟩ := S.wk
  have hlt : to.toNat < T.length := by omega
  have st := y15r (v := .rm (mE n)) S.tab (y7e hlt) rfl rfl
  rw [y22u h0 hlt] at st
  refine ⟨_, st, ⟨S.d.set (by omega), y4c (y3t S.tab), by rw [yx (by omega), List.length_set]; exact S.tbx, by rw [yx (by omega)]; exact S.m0, gw, D, by rw [yx (by omega)]; exact w1, by rw [yx (by omega)]; exact w2⟩, fun a ha => yx (fun e => ha e.symm)⟩
theorem y1hb {H : Heap} (S : KSt H f p g T W) (hz : kAt T 0 = some []) (hnd : ∀ t, kAt T to.toNat = some t → t.Nodup) {v : AV} {s : Fs} (hv : IsK v s) :
    ∃ H', ymf E (yb E) 0 none true (.fn 167 [.lp 11 1 0 0, .lp 14 1 0 0]) [.int .i64 to, v] H = some (.tup [], H') ∧ KSt H' f p g (ye6 s to (T, W)).1 (ye6 s to (T, W)).2 := by
  have e1 : ymf E (yb E) 0 none true (.fn 167 [.lp 11 1 0 0, .lp 14 1 0 0]) [.int .i64 to, v] H = y24j H.length (.int .i64 to) v (.lp 11 1 0 0) (.lp 14 1 0 0) (H ++ yv 2) := by
    rw [ymf]
    show y9 E (yb E) 0 none true 167 [.int .i64 to, v, .lp 11 1 0 0, .lp 14 1 0 0] H = _
    rw [y9, if_neg (by simp), y2p1, if_pos rfl]
  rw [e1]
  have S0 := S.grow (yv 2)
  have hfb : 17 ≤ H.length := S.d.len
  have d1 : (H ++ yv 2)[H.length + 0]? = some D0 := y24t (by omega)
  generalize H ++ yv 2 = H0 at *
  generalize H.length = fb at *
  have hlt : to.toNat < T.length := by omega
  have l1 := ypl S0.tbx
  have ix := yd0 (n := T.length) t0 t1 10 1 .i64
  have lr := yca S0.tab (y7e hlt)
  obtain ⟨fr, ids, hz1, hids⟩ := hv.fz S0.m0 9
  rw [y24j, l1, y7, ix, y7, lr, y7]
  unfold ye6
  simp only
  cases ho : kAt T to.toNat with
  | none =>
    have h0 : to.toNat ≠ 0 := fun e => by rw [e, hz] at ho; cases ho
    have er : rowK T to.toNat = .nilm := by rw [rowK, if_neg h0, ho]
    have ne : y4q 2 false AV.nilm AV.nilm = some (.bool true) := rfl
    have ha : ym (fz H0 y19) [v] = some ⟨[.rm (mE s)], fr && true, ids ++ []⟩ := by
      rw [yr, show y19 = 9 + 3 from rfl, hz1, y18]
    obtain ⟨c, fp⟩ := yor (fb := fb) (f := 161) rfl ha (y13k s)
    obtain ⟨H1, st, S1, hk⟩ := y11k t0 t1 S0 h0 s
    obtain ⟨H2, r1, r2⟩ := yqs t0 (by rw [List.length_set]; exact t1) hb S1 hfb (by rw [hk _ (by omega)]; exact d1)
    refine ⟨H2, ?_, r2⟩
    have hp : yg [(ids1 (.lp 11 1 0 0), []), ([], []), ([], []), (ids ++ [], []), ([], []), ([], ids1 (.lp 10 1 to.toNat 0))] [(0, 3)] = true := by
      simp [yg, yt, meets]
    rw [er, ne, y7, y22v, y1k, l1, y7, fp, ypf, c, ye, ix, y7, st, ye, y2j3 hp, r1]
  | some t =>
    have hi := ypt hz ho
    obtain ⟨fr2, ids2, hz2, _⟩ := hi.fz S0.m0 9
    have ha : ym (fz H0 y19) [rowK T to.toNat, v] = some ⟨[.rm (mE t), .rm (mE s)], fr2 && (fr && true), ids2 ++ (ids ++ [])⟩ := by
      rw [yr, yr, show y19 = 9 + 3 from rfl, hz1, hz2, y18]
    obtain ⟨c, _⟩ := yor (fb := fb) (f := 170) rfl ha (y2f9 t s (hnd t ho))
    have ln : y10 2 (.rm (mE (y4m t s))) H0 = some (.int .i64 (y4m t s).length) := by simp [y10, y27d]
    rw [hi.nn.1, y7, y22v, y25, y2fg, l1, y7, ix, y7, lr, y7, c, ye, y2c7, ln, y7, l1, y7, ix, y7, lr, y7, hi.len S0.m0, y7, y17, y7]
    simp only
    by_cases e : (y4m t s).length = t.length
    · rw [if_pos e, decide_eq_true (by omega), y1k]
      exact ⟨H0, rfl, S0⟩
    · have h0 : to.toNat ≠ 0 := fun e2 => by
        rw [e2, hz] at ho
        injection ho with ho
        subst ho
        exact e rfl
      rw [if_neg e, decide_eq_false (by omega), y25]
      obtain ⟨H1, st, S1, hk⟩ := y11k t0 t1 S0 h0 (y4m t s)
      obtain ⟨H2, r1, r2⟩ := yqs t0 (by rw [List.length_set]; exact t1) hb S1 hfb (by rw [hk _ (by omega)]; exact d1)
      refine ⟨H2, ?_, r2⟩
      rw [y2b6, l1, y7, ix, y7, st, ye, r1]
end
end Go.Vm
namespace Go.Vm
open Cel
attribute [local simp] y9 y2a yu
@[simp] theorem y2nf (x : Ins) : (yb E).p 18 [.agg (enc x)] = some ⟨.bool (throws x.op), [], true, [], []⟩ := by
  rw [y2nt]
  rcases ydz x.op with h|h|h|h|h|h|h|h|h|h|h|h|h|h|h|h|h|h|h|h|h|h|h|h|h|h|h|h|h|h|h|h|h|h|h <;> first | (simp [h, throws, calls, y1ln]; done) | (simp [lo_f h, throws, calls, y1ln]; done) | simp [hi_f h, throws, calls, y1ln]
end Go.Vm
namespace Go.Vm
open Cel
attribute [local simp] y9 y2a yu
theorem y26f {α : Type} [Cel α] (o : Option (List α)) (i : Nat) (h : i ≤ (lst o).length) (k : IntKind) : ybi (es α) (slA o) none (some (.int k i)) = some (slA (o.map (List.take i))) := by
  have h2 : (0 : Int) ≤ (i : Int) ∧ (i : Int) ≤ ((lst o).length : Int) := by omega
  cases o with
  | none =>
    have : i = 0 := by simpa using h
    subst this
    simp [ybi, slA, yvi, ya2, yil]
  | some L =>
    simp only [y5z] at h2
    simp [ybi, slA, yvi, ya2, yil, h2, List.map_take]
theorem y1bs (o : Option (List Int)) (r : Int) (hl : (lst o).length ≤ 9223372036854775807) (h : Heap) : ∀ (d i : Nat), i + d = (lst o).length →
    ∃ k : Int, yj4 (slA o) (.int .i64 r) (.int .i64 (lst o).length) (.int .i64 i) h = some ⟨.int .i64 k, [], true, [], []⟩ ∧ (0 ≤ k ↔ r ∈ (lst o).drop i) := by
  intro d
  induction d with
  | zero =>
    intro i hi
    have e1 : (lst o).drop i = [] := List.drop_eq_nil_of_le (by omega)
    have hn : ¬ ((i : Int) < ((lst o).length : Int)) := by omega
    rw [yn3, e1]
    exact ⟨-1, by simp [ylr, ymn, yoc, yo6, yo1, yn4, yfb, hn], by simp⟩
  | succ d ih =>
    intro i hi
    have hlt : i < (lst o).length := by omega
    have hn : ((i : Int) < ((lst o).length : Int)) := by omega
    have k1 := y3c (o := o) (i := i) (List.getElem?_eq_getElem hlt) .i64
    have hm : r ∈ (lst o).drop i ↔ r = (lst o)[i] ∨ r ∈ (lst o).drop (i + 1) := by rw [List.drop_eq_getElem_cons hlt, List.mem_cons]
    rw [yn3, hm]
    by_cases he : r = (lst o)[i]
    · exact ⟨i, by simp [ylr, ymn, yoc, yo6, yo1, yn4, yfb, hn, k1, he], by simp [he]⟩
    · obtain ⟨k, h1, h2⟩ := ih (i + 1) (by omega)
      push_cast at h1
      refine ⟨k, ?_, ?_⟩
      · simp [ylr, ymn, yoc, yo6, yo1, yn4, yfb, hn, k1, he, y1p hlt hl, h1]
      · rw [h2]; simp [he]
@[simp] theorem ybs (o : Option (List Int)) (r : Int) (hl : (lst o).length ≤ 9223372036854775807) : (yb E).p 46 [slA o, .int .i64 r] = some ⟨.bool ((lst o).contains r), [], true, [], []⟩ := by
  obtain ⟨k, h1, h2⟩ := y1bs o r hl [] (lst o).length 0 (by omega)
  simp only [Int.ofNat_zero, List.drop_zero] at h1 h2
  have hi : (yb E).p 45 [slA o, .int .i64 r] = some ⟨.int .i64 k, [], true, [], []⟩ := by
    rw [y2mg, ← h1]
    simp [ylr, ymn, yoc, yo6, yo1, yn4, yfb]
  rw [y2m6]
  by_cases h0 : 0 ≤ k
  · have := h2.1 h0
    simp [yz1, hi, h0, this]
  · have : r ∉ lst o := fun h => h0 (h2.2 h)
    simp [yz1, hi, h0, this]
end Go.Vm
namespace Go.Vm
open Cel
attribute [local simp] y9 y2a yu
theorem yq2 (a b : Int) : (yb E).p 46 [.rs 1 [[.int .i64 a]], .int .i64 b] = some ⟨.bool ([a].contains b), [], true, [], []⟩ := by
  have := ybs (some [a]) b (by simp)
  exact this
theorem y26n (f : Fn) (i : Int) (hl : (lst f.code).length ≤ 9223372036854775807) : (yb E).p 81 [.agg (enc f), .int .i64 i] = some (exO (nz (y26 f i))) := by
  rw [y2qm]
  by_cases h0 : i < 0
  · simp [yl9, ylg, yl6, y1kv, y1s0, y1e2, y19l, h0, y26, nz]; rfl
  by_cases h1 : ((lst f.code).length : Int) ≤ i
  · simp [yl9, ylg, yl6, y1kv, y1s0, y1e2, y19l, h0, h1, y26, nz]; rfl
  have g0 : 0 ≤ i := by omega
  have hx := y5g (f := f) (i := i.toNat) (by omega)
  have k1 := y8o (o := f.code) g0 hx .i64
  have hw := y1qh g0 (by omega) hl
  have hn : y26 f i = yri (yh f i.toNat) i := by rw [y26, if_neg (by omega)]
  rw [hn]
  generalize yh f i.toNat = x at *
  have e : y19l (.agg (enc f)) (.int .i64 i) [⟨0, .dead⟩, ⟨0, .dead⟩, ⟨0, .dead⟩, ⟨0, .dead⟩, ⟨0, .dead⟩, ⟨0, .dead⟩] = yl6 (.int .i64 i) (.lp 1 1 0 0) .nils [⟨1, .arr true false 5 [enc f]⟩, ⟨1, .arr true false 9 [enc x]⟩, ⟨0, .dead⟩, ⟨0, .dead⟩, ⟨0, .dead⟩, ⟨0, .dead⟩] := by
    simp [y19l, y1e2, y1s0, y1kv, h0, h1, k1]
  rw [e, yri]
  cases he : ends x.op with
  | true =>
    cases hd : leads x.op with
    | false => simp [yl6, ylg, yl9, he, hd, nz]; rfl
    | true =>
      have := ybs none x.t (by simp)
      simp [yl6, ylg, yl9, he, hd, nz, slA] at this ⊢
      simp [this, y12, y1f, y3y, addN]
      exact yfl (by simp)
  | false =>
    cases hd : leads x.op with
    | false =>
      simp [yl6, ylg, yl9, he, hd, hw, y12, y1f, y3y]
      exact yfl (by simp)
    | true =>
      have hz : fz [⟨1, .arr true false 5 [enc f]⟩, ⟨1, .arr true false 9 [enc x]⟩, ⟨1, .arr false false 1 [[.int .i64 (i + 1)]]⟩, ⟨1, .arr false false 1 [[.int .i64 (i + 1)]]⟩, ⟨0, .dead⟩, ⟨0, .dead⟩] y19 (.ls 3 1 1 0 1) = some ⟨.rs 1 [[.int .i64 (i + 1)]], true, [3]⟩ := by
        rw [y23o]; rfl
      generalize hxt : x.t = t at *
      by_cases hc : i + 1 = t
      · subst hc
        simp [yl6, ylg, yl9, he, hd, hw, y12, y1f, y3y, hz, yq2, addN, hxt]
        exact yfl (by simp)
      · have hc' : ¬ t = i + 1 := fun h => hc h.symm
        simp [yl6, ylg, yl9, he, hd, hw, y12, y1f, y3y, hz, yq2, hc, hc', addN, hxt]
        exact y1bo (by simp)
theorem ywv (f : Fn) (i : Int) (hl : (lst f.rows).length ≤ 10000000000000) : ∀ (d k g : Nat) (L : List Int) (o1 o2 : AO), k + d = (lst f.rows).length → L.length ≤ k →
    ytz (.int .i64 i) (y4n Int 3 g L) (slA f.rows) (.int .i64 (lst f.rows).length) (.int .i64 k) [⟨1, .arr true false 5 [enc f]⟩, o1, o2, y5i g D0 L] = some (exO (nz (y3s i ((lst f.rows).drop k) L))) := by
  intro d
  induction d with
  | zero =>
    intro k g L o1 o2 hk _
    have e1 : (lst f.rows).drop k = [] := List.drop_eq_nil_of_le (by omega)
    have hn : ¬ ((k : Int) < ((lst f.rows).length : Int)) := by omega
    have hx := yhz (H := [⟨1, .arr true false 5 [enc f]⟩, o1, o2, y5i g D0 L]) (j := 3) (g := g) (o := D0) (L := L) rfl
    rw [yr2, e1]
    simp [yq4, y12d, y1mj, hn, y3s, hx]
  | succ d ih =>
    intro k g L o1 o2 hk hL
    have hlt : k < (lst f.rows).length := by omega
    have hc : ((k : Int) < ((lst f.rows).length : Int)) := by omega
    have k1 := yin (o := f.rows) (i := k) (List.getElem?_eq_getElem hlt) .i64
    rw [yr2, List.drop_eq_getElem_cons hlt]
    generalize hr : (lst f.rows)[k] = r at *
    have ih0 := fun g L o1 o2 hL => ih (k + 1) g L o1 o2 (by omega) hL
    push_cast at ih0
    have hw := y1p hlt (by omega)
    have e11 : yq4 (.int .i64 i) (y4n Int 3 g L) (slA f.rows) (.int .i64 (lst f.rows).length) (.int .i64 k) [⟨1, .arr true false 5 [enc f]⟩, o1, o2, y5i g D0 L] =
        yvu (.int .i64 i) (y4n Int 3 g L) (.lp 1 (o1.gen + 1) 0 0) (slA f.rows) (.int .i64 (lst f.rows).length) (.int .i64 k) [⟨1, .arr true false 5 [enc f]⟩, ⟨o1.gen + 1, .arr true false 4 [enc r]⟩, o2, y5i g D0 L] := by
      simp [yq4, y12d, y2do, hc, k1]
    rw [e11]
    generalize (o1.gen + 1) = g1
    by_cases h1 : i < r.f
    · have : ¬ (r.f ≤ i ∧ i < r.t) := by omega
      simp [yvu, y1ch, h1, hw, y3s, this, ih0 g L _ _ (by omega)]
    by_cases h2 : r.t ≤ i
    · have : ¬ (r.f ≤ i ∧ i < r.t) := by omega
      simp [yvu, y1ch, h1, h2, hw, y3s, this, ih0 g L _ _ (by omega)]
    have hin : r.f ≤ i ∧ i < r.t := by omega
    rw [y3s, if_pos hin]
    have hz : ∀ o2, fz [⟨1, .arr true false 5 [enc f]⟩, ⟨g1, .arr true false 4 [enc r]⟩, o2, y5i g D0 L] y19 (y4n Int 3 g L) = some ⟨slA (nz L), true, ids1 (y4n Int 3 g L)⟩ := fun o2 => y24e rfl
    have hct := ybs (nz L) r.at_ (by rw [yce]; omega)
    rw [yce] at hct
    have tail : ∀ g L o2, L.length ≤ k + 1 → y1a4 (.int .i64 i) (y4n Int 3 g L) (.lp 1 g1 0 0) (slA f.rows) (.int .i64 (lst f.rows).length) (.int .i64 k) [⟨1, .arr true false 5 [enc f]⟩, ⟨g1, .arr true false 4 [enc r]⟩, o2, y5i g D0 L] =
        some (exO (nz (if r.c = [] then L else y3s i ((lst f.rows).drop (k + 1)) L))) := by
      intro g L o2 hL
      have hx := yhz (H := [⟨1, .arr true false 5 [enc f]⟩, ⟨g1, .arr true false 4 [enc r]⟩, o2, y5i g D0 L]) (j := 3) (g := g) (o := D0) (L := L) rfl
      by_cases hcl : r.c = []
      · simp [y1a4, y1mj, hcl, hx]
      · simp [y1a4, y1ch, hcl, hw, ih0 g L _ _ hL]
    unfold addN
    cases hb : L.contains r.at_ with
    | true =>
      rw [hb] at hct
      rw [if_pos rfl]
      have := tail g L o2 (by omega)
      simp [yvu, y22m, h1, h2, hz, hct, this]
    | false =>
      rw [hb] at hct
      rw [if_neg Bool.false_ne_true]
      obtain ⟨g', ha⟩ := y29b (H := [⟨1, .arr true false 5 [enc f]⟩, ⟨g1, .arr true false 4 [enc r]⟩, ⟨o2.gen + 1, .arr false false 1 [[.int .i64 r.at_]]⟩, y5i g D0 L]) (fb := 0) (j := 3) (g := g) (o := D0) (y := .ls 2 (o2.gen + 1) 1 0 1) (L := L) (n := r.at_) (by simp) rfl (by omega)
      have ha' : y3y 0 (some 3) 1 8 (y4n Int 3 g L) (.ls 2 (o2.gen + 1) 1 0 1) [⟨1, .arr true false 5 [enc f]⟩, ⟨g1, .arr true false 4 [enc r]⟩, ⟨o2.gen + 1, .arr false false 1 [[.int .i64 r.at_]]⟩, y5i g D0 L] = some (y4n Int 3 g' (L ++ [r.at_]), [⟨1, .arr true false 5 [enc f]⟩, ⟨g1, .arr true false 4 [enc r]⟩, ⟨o2.gen + 1, .arr false false 1 [[.int .i64 r.at_]]⟩, y5i g' D0 (L ++ [r.at_])]) := ha
      have := tail g' (L ++ [r.at_]) ⟨o2.gen + 1, .arr false false 1 [[.int .i64 r.at_]]⟩ (by simp; omega)
      simp [yvu, y22m, h1, h2, hz, hct, y12, y1f, ha', this]
theorem y15u (f : Fn) (i : Int) (hl : (lst f.rows).length ≤ 10000000000000) : (yb E).p 79 [.agg (enc f), .int .i64 i] = some (exO (nz (yp f i))) := by
  rw [y2o7]
  by_cases h0 : i < 0
  · simp [yob, ylz, h0, yp, nz]; rfl
  by_cases h1 : ((lst f.code).length : Int) ≤ i
  · simp [yob, ylz, h0, h1, yp, nz]; rfl
  have g0 : 0 ≤ i := by omega
  have hx := y5g (f := f) (i := i.toNat) (by omega)
  have k1 := y8o (o := f.code) g0 hx .i64
  have hn : yp f i = if throws (yh f i.toNat).op then y3s i (lst f.rows) [] else [] := by rw [yp, if_neg (by omega)]
  rw [hn]
  generalize yh f i.toNat = x at *
  have lp := ywv f i hl _ 0 0 [] D0 D0 (Nat.zero_add _) (Nat.zero_le _)
  simp only [y1pd, y1px, List.drop_zero, Int.ofNat_zero] at lp
  cases ht : throws x.op with
  | false => simp [yob, ylz, h0, h1, k1, ht, nz]; rfl
  | true => simp [yob, ylz, y1ix, y1qt, h0, h1, k1, ht, lp]
end Go.Vm
namespace Go.Vm
open Cel
abbrev V1 : AV := .lp 0 1 0 0
abbrev V2 : AV := .lp 1 1 0 0
abbrev V3 : AV := .lp 11 1 0 0
abbrev V4 : AV := .lp 14 1 0 0
abbrev V5 : AV := .fn 167 [V3, V4]
section
variable {f : Fn} {p g : Nat → Nat}
theorem y2ag {s : Fs} (hs : FsOk f s) (l : List Int) (hl : ∀ to ∈ l, 0 ≤ to ∧ to < (lst f.code).length ∧ ∀ c, yc6 f to.toNat c → c ∈ s) (hll : l.length ≤ 1000000) :
    ∀ (d k : Nat), k + d = l.length → ∀ (H : Heap) (T : KTab) (W : List Int), KSt H f p g T W → TOkK f T → meaK f (T, W) ≤ 1000000000 →
      ∃ H', yie V1 V2 V3 V4 V5 (.rm (mE s)) (slA (nz l)) (.int .i64 l.length) (.int .i64 (k : Int)) H = yd2 V1 V2 V3 V4 V5 H' ∧ KSt H' f p g (y4i s (l.drop k) (T, W)).1 (y4i s (l.drop k) (T, W)).2 := by
  intro d
  induction d with
  | zero =>
    intro k hkd H T W S hT hm
    have hc : ¬ (k : Int) < (l.length : Int) := by omega
    have e : l.drop k = [] := List.drop_eq_nil_of_le (by omega)
    rw [e, ynh, y14x, yq, y7, decide_eq_false hc, y125, y25]
    exact ⟨H, rfl, S⟩
  | succ d ih =>
    intro k hkd H T W S hT hm
    have hlt : k < l.length := by omega
    have hc : (k : Int) < (l.length : Int) := by omega
    have kx := y3c (o := nz l) (i := k) (by rw [yce]; exact List.getElem?_eq_getElem hlt) .i64
    have hd : l.drop k = l[k] :: l.drop (k + 1) := List.drop_eq_getElem_cons hlt
    have hto := hl l[k] (List.getElem_mem hlt)
    rw [hd]
    generalize l[k] = to at *
    have lx : ∀ H : Heap, evLd false 1 (.rp [.int .i64 to]) H = some (.int .i64 to) := fun H => by simp
    have hTl := hT.len
    have hWb : W.length ≤ 1000000000 := Nat.le_trans (Nat.le_add_left _ _) hm
    obtain ⟨H1, c1, S1⟩ := y1hb hto.1 (by rw [hTl]; exact hto.2.1) hWb S hT.zero (fun t ht => (hT.rows _ t ht).1) (v := .rm (mE s)) (s := s) (.inl rfl)
    obtain ⟨a1, _⟩ := ybz (p := (T, W)) hT hs hto.2.2 hto.1 hto.2.1
    have e2 : y4i s (to :: l.drop (k + 1)) (T, W) = y4i s (l.drop (k + 1)) (ye6 s to (T, W)) := rfl
    rw [e2]
    have hp := a1.pot
    have hok := a1.ok
    generalize ye6 s to (T, W) = q at *
    obtain ⟨T1, W1⟩ := q
    obtain ⟨H2, r1, r2⟩ := ih (k + 1) (by omega) H1 T1 W1 S1 hok (Nat.le_trans hp hm)
    refine ⟨H2, ?_, r2⟩
    rw [ynh, y14x, yq, y7, decide_eq_true hc, y125, y1k, y1hx, kx, y7, lx, y7, c1, ye, y1pj, yw3 hlt (by omega), y7]
    exact r1
theorem y2ez {t : Fs} {i : Nat} (ht : FsOk f t) (l : List Int) (hl : ∀ to ∈ l, 0 ≤ to ∧ to < (lst f.code).length ∧ ∀ c, yc6 f to.toNat c → c ∈ t) (hll : l.length ≤ 1000000) :
    ∀ (d k : Nat), k + d = l.length → ∀ (H : Heap) (T : KTab) (W : List Int), KSt H f p g T W → TOkK f T → kAt T i = some t → meaK f (T, W) ≤ 1000000000 →
      ∃ H', ykc V1 V2 V3 V4 V5 (.int .i64 (i : Int)) (slA (nz l)) (.int .i64 l.length) (.int .i64 (k : Int)) H = yya V1 V2 V3 V4 V5 (.int .i64 (i : Int)) H' ∧ KSt H' f p g (y4i t (l.drop k) (T, W)).1 (y4i t (l.drop k) (T, W)).2 := by
  intro d
  induction d with
  | zero =>
    intro k hkd H T W S hT hi hm
    have hc : ¬ (k : Int) < (l.length : Int) := by omega
    have e : l.drop k = [] := List.drop_eq_nil_of_le (by omega)
    rw [e, ynb, yy5, yq, y7, decide_eq_false hc, yyy, y25]
    exact ⟨H, rfl, S⟩
  | succ d ih =>
    intro k hkd H T W S hT hi hm
    have hlt : k < l.length := by omega
    have hc : (k : Int) < (l.length : Int) := by omega
    have kx := y3c (o := nz l) (i := k) (by rw [yce]; exact List.getElem?_eq_getElem hlt) .i64
    have hd : l.drop k = l[k] :: l.drop (k + 1) := List.drop_eq_getElem_cons hlt
    have hto := hl l[k] (List.getElem_mem hlt)
    rw [hd]
    generalize l[k] = to at *
    have lx : ∀ H : Heap, evLd false 1 (.rp [.int .i64 to]) H = some (.int .i64 to) := fun H => by simp
    have hTl := hT.len
    have hiT := y27b hi
    have hWb : W.length ≤ 1000000000 := Nat.le_trans (Nat.le_add_left _ _) hm
    have lb := ypl S.tbx
    have ix := yd0 (n := T.length) (p := (i : Int)) (by omega) (by omega) 10 1 .i64
    rw [Int.toNat_natCast] at ix
    have lr := yca S.tab (y7e hiT)
    obtain ⟨H1, c1, S1⟩ := y1hb hto.1 (by rw [hTl]; exact hto.2.1) hWb S hT.zero (fun t ht => (hT.rows _ t ht).1) (ypt hT.zero hi)
    obtain ⟨a1, _⟩ := ybz (p := (T, W)) hT ht hto.2.2 hto.1 hto.2.1
    have hse := ymz (p := (T, W)) (to := to) hi ⟨hto.1, by rw [hTl]; exact hto.2.1⟩
    have e2 : y4i t (to :: l.drop (k + 1)) (T, W) = y4i t (l.drop (k + 1)) (ye6 t to (T, W)) := rfl
    rw [e2]
    have hp := a1.pot
    have hok := a1.ok
    generalize ye6 t to (T, W) = q at *
    obtain ⟨T1, W1⟩ := q
    obtain ⟨H2, r1, r2⟩ := ih (k + 1) (by omega) H1 T1 W1 S1 hok hse (Nat.le_trans hp hm)
    refine ⟨H2, ?_, r2⟩
    rw [ynb, yy5, yq, y7, decide_eq_true hc, yyy, y1k, y1vs, kx, y7, lx, y7, lb, y7, ix, y7, lr, y7, c1, ye, y1nx, yw3 hlt (by omega), y7]
    exact r1
variable (w : Wf f) (hr : (lst f.rows).length ≤ 1000000)
include w hr
theorem y2pi : ∀ (m : Nat) (H : Heap) (T : KTab) (W : List Int), meaK f (T, W) ≤ m → KSt H f p g T W → InvK f (T, W) → meaK f (T, W) ≤ 1000000000 →
    ∃ H' T', yd2 V1 V2 V3 V4 V5 H = y20y V1 V2 V3 H' ∧ KSt H' f p g T' [] ∧ InvK f (T', []) := by
  intro m
  induction m with
  | zero =>
    intro H T W hm S v hb
    have hW : W = [] := by
      refine List.eq_nil_of_length_eq_zero ?_
      unfold meaK at hm
      simp only at hm
      omega
    subst hW
    obtain ⟨gw, D, w1, w2⟩ := S.wk
    have l := ypl w2
    refine ⟨H, T, ?_, S, v⟩
    rw [yex, yr0, l, y7, y48, y7, y44, y7, decide_eq_false (by simp), y25]
  | succ m ih =>
    intro H T W hm S v hb
    by_cases hW : W = []
    · subst hW
      obtain ⟨gw, D, w1, w2⟩ := S.wk
      have l := ypl w2
      refine ⟨H, T, ?_, S, v⟩
      rw [yex, yr0, l, y7, y48, y7, y44, y7, decide_eq_false (by simp), y25]
    · obtain ⟨W', i, rfl⟩ : ∃ W' i, W = W' ++ [i] := ⟨W.dropLast, W.getLast hW, (List.dropLast_concat_getLast hW).symm⟩
      obtain ⟨gw, D, w1, w2⟩ := S.wk
      obtain ⟨q1, q2⟩ := y1yk w v
      obtain ⟨i0, i1, hn⟩ := v.wk i (by simp)
      obtain ⟨t, ht⟩ := notN hn
      simp only at ht
      have ei : ((i.toNat : Nat) : Int) = i := by omega
      have hil : i.toNat < (lst f.code).length := by omega
      have hTok := v.ok
      simp only at hTok
      have hWl : (W' ++ [i]).length = W'.length + 1 := by simp
      have hWb : W'.length ≤ 1000000000 := by unfold meaK at hb; simp only [hWl] at hb; omega
      rw [hWl] at w2
      have l1 := ypl w2
      have gt : y8 .gtr (.int .i64 ((W'.length + 1 : Nat) : Int)) (.int .i64 0) = some (.bool true) := by rw [y44, decide_eq_true (by omega)]
      have sb : y8 .sub (.int .i64 ((W'.length + 1 : Nat) : Int)) (.int .i64 1) = some (.int .i64 (W'.length : Int)) := by
        rw [yi8]
        congr 2
        rw [y33] <;> omega
      have ix := y26q 13 gw W'.length
      have hl13 := y22s (α := Int) (H := H) (id := 13) (g := gw) (i := W'.length) (x := i) (v := .int .i64 i) w1 (by simp) rfl
      have sl := y1hn 13 gw W'.length
      have st := y22x (w := .ls 13 gw 1 0 W'.length) w2 rfl rfl
      have S1 : KSt (H.set 14 ⟨1, .arr true false 1 [[.ls 13 gw 1 0 W'.length]]⟩) f p g T W' := by
        refine ⟨S.d.set (by omega), by rw [yx (by omega)]; exact S.tab, by rw [yx (by omega)]; exact S.tbx, by rw [yx (by omega)]; exact S.m0, gw, i :: D, ?_, y4c (y3t w2)⟩
        rw [yx (by omega), w1, List.append_assoc]
        rfl
      generalize H.set 14 ⟨1, .arr true false 1 [[.ls 13 gw 1 0 W'.length]]⟩ = H1 at *
      have hcl : (yp f i).length ≤ 1000000 := Nat.le_trans (ywu f i) hr
      have hnl : (y26 f i).length ≤ 1000000 := by have := yud f i; omega
      have fr : ∀ l : List Int, (exO (nz l)).fresh = true := fun l => by rw [yrc, yce]; simp
      have c79 := S1.d.call2 (E := E) (C := yb E) (fb := 0) (sl := none) (k := 79) (i := i) rfl (fr _) (y15u f i (by omega)) ⟨_, ym9 _, rfl⟩
      have ln : ∀ (l : List Int) (H : Heap), y10 1 (slA (nz l)) H = some (.int .i64 l.length) := fun l H => by rw [y4a, yce]
      have hmea1 : meaK f (T, W') ≤ 1000000000 := by unfold meaK at hb ⊢; simp only [hWl] at hb ⊢; omega
      obtain ⟨f1, _, f3, f4, f5, f6, f7, f8⟩ := yqk w (p := (T, W')) hTok hil ht
      rw [ei] at f3 f4 f7 f8
      obtain ⟨H2, r1, S2⟩ := y2ez (t := t) (i := i.toNat) f5 (yp f i) f7 hcl _ 0 (Nat.zero_add _) H1 T W' S1 hTok ht hmea1
      rw [List.drop_zero] at S2
      rw [ei] at r1
      have hA := (y90 f5 (yp f i) (T, W') hTok f7).1.pot
      have etK : tK T i.toNat = t := by rw [tK, ht]; rfl
      have er : rndK f i.toNat (T, W') = y4i (behK t (yh f i.toNat)) (y26 f i) (y4i t (yp f i) (T, W')) := by rw [rndK, ei]; simp only [etK]
      rw [er] at q1 q2
      generalize y4i t (yp f i) (T, W') = q at *
      obtain ⟨T1, W1⟩ := q
      simp only at S2 f3 f4 hA
      have lb := ypl S2.tbx
      have hT1 := y27b f4
      have ixT := yd0 (n := T1.length) (p := i) i0 (by omega) 10 1 .i64
      have lr := yca S2.tab (y7e hT1)
      obtain ⟨L, hL⟩ : ∃ L, f.code = some L := by
        cases hc : f.code with
        | none => rw [hc] at hil; simp at hil
        | some L => exact ⟨L, rfl⟩
      have lc := S2.d.ldc
      have hov : ownV (p 2) (g 2) f.code = .ls (p 2) (g 2) 9 0 (lst f.code).length := by rw [hL]; rfl
      rw [hov] at lc
      have ixC := y269 hil (p 2) (g 2) 9 .i64
      rw [ei] at ixC
      have lC := S2.d.ix hL (i := i.toNat) (x := yh f i.toNat) (by have := y5g hil; rwa [hL] at this)
      obtain ⟨fr1, ids1', hz1, _⟩ := (ypt f3.zero f4).fz S2.m0 9
      have ha : ym (fz H2 y19) [rowK T1 i.toNat, .agg (enc (yh f i.toNat))] = some ⟨[.rm (mE t), .agg (enc (yh f i.toNat))], fr1 && (scal (yh f i.toNat) && true), ids1' ++ ([] ++ [])⟩ := by
        rw [yr, yr, ya7, show y19 = 9 + 3 from rfl, hz1, y18]
      obtain ⟨c168, _⟩ := yor (fb := 0) (f := 168) rfl ha (y2la t (yh f i.toNat) f5.nd)
      have c81 := S2.d.call2 (E := E) (C := yb E) (fb := 0) (sl := none) (k := 81) (i := i) rfl (fr _) (y26n f i (by have := w.n2; omega)) ⟨_, ym9 _, rfl⟩
      have hmea2 : meaK f (T1, W1) ≤ 1000000000 := by unfold meaK at hmea1 ⊢; simp only at hmea1 hA ⊢; omega
      obtain ⟨H3, r2, S3⟩ := y2ag (s := behK t (yh f i.toNat)) f6 (y26 f i) f8 hnl _ 0 (Nat.zero_add _) H2 T1 W1 S2 f3 hmea2
      rw [List.drop_zero] at S3
      generalize y4i (behK t (yh f i.toNat)) (y26 f i) (T1, W1) = q2' at *
      obtain ⟨T2, W2⟩ := q2'
      obtain ⟨H4, T', r3, S4, v4⟩ := ih H3 T2 W2 (by omega) S3 q1 (by omega)
      refine ⟨H4, T', ?_, S4, v4⟩
      have z : ((0 : Nat) : Int) = 0 := rfl
      rw [z] at r1 r2
      have fa : evFa 3 V1 = some (.lp 0 1 0 3) := rfl
      rw [yex, yr0, l1, y7, y48, y7, gt, y7, y1k, y1nh, l1, y7, y7, y48, y7, sb, y7, ix, y7, hl13, y7, y1oz, l1, y7, y7, y48, y7, sb, y7, sl, y7, st, ye,
        y1hw, S1.d.ld, y7, c79, ye, ln, y7, r1, yya, lb, y7, ixT, y7, lr, y7, fa, y7, lc, y7, ixC, y7, lC, y7, c168, ye, y1fo, S2.d.ld, y7, c81, ye, ln, y7, r2, r3]
end
end Go.Vm
namespace Go.Vm
def nopI : Ins := ⟨33, 0, 0, 0, 0, 0, 0, [], none⟩
theorem y1wp : lst (uses nopI) = [] := by decide
theorem y1ab {f : Fn} : y1m f nopI = true := by
  simp [y1m, nopI, yo, y23, y75, calls, y3a, leads]
end Go.Vm
namespace Go.Vm
open Cel
attribute [local simp] y9 y2a yu
@[simp] theorem y2oe (a b c d : AV) (r : List AV) (h : r.length = 4) : y16 0 [a, b, c, d] r = [a, b, c, d] := by
  simp [y16, ← h]
@[simp] theorem y2of (h : Heap) (a b c d : Int) (o : Bool) : yf h (.tup [.agg [.int .i64 a, .int .i64 b, .int .i64 c, .int .i64 d], .bool o]) = some (exK (a, b, c, d, o)) := rfl
@[simp] theorem y2rj (a b c d : Int) : y13 [.int .i64 0, .int .i64 0, .int .i64 0, .int .i64 0] [(0, 1, .int .i64 a), (1, 1, .int .i64 b), (2, 1, .int .i64 c), (3, 1, .int .i64 d)] = some (.agg [.int .i64 a, .int .i64 b, .int .i64 c, .int .i64 d]) := rfl
@[simp] theorem y2qz : y13 [.int .i64 0, .int .i64 0, .int .i64 0, .int .i64 0] [] = some (.agg [.int .i64 0, .int .i64 0, .int .i64 0, .int .i64 0]) := rfl
@[simp] theorem y2q9 (h : Heap) (a b c : Int) : fz h y19 (.tup [.int .i64 a, .int .i64 b, .int .i64 c]) = some ⟨.tup [.int .i64 a, .int .i64 b, .int .i64 c], true, []⟩ := rfl
@[simp] theorem y2pj (h : Heap) (a b c d : Int) (o : Bool) : fz h y19 (.tup [.agg [.int .i64 a, .int .i64 b, .int .i64 c, .int .i64 d], .bool o]) = some ⟨.tup [.agg [.int .i64 a, .int .i64 b, .int .i64 c, .int .i64 d], .bool o], true, []⟩ := rfl
@[simp] theorem agg4 (a b c d : AV) : y6q true 4 [a, b, c, d] = some (.agg [a, b, c, d]) := rfl
set_option maxHeartbeats 4000000 in
theorem y28j (x : Ins) (h : x.op = 1 ∨ x.op = 2 ∨ x.op = 3 ∨ x.op = 4 ∨ x.op = 7 ∨ x.op = 8 ∨ x.op = 9 ∨ x.op = 10 ∨ x.op = 11 ∨ x.op = 13 ∨ x.op = 14 ∨ x.op = 15 ∨ x.op = 16 ∨ x.op = 17 ∨ x.op = 18 ∨ x.op = 19 ∨ x.op = 20 ∨ x.op = 27 ∨ x.op = 31 ∨ x.op = 32 ∨ x.op = 33) : (yb E).p 47 [.agg (enc x)] = some (exK (yo x)) := by
  rw [y1oq]
  rcases h with h|h|h|h|h|h|h|h|h|h|h|h|h|h|h|h|h|h|h|h|h <;> simp [h, yh3, yfc, ygx, yh4, yh1, yh5, yh6, yh7, yh2, y9g, ya3, y9c, y9h, y9x, y9j, y9l, ya6, ya4, y98, y97, y9a, y9v, y9s, y9i, y9d, y9f, y99, y9e, y9r, y80, ya0, y95, ya5, y9n, ya8, y9u, y9z, y9m, y96, y6b, ya1, y7x, y9o, y9y, y9w, yg, yt, meets, ids1, yo]
theorem y2cq (x : Ins) (hs : x.s.length ≤ 9223372036854775807) (h : x.op = 12 ∨ x.op = 21 ∨ x.op = 22) : (yb E).p 47 [.agg (enc x)] = some (exK (yo x)) := by
  rw [y1oq]
  have ht := y2jn x.s hs
  rcases h with h|h|h <;> simp [h, ht, yh3, yfc, ygx, yh4, yh1, yh5, yh6, yh7, yh2, y9g, ya3, y9c, y9h, y9x, y9j, y9l, ya6, ya4, y98, y97, y9a, y9v, y9s, y9i, y9d, y9f, y99, y9e, y9r, y80, ya0, y95, ya5, y9n, ya8, y9u, y9z, y9m, y96, y6b, ya1, y7x, y9o, y9y, y9w, yg, yt, meets, ids1, yo]
theorem y28e (x : Ins) (hn : -9223372036854775808 ≤ x.n ∧ x.n < 9223372036854775808) (h : x.op = 5 ∨ x.op = 6) : (yb E).p 47 [.agg (enc x)] = some (exK (yo x)) := by
  rw [y1oq]
  have hk := y2am x.n
  have hw := y33 hn.1 hn.2
  rcases h with h|h
  · simp [h, hk, hw, yh3, yfc, ygx, yh4, yh1, yh5, yh6, yh7, yh2, y9g, ya3, y9c, y9h, y9x, y9j, y9l, ya6, ya4, y98, y97, y9a, y9v, y9s, y9i, y9d, y9f, y99, y9e, y9r, y80, ya0, y95, ya5, y9n, ya8, y9u, y9z, y9m, y96, y6b, ya1, y7x, y9o, y9y, y9w, yg, yt, meets, ids1, yo]
  · by_cases h0 : (numK x.n).1 = 0
    · simp [h, hk, hw, h0, yh3, yfc, ygx, yh4, yh1, yh5, yh6, yh7, yh2, y9g, ya3, y9c, y9h, y9x, y9j, y9l, ya6, ya4, y98, y97, y9a, y9v, y9s, y9i, y9d, y9f, y99, y9e, y9r, y80, ya0, y95, ya5, y9n, ya8, y9u, y9z, y9m, y96, y6b, ya1, y7x, y9o, y9y, y9w, yg, yt, meets, ids1, yo]
    · simp [h, hk, hw, h0, yh3, yfc, ygx, yh4, yh1, yh5, yh6, yh7, yh2, y9g, ya3, y9c, y9h, y9x, y9j, y9l, ya6, ya4, y98, y97, y9a, y9v, y9s, y9i, y9d, y9f, y99, y9e, y9r, y80, ya0, y95, ya5, y9n, ya8, y9u, y9z, y9m, y96, y6b, ya1, y7x, y9o, y9y, y9w, yg, yt, meets, ids1, yo]
theorem y27v (x : Ins) (h : x.op = 28) : (yb E).p 47 [.agg (enc x)] = some (exK (yo x)) := by
  rw [y1oq]
  by_cases h0 : 0 ≤ x.n
  · simp [h, h0, yh3, yfc, ygx, yh4, yh1, yh5, yh6, yh7, yh2, y9g, ya3, y9c, y9h, y9x, y9j, y9l, ya6, ya4, y98, y97, y9a, y9v, y9s, y9i, y9d, y9f, y99, y9e, y9r, y80, ya0, y95, ya5, y9n, ya8, y9u, y9z, y9m, y96, y6b, ya1, y7x, y9o, y9y, y9w, yg, yt, meets, ids1, yo]
  · simp [h, h0, yh3, yfc, ygx, yh4, yh1, yh5, yh6, yh7, yh2, y9g, ya3, y9c, y9h, y9x, y9j, y9l, ya6, ya4, y98, y97, y9a, y9v, y9s, y9i, y9d, y9f, y99, y9e, y9r, y80, ya0, y95, ya5, y9n, ya8, y9u, y9z, y9m, y96, y6b, ya1, y7x, y9o, y9y, y9w, yg, yt, meets, ids1, yo]
end Go.Vm
namespace Go.Vm
open Cel
attribute [local simp] y9 y2a yu
theorem y24w (x : Ins) (h : x.op = 29) : (yb E).p 51 [.agg (enc x)] = some (exK (yo x)) := by
  rw [y25e]
  by_cases h0 : x.b = -1 <;> by_cases h1 : x.n = 0 <;> simp [h, h0, h1, yw7, yts, yv1, yww, yqe, yuw, yve, ytm, ywi, yi3, ycd, yic, yhs, ykv, yl3, yid, yii, yk0, yg, yt, meets, yo]
theorem y20j (x : Ins) (h : x.op = 30) : (yb E).p 51 [.agg (enc x)] = some (exK (yo x)) := by
  rw [y25e]
  by_cases h0 : x.a = -1 <;> simp [h, h0, yw7, yts, yv1, yww, yqe, yuw, yve, ytm, ywi, yi3, ycd, yic, yhs, ykv, yl3, yid, yii, yk0, yg, yt, meets, yo]
set_option maxHeartbeats 4000000 in
theorem ypc (x : Ins) (h : x.op = 23 ∨ x.op = 24 ∨ x.op = 25 ∨ x.op = 26) : (yb E).p 51 [.agg (enc x)] = some (exK (yo x)) := by
  rw [y25e]
  have e1 : ((0 : Int) < ((lst x.args).length : Int)) = (0 < (lst x.args).length) := by simp
  have e2 : (((lst x.args).length : Int) ≤ (21 : Int)) = ((lst x.args).length ≤ 21) := by simp; omega
  by_cases h0 : x.d = -1 <;> by_cases h1 : 0 ≤ x.n <;> by_cases h2 : 0 < (lst x.args).length <;> rcases h with h|h|h|h <;> simp [h, h0, h1, h2, e1, e2, yw7, yts, yv1, yww, yqe, yuw, yve, ytm, ywi, yi3, ycd, yic, yhs, ykv, yl3, yid, yii, yk0, yg, yt, meets, yo]
theorem y2ch (x : Ins) (h : x.op < 1 ∨ 33 < x.op) : (yb E).p 51 [.agg (enc x)] = some (exK (yo x)) := by
  rw [y25e, yns h]
  rcases h with h|h
  · simp [lo_f h, yw7, yts, yv1, yww, yqe, yuw, yve, ytm, ywi, yi3, ycd, yic, yhs, ykv, yl3, yid, yii, yk0, yg, yt, meets]
  · simp [hi_f h, yw7, yts, yv1, yww, yqe, yuw, yve, ytm, ywi, yi3, ycd, yic, yhs, ykv, yl3, yid, yii, yk0, yg, yt, meets]
theorem y2g4 (x : Ins) (h : x.op = 29 ∨ x.op = 30 ∨ x.op = 23 ∨ x.op = 24 ∨ x.op = 25 ∨ x.op = 26 ∨ x.op < 1 ∨ 33 < x.op) : (yb E).p 47 [.agg (enc x)] = some (exK (yo x)) := by
  have ho : (yb E).p 51 [.agg (enc x)] = some (exK (yo x)) := by
    rcases h with h|h|h|h|h|h|h
    · exact y24w x h
    · exact y20j x h
    · exact ypc x (.inl h)
    · exact ypc x (.inr (.inl h))
    · exact ypc x (.inr (.inr (.inl h)))
    · exact ypc x (.inr (.inr (.inr h)))
    · exact y2ch x h
  rw [y1oq]
  generalize yo x = k at ho
  obtain ⟨a, b, c, d, o⟩ := k
  simp only [exK] at ho
  rcases h with h|h|h|h|h|h|h|h
  iterate 6 (simp [h, ho, yh3, yfc, ygx, yh4, yh1, yh5, yh6, yh7, yh2, y9g, ya3, y9c, y9h, y9x, y9j, y9l, ya6, ya4, y98, y97, y9a, y9v, y9s, y9i, y9d, y9f, y99, y9e, y9r, y80, ya0, y95, ya5, y9n, ya8, y9u, y9z, y9m, y96, y6b, ya1, y7x, y9o, y9y, y9w, yg, yt, meets])
  · simp [lo_f h, ho, yh3, yfc, ygx, yh4, yh1, yh5, yh6, yh7, yh2, y9g, ya3, y9c, y9h, y9x, y9j, y9l, ya6, ya4, y98, y97, y9a, y9v, y9s, y9i, y9d, y9f, y99, y9e, y9r, y80, ya0, y95, ya5, y9n, ya8, y9u, y9z, y9m, y96, y6b, ya1, y7x, y9o, y9y, y9w, yg, yt, meets]
  · simp [hi_f h, ho, yh3, yfc, ygx, yh4, yh1, yh5, yh6, yh7, yh2, y9g, ya3, y9c, y9h, y9x, y9j, y9l, ya6, ya4, y98, y97, y9a, y9v, y9s, y9i, y9d, y9f, y99, y9e, y9r, y80, ya0, y95, ya5, y9n, ya8, y9u, y9z, y9m, y96, y6b, ya1, y7x, y9o, y9y, y9w, yg, yt, meets]
theorem y2bl (x : Ins) (hn : -9223372036854775808 ≤ x.n ∧ x.n < 9223372036854775808) (hs : x.s.length ≤ 9223372036854775807) : (yb E).p 47 [.agg (enc x)] = some (exK (yo x)) := by
  by_cases h1 : x.op = 1 ∨ x.op = 2 ∨ x.op = 3 ∨ x.op = 4 ∨ x.op = 7 ∨ x.op = 8 ∨ x.op = 9 ∨ x.op = 10 ∨ x.op = 11 ∨ x.op = 13 ∨ x.op = 14 ∨ x.op = 15 ∨ x.op = 16 ∨ x.op = 17 ∨ x.op = 18 ∨ x.op = 19 ∨ x.op = 20 ∨ x.op = 27 ∨ x.op = 31 ∨ x.op = 32 ∨ x.op = 33
  · exact y28j x h1
  by_cases h2 : x.op = 12 ∨ x.op = 21 ∨ x.op = 22
  · exact y2cq x hs h2
  by_cases h3 : x.op = 5 ∨ x.op = 6
  · exact y28e x hn h3
  by_cases h4 : x.op = 28
  · exact y27v x h4
  exact y2g4 x (by omega)
end Go.Vm
namespace Go.Vm
open Cel
attribute [local simp] y9 y2a yu
abbrev HR (f : Fn) (x : Ins) (a b c d : Int) : Heap := [⟨1, .arr true false 5 [enc f]⟩, ⟨1, .arr true false 9 [enc x]⟩, ⟨1, .arr true false 4 [[.int .i64 a, .int .i64 b, .int .i64 c, .int .i64 d]]⟩]
abbrev P0 : AV := .lp 0 1 0 0
abbrev P1 : AV := .lp 1 1 0 0
abbrev P2 : AV := .lp 2 1 0 0
theorem yd6 {f : Fn} {r : Int} (h : inR (lst f.regs) r = true) : yw 1 (slA f.regs) (.int .i64 r) = some (.rp [.int .i64 (regK (lst f.regs) r)]) := by
  obtain ⟨h0, h1, h2⟩ := yvd h
  exact y120 h0 h2 .i64
theorem yv2 (f : Fn) (x : Ins) (a b c d : Int) (i : Nat) (w r : Int) (v26 : AV) (hi : i < 4) (hw : [a, b, c, d][i]? = some w) :
    yed P0 P1 P2 (.int .i64 i) (.int .i64 r) v26 (.int .i64 i) (HR f x a b c d) =
      if y23 (lst f.regs) w r then ysh P0 P1 P2 v26 (.int .i64 i) (HR f x a b c d) else some ⟨.bool false, [], true, [], []⟩ := by
  have e1 : yov 4 1 P2 (.int .i64 i) = some (.lp 2 1 0 i) := by
    have : ((i : Int) < (4 : Int)) := by omega
    simp [yov, this]
  have e2 : ∀ f x, evLd false 1 (.lp 2 1 0 i) (HR f x a b c d) = some (.int .i64 w) := by
    intro f x
    simp only [y3e]
    have : (yn (HR f x a b c d) 2 1) = some (false, 4, [[.int .i64 a, .int .i64 b, .int .i64 c, .int .i64 d]]) := rfl
    rw [this]
    simp only [List.getElem?_cons_zero, y7i]
    match i, hi, hw with
    | 0, _, hw => simp at hw; simp [hw]
    | 1, _, hw => simp at hw; simp [hw]
    | 2, _, hw => simp at hw; simp [hw]
    | 3, _, hw => simp at hw; simp [hw]
  have e2 := e2 f x
  by_cases hw0 : w < 0
  · simp [yed, e1, e2, y23, hw0]
  by_cases h0 : r < 0
  · have : ¬ 0 ≤ r := by omega
    simp [yed, yho, e1, e2, y23, hw0, h0, inR, this]
  by_cases h1 : r < ((lst f.regs).length : Int)
  · have h0' : 0 ≤ r := by omega
    have h1' : ¬ ((lst f.regs).length : Int) ≤ r := by omega
    have hin : inR (lst f.regs) r = true := by simp [inR, h0', h1]
    have hr := yd6 hin
    by_cases h2 : 0 < w
    · have h2' : ¬ w ≤ 0 := by omega
      by_cases h3 : regK (lst f.regs) r = w
      · simp [yed, yho, e1, e2, y23, hw0, h0, h1', h2, h2', hin, hr, h3]
      · simp [yed, yho, e1, e2, y23, hw0, h0, h1', h2, h2', hin, hr, h3]
    · have h2' : w ≤ 0 := by omega
      simp [yed, yho, e1, e2, y23, hw0, h0, h1', h2, h2', hin]
  · have h1' : ((lst f.regs).length : Int) ≤ r := by omega
    simp [yed, yho, e1, e2, y23, hw0, h0, h1', h1, inR]
theorem y1b6 (f : Fn) (x : Ins) (a b c d : Int) (h1 : x.op = 1 → inR (lst f.regs) x.d = true) (h4 : x.op = 4 → inR (lst f.regs) x.d = true ∧ inR (lst f.regs) x.a = true) (h7 : x.op = 7 → inR (lst f.regs) x.a = true)
    (h30 : x.op = 30 → x.a = -1 ∨ inR (lst f.regs) x.a = true) :
    yaa P0 P1 (HR f x a b c d) = some ⟨.bool (y3a (lst f.regs) f.ret (lst f.code).length x), [], true, [], []⟩ := by
  by_cases o1 : x.op = 1
  · have hr := yd6 (h1 o1)
    by_cases k3 : regK (lst f.regs) x.d = 3
    · simp [yaa, y3a, o1, hr, k3]
    · by_cases k2 : regK (lst f.regs) x.d = 2
      · simp [yaa, y3a, o1, hr, k2]
      · simp [yaa, y3a, o1, hr, k2, k3]
  by_cases o4 : x.op = 4
  · have hr := yd6 (h4 o4).1
    have hr2 := yd6 (h4 o4).2
    simp [yaa, y3a, o4, hr, hr2]
  by_cases o7 : x.op = 7
  · have hr := yd6 (h7 o7)
    simp [yaa, y3a, o7, hr]
  by_cases o30 : x.op = 30
  · by_cases ha : x.a = -1
    · by_cases hz : f.ret = 0
      · simp [yaa, y3a, o30, ha, hz]
      · simp [yaa, y3a, o30, ha, hz]
    · have hr := yd6 ((h30 o30).resolve_left ha)
      by_cases hz : f.ret = 0
      · simp [yaa, y3a, o30, ha, hz]
      · simp [yaa, y3a, o30, ha, hz, hr]
  · cases hl : leads x.op with
    | false => simp [yaa, y1fj, y3a, o1, o4, o7, o30, hl]
    | true =>
      by_cases ht : 0 ≤ x.t
      · simp [yaa, y1fj, y3a, o1, o4, o7, o30, hl, ht]
      · simp [yaa, y1fj, y3a, o1, o4, o7, o30, hl, ht]
end Go.Vm
namespace Go.Vm
open Cel
attribute [local simp] y9 y2a yu
theorem yr9 (f : Fn) (x : Ins) (a b c d : Int) (i : Nat) (r : Int) (v63 v64 : AV) :
    yiw P0 P1 (.int .i64 i) (.int .i64 r) v63 v64 (.int .i64 i) (HR f x a b c d) =
      if inR (lst f.regs) r && (!decide (i = 0) || !(decide (x.op = 24) || decide (x.op = 25)) || decide (regK (lst f.regs) r = 3)) then y1qk P0 P1 v63 v64 (.int .i64 i) (HR f x a b c d) else some ⟨.bool false, [], true, [], []⟩ := by
  by_cases h0 : r < 0
  · have : ¬ 0 ≤ r := by omega
    simp [yiw, h0, inR, this]
  by_cases h1 : r < ((lst f.regs).length : Int)
  · have h0' : 0 ≤ r := by omega
    have h1' : ¬ ((lst f.regs).length : Int) ≤ r := by omega
    have hin : inR (lst f.regs) r = true := by simp [inR, h0', h1]
    have hr := yd6 hin
    by_cases hi : i = 0
    · subst hi
      by_cases o1 : x.op = 24
      · by_cases h3 : regK (lst f.regs) r = 3
        · simp [yiw, h0, h1', hin, hr, o1, h3]
        · simp [yiw, h0, h1', hin, hr, o1, h3]
      · by_cases o2 : x.op = 25
        · by_cases h3 : regK (lst f.regs) r = 3
          · simp [yiw, h0, h1', hin, hr, o2, h3]
          · simp [yiw, h0, h1', hin, hr, o2, h3]
        · simp [yiw, h0, h1', hin, o1, o2]
    · have hi' : ¬ ((i : Int) = 0) := by omega
      simp [yiw, h0, h1', hin, hi, hi']
  · have h1' : ((lst f.regs).length : Int) ≤ r := by omega
    simp [yiw, h0, h1', h1, inR]
theorem y1cb (f : Fn) (x : Ins) (a b c d : Int) (T : Bool) (hc : calls x.op = true) (hl : (lst x.args).length ≤ 9223372036854775807) (hT : yaa P0 P1 (HR f x a b c d) = some ⟨.bool T, [], true, [], []⟩) :
    ∀ (k i : Nat), i + k = (lst x.args).length → 0 < i →
    ykx P0 P1 (slA x.args) (.int .i64 (lst x.args).length) (.int .i64 i) (HR f x a b c d) = some ⟨.bool (((lst x.args).drop i).all (inR (lst f.regs)) && T), [], true, [], []⟩ := by
  intro k
  induction k with
  | zero =>
    intro i hi _
    have e1 : (lst x.args).drop i = [] := List.drop_eq_nil_of_le (by omega)
    have hn : ¬ ((i : Int) < ((lst x.args).length : Int)) := by omega
    rw [yja, e1]
    simp [yjb, yjx, hn, hT]
  | succ k ih =>
    intro i hi h0
    have hlt : i < (lst x.args).length := by omega
    have hn : ((i : Int) < ((lst x.args).length : Int)) := by omega
    have e1 : ((lst x.args).drop i).all (inR (lst f.regs)) = (inR (lst f.regs) (lst x.args)[i] && ((lst x.args).drop (i + 1)).all (inR (lst f.regs))) := by rw [List.drop_eq_getElem_cons hlt, List.all_cons]
    have ih := ih (i + 1) (by omega) (by omega)
    push_cast at ih
    have k1 := y3c (o := x.args) (i := i) (List.getElem?_eq_getElem hlt) .i64
    have hz : ¬ i = 0 := by omega
    rw [yja, e1]
    simp only [yjb, yjx, yq, y7, hn, decide_true, y1k]
    simp only [y1tf, k1, y7, yvz, y7i, List.head?_cons]
    simp only [y1f3]
    simp only [y3e]
    simp only [ypb, yem]
    simp only [List.getElem?_cons_zero, List.drop_zero, yp6, y7]
    simp only [y9, ywx, Option.isSome_none, Bool.and_false, Bool.not_false, Bool.and_self, if_true, y2a, yr, ya7, y18, ywn, yu, ypq, ye, Bool.true_or]
    simp only [y2p, y7, hc, Bool.not_true, y25, yr9]
    cases inR (lst f.regs) (lst x.args)[i]
    · simp
    · simp [hz, y1qk, y1p hlt hl, ih]
theorem y1bh (f : Fn) (x : Ins) (a b c d : Int) (T : Bool) (hl : (lst x.args).length ≤ 9223372036854775807) (hT : yaa P0 P1 (HR f x a b c d) = some ⟨.bool T, [], true, [], []⟩) :
    yqt P0 P1 (HR f x a b c d) = some ⟨.bool (y75 (lst f.regs) x && T), [], true, [], []⟩ := by
  have e0 : yqt P0 P1 (HR f x a b c d) = ykx P0 P1 (slA x.args) (.int .i64 (lst x.args).length) (.int .i64 0) (HR f x a b c d) := by simp [yqt]
  rw [e0, yja]
  cases ha : lst x.args with
  | nil => simp [yjb, yjx, hT, y75, yke, ha]
  | cons r rest =>
    have k1 := y3c (o := x.args) (i := 0) (x := r) (by rw [ha]; rfl) .i64
    have k1 : yw 1 (slA x.args) (.int .i64 0) = some (.rp [.int .i64 r]) := k1
    have hn : ((0 : Int) < ((lst x.args).length : Int)) := by rw [ha]; simp
    have hra := yr9 f x a b c d 0 r (slA x.args) (.int .i64 (lst x.args).length)
    simp only [Int.ofNat_zero, decide_true, Bool.not_true, Bool.false_or] at hra
    rw [← ha]
    cases hc : calls x.op with
    | false =>
      simp only [yjb, yjx, yq, y7, hn, decide_true, y1k]
      simp only [y1tf, k1, y7, yvz, y7i, List.head?_cons]
      simp only [y1f3]
      simp only [y3e]
      simp only [ypb, yem]
      simp only [List.getElem?_cons_zero, List.drop_zero, yp6, y7]
      simp only [y9, ywx, Option.isSome_none, Bool.and_false, Bool.not_false, Bool.and_self, if_true, y2a, yr, ya7, y18, ywn, yu, ypq, ye, Bool.true_or]
      simp only [y2p, y7, hc, Bool.not_false, y1k, hT, y75, Bool.true_or, Bool.true_and]
    | true =>
      have hlp := y1cb f x a b c d T hc hl hT rest.length 1 (by rw [ha]; simp; omega) (by omega)
      have hd : (lst x.args).drop 1 = rest := by rw [ha]; rfl
      rw [hd] at hlp
      have hlp : ykx P0 P1 (slA x.args) (.int .i64 (lst x.args).length) (.int .i64 1) (HR f x a b c d) = _ := hlp
      simp only [yjb, yjx, yq, y7, hn, decide_true, y1k]
      simp only [y1tf, k1, y7, yvz, y7i, List.head?_cons]
      simp only [y1f3]
      simp only [y3e]
      simp only [ypb, yem]
      simp only [List.getElem?_cons_zero, List.drop_zero, yp6, y7]
      simp only [y9, ywx, Option.isSome_none, Bool.and_false, Bool.not_false, Bool.and_self, if_true, y2a, yr, ya7, y18, ywn, yu, ypq, ye, Bool.true_or]
      simp only [y2p, y7, hc, Bool.not_true, y25, hra]
      simp only [y75, yke, ha, List.all_cons]
      have hw : IntKind.wrap .i64 ((0 : Int) + 1) = 1 := y33 (n := 1) (by omega) (by omega)
      generalize (!(decide (x.op = 24) || decide (x.op = 25)) || decide (regK (lst f.regs) r = 3)) = B
      have hw2 : IntKind.wrap .i64 (1 : Int) = 1 := y33 (n := 1) (by omega) (by omega)
      cases inR (lst f.regs) r with
      | false => cases B <;> simp [hc]
      | true =>
        cases B with
        | false => simp [hc]
        | true =>
          simp only [Bool.and_self, if_true, y1qk, y2e, y7]
          rw [show IntKind.wrap .i64 ((0 : Int) + 1) = 1 from hw]
          rw [← ha, hlp]
          simp [hc]
theorem y1nm (x : Ins) : (x.op = 1 → (yo x).1 = 0) ∧ (x.op = 4 → (yo x).1 = 0 ∧ (yo x).2.1 = 0) ∧ (x.op = 7 → (yo x).2.1 = 0) ∧ (x.op = 30 → x.a = -1 ∨ (yo x).2.1 = 0) := by
  refine ⟨fun h => ?_, fun h => ?_, fun h => ?_, fun h => ?_⟩ <;> simp [yo, h]
  by_cases ha : x.a = -1 <;> simp [ha]
theorem ydo {R : List Int} {w r : Int} (h : y23 R w r = true) (hw : w = 0) : inR R r = true := by
  subst hw
  simpa [y23] using h
set_option maxHeartbeats 1000000 in
theorem y2e6 (f : Fn) (x : Ins) (hn : -9223372036854775808 ≤ x.n ∧ x.n < 9223372036854775808) (hs : x.s.length ≤ 9223372036854775807) (hl : (lst x.args).length ≤ 9223372036854775807) :
    (yb E).p 63 [.agg (enc f), .agg (enc x)] = some ⟨.bool (y1m f x), [], true, [], []⟩ := by
  have hk := y2bl x hn hs
  obtain ⟨q1, q4, q7, q30⟩ := y1nm x
  rw [y2q3]
  have red : ∀ X : Option (Ex AV), y1m f x = y1m f x → True := fun _ _ => trivial
  have e0 : yra (.agg (enc f)) (.agg (enc x)) [⟨0, .dead⟩, ⟨0, .dead⟩, ⟨0, .dead⟩] =
      if (yo x).2.2.2.2 = true then yd5 P0 P1 P2 (.agg [.int .i64 x.d, .int .i64 x.a, .int .i64 x.b, .int .i64 x.c]) (.int .i64 0) (HR f x (yo x).1 (yo x).2.1 (yo x).2.2.1 (yo x).2.2.2.1) else some ⟨.bool false, [], true, [], []⟩ := by
    unfold exK at hk
    generalize yo x = k at *
    obtain ⟨a, b, c, d, o⟩ := k
    simp only at hk ⊢
    cases o with
    | true => simp [yra, y14k, y146, y1eb, hk]
    | false => simp [yra, y14k, y146, hk]
  rw [e0, y1m]
  cases hok : (yo x).2.2.2.2 with
  | false => simp
  | true =>
    simp only [if_true, Bool.true_and]
    have step : ∀ (i : Nat) (w r : Int), i < 4 → [(yo x).1, (yo x).2.1, (yo x).2.2.1, (yo x).2.2.2.1][i]? = some w → [x.d, x.a, x.b, x.c][i]? = some r →
        yd5 P0 P1 P2 (.agg [.int .i64 x.d, .int .i64 x.a, .int .i64 x.b, .int .i64 x.c]) (.int .i64 i) (HR f x (yo x).1 (yo x).2.1 (yo x).2.2.1 (yo x).2.2.2.1) =
        if y23 (lst f.regs) w r then yd5 P0 P1 P2 (.agg [.int .i64 x.d, .int .i64 x.a, .int .i64 x.b, .int .i64 x.c]) (.int .i64 (i + 1 : Nat)) (HR f x (yo x).1 (yo x).2.1 (yo x).2.2.1 (yo x).2.2.2.1) else some ⟨.bool false, [], true, [], []⟩ := by
      intro i w r hi hw hr
      have hc : ((i : Int) < (4 : Int)) := by omega
      have hv : yp1 false 4 1 (.agg [.int .i64 x.d, .int .i64 x.a, .int .i64 x.b, .int .i64 x.c]) (.int .i64 i) = some (.int .i64 r) := by
        match i, hi, hr with
        | 0, _, hr => simp at hr; simp [yp1, hr]
        | 1, _, hr => simp at hr; simp [yp1, hr]
        | 2, _, hr => simp at hr; simp [yp1, hr]
        | 3, _, hr => simp at hr; simp [yp1, hr]
      have hw2 : IntKind.wrap .i64 ((i : Int) + 1) = ((i + 1 : Nat) : Int) := by rw [y33] <;> omega
      rw [ymd]
      simp only [y15t, y12z, yq, y7, hc, decide_true, y1k]
      simp only [y1ev, hv, y7]
      rw [yv2 f x _ _ _ _ i w r _ hi hw]
      simp only [ysh, y2e, y7, hw2]
    have s0 := step 0 _ _ (by omega) rfl rfl
    have s1 := step 1 _ _ (by omega) rfl rfl
    have s2 := step 2 _ _ (by omega) rfl rfl
    have s3 := step 3 _ _ (by omega) rfl rfl
    simp only [Int.ofNat_zero] at s0
    rw [s0]
    cases f0 : y23 (lst f.regs) (yo x).1 x.d with
    | false => simp
    | true =>
      simp only [if_true, Bool.true_and]
      rw [s1]
      cases f1 : y23 (lst f.regs) (yo x).2.1 x.a with
      | false => simp
      | true =>
        simp only [if_true, Bool.true_and]
        rw [s2]
        cases f2 : y23 (lst f.regs) (yo x).2.2.1 x.b with
        | false => simp
        | true =>
          simp only [if_true, Bool.true_and]
          rw [s3]
          cases f3 : y23 (lst f.regs) (yo x).2.2.2.1 x.c with
          | false => simp
          | true =>
            simp only [if_true, Bool.true_and]
            have ht := y1b6 f x (yo x).1 (yo x).2.1 (yo x).2.2.1 (yo x).2.2.2.1 (fun h => ydo f0 (q1 h)) (fun h => ⟨ydo f0 (q4 h).1, ydo f1 (q4 h).2⟩) (fun h => ydo f1 (q7 h)) (fun h => (q30 h).imp id fun h => ydo f1 h)
            rw [← y1bh f x _ _ _ _ _ hl ht]
            rw [ymd]
            simp [y15t, y12z]
end Go.Vm
namespace Go.Vm
open Cel
attribute [local simp] y9 y2a yu
abbrev HC (f : Fn) (o1 o2 : AO) : Heap := [⟨1, .arr true false 5 [enc f]⟩, o1, o2]
abbrev E80 : Option (Ex AV) := some ⟨.int .i64 80, [], true, [], []⟩
abbrev E0 : Option (Ex AV) := some ⟨.int .i64 0, [], true, [], []⟩
theorem y1b7 (f : Fn) (o1 : AO) (n : Int) (hn : n = (lst f.code).length) (hl : (lst f.rows).length ≤ 9223372036854775807) : ∀ (d i : Nat) (o2 : AO), i + d = (lst f.rows).length →
    yo5 P0 (.int .i64 n) (slA f.rows) (.int .i64 (lst f.rows).length) (.int .i64 i) (HC f o1 o2) = if ((lst f.rows).drop i).all (y4f (lst f.code)) then E0 else E80 := by
  intro d
  induction d with
  | zero =>
    intro i o2 hi
    have e1 : (lst f.rows).drop i = [] := List.drop_eq_nil_of_le (by omega)
    have hn : ¬ ((i : Int) < ((lst f.rows).length : Int)) := by omega
    rw [ys3, e1]
    simp [y248, y1xq, y2g2, hn]
  | succ d ih =>
    intro i o2 hi
    have hlt : i < (lst f.rows).length := by omega
    have hc : ((i : Int) < ((lst f.rows).length : Int)) := by omega
    have k1 := yin (o := f.rows) (i := i) (List.getElem?_eq_getElem hlt) .i64
    rw [ys3]
    have e1 : ((lst f.rows).drop i).all (y4f (lst f.code)) = (y4f (lst f.code) (lst f.rows)[i] && ((lst f.rows).drop (i + 1)).all (y4f (lst f.code))) := by rw [List.drop_eq_getElem_cons hlt, List.all_cons]
    rw [e1]
    generalize hr : (lst f.rows)[i] = r at *
    have ih := fun o2 => ih (i + 1) o2 (by omega)
    push_cast at ih
    subst hn
    simp only [y248, y1xq, yq, y7, hc, decide_true, y1k]
    by_cases h1 : r.f < 0
    · simp [ypv, k1, y4f, h1]
    by_cases h2 : r.t ≤ r.f
    · simp [ypv, k1, y4f, h1, h2]
    by_cases h3 : ((lst f.code).length : Int) < r.t
    · simp [ypv, k1, y4f, h1, h2, h3]
    by_cases h4 : r.at_ < 0
    · simp [ypv, k1, y4f, h1, h2, h3, h4]
    by_cases h5 : ((lst f.code).length : Int) ≤ r.at_
    · simp [ypv, k1, y4f, h1, h2, h3, h4, h5]
    · have hx : r.at_.toNat < (lst f.code).length := by omega
      have k2 := y8o (o := f.code) (n := r.at_) (by omega) (List.getElem?_eq_getElem hx) .i64
      have hg : (lst f.code).getD r.at_.toNat default = (lst f.code)[r.at_.toNat] := by rw [List.getD_eq_getElem?_getD, List.getElem?_eq_getElem hx]; rfl
      by_cases h6 : ((lst f.code)[r.at_.toNat]).op = 32
      · simp [ypv, k1, y4f, h1, h2, h3, h4, h5, k2, h6, hx, y2al, y1p hlt hl, ih]
      · simp [ypv, k1, y4f, h1, h2, h3, h4, h5, k2, h6, hx]
theorem y197 (f : Fn) (o1 o2 : AO) (n : Int) (hl : (lst f.regs).length ≤ 9223372036854775807) : ∀ (d i : Nat), i + d = (lst f.regs).length →
    yg1 P0 (.int .i64 n) (slA f.regs) (.int .i64 (lst f.regs).length) (.int .i64 i) (HC f o1 o2) = if ((lst f.regs).drop i).all (fun k => decide (1 ≤ k) && decide (k ≤ 3)) then ys2 P0 (.int .i64 n) (HC f o1 o2) else E80 := by
  intro d
  induction d with
  | zero =>
    intro i hi
    have e1 : (lst f.regs).drop i = [] := List.drop_eq_nil_of_le (by omega)
    have hn : ¬ ((i : Int) < ((lst f.regs).length : Int)) := by omega
    rw [yo3, e1]
    simp [y12j, y16x, hn]
  | succ d ih =>
    intro i hi
    have hlt : i < (lst f.regs).length := by omega
    have hc : ((i : Int) < ((lst f.regs).length : Int)) := by omega
    have k1 := y3c (o := f.regs) (i := i) (List.getElem?_eq_getElem hlt) .i64
    have e1 : ((lst f.regs).drop i).all (fun k => decide (1 ≤ k) && decide (k ≤ 3)) = ((decide (1 ≤ (lst f.regs)[i]) && decide ((lst f.regs)[i] ≤ 3)) && ((lst f.regs).drop (i + 1)).all (fun k => decide (1 ≤ k) && decide (k ≤ 3))) := by
      rw [List.drop_eq_getElem_cons hlt, List.all_cons]
    rw [yo3, e1]
    generalize hr : (lst f.regs)[i] = r at *
    have ih := ih (i + 1) (by omega)
    push_cast at ih
    simp only [y12j, y16x, yq, y7, hc, decide_true, y1k]
    by_cases h1 : r < 1
    · have : ¬ 1 ≤ r := by omega
      simp [yq8, k1, h1, this]
    by_cases h2 : 3 < r
    · have : ¬ r ≤ 3 := by omega
      simp [yq8, k1, h1, h2, this]
    · have a1 : 1 ≤ r := by omega
      have a2 : r ≤ 3 := by omega
      simp [yq8, k1, h1, h2, a1, a2, y1iq, y1p hlt hl, ih]
theorem ysx (f : Fn) (o1 o2 : AO) (n : Int) (hl : (lst f.params).length ≤ 9223372036854775807) : ∀ (d i : Nat), i + d = (lst f.params).length →
    yfo P0 (.int .i64 n) (slA f.params) (.int .i64 (lst f.params).length) (.int .i64 i) (HC f o1 o2) = if y8b (lst f.regs) i ((lst f.params).take i) ((lst f.params).drop i) then yt3 P0 (.int .i64 n) (HC f o1 o2) else E80 := by
  intro d
  induction d with
  | zero =>
    intro i hi
    have e1 : (lst f.params).drop i = [] := List.drop_eq_nil_of_le (by omega)
    have hn : ¬ ((i : Int) < ((lst f.params).length : Int)) := by omega
    rw [ylt, e1]
    simp [y16l, y16g, hn, y8b]
  | succ d ih =>
    intro i hi
    have hlt : i < (lst f.params).length := by omega
    have hc : ((i : Int) < ((lst f.params).length : Int)) := by omega
    have k1 := y3c (o := f.params) (i := i) (List.getElem?_eq_getElem hlt) .i64
    have ks := y26f (α := Int) f.params i (by omega) .i64
    simp only [y25y] at ks
    have hlm : lst (f.params.map (List.take i)) = (lst f.params).take i := by cases f.params <;> simp
    have e1 : y8b (lst f.regs) i ((lst f.params).take i) ((lst f.params).drop i) = ((inR (lst f.regs) (lst f.params)[i] && !((lst f.params).take i).contains (lst f.params)[i] && decide (i ≤ 20)) && y8b (lst f.regs) (i + 1) ((lst f.params).take (i + 1)) ((lst f.params).drop (i + 1))) := by
      rw [List.drop_eq_getElem_cons hlt, y8b, List.take_append_getElem]
    rw [ylt, e1]
    have hct : (yb E).p 46 [slA (f.params.map (List.take i)), .int .i64 (lst f.params)[i]] = some ⟨.bool (((lst f.params).take i).contains (lst f.params)[i]), [], true, [], []⟩ := by
      rw [ybs _ _ (by rw [hlm, List.length_take]; omega), hlm]
    generalize hr : (lst f.params)[i] = r at *
    generalize ((lst f.params).take i).contains r = B at *
    have ih := ih (i + 1) (by omega)
    push_cast at ih
    simp only [y16l, y16g, yq, y7, hc, decide_true, y1k]
    have e20 : ((20 : Int) < (i : Int)) ↔ ¬ i ≤ 20 := by omega
    by_cases h1 : r < 0
    · have : ¬ 0 ≤ r := by omega
      simp [yir, k1, inR, h1, this]
    by_cases h2 : ((lst f.regs).length : Int) ≤ r
    · have : ¬ r < ((lst f.regs).length : Int) := by omega
      simp [yir, k1, inR, h1, h2, this]
    · have a1 : 0 ≤ r := by omega
      have a2 : r < ((lst f.regs).length : Int) := by omega
      cases B with
      | true => simp [yir, k1, inR, h1, h2, a1, a2, ks, hct]
      | false =>
        by_cases h3 : i ≤ 20
        · have h3' : ¬ ((20 : Int) < (i : Int)) := by omega
          simp [yir, k1, inR, h1, h2, a1, a2, ks, hct, h3, h3', y1dt, y1p hlt hl, ih]
        · have h3' : ((20 : Int) < (i : Int)) := by omega
          simp [yir, k1, inR, h1, h2, a1, a2, ks, hct, h3, h3']
theorem y1af {R : List Int} {ret : Int} {n : Nat} {x : Ins} (h : y3a R ret n x = true) (hl : leads x.op = true) : 0 ≤ x.t ∧ x.t < n := by
  have hne : ¬ x.op = 1 ∧ ¬ x.op = 4 ∧ ¬ x.op = 7 ∧ ¬ x.op = 30 := by
    simp only [leads, Bool.or_eq_true, decide_eq_true_eq] at hl
    omega
  simp only [y3a, hne, if_false, hl, Bool.not_true, Bool.false_or, Bool.and_eq_true, decide_eq_true_eq] at h
  exact h
theorem ykq {f : Fn} {x : Ins} (h : y1m f x = true) (hl : leads x.op = true) : 0 ≤ x.t ∧ x.t < (lst f.code).length := by
  simp only [y1m, Bool.and_eq_true] at h
  exact y1af h.2 hl
structure InsFit (x : Ins) : Prop where
  n : -9223372036854775808 ≤ x.n ∧ x.n < 9223372036854775808
  s : x.s.length ≤ 9223372036854775807
  a : (lst x.args).length ≤ 9223372036854775807
theorem y1ca (f : Fn) (o2 : AO) (n : Int) (x : Ins) (i g : Nat) (v92 v93 v94 : AV) (hi : i < (lst f.code).length) (hl : (lst f.code).length ≤ 9223372036854775807) (ht : leads x.op = true → 0 ≤ x.t ∧ x.t < (lst f.code).length) :
    ycb P0 (.int .i64 n) (.int .i64 i) (.lp 1 g 0 0) v92 v93 v94 (HC f ⟨g, .arr true false 9 [enc x]⟩ o2) =
      if y3o (lst f.code) i x then y11g P0 (.int .i64 n) v92 v93 v94 (HC f ⟨g, .arr true false 9 [enc x]⟩ o2) else E80 := by
  by_cases h32 : x.op = 32
  · have hld : leads x.op = false := by simp [leads, h32]
    by_cases h0 : i = 0
    · subst h0
      simp [ycb, h32, y3o]
    · have h0' : ¬ ((i : Int) = 0) := by omega
      have hp : i - 1 < (lst f.code).length := by omega
      have k1 := y8p (o := f.code) (i := i - 1) (List.getElem?_eq_getElem hp) .i64
      have hw : IntKind.wrap .i64 ((i : Int) - 1) = ((i - 1 : Nat) : Int) := by rw [y33] <;> omega
      have hg : (lst f.code).getD (i - 1) default = (lst f.code)[i - 1] := by rw [List.getD_eq_getElem?_getD, List.getElem?_eq_getElem hp]; rfl
      have hld32 : leads 32 = false := by simp [leads]
      cases he : ends ((lst f.code)[i - 1]).op with
      | true => simp [ycb, h32, y3o, h0, h0', hw, k1, hp, he, hld32]
      | false => simp [ycb, h32, y3o, h0, h0', hw, k1, hp, he]
  · cases hld : leads x.op with
    | false => simp [ycb, h32, y3o, hld]
    | true =>
      obtain ⟨t0, t1⟩ := ht hld
      have hx : x.t.toNat < (lst f.code).length := by omega
      have k2 := y8o (o := f.code) (n := x.t) t0 (List.getElem?_eq_getElem hx) .i64
      by_cases h6 : ((lst f.code)[x.t.toNat]).op = 32
      · simp [ycb, h32, y3o, hld, k2, h6, hx]
      · simp [ycb, h32, y3o, hld, k2, h6, hx]
theorem y1b9 (f : Fn) (o2 : AO) (n : Int) (hfit : ∀ x ∈ lst f.code, InsFit x) (hl : (lst f.code).length ≤ 9223372036854775807) : ∀ (d i : Nat) (o1 : AO), i + d = (lst f.code).length →
    ∃ o1', yf5 P0 (.int .i64 n) (slA f.code) (.int .i64 (lst f.code).length) (.int .i64 i) (HC f o1 o2) = if y45 f (lst f.code) i ((lst f.code).drop i) then y1f8 P0 (.int .i64 n) (HC f o1' o2) else E80 := by
  intro d
  induction d with
  | zero =>
    intro i o1 hi
    have e1 : (lst f.code).drop i = [] := List.drop_eq_nil_of_le (by omega)
    have hn : ¬ ((i : Int) < ((lst f.code).length : Int)) := by omega
    rw [ynx, e1]
    exact ⟨o1, by simp [y14b, yzj, hn, y45]⟩
  | succ d ih =>
    intro i o1 hi
    have hlt : i < (lst f.code).length := by omega
    have hc : ((i : Int) < ((lst f.code).length : Int)) := by omega
    have k1 := y8p (o := f.code) (i := i) (List.getElem?_eq_getElem hlt) .i64
    have e1 : y45 f (lst f.code) i ((lst f.code).drop i) = (y1m f (lst f.code)[i] && y3o (lst f.code) i (lst f.code)[i] && y45 f (lst f.code) (i + 1) ((lst f.code).drop (i + 1))) := by
      rw [List.drop_eq_getElem_cons hlt, y45]
    have fit := hfit _ (List.getElem_mem hlt)
    rw [ynx, e1]
    generalize hx : (lst f.code)[i] = x at *
    have hr := y2e6 f x fit.n fit.s fit.a
    simp only [y14b, yzj, yq, y7, hc, decide_true, y1k]
    cases hok : y1m f x with
    | false =>
      rw [hok] at hr
      exact ⟨o1, by simp [yqi, y18a, k1, hr]⟩
    | true =>
      rw [hok] at hr
      have e13 : ∀ K : Option (Ex AV), yqi P0 (.int .i64 n) (slA f.code) (.int .i64 (lst f.code).length) (.int .i64 i) (HC f o1 o2) = ycb P0 (.int .i64 n) (.int .i64 i) (.lp 1 (o1.gen + 1) 0 0) (slA f.code) (.int .i64 (lst f.code).length) (.int .i64 i) (HC f ⟨o1.gen + 1, .arr true false 9 [enc x]⟩ o2) := by
        intro _
        simp [yqi, y18a, k1, hr]
      rw [e13 none]
      rw [y1ca f o2 n x i _ _ _ _ hlt hl (fun h => ykq hok h)]
      cases hs : y3o (lst f.code) i x with
      | false => exact ⟨o1, by simp⟩
      | true =>
        obtain ⟨o1', ih⟩ := ih (i + 1) ⟨o1.gen + 1, .arr true false 9 [enc x]⟩ (by omega)
        push_cast at ih
        exact ⟨o1', by simp [y11g, y1p hlt hl, ih]⟩
structure FnFit (f : Fn) : Prop where
  ins : ∀ x ∈ lst f.code, InsFit x
  code : (lst f.code).length ≤ 9223372036854775807
  regs : (lst f.regs).length ≤ 9223372036854775807
  params : (lst f.params).length ≤ 9223372036854775807
  rows : (lst f.rows).length ≤ 9223372036854775807
theorem y1o1 (f : Fn) (hf : FnFit f) (o1 o2 : AO) (n : Int) (hn : n = (lst f.code).length) :
    ylm P0 (.int .i64 n) (HC f o1 o2) = if (lst f.regs).all (fun k => decide (1 ≤ k) && decide (k ≤ 3)) && y8b (lst f.regs) 0 [] (lst f.params) && y45 f (lst f.code) 0 (lst f.code) && (lst f.rows).all (y4f (lst f.code)) then E0 else E80 := by
  have a1 := y197 f o1 o2 n hf.regs _ 0 (Nat.zero_add _)
  have a2 := ysx f o1 o2 n hf.params _ 0 (Nat.zero_add _)
  obtain ⟨o1', a3⟩ := y1b9 f o2 n hf.ins hf.code _ 0 o1 (Nat.zero_add _)
  have a4 := y1b7 f o1' n hn hf.rows _ 0 o2 (Nat.zero_add _)
  simp only [Int.ofNat_zero, List.drop_zero, List.take_zero] at a1 a2 a3 a4
  have e1 : ylm P0 (.int .i64 n) (HC f o1 o2) = yg1 P0 (.int .i64 n) (slA f.regs) (.int .i64 (lst f.regs).length) (.int .i64 0) (HC f o1 o2) := by simp [ylm]
  have e2 : ys2 P0 (.int .i64 n) (HC f o1 o2) = yfo P0 (.int .i64 n) (slA f.params) (.int .i64 (lst f.params).length) (.int .i64 0) (HC f o1 o2) := by simp [ys2]
  have e3 : yt3 P0 (.int .i64 n) (HC f o1 o2) = yf5 P0 (.int .i64 n) (slA f.code) (.int .i64 (lst f.code).length) (.int .i64 0) (HC f o1 o2) := by simp [yt3]
  have e4 : y1f8 P0 (.int .i64 n) (HC f o1' o2) = yo5 P0 (.int .i64 n) (slA f.rows) (.int .i64 (lst f.rows).length) (.int .i64 0) (HC f o1' o2) := by simp [y1f8]
  rw [e1, a1, e2, a2, e3, a3, e4, a4]
  generalize (lst f.regs).all (fun k => decide (1 ≤ k) && decide (k ≤ 3)) = b1
  generalize y8b (lst f.regs) 0 [] (lst f.params) = b2
  generalize y45 f (lst f.code) 0 (lst f.code) = b3
  generalize (lst f.rows).all (y4f (lst f.code)) = b4
  cases b1 <;> cases b2 <;> cases b3 <;> cases b4 <;> rfl
set_option maxHeartbeats 1000000 in
theorem y1l8 (f : Fn) (hf : FnFit f) : (yb E).p 8 [.agg (enc f)] = some ⟨.int .i64 (if wf f then 0 else 80), [], true, [], []⟩ := by
  rw [y2q8]
  have hall := y1o1 f hf ⟨0, .dead⟩ ⟨0, .dead⟩ _ rfl
  by_cases h1 : (lst f.code).length < 1
  · have h1' : ((lst f.code).length : Int) < 1 := by omega
    have : ¬ 1 ≤ (lst f.code).length := by omega
    simp [yco, yeg, yer, h1', wf, this]
  have h1' : ¬ ((lst f.code).length : Int) < 1 := by omega
  have g1 : 1 ≤ (lst f.code).length := by omega
  by_cases h2 : 20000 < (lst f.code).length
  · have h2' : (20000 : Int) < ((lst f.code).length : Int) := by omega
    have : ¬ (lst f.code).length ≤ 20000 := by omega
    simp [yco, yeg, yer, h1', h2', wf, this]
  have h2' : ¬ (20000 : Int) < ((lst f.code).length : Int) := by omega
  have g2 : (lst f.code).length ≤ 20000 := by omega
  by_cases h3 : 20000 < (lst f.regs).length
  · have h3' : (20000 : Int) < ((lst f.regs).length : Int) := by omega
    have : ¬ (lst f.regs).length ≤ 20000 := by omega
    simp [yco, yeg, yer, h1', h2', h3', wf, this]
  have h3' : ¬ (20000 : Int) < ((lst f.regs).length : Int) := by omega
  have g3 : (lst f.regs).length ≤ 20000 := by omega
  by_cases h4 : f.ret < 0
  · have : ¬ 0 ≤ f.ret := by omega
    simp [yco, yeg, yer, h1', h2', h3', h4, wf, this]
  have g4 : 0 ≤ f.ret := by omega
  by_cases h5 : 3 < f.ret
  · have : ¬ f.ret ≤ 3 := by omega
    simp [yco, yeg, yer, h1', h2', h3', h4, h5, wf, this]
  have g5 : f.ret ≤ 3 := by omega
  have hp : (lst f.code).length - 1 < (lst f.code).length := by omega
  have k1 := y8p (o := f.code) (i := (lst f.code).length - 1) (List.getElem?_eq_getElem hp) .i64
  have hw : IntKind.wrap .i64 (((lst f.code).length : Int) - 1) = (((lst f.code).length - 1 : Nat) : Int) := by rw [y33] <;> omega
  have hg : (lst f.code).getD ((lst f.code).length - 1) default = (lst f.code)[(lst f.code).length - 1] := by rw [List.getD_eq_getElem?_getD, List.getElem?_eq_getElem hp]; rfl
  cases he : ends ((lst f.code)[(lst f.code).length - 1]).op with
  | false =>
    have hwf : wf f = false := by rw [wf, hg, he]; simp
    rw [hwf]
    simp [yco, yeg, yer, h1', h2', h3', h4, h5, hw, k1, he]
  | true =>
    have hwf : wf f = ((lst f.regs).all (fun k => decide (1 ≤ k) && decide (k ≤ 3)) && y8b (lst f.regs) 0 [] (lst f.params) && y45 f (lst f.code) 0 (lst f.code) && (lst f.rows).all (y4f (lst f.code))) := by
      rw [wf, hg, he]
      simp only [g1, g2, g3, g4, g5, decide_true, Bool.true_and]
    have e : yco (.agg (enc f)) [⟨0, .dead⟩, ⟨0, .dead⟩, ⟨0, .dead⟩] = ylm P0 (.int .i64 (lst f.code).length) (HC f ⟨0, .dead⟩ ⟨0, .dead⟩) := by
      simp [yco, yeg, yer, h1', h2', h3', h4, h5, hw, k1, he]
    rw [e, hall, hwf]
    split <;> rfl
end Go.Vm
namespace Go.Vm
open Cel
def y85 (f : Fn) (T : KTab) (i : Nat) : Bool := match ofM (yh f i), kAt T i with
  | some c, some s => decide (c ∈ s)
  | _, _ => false
def knoI (f : Fn) (T : KTab) (i : Nat) : Ins := if y85 f T i then nopI else yh f i
def knoL (f : Fn) (T : KTab) : List Ins := (List.range (lst f.code).length).map (knoI f T)
def knoF (f : Fn) (T : KTab) : Fn := yda f (knoL f T)
def y79 (f : Fn) (T : KTab) (k : Nat) : List Ins := (List.range (lst f.code).length).map fun j => if j < k then knoI f T j else yh f j
theorem ye8 (f : Fn) (T : KTab) (k : Nat) : (y79 f T k).length = (lst f.code).length := by simp [y79]
theorem y2fd (f : Fn) (T : KTab) : y79 f T 0 = lst f.code := by
  refine List.ext_getElem? fun i => ?_
  unfold y79
  rw [List.getElem?_map]
  by_cases h : i < (lst f.code).length
  · rw [List.getElem?_range h, y5g h]; rfl
  · rw [List.getElem?_eq_none (by simpa using h), List.getElem?_eq_none (by omega)]; rfl
theorem y1i4 (f : Fn) (T : KTab) : y79 f T (lst f.code).length = knoL f T := by
  refine List.map_congr_left fun i hi => ?_
  rw [List.mem_range] at hi
  rw [if_pos hi]
theorem y1en (f : Fn) (T : KTab) (k : Nat) (hk : k < (lst f.code).length) : (y79 f T k).set k (knoI f T k) = y79 f T (k + 1) := by
  refine List.ext_getElem? fun j => ?_
  rw [List.getElem?_set]
  unfold y79
  by_cases hj : j < (lst f.code).length
  · simp only [List.getElem?_map, List.getElem?_range hj, List.length_map, List.length_range, Option.map_some]
    by_cases e : k = j
    · subst e
      rw [if_pos rfl, if_pos hk, if_pos (by omega)]
    · rw [if_neg e]
      by_cases h : j < k
      · rw [if_pos h, if_pos (by omega)]
      · rw [if_neg h, if_neg (by omega)]
  · rw [if_neg (by omega), List.getElem?_eq_none (by simpa using hj), List.getElem?_eq_none (by simpa using hj)]
theorem yf3 {f : Fn} {T : KTab} {k : Nat} (h : y85 f T k = false) : y79 f T (k + 1) = y79 f T k := by
  refine List.map_congr_left fun j hj => ?_
  by_cases e : j = k
  · subst e
    rw [if_pos (by omega), if_neg (by omega), knoI, h]
    rfl
  · by_cases h : j < k
    · rw [if_pos h, if_pos (by omega)]
    · rw [if_neg h, if_neg (by omega)]
theorem y23x {f : Fn} {T : KTab} {k : Nat} (hk : k < (lst f.code).length) : (y79 f T k)[k]? = some (yh f k) := by
  unfold y79
  rw [List.getElem?_map, List.getElem?_range hk, Option.map_some, if_neg (by omega)]
structure NSt (H : Heap) (F : Fn) (p g : Nat → Nat) (T : KTab) : Prop where
  d : DSt H F p g 17
  tab : H[10]? = some ⟨1, .arr false false 1 (tabK T)⟩
  tbx : H[11]? = some ⟨1, .arr true false 1 [[.ls 10 1 1 0 T.length]]⟩
  m0 : H[12]? = some (AK 1 [])
theorem NSt.set {H : Heap} {F : Fn} {p g : Nat → Nat} {T : KTab} (S : NSt H F p g T) {a : Nat} {x : AO} (ha : 15 ≤ a) : NSt (H.set a x) F p g T :=
  ⟨S.d.set (by omega), by rw [yx (by omega)]; exact S.tab, by rw [yx (by omega)]; exact S.tbx, by rw [yx (by omega)]; exact S.m0⟩
theorem NSt.code {H : Heap} {F : Fn} {p g : Nat → Nat} {T : KTab} {L L' : List Ins} (S : NSt H F p g T) (hL : F.code = some L) (hl : L.length = L'.length) : NSt (H.set (p 2) ⟨g 2, .arr false false 9 (L'.map enc)⟩) (yda F L') p g T := by
  have h2 := S.d.lo 2 (by omega) (by simp [hasL, hL])
  exact ⟨S.d.setCode hL hl, by rw [yx (by omega)]; exact S.tab, by rw [yx (by omega)]; exact S.tbx, by rw [yx (by omega)]; exact S.m0⟩
section
variable {f : Fn} (w : Wf f) {T : KTab} (v : InvK f (T, [])) {p g : Nat → Nat}
include w v
theorem y22j : ∀ (d k : Nat), k + d = (lst f.code).length → ∀ (H : Heap), NSt H (yda f (y79 f T k)) p g T →
    ∃ H', yna V1 V2 V3 (.ls (p 2) (g 2) 9 0 (lst f.code).length) (.int .i64 (lst f.code).length) (.int .i64 (k : Int)) H = y1qu V1 V2 H' ∧ DSt H' (knoF f T) p g 17 := by
  have hn2 := w.n2
  have hTl := v.ok.len
  have hz := v.ok.zero
  simp only at hTl hz
  intro d
  induction d with
  | zero =>
    intro k hkd H S
    have hc : ¬ (k : Int) < ((lst f.code).length : Int) := by omega
    have e : k = (lst f.code).length := by omega
    subst e
    have D := S.d
    rw [y1i4] at D
    refine ⟨H, ?_, D⟩
    rw [ytv, y24c, yq, y7, decide_eq_false hc, y1y6, y25]
  | succ d ih =>
    intro k hkd H S
    have hk : k < (lst f.code).length := by omega
    have hc : (k : Int) < ((lst f.code).length : Int) := by omega
    have hcode : (yda f (y79 f T k)).code = some (y79 f T k) := rfl
    have ixc := y269 hk (p 2) (g 2) 9 .i64
    have lc := S.d.ix hcode (y23x (T := T) hk)
    have hlen := S.d.len
    obtain ⟨o, ho⟩ : ∃ o, H[0 + 15]? = some o := ⟨_, List.getElem?_eq_getElem (by omega)⟩
    have nx := y2no ho
    rw [Nat.zero_add] at nx ho
    have sx := st_x (H := H.set 15 (AX (o.gen + 1) default)) (id := 15) (g := o.gen + 1) (y := yh f k) (y4c (y3t ho))
    rw [List.set_set] at sx
    have S1 := S.set (a := 15) (x := AX (o.gen + 1) (yh f k)) (by omega)
    have h15 : (H.set 15 (AX (o.gen + 1) (yh f k)))[15]? = some (AX (o.gen + 1) (yh f k)) := y4c (y3t ho)
    generalize H.set 15 (AX (o.gen + 1) (yh f k)) = H1 at *
    have lx := y2hw h15
    have c169 : y9 E (yb E) 0 none true 169 [.agg (enc (yh f k))] H1 = some (ofV (yh f k), H1) := y24 rfl (y2f3 (yh f k) H1) rfl (s_of (yh f k)) ⟨_, rfl, rfl⟩
    have x0 : y40 0 (ofV (yh f k)) = some (vFa ((ofM (yh f k)).getD zF)) := rfl
    have x1 : y40 1 (ofV (yh f k)) = some (.bool (ofM (yh f k)).isSome) := rfl
    have hlen1 := S1.d.len
    obtain ⟨o16, ho16⟩ : ∃ o, H1[0 + 16]? = some o := ⟨_, List.getElem?_eq_getElem (by omega)⟩
    have nc := y1ag (j := 16) ho16
    rw [Nat.zero_add] at nc ho16
    have sc := st_c (H := H1.set 16 (AC (o16.gen + 1) zF)) (id := 16) (g := o16.gen + 1) (c := zF) (e := (ofM (yh f k)).getD zF) (y4c (y3t ho16))
    rw [List.set_set] at sc
    have S2 := S1.set (a := 16) (x := AC (o16.gen + 1) ((ofM (yh f k)).getD zF)) (by omega)
    have h16 : (H1.set 16 (AC (o16.gen + 1) ((ofM (yh f k)).getD zF)))[16]? = some (AC (o16.gen + 1) ((ofM (yh f k)).getD zF)) := y4c (y3t ho16)
    generalize H1.set 16 (AC (o16.gen + 1) ((ofM (yh f k)).getD zF)) = H2 at *
    have lb := ypl S2.tbx
    have ixk := yd0 (n := T.length) (p := (k : Int)) (by omega) (by omega) 10 1 .i64
    rw [Int.toNat_natCast] at ixk
    have lr := yca S2.tab (y7e (T := T) (i := k) (by omega))
    have la := y23w h16
    have next : ∀ H' : Heap, NSt H' (yda f (y79 f T (k + 1))) p g T →
        ∃ H'', y1l5 V1 V2 V3 (.ls (p 2) (g 2) 9 0 (lst f.code).length) (.int .i64 (lst f.code).length) (.int .i64 (k : Int)) H' = y1qu V1 V2 H'' ∧ DSt H'' (knoF f T) p g 17 := by
      intro H' S'
      obtain ⟨H'', r1, r2⟩ := ih (k + 1) (by omega) H' S'
      refine ⟨H'', ?_, r2⟩
      rw [y1l5, yw3 hk (by omega), y7]
      exact r1
    have pfx : ∀ R, (yvb V1 V2 V3 (.ls (p 2) (g 2) 9 0 (lst f.code).length) (.int .i64 (lst f.code).length) (.int .i64 (k : Int)) H = R) →
        yna V1 V2 V3 (.ls (p 2) (g 2) 9 0 (lst f.code).length) (.int .i64 (lst f.code).length) (.int .i64 (k : Int)) H = R := by
      intro R hR
      rw [ytv, y24c, yq, y7, decide_eq_true hc, y1y6, y1k, hR]
    have lov : ownV (p 2) (g 2) (yda f (y79 f T k)).code = .ls (p 2) (g 2) 9 0 (lst f.code).length := by
      show AV.ls (p 2) (g 2) 9 0 (y79 f T k).length = _
      rw [ye8]
    cases hof : ofM (yh f k) with
    | none =>
      rw [hof] at sc x0 x1 la h16
      have hg : y85 f T k = false := by unfold y85; rw [hof]
      obtain ⟨H'', r1, r2⟩ := next H2 (by rw [yf3 hg]; exact S2)
      refine ⟨H'', pfx _ ?_, r2⟩
      rw [yvb, ixc, y7, lc, y7, nx, ye, sx, ye, lx, y7, c169, ye, x0, y7, x1, y7, nc, ye, sc, ye]
      simp only [Option.isSome_none, yj5, y30, y7, y25]
      exact r1
    | some c =>
      rw [hof] at sc x0 x1 la h16
      simp only [Option.getD_some] at la sc x0
      cases hT : kAt T k with
      | none =>
        have hg : y85 f T k = false := by unfold y85; rw [hof, hT]
        have hk0 : k ≠ 0 := fun e => by rw [e, hz] at hT; cases hT
        have er : rowK T k = .nilm := by rw [rowK, if_neg hk0, hT]
        rw [er] at lr
        have ne : y4q 2 true AV.nilm AV.nilm = some (.bool false) := rfl
        obtain ⟨H'', r1, r2⟩ := next H2 (by rw [yf3 hg]; exact S2)
        refine ⟨H'', pfx _ ?_, r2⟩
        rw [yvb, ixc, y7, lc, y7, nx, ye, sx, ye, lx, y7, c169, ye, x0, y7, x1, y7, nc, ye, sc, ye]
        simp only [Option.isSome_some, ybm, lb, ixk, lr, ne, y2c, y7, yj5, y30, y25]
        exact r1
      | some s =>
        have hi := ypt hz hT
        have mg : y6r true [0, 0, 0] (.bool false) false (rowK T k) (vFa c) H2 = some (.bool (decide (c ∈ s))) := by
          rcases hi with h | ⟨h, h'⟩
          · rw [h]; exact y25m c s
          · rw [h, h']; exact y2e9 S2.m0 c
        have ne := hi.nn.2
        by_cases hm : c ∈ s
        · rw [decide_eq_true hm] at mg
          have hg : y85 f T k = true := by unfold y85; rw [hof, hT]; exact decide_eq_true hm
          have fa : evFa 3 V1 = some (.lp 0 1 0 3) := rfl
          have lc2 := S2.d.ldc
          rw [lov] at lc2
          have bl : y13 y1ad [(0, 1, .int .i64 33)] = some (.agg (enc nopI)) := rfl
          have st := S2.d.st hcode (i := k) (by rw [ye8]; exact hk) (knoI f T k)
          have ek : knoI f T k = nopI := by rw [knoI, hg]; rfl
          rw [y1en f T k hk, ek] at st
          have S3 := S2.code hcode (L' := y79 f T (k + 1)) (by rw [ye8, ye8])
          obtain ⟨H'', r1, r2⟩ := next _ S3
          refine ⟨H'', pfx _ ?_, r2⟩
          rw [yvb, ixc, y7, lc, y7, nx, ye, sx, ye, lx, y7, c169, ye, x0, y7, x1, y7, nc, ye, sc, ye]
          simp only [Option.isSome_some, ybm, lb, ixk, lr, ne, la, mg, y2c, y7, y1k, fa, lc2, bl, ixc, st, ye]
          exact r1
        · rw [decide_eq_false hm] at mg
          have hg : y85 f T k = false := by unfold y85; rw [hof, hT]; exact decide_eq_false hm
          obtain ⟨H'', r1, r2⟩ := next H2 (by rw [yf3 hg]; exact S2)
          refine ⟨H'', pfx _ ?_, r2⟩
          rw [yvb, ixc, y7, lc, y7, nx, ye, sx, ye, lx, y7, c169, ye, x0, y7, x1, y7, nc, ye, sc, ye]
          simp only [Option.isSome_some, ybm, lb, ixk, lr, ne, la, mg, y2c, y7, y25]
          exact r1
end
theorem y22d (H : Heap) {j : Nat} {o : AO} (h : H[j]? = some o) (n : Nat) (hn : n ≤ 1000000) : mkSC 0 (some j) 1 8 [.nilm] (.int .i64 n) (.int .i64 n) H = some (.ls j (o.gen + 1) 1 0 n, H.set j ⟨o.gen + 1, .arr false false 1 (List.replicate n [.nilm])⟩) := by
  have h1 : (n : Int) * 8 ≤ 2 ^ 47 := by omega
  have h2 : (n : Int) ≤ 2 ^ 62 := by omega
  have z : [AV.nilm].length = 1 ∧ [AV.nilm].all y1a = true ∧ (0 : Int) ≤ (n : Int) ∧ (n : Int) ≤ n ∧ (n : Int) * ((8 : Nat) : Int) ≤ 2 ^ 47 ∧ (n : Int) ≤ 2 ^ 62 := ⟨rfl, rfl, by omega, by omega, h1, h2⟩
  rw [mkSC, if_pos z, y46, place]
  simp only [Nat.zero_add, h, Option.map_some, Int.toNat_natCast, List.length_replicate]
theorem y1bn {f : Fn} (w : Wf f) : (List.replicate (lst f.code).length [AV.nilm]).set 0 [.lm 12 1] = tabK (y5m f) := by
  have hl : (y5m f).length = (lst f.code).length := by simp [y5m]
  refine List.ext_getElem? fun j => ?_
  rw [List.getElem?_set]
  have hn := w.n1
  by_cases e : 0 = j
  · subst e
    rw [if_pos rfl, if_pos (by rw [List.length_replicate]; omega), y7e (by omega), rowK, if_pos rfl]
  · rw [if_neg e]
    by_cases hj : j < (lst f.code).length
    · rw [y7e (by omega), rowK, if_neg (fun h => e h.symm), yyh w, if_neg (fun h => e h.symm), List.getElem?_replicate, if_pos hj]
    · rw [List.getElem?_eq_none (by simpa using hj), List.getElem?_eq_none (by simp [tabK, hl]; omega)]
theorem y27f {H : Heap} {j : Nat} (h : H[j]? = some D0) : newC 0 (some j) [.nils] H = some (.lp j 1 0 0, H.set j ⟨1, .arr true false 1 [[.nils]]⟩) := by
  simp [h]
theorem y2r5 {H : Heap} {j : Nat} (h : H[j]? = some D0) : mkmC 0 (some j) H = some (.lm j 1, H.set j (AK 1 [])) := by
  simp [mkmC, place, h]
  rfl
theorem y1vy {f : Fn} (w : Wf f) {p g : Nat → Nat} {H : Heap} (D : DSt H f p g 17) (hd : ∀ k, 10 ≤ k → k < 17 → H[k]? = some D0) :
    ∃ H', yxb V1 V2 H = yd2 V1 V2 V3 V4 V5 H' ∧ KSt H' f p g (y5m f) [0] := by
  have hn := w.n2
  have hn1 := w.n1
  have hlen := D.len
  have lc := D.ldc
  have hov : ownV (p 2) (g 2) f.code = .ls (p 2) (g 2) 9 0 (lst f.code).length := by
    cases hc : f.code with
    | none => rw [hc] at hn1; simp at hn1
    | some L => rfl
  rw [hov] at lc
  have fa3 : evFa 3 V1 = some (.lp 0 1 0 3) := rfl
  have mk := y22d H (j := 10) (o := D0) (hd 10 (by omega) (by omega)) (lst f.code).length (by omega)
  have D1 := D.set (a := 10) (x := ⟨D0.gen + 1, .arr false false 1 (List.replicate (lst f.code).length [.nilm])⟩) (by omega)
  have a10 : (H.set 10 ⟨D0.gen + 1, .arr false false 1 (List.replicate (lst f.code).length [.nilm])⟩)[10]? = some ⟨1, .arr false false 1 (List.replicate (lst f.code).length [.nilm])⟩ := y4c (by omega)
  have ad : ∀ k, 11 ≤ k → k < 17 → (H.set 10 ⟨D0.gen + 1, .arr false false 1 (List.replicate (lst f.code).length [.nilm])⟩)[k]? = some D0 := fun k h1 h2 => by rw [yx (by omega)]; exact hd k (by omega) h2
  generalize H.set 10 ⟨D0.gen + 1, .arr false false 1 (List.replicate (lst f.code).length [.nilm])⟩ = H1 at *
  have n11 := y27f (ad 11 (by omega) (by omega))
  have hl1 := D1.len
  have s11 := y22x (H := H1.set 11 ⟨1, .arr true false 1 [[.nils]]⟩) (a := 11) (v := .nils) (w := .ls 10 (D0.gen + 1) 1 0 (lst f.code).length) (y4c (by omega)) rfl rfl
  rw [List.set_set] at s11
  have D2 := D1.set (a := 11) (x := ⟨1, .arr true false 1 [[.ls 10 (D0.gen + 1) 1 0 (lst f.code).length]]⟩) (by omega)
  have b10 : (H1.set 11 ⟨1, .arr true false 1 [[.ls 10 (D0.gen + 1) 1 0 (lst f.code).length]]⟩)[10]? = some ⟨1, .arr false false 1 (List.replicate (lst f.code).length [.nilm])⟩ := by rw [yx (by omega)]; exact a10
  have b11 : (H1.set 11 ⟨1, .arr true false 1 [[.ls 10 (D0.gen + 1) 1 0 (lst f.code).length]]⟩)[11]? = some ⟨1, .arr true false 1 [[.ls 10 1 1 0 (lst f.code).length]]⟩ := y4c (by omega)
  have bd : ∀ k, 12 ≤ k → k < 17 → (H1.set 11 ⟨1, .arr true false 1 [[.ls 10 (D0.gen + 1) 1 0 (lst f.code).length]]⟩)[k]? = some D0 := fun k h1 h2 => by rw [yx (by omega)]; exact ad k (by omega) h2
  generalize H1.set 11 ⟨1, .arr true false 1 [[.ls 10 (D0.gen + 1) 1 0 (lst f.code).length]]⟩ = H2 at *
  have l11 := ypl b11
  have hl2 := D2.len
  have m12 := y2r5 (bd 12 (by omega) (by omega))
  have D3 := D2.set (a := 12) (x := AK 1 []) (by omega)
  have c10 : (H2.set 12 (AK 1 []))[10]? = some ⟨1, .arr false false 1 (List.replicate (lst f.code).length [.nilm])⟩ := by rw [yx (by omega)]; exact b10
  have c11 : (H2.set 12 (AK 1 []))[11]? = some ⟨1, .arr true false 1 [[.ls 10 1 1 0 (lst f.code).length]]⟩ := by rw [yx (by omega)]; exact b11
  have c12 : (H2.set 12 (AK 1 []))[12]? = some (AK 1 []) := y4c (by omega)
  have cd : ∀ k, 13 ≤ k → k < 17 → (H2.set 12 (AK 1 []))[k]? = some D0 := fun k h1 h2 => by rw [yx (by omega)]; exact bd k (by omega) h2
  generalize H2.set 12 (AK 1 []) = H3 at *
  have ix0 := yd0 (n := (lst f.code).length) (p := 0) (by omega) (by omega) 10 1 .i64
  rw [show Int.toNat 0 = 0 from rfl] at ix0
  have hrow : (List.replicate (lst f.code).length [AV.nilm])[0]? = some [AV.nilm] := by
    rw [List.getElem?_replicate, if_pos (by omega)]
  have st := y15r (v := .lm 12 1) c10 hrow rfl rfl
  rw [y1bn w] at st
  have D4 := D3.set (a := 10) (x := ⟨1, .arr false false 1 (tabK (y5m f))⟩) (by omega)
  have hl3 := D3.len
  have d10 : (H3.set 10 ⟨1, .arr false false 1 (tabK (y5m f))⟩)[10]? = some ⟨1, .arr false false 1 (tabK (y5m f))⟩ := y4c (by omega)
  have d11 : (H3.set 10 ⟨1, .arr false false 1 (tabK (y5m f))⟩)[11]? = some ⟨1, .arr true false 1 [[.ls 10 1 1 0 (lst f.code).length]]⟩ := by rw [yx (by omega)]; exact c11
  have d12 : (H3.set 10 ⟨1, .arr false false 1 (tabK (y5m f))⟩)[12]? = some (AK 1 []) := by rw [yx (by omega)]; exact c12
  have dd : ∀ k, 13 ≤ k → k < 17 → (H3.set 10 ⟨1, .arr false false 1 (tabK (y5m f))⟩)[k]? = some D0 := fun k h1 h2 => by rw [yx (by omega)]; exact cd k (by omega) h2
  generalize H3.set 10 ⟨1, .arr false false 1 (tabK (y5m f))⟩ = H4 at *
  have hl4 := D4.len
  have b13 := yui (H := H4) (fb := 0) (j := 13) (o := D0) 0 (by rw [Nat.zero_add]; exact dd 13 (by omega) (by omega))
  rw [Nat.zero_add] at b13
  have D5 := D4.set (a := 13) (x := AI (D0.gen + 1) [0]) (by omega)
  have e10 : (H4.set 13 (AI (D0.gen + 1) [0]))[10]? = some ⟨1, .arr false false 1 (tabK (y5m f))⟩ := by rw [yx (by omega)]; exact d10
  have e11 : (H4.set 13 (AI (D0.gen + 1) [0]))[11]? = some ⟨1, .arr true false 1 [[.ls 10 1 1 0 (lst f.code).length]]⟩ := by rw [yx (by omega)]; exact d11
  have e12 : (H4.set 13 (AI (D0.gen + 1) [0]))[12]? = some (AK 1 []) := by rw [yx (by omega)]; exact d12
  have e13 : (H4.set 13 (AI (D0.gen + 1) [0]))[13]? = some (AI 1 [0]) := y4c (by omega)
  have ed : ∀ k, 14 ≤ k → k < 17 → (H4.set 13 (AI (D0.gen + 1) [0]))[k]? = some D0 := fun k h1 h2 => by rw [yx (by omega)]; exact dd k (by omega) h2
  generalize H4.set 13 (AI (D0.gen + 1) [0]) = H5 at *
  have hl5 := D5.len
  have n14 := y27f (ed 14 (by omega) (by omega))
  have s14 := y22x (H := H5.set 14 ⟨1, .arr true false 1 [[.nils]]⟩) (a := 14) (v := .nils) (w := .ls 13 (D0.gen + 1) 1 0 1) (y4c (by omega)) rfl rfl
  rw [List.set_set] at s14
  have D6 := D5.set (a := 14) (x := ⟨1, .arr true false 1 [[.ls 13 (D0.gen + 1) 1 0 1]]⟩) (by omega)
  have hT : (y5m f).length = (lst f.code).length := by simp [y5m]
  refine ⟨_, ?_, ⟨D6, by rw [yx (by omega)]; exact e10, by rw [yx (by omega), hT]; exact e11, by rw [yx (by omega)]; exact e12, 1, [], by rw [yx (by omega)]; exact e13, y4c (by omega)⟩⟩
  rw [yxb, fa3, y7, lc, y7, y48, y7, mk, ye, n11, ye, s11, ye, y1pi, l11, y7, m12, ye, ix0, y7, st, ye, y1gv, b13, ye, n14, ye, s14, ye, y1p8, y7]
theorem y1tu (f : Fn) (hf : FnFit f) (hs : FnSm f) (h1 : (lst f.code).length ≤ 400) (h2 : (lst f.regs).length ≤ 100) (hr : (lst f.rows).length ≤ 1000000) :
    (wf f = false → (yb E).p 166 [.agg (enc f)] = some (y2o f)) ∧ (wf f = true → ∃ T, InvK f (T, []) ∧ (yb E).p 166 [.agg (enc f)] = some (y2o (knoF f T))) := by
  have n0 : newC 0 (some 0) (cellsOf (.agg (enc f))) (List.replicate 17 ⟨0, .dead⟩) = some (.lp 0 1 0 0, AB f :: List.replicate 16 D0) := by simp [List.replicate]
  have n1 : newC 0 (some 1) [.nils, .nils, .int .i64 0, .nils, .nils] (AB f :: List.replicate 16 D0) = some (.lp 1 1 0 0, AB f :: ⟨1, .arr true false 5 [[.nils, .nils, .int .i64 0, .nils, .nils]]⟩ :: List.replicate 15 D0) := by simp [List.replicate]
  have l0 : ∀ t : Heap, evLd true 5 (.lp 0 1 0 0) (AB f :: t) = some (.agg (enc f)) := fun t => by simp
  obtain ⟨H1, H2, p, g, e1, e2, D, hl2, hk2⟩ := y19r hs (H := AB f :: ⟨1, .arr true false 5 [[.nils, .nils, .int .i64 0, .nils, .nils]]⟩ :: List.replicate 15 D0) rfl ⟨_, rfl, rfl⟩ (n := 17) (by omega) (by simp)
  have hck := y1l8 f hf
  have c8 := D.call (E := E) (C := yb E) (fb := 0) (sl := none) (k := 8) rfl rfl hck ⟨_, rfl, rfl⟩
  have e24 : (yb E).p 166 [.agg (enc f)] = yu9 V1 V2 H2 := by
    rw [y2ns]
    show y182 _ (List.replicate 17 ⟨0, .dead⟩) = _
    rw [y182, n0, ye, n1, ye, y1qe, l0, y7, e1, ye, e2, ye]
  refine ⟨fun hw => ?_, fun hw => ?_⟩
  · rw [hw] at c8
    obtain ⟨H3, o1, o2, o3⟩ := D.out
    have z : y8 .neq (.int .i64 (if false = true then (0 : Int) else 80)) (.int .i64 0) = some (.bool true) := rfl
    rw [e24, yu9, D.ld, y7, c8, ye, z, y7, y1k, D.ld, y7, o1, ye, o2, y7, o3]
  · rw [hw] at c8
    have w := y1od hw
    obtain ⟨L, hL⟩ : ∃ L, f.code = some L := by
      cases hc : f.code with
      | none => have := w.n1; rw [hc] at this; simp at this
      | some L => exact ⟨L, rfl⟩
    have hlL : lst f.code = L := by rw [hL]; rfl
    obtain ⟨H3, q1, S3⟩ := y1vy w D (fun k h1 h2 => by
      rw [hk2 k (by omega)]
      rw [show k = (k - 2) + 2 by omega, List.getElem?_cons_succ, List.getElem?_cons_succ, List.getElem?_replicate, if_pos (by omega)])
    obtain ⟨H4, T, q2, S4, v⟩ := y2pi w hr _ H3 (y5m f) [0] (Nat.le_refl _) S3 (y2id w) (y1ck h1 h2)
    refine ⟨T, v, ?_⟩
    have hself : yda f (y79 f T 0) = f := by rw [y2fd, hlL, yls hL]
    have N0 : NSt H4 (yda f (y79 f T 0)) p g T := ⟨by rw [hself]; exact S4.d, S4.tab, S4.tbx, S4.m0⟩
    obtain ⟨H8, t1, D8⟩ := y22j w v _ 0 (Nat.zero_add _) H4 N0
    obtain ⟨H9, o1, o2, o3⟩ := D8.out
    have z : y8 .neq (.int .i64 (if true = true then (0 : Int) else 80)) (.int .i64 0) = some (.bool false) := rfl
    have fa3 : evFa 3 V1 = some (.lp 0 1 0 3) := rfl
    have lc := S4.d.ldc
    have hov : ownV (p 2) (g 2) f.code = .ls (p 2) (g 2) 9 0 (lst f.code).length := by rw [hL]; rfl
    rw [hov] at lc
    have z0 : ((0 : Nat) : Int) = 0 := rfl
    rw [z0] at t1
    rw [e24, yu9, D.ld, y7, c8, ye, z, y7, y25, q1, q2, y20y, fa3, y7, lc, y7, y48, y7, t1, y1qu, D8.ld, y7, o1, ye, o2, y7, o3]
end Go.Vm
