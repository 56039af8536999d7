/- known.Pass's closure on the machine: facts flow to a place. Which instructions may throw. A number in a list: the library's 'Contains'. flow.Next, flow.Caught. known.Pass on the machine: the rounds of its work. The instruction that does nothing. What 'kinds' answers. What 'other' answers; all of 'kinds'. Whether one instruction is well formed: 'right'. 'right', whole. Whether a function is well formed: 'Check': its lists of registers, parameters, rows. known.Pass on the machine: the pass itself. -/
import Derived.Test.YtgbajicpokolcaaJX
import Derived.Test.YtgbajicpokolcaaJTc
set_option linter.unusedSimpArgs false
set_option linter.unusedVariables false
set_option linter.unusedSectionVars false
namespace Go.Vm
open Cel
theorem yk0 {H : Heap} {a : Nat} {v : AV} (h : H[a]? = some ⟨1, .arr true false 1 [[v]]⟩) : evLd false 1 (.lp a 1 0 0) H = some v := by
  have hr : yk H a 1 = some (false, 1, [[v]]) := by simp [yk, y2w, h]
  rw [y2v, hr]
  rfl
theorem y1le {H : Heap} {a : Nat} {v w : AV} (h : H[a]? = some ⟨1, .arr true false 1 [[v]]⟩) (hv : cellsOf w = [w]) (hl : yx w = true) : evSt 1 (.lp a 1 0 0) w H = some (.tup [], H.set a ⟨1, .arr true false 1 [[w]]⟩) := by
  have hr : yk H a 1 = some (false, 1, [[v]]) := by simp [yk, y2w, h]
  rw [y2l, hr]
  simp only [List.getElem?_cons_zero, hv]
  rw [if_pos (by simp [hl]), y1e, h]
  rfl
theorem yf9 {k n : Nat} (h : k < n) (hn : n ≤ 9223372036854775807) : y6 .add (.int .i64 (k : Int)) (.int .i64 1) = some (.int .i64 ((k + 1 : Nat) : Int)) := by
  rw [y1f]
  congr 2
  rw [y22] <;> omega
def rowK (T : KTab) (i : Nat) : AV := if i = 0 then .lm 12 1 else match kAt T i with
  | none => .nilm
  | some s => .rm (mE s)
def tabK (T : KTab) : List (List AV) := (List.range T.length).map fun i => [rowK T i]
theorem y5d {T : KTab} {i : Nat} (h : i < T.length) : (tabK T)[i]? = some [rowK T i] := by
  simp [tabK, h]
theorem y1id {T : KTab} {i : Nat} (h0 : i ≠ 0) (h : i < T.length) (n : Fs) : (tabK T).set i [.rm (mE n)] = tabK (T.set i (some n)) := by
  refine List.ext_getElem? fun j => ?_
  rw [List.getElem?_set]
  have hl : (tabK T).length = T.length := by simp [tabK]
  by_cases e : i = j
  · subst e
    rw [if_pos rfl, if_pos (by rw [hl]; exact h), y5d (by rw [List.length_set]; exact h), rowK, if_neg h0, ybx h, if_pos rfl]
  · rw [if_neg e]
    by_cases hj : j < T.length
    · rw [y5d hj, y5d (by rw [List.length_set]; exact hj), rowK, rowK, ybx h, if_neg e]
    · rw [List.getElem?_eq_none (by rw [hl]; omega), List.getElem?_eq_none (by simp [tabK]; omega)]
def IsK (v : AV) (s : Fs) : Prop := v = .rm (mE s) ∨ (v = .lm 12 1 ∧ s = [])
theorem yjw {T : KTab} {i : Nat} {t : Fs} (hz : kAt T 0 = some []) (h : kAt T i = some t) : IsK (rowK T i) t := by
  unfold rowK
  by_cases e : i = 0
  · subst e
    rw [hz] at h
    injection h with h
    rw [if_pos rfl]
    exact .inr ⟨rfl, h.symm⟩
  · rw [if_neg e, h]
    exact .inl rfl
theorem IsK.fz {v : AV} {s : Fs} (h : IsK v s) {H : Heap} (m0 : H[12]? = some (AK 1 [])) (k : Nat) : ∃ fr ids, Go.Vm.fz H (k + 3) v = some ⟨.rm (mE s), fr, ids⟩ ∧ (ids = [] ∨ ids = [12]) := by
  rcases h with rfl | ⟨rfl, rfl⟩
  · exact ⟨_, _, rfl, .inl rfl⟩
  · exact ⟨_, _, y1qj k m0, .inr rfl⟩
theorem IsK.len {v : AV} {s : Fs} (h : IsK v s) {H : Heap} (m0 : H[12]? = some (AK 1 [])) : y12 2 v H = some (.int .i64 s.length) := by
  rcases h with rfl | ⟨rfl, rfl⟩
  · simp [y12, y1pp]
  · simp [y12, yb7 m0, mE]
theorem IsK.nn {v : AV} {s : Fs} (h : IsK v s) : y7b 2 false v AV.nilm = some (.bool false) ∧ y7b 2 true v AV.nilm = some (.bool true) := by
  rcases h with rfl | ⟨rfl, rfl⟩ <;> exact ⟨rfl, rfl⟩
theorem ykh {H : Heap} {fb f : Nat} {args args' : List AV} {s : Fs} {fr : Bool} {ids : List Nat} (hE : E.pure f = true) (ha : yj (fz H y19) args = some ⟨args', fr, ids⟩) (hc : (yb E).p f args' = some (exK2 s)) :
    y9 E (yb E) fb none true f args H = some (.rm (mE s), H) ∧ y5r E (yb E) fb none true f args H = some (ids, []) := by
  refine ⟨yf8 (fa := ⟨args', fr, ids⟩) hE ha rfl hc ⟨_, y1s7 s, rfl⟩, ?_⟩
  simp [y5r, hE, ha, hc]
structure KSt (H : Heap) (f : Fn) (p g : Nat → Nat) (T : KTab) (W : List Int) : Prop where
  d : DSt H f p g 17
  tab : H[10]? = some ⟨1, .arr false false 1 (tabK T)⟩
  tbx : H[11]? = some ⟨1, .arr true false 1 [[.ls 10 1 1 0 T.length]]⟩
  m0 : H[12]? = some (AK 1 [])
  wk : ∃ gw D, H[13]? = some (AI gw (W ++ D)) ∧ H[14]? = some ⟨1, .arr true false 1 [[.ls 13 gw 1 0 W.length]]⟩
theorem KSt.grow {H : Heap} {f : Fn} {p g : Nat → Nat} {T : KTab} {W : List Int} (S : KSt H f p g T W) (X : Heap) : KSt (H ++ X) f p g T W := by
  obtain ⟨gw, D, w1, w2⟩ := S.wk
  exact ⟨S.d.grow X, yfs S.tab, yfs S.tbx, yfs S.m0, gw, D, yfs w1, yfs w2⟩
theorem KSt.set {H : Heap} {f : Fn} {p g : Nat → Nat} {T : KTab} {W : List Int} (S : KSt H f p g T W) {a : Nat} {x : AO} (ha : 15 ≤ a) : KSt (H.set a x) f p g T W := by
  obtain ⟨gw, D, w1, w2⟩ := S.wk
  exact ⟨S.d.set (by omega), by rw [y11 (by omega)]; exact S.tab, by rw [y11 (by omega)]; exact S.tbx, by rw [y11 (by omega)]; exact S.m0, gw, D, by rw [y11 (by omega)]; exact w1, by rw [y11 (by omega)]; exact w2⟩
section
variable {f : Fn} {p g : Nat → Nat} {T : KTab} {W : List Int} {to : Int} (t0 : 0 ≤ to) (t1 : to < T.length) (hb : W.length ≤ 1000000000)
include t0 t1 hb
theorem ylu {H : Heap} (S : KSt H f p g T W) {fb : Nat} (hf : 17 ≤ fb) (h1 : H[fb + 0]? = some D0) :
    ∃ H', y0m fb (.int .i64 to) (.lp 14 1 0 0) H = some (.tup [], H') ∧ KSt H' f p g T (W ++ [to]) := by
  obtain ⟨gw, D, w1, w2⟩ := S.wk
  have l2 := yk0 w2
  have b1 := y1qc to h1
  have S2 := S.set (a := fb + 0) (x := AI (D0.gen + 1) [to]) (by omega)
  have h14 := y4q w2
  have h13 := y4q w1
  have n14 : (H.set (fb + 0) (AI (D0.gen + 1) [to]))[14]? = some ⟨1, .arr true false 1 [[.ls 13 gw 1 0 W.length]]⟩ := by rw [y11 (by omega)]; exact w2
  have n13 : (H.set (fb + 0) (AI (D0.gen + 1) [to]))[13]? = some (AI gw (W ++ D)) := by rw [y11 (by omega)]; exact w1
  have nfb : (H.set (fb + 0) (AI (D0.gen + 1) [to]))[fb + 0]? = some (AI (D0.gen + 1) [to]) := y4e (y4q h1)
  generalize H.set (fb + 0) (AI (D0.gen + 1) [to]) = H2 at *
  have ap : y26 fb (some 1) 1 8 (.ls 13 gw 1 0 W.length) (.ls (fb + 0) (D0.gen + 1) 1 0 1) H2 = some (.ls 13 (gw + 1) 1 0 (W ++ [to]).length, H2.set 13 (AI (gw + 1) (W ++ [to]))) :=
    yk2 (α := Int) (M := [to]) (y17a (α := Int) (L := [to]) nfb) n13 (ye5 (by simp; omega))
  have S3d := S2.d.set (a := 13) (x := AI (gw + 1) (W ++ [to])) (by omega)
  have k14 : (H2.set 13 (AI (gw + 1) (W ++ [to])))[14]? = some ⟨1, .arr true false 1 [[.ls 13 gw 1 0 W.length]]⟩ := by rw [y11 (by omega)]; exact n14
  have k13 : (H2.set 13 (AI (gw + 1) (W ++ [to])))[13]? = some (AI (gw + 1) (W ++ [to])) := y4e (y4q n13)
  have k11 : (H2.set 13 (AI (gw + 1) (W ++ [to])))[11]? = some ⟨1, .arr true false 1 [[.ls 10 1 1 0 T.length]]⟩ := by rw [y11 (by omega)]; exact S2.tbx
  have k10 : (H2.set 13 (AI (gw + 1) (W ++ [to])))[10]? = some ⟨1, .arr false false 1 (tabK T)⟩ := by rw [y11 (by omega)]; exact S2.tab
  have k12 : (H2.set 13 (AI (gw + 1) (W ++ [to])))[12]? = some (AK 1 []) := by rw [y11 (by omega)]; exact S2.m0
  generalize H2.set 13 (AI (gw + 1) (W ++ [to])) = H3 at *
  have s14 := y1le (w := .ls 13 (gw + 1) 1 0 (W ++ [to]).length) k14 rfl rfl
  refine ⟨H3.set 14 ⟨1, .arr true false 1 [[.ls 13 (gw + 1) 1 0 (W ++ [to]).length]]⟩, ?_, S3d.set (by omega), ?_, ?_, ?_, gw + 1, [], ?_, y4e (y4q k14)⟩
  · rw [y0m, l2, y4, b1, y8, ap, y8, s14, y8]
  · rw [y11 (by omega)]; exact k10
  · rw [y11 (by omega)]; exact k11
  · rw [y11 (by omega)]; exact k12
  · rw [y11 (by omega), List.append_nil]; exact k13
omit hb in
theorem ysc {H : Heap} (S : KSt H f p g T W) (h0 : to.toNat ≠ 0) (n : Fs) :
    ∃ H1, evSt 1 (.lp 10 1 to.toNat 0) (.rm (mE n)) H = some (.tup [], H1) ∧ KSt H1 f p g (T.set to.toNat (some n)) W ∧ ∀ a, a ≠ 10 → H1[a]? = H[a]? := by
  obtain ⟨gw, D, w1, w2⟩ := S.wk
  have hlt : to.toNat < T.length := by omega
  have st := y1q1 (v := .rm (mE n)) S.tab (y5d hlt) rfl rfl
  rw [y1id h0 hlt] at st
  refine ⟨_, st, ⟨S.d.set (by omega), y4e (y4q S.tab), by rw [y11 (by omega), List.length_set]; exact S.tbx, by rw [y11 (by omega)]; exact S.m0, gw, D, by rw [y11 (by omega)]; exact w1, by rw [y11 (by omega)]; exact w2⟩, fun a ha => y11 (fun e => ha e.symm)⟩
theorem y1ck {H : Heap} (S : KSt H f p g T W) (hz : kAt T 0 = some []) (hnd : ∀ t, kAt T to.toNat = some t → t.Nodup) {v : AV} {s : Fs} (hv : IsK v s) :
    ∃ H', yhh E (yb E) 0 none true (.fn 167 [.lp 11 1 0 0, .lp 14 1 0 0]) [.int .i64 to, v] H = some (.tup [], H') ∧ KSt H' f p g (yau s to (T, W)).1 (yau s to (T, W)).2 := by
  have e1 : yhh E (yb E) 0 none true (.fn 167 [.lp 11 1 0 0, .lp 14 1 0 0]) [.int .i64 to, v] H = y1l0 H.length (.int .i64 to) v (.lp 11 1 0 0) (.lp 14 1 0 0) (H ++ y10 2) := by
    rw [yhh]
    show y9 E (yb E) 0 none true 167 [.int .i64 to, v, .lp 11 1 0 0, .lp 14 1 0 0] H = _
    rw [y9, if_neg (by simp), y26b, if_pos rfl]
  rw [e1]
  have S0 := S.grow (y10 2)
  have hfb : 17 ≤ H.length := S.d.len
  have d1 : (H ++ y10 2)[H.length + 0]? = some D0 := y27t (by omega)
  generalize H ++ y10 2 = H0 at *
  generalize H.length = fb at *
  have hlt : to.toNat < T.length := by omega
  have l1 := yk0 S0.tbx
  have ix := y9z (n := T.length) t0 t1 10 1 .i64
  have lr := yut S0.tab (y5d hlt)
  obtain ⟨fr, ids, hz1, hids⟩ := hv.fz S0.m0 9
  rw [y1l0, l1, y4, ix, y4, lr, y4]
  unfold yau
  simp only
  cases ho : kAt T to.toNat with
  | none =>
    have h0 : to.toNat ≠ 0 := fun e => by rw [e, hz] at ho; cases ho
    have er : rowK T to.toNat = .nilm := by rw [rowK, if_neg h0, ho]
    have ne : y7b 2 false AV.nilm AV.nilm = some (.bool true) := rfl
    have ha : yj (fz H0 y19) [v] = some ⟨[.rm (mE s)], fr && true, ids ++ []⟩ := by
      rw [yo, show y19 = 9 + 3 from rfl, hz1, y14]
    obtain ⟨c, fp⟩ := ykh (fb := fb) (f := 161) rfl ha (yvk s)
    obtain ⟨H1, st, S1, hk⟩ := ysc t0 t1 S0 h0 s
    obtain ⟨H2, r1, r2⟩ := ylu t0 (by rw [List.length_set]; exact t1) hb S1 hfb (by rw [hk _ (by omega)]; exact d1)
    refine ⟨H2, ?_, r2⟩
    have hp : yz [(ids1 (.lp 11 1 0 0), []), ([], []), ([], []), (ids ++ [], []), ([], []), ([], ids1 (.lp 10 1 to.toNat 0))] [(0, 3)] = true := by
      simp [yz, y27, meets]
    rw [er, ne, y4, y1of, y1h, l1, y4, fp, yjo, c, y8, ix, y4, st, y8, y21q hp, r1]
  | some t =>
    have hi := yjw hz ho
    obtain ⟨fr2, ids2, hz2, _⟩ := hi.fz S0.m0 9
    have ha : yj (fz H0 y19) [rowK T to.toNat, v] = some ⟨[.rm (mE t), .rm (mE s)], fr2 && (fr && true), ids2 ++ (ids ++ [])⟩ := by
      rw [yo, yo, show y19 = 9 + 3 from rfl, hz1, hz2, y14]
    obtain ⟨c, _⟩ := ykh (fb := fb) (f := 170) rfl ha (y1us t s (hnd t ho))
    have ln : y12 2 (.rm (mE (y3c t s))) H0 = some (.int .i64 (y3c t s).length) := by simp [y12, y1pp]
    rw [hi.nn.1, y4, y1of, y1t, y1vv, l1, y4, ix, y4, lr, y4, c, y8, y1rj, ln, y4, l1, y4, ix, y4, lr, y4, hi.len S0.m0, y4, yy, y4]
    simp only
    by_cases e : (y3c t s).length = t.length
    · rw [if_pos e, decide_eq_true (by omega), y1h]
      exact ⟨H0, rfl, S0⟩
    · have h0 : to.toNat ≠ 0 := fun e2 => by
        rw [e2, hz] at ho
        injection ho with ho
        subst ho
        exact e rfl
      rw [if_neg e, decide_eq_false (by omega), y1t]
      obtain ⟨H1, st, S1, hk⟩ := ysc t0 t1 S0 h0 (y3c t s)
      obtain ⟨H2, r1, r2⟩ := ylu t0 (by rw [List.length_set]; exact t1) hb S1 hfb (by rw [hk _ (by omega)]; exact d1)
      refine ⟨H2, ?_, r2⟩
      rw [y1tb, l1, y4, ix, y4, st, y8, r1]
end
end Go.Vm
namespace Go.Vm
open Cel
attribute [local simp] y9 y1x yt
@[simp] theorem y257 (x : Ins) : (yb E).p 18 [.agg (enc x)] = some ⟨.bool (throws x.op), [], true, [], []⟩ := by
  rw [y27f]
  rcases ydc x.op with h|h|h|h|h|h|h|h|h|h|h|h|h|h|h|h|h|h|h|h|h|h|h|h|h|h|h|h|h|h|h|h|h|h|h <;> first | (simp [h, throws, calls, y1h8]; done) | (simp [lo_f h, throws, calls, y1h8]; done) | simp [hi_f h, throws, calls, y1h8]
end Go.Vm
namespace Go.Vm
open Cel
attribute [local simp] y9 y1x yt
theorem y20m {α : Type} [Cel α] (o : Option (List α)) (i : Nat) (h : i ≤ (lst o).length) (k : IntKind) : y9f (es α) (slA o) none (some (.int k i)) = some (slA (o.map (List.take i))) := by
  have h2 : (0 : Int) ≤ (i : Int) ∧ (i : Int) ≤ ((lst o).length : Int) := by omega
  cases o with
  | none =>
    have : i = 0 := by simpa using h
    subst this
    simp [y9f, slA, ynx, yao, yla]
  | some L =>
    simp only [y8z] at h2
    simp [y9f, slA, ynx, yao, yla, h2, List.map_take]
theorem yzu (o : Option (List Int)) (r : Int) (hl : (lst o).length ≤ 9223372036854775807) (h : Heap) : ∀ (d i : Nat), i + d = (lst o).length →
    ∃ k : Int, yf4 (slA o) (.int .i64 r) (.int .i64 (lst o).length) (.int .i64 i) h = some ⟨.int .i64 k, [], true, [], []⟩ ∧ (0 ≤ k ↔ r ∈ (lst o).drop i) := by
  intro d
  induction d with
  | zero =>
    intro i hi
    have e1 : (lst o).drop i = [] := List.drop_eq_nil_of_le (by omega)
    have hn : ¬ ((i : Int) < ((lst o).length : Int)) := by omega
    rw [yh6, e1]
    exact ⟨-1, by simp [yix, yi7, yib, yi1, yh5, yhi, ybp, hn], by simp⟩
  | succ d ih =>
    intro i hi
    have hlt : i < (lst o).length := by omega
    have hn : ((i : Int) < ((lst o).length : Int)) := by omega
    have k1 := y8g (o := o) (i := i) (List.getElem?_eq_getElem hlt) .i64
    have hm : r ∈ (lst o).drop i ↔ r = (lst o)[i] ∨ r ∈ (lst o).drop (i + 1) := by rw [List.drop_eq_getElem_cons hlt, List.mem_cons]
    rw [yh6, hm]
    by_cases he : r = (lst o)[i]
    · exact ⟨i, by simp [yix, yi7, yib, yi1, yh5, yhi, ybp, hn, k1, he], by simp [he]⟩
    · obtain ⟨k, h1, h2⟩ := ih (i + 1) (by omega)
      push_cast at h1
      refine ⟨k, ?_, ?_⟩
      · simp [yix, yi7, yib, yi1, yh5, yhi, ybp, hn, k1, he, y2j hlt hl, h1]
      · rw [h2]; simp [he]
@[simp] theorem y8x (o : Option (List Int)) (r : Int) (hl : (lst o).length ≤ 9223372036854775807) : (yb E).p 46 [slA o, .int .i64 r] = some ⟨.bool ((lst o).contains r), [], true, [], []⟩ := by
  obtain ⟨k, h1, h2⟩ := yzu o r hl [] (lst o).length 0 (by omega)
  simp only [Int.ofNat_zero, List.drop_zero] at h1 h2
  have hi : (yb E).p 45 [slA o, .int .i64 r] = some ⟨.int .i64 k, [], true, [], []⟩ := by
    rw [y23w, ← h1]
    simp [yix, yi7, yib, yi1, yh5, yhi, ybp]
  rw [y23h]
  by_cases h0 : 0 ≤ k
  · have := h2.1 h0
    simp [yv0, hi, h0, this]
  · have : r ∉ lst o := fun h => h0 (h2.2 h)
    simp [yv0, hi, h0, this]
end Go.Vm
namespace Go.Vm
open Cel
attribute [local simp] y9 y1x yt
theorem yku (a b : Int) : (yb E).p 46 [.rs 1 [[.int .i64 a]], .int .i64 b] = some ⟨.bool ([a].contains b), [], true, [], []⟩ := by
  have := y8x (some [a]) b (by simp)
  exact this
theorem y1qi (f : Fn) (i : Int) (hl : (lst f.code).length ≤ 9223372036854775807) : (yb E).p 81 [.agg (enc f), .int .i64 i] = some (exO (nz (y1v f i))) := by
  rw [y27a]
  by_cases h0 : i < 0
  · simp [ygd, ygf, ygh, y1ay, y12o, y1d9, yzm, h0, y1v, nz]; rfl
  by_cases h1 : ((lst f.code).length : Int) ≤ i
  · simp [ygd, ygf, ygh, y1ay, y12o, y1d9, yzm, h0, h1, y1v, nz]; rfl
  have g0 : 0 ≤ i := by omega
  have hx := y3e (f := f) (i := i.toNat) (by omega)
  have k1 := yd9 (o := f.code) g0 hx .i64
  have hw := y0p g0 (by omega) hl
  have hn : y1v f i = yk8 (ye f i.toNat) i := by rw [y1v, if_neg (by omega)]
  rw [hn]
  generalize ye f i.toNat = x at *
  have e : yzm (.agg (enc f)) (.int .i64 i) [⟨0, .dead⟩, ⟨0, .dead⟩, ⟨0, .dead⟩, ⟨0, .dead⟩, ⟨0, .dead⟩, ⟨0, .dead⟩] = ygh (.int .i64 i) (.lp 1 1 0 0) .nils [⟨1, .arr true false 5 [enc f]⟩, ⟨1, .arr true false 9 [enc x]⟩, ⟨0, .dead⟩, ⟨0, .dead⟩, ⟨0, .dead⟩, ⟨0, .dead⟩] := by
    simp [yzm, y1d9, y12o, y1ay, h0, h1, k1]
  rw [e, yk8]
  cases he : ends x.op with
  | true =>
    cases hd : leads x.op with
    | false => simp [ygh, ygf, ygd, he, hd, nz]; rfl
    | true =>
      have := y8x none x.t (by simp)
      simp [ygh, ygf, ygd, he, hd, nz, slA] at this ⊢
      simp [this, ym, y1d, y26, addN]
      exact yb8 (by simp)
  | false =>
    cases hd : leads x.op with
    | false =>
      simp [ygh, ygf, ygd, he, hd, hw, ym, y1d, y26]
      exact yb8 (by simp)
    | true =>
      have hz : fz [⟨1, .arr true false 5 [enc f]⟩, ⟨1, .arr true false 9 [enc x]⟩, ⟨1, .arr false false 1 [[.int .i64 (i + 1)]]⟩, ⟨1, .arr false false 1 [[.int .i64 (i + 1)]]⟩, ⟨0, .dead⟩, ⟨0, .dead⟩] y19 (.ls 3 1 1 0 1) = some ⟨.rs 1 [[.int .i64 (i + 1)]], true, [3]⟩ := by
        rw [y1ly]; rfl
      generalize hxt : x.t = t at *
      by_cases hc : i + 1 = t
      · subst hc
        simp [ygh, ygf, ygd, he, hd, hw, ym, y1d, y26, hz, yku, addN, hxt]
        exact yb8 (by simp)
      · have hc' : ¬ t = i + 1 := fun h => hc h.symm
        simp [ygh, ygf, ygd, he, hd, hw, ym, y1d, y26, hz, yku, hc, hc', addN, hxt]
        exact yy8 (by simp)
theorem ynz (f : Fn) (i : Int) (hl : (lst f.rows).length ≤ 10000000000000) : ∀ (d k g : Nat) (L : List Int) (o1 o2 : AO), k + d = (lst f.rows).length → L.length ≤ k →
    ykn (.int .i64 i) (y1b Int 3 g L) (slA f.rows) (.int .i64 (lst f.rows).length) (.int .i64 k) [⟨1, .arr true false 5 [enc f]⟩, o1, o2, y13 g D0 L] = some (exO (nz (y35 i ((lst f.rows).drop k) L))) := by
  intro d
  induction d with
  | zero =>
    intro k g L o1 o2 hk _
    have e1 : (lst f.rows).drop k = [] := List.drop_eq_nil_of_le (by omega)
    have hn : ¬ ((k : Int) < ((lst f.rows).length : Int)) := by omega
    have hx := ydu (H := [⟨1, .arr true false 5 [enc f]⟩, o1, o2, y13 g D0 L]) (j := 3) (g := g) (o := D0) (L := L) rfl
    rw [ymq, e1]
    simp [yki, ypa, y1gx, hn, y35, hx]
  | succ d ih =>
    intro k g L o1 o2 hk hL
    have hlt : k < (lst f.rows).length := by omega
    have hc : ((k : Int) < ((lst f.rows).length : Int)) := by omega
    have k1 := yng (o := f.rows) (i := k) (List.getElem?_eq_getElem hlt) .i64
    rw [ymq, List.drop_eq_getElem_cons hlt]
    generalize hr : (lst f.rows)[k] = r at *
    have ih0 := fun g L o1 o2 hL => ih (k + 1) g L o1 o2 (by omega) hL
    push_cast at ih0
    have hw := y2j hlt (by omega)
    have e11 : yki (.int .i64 i) (y1b Int 3 g L) (slA f.rows) (.int .i64 (lst f.rows).length) (.int .i64 k) [⟨1, .arr true false 5 [enc f]⟩, o1, o2, y13 g D0 L] =
        ynw (.int .i64 i) (y1b Int 3 g L) (.lp 1 (o1.gen + 1) 0 0) (slA f.rows) (.int .i64 (lst f.rows).length) (.int .i64 k) [⟨1, .arr true false 5 [enc f]⟩, ⟨o1.gen + 1, .arr true false 4 [enc r]⟩, o2, y13 g D0 L] := by
      simp [yki, ypa, y1sf, hc, k1]
    rw [e11]
    generalize (o1.gen + 1) = g1
    by_cases h1 : i < r.f
    · have : ¬ (r.f ≤ i ∧ i < r.t) := by omega
      simp [ynw, yza, h1, hw, y35, this, ih0 g L _ _ (by omega)]
    by_cases h2 : r.t ≤ i
    · have : ¬ (r.f ≤ i ∧ i < r.t) := by omega
      simp [ynw, yza, h1, h2, hw, y35, this, ih0 g L _ _ (by omega)]
    have hin : r.f ≤ i ∧ i < r.t := by omega
    rw [y35, if_pos hin]
    have hz : ∀ o2, fz [⟨1, .arr true false 5 [enc f]⟩, ⟨g1, .arr true false 4 [enc r]⟩, o2, y13 g D0 L] y19 (y1b Int 3 g L) = some ⟨slA (nz L), true, ids1 (y1b Int 3 g L)⟩ := fun o2 => y1kz rfl
    have hct := y8x (nz L) r.at_ (by rw [ydt]; omega)
    rw [ydt] at hct
    have tail : ∀ g L o2, L.length ≤ k + 1 → yz0 (.int .i64 i) (y1b Int 3 g L) (.lp 1 g1 0 0) (slA f.rows) (.int .i64 (lst f.rows).length) (.int .i64 k) [⟨1, .arr true false 5 [enc f]⟩, ⟨g1, .arr true false 4 [enc r]⟩, o2, y13 g D0 L] =
        some (exO (nz (if r.c = [] then L else y35 i ((lst f.rows).drop (k + 1)) L))) := by
      intro g L o2 hL
      have hx := ydu (H := [⟨1, .arr true false 5 [enc f]⟩, ⟨g1, .arr true false 4 [enc r]⟩, o2, y13 g D0 L]) (j := 3) (g := g) (o := D0) (L := L) rfl
      by_cases hcl : r.c = []
      · simp [yz0, y1gx, hcl, hx]
      · simp [yz0, yza, hcl, hw, ih0 g L _ _ hL]
    unfold addN
    cases hb : L.contains r.at_ with
    | true =>
      rw [hb] at hct
      rw [if_pos rfl]
      have := tail g L o2 (by omega)
      simp [ynw, y1ox, h1, h2, hz, hct, this]
    | false =>
      rw [hb] at hct
      rw [if_neg Bool.false_ne_true]
      obtain ⟨g', ha⟩ := y1s1 (H := [⟨1, .arr true false 5 [enc f]⟩, ⟨g1, .arr true false 4 [enc r]⟩, ⟨o2.gen + 1, .arr false false 1 [[.int .i64 r.at_]]⟩, y13 g D0 L]) (fb := 0) (j := 3) (g := g) (o := D0) (y := .ls 2 (o2.gen + 1) 1 0 1) (L := L) (n := r.at_) (by simp) rfl (by omega)
      have ha' : y26 0 (some 3) 1 8 (y1b Int 3 g L) (.ls 2 (o2.gen + 1) 1 0 1) [⟨1, .arr true false 5 [enc f]⟩, ⟨g1, .arr true false 4 [enc r]⟩, ⟨o2.gen + 1, .arr false false 1 [[.int .i64 r.at_]]⟩, y13 g D0 L] = some (y1b Int 3 g' (L ++ [r.at_]), [⟨1, .arr true false 5 [enc f]⟩, ⟨g1, .arr true false 4 [enc r]⟩, ⟨o2.gen + 1, .arr false false 1 [[.int .i64 r.at_]]⟩, y13 g' D0 (L ++ [r.at_])]) := ha
      have := tail g' (L ++ [r.at_]) ⟨o2.gen + 1, .arr false false 1 [[.int .i64 r.at_]]⟩ (by simp; omega)
      simp [ynw, y1ox, h1, h2, hz, hct, ym, y1d, ha', this]
theorem yx1 (f : Fn) (i : Int) (hl : (lst f.rows).length ≤ 10000000000000) : (yb E).p 79 [.agg (enc f), .int .i64 i] = some (exO (nz (yv f i))) := by
  rw [y269]
  by_cases h0 : i < 0
  · simp [yhu, yha, h0, yv, nz]; rfl
  by_cases h1 : ((lst f.code).length : Int) ≤ i
  · simp [yhu, yha, h0, h1, yv, nz]; rfl
  have g0 : 0 ≤ i := by omega
  have hx := y3e (f := f) (i := i.toNat) (by omega)
  have k1 := yd9 (o := f.code) g0 hx .i64
  have hn : yv f i = if throws (ye f i.toNat).op then y35 i (lst f.rows) [] else [] := by rw [yv, if_neg (by omega)]
  rw [hn]
  generalize ye f i.toNat = x at *
  have lp := ynz f i hl _ 0 0 [] D0 D0 (Nat.zero_add _) (Nat.zero_le _)
  simp only [yaz, ykr, List.drop_zero, Int.ofNat_zero] at lp
  cases ht : throws x.op with
  | false => simp [yhu, yha, h0, h1, k1, ht, nz]; rfl
  | true => simp [yhu, yha, y16d, y1b4, h0, h1, k1, ht, lp]
end Go.Vm
namespace Go.Vm
open Cel
abbrev V1 : AV := .lp 0 1 0 0
abbrev V2 : AV := .lp 1 1 0 0
abbrev V3 : AV := .lp 11 1 0 0
abbrev V4 : AV := .lp 14 1 0 0
abbrev V5 : AV := .fn 167 [V3, V4]
section
variable {f : Fn} {p g : Nat → Nat}
theorem y1xm {s : Fs} (hs : FsOk f s) (l : List Int) (hl : ∀ to ∈ l, 0 ≤ to ∧ to < (lst f.code).length ∧ ∀ c, y8b f to.toNat c → c ∈ s) (hll : l.length ≤ 1000000) :
    ∀ (d k : Nat), k + d = l.length → ∀ (H : Heap) (T : KTab) (W : List Int), KSt H f p g T W → TOkK f T → meaK f (T, W) ≤ 1000000000 →
      ∃ H', yfc V1 V2 V3 V4 V5 (.rm (mE s)) (slA (nz l)) (.int .i64 l.length) (.int .i64 (k : Int)) H = y9o V1 V2 V3 V4 V5 H' ∧ KSt H' f p g (y37 s (l.drop k) (T, W)).1 (y37 s (l.drop k) (T, W)).2 := by
  intro d
  induction d with
  | zero =>
    intro k hkd H T W S hT hm
    have hc : ¬ (k : Int) < (l.length : Int) := by omega
    have e : l.drop k = [] := List.drop_eq_nil_of_le (by omega)
    rw [e, yi3, yuy, yq, y4, decide_eq_false hc, ysl, y1t]
    exact ⟨H, rfl, S⟩
  | succ d ih =>
    intro k hkd H T W S hT hm
    have hlt : k < l.length := by omega
    have hc : (k : Int) < (l.length : Int) := by omega
    have kx := y8g (o := nz l) (i := k) (by rw [ydt]; exact List.getElem?_eq_getElem hlt) .i64
    have hd : l.drop k = l[k] :: l.drop (k + 1) := List.drop_eq_getElem_cons hlt
    have hto := hl l[k] (List.getElem_mem hlt)
    rw [hd]
    generalize l[k] = to at *
    have lx : ∀ H : Heap, evLd false 1 (.rp [.int .i64 to]) H = some (.int .i64 to) := fun H => by simp
    have hTl := hT.len
    have hWb : W.length ≤ 1000000000 := Nat.le_trans (Nat.le_add_left _ _) hm
    obtain ⟨H1, c1, S1⟩ := y1ck hto.1 (by rw [hTl]; exact hto.2.1) hWb S hT.zero (fun t ht => (hT.rows _ t ht).1) (v := .rm (mE s)) (s := s) (.inl rfl)
    obtain ⟨a1, _⟩ := y8v (p := (T, W)) hT hs hto.2.2 hto.1 hto.2.1
    have e2 : y37 s (to :: l.drop (k + 1)) (T, W) = y37 s (l.drop (k + 1)) (yau s to (T, W)) := rfl
    rw [e2]
    have hp := a1.pot
    have hok := a1.ok
    generalize yau s to (T, W) = q at *
    obtain ⟨T1, W1⟩ := q
    obtain ⟨H2, r1, r2⟩ := ih (k + 1) (by omega) H1 T1 W1 S1 hok (Nat.le_trans hp hm)
    refine ⟨H2, ?_, r2⟩
    rw [yi3, yuy, yq, y4, decide_eq_true hc, ysl, y1h, y1gk, kx, y4, lx, y4, c1, y8, y1e3, yf9 hlt (by omega), y4]
    exact r1
theorem y1xb {t : Fs} {i : Nat} (ht : FsOk f t) (l : List Int) (hl : ∀ to ∈ l, 0 ≤ to ∧ to < (lst f.code).length ∧ ∀ c, y8b f to.toNat c → c ∈ t) (hll : l.length ≤ 1000000) :
    ∀ (d k : Nat), k + d = l.length → ∀ (H : Heap) (T : KTab) (W : List Int), KSt H f p g T W → TOkK f T → kAt T i = some t → meaK f (T, W) ≤ 1000000000 →
      ∃ H', yes V1 V2 V3 V4 V5 (.int .i64 (i : Int)) (slA (nz l)) (.int .i64 l.length) (.int .i64 (k : Int)) H = ypr V1 V2 V3 V4 V5 (.int .i64 (i : Int)) H' ∧ KSt H' f p g (y37 t (l.drop k) (T, W)).1 (y37 t (l.drop k) (T, W)).2 := by
  intro d
  induction d with
  | zero =>
    intro k hkd H T W S hT hi hm
    have hc : ¬ (k : Int) < (l.length : Int) := by omega
    have e : l.drop k = [] := List.drop_eq_nil_of_le (by omega)
    rw [e, yhk, yus, yq, y4, decide_eq_false hc, yqc, y1t]
    exact ⟨H, rfl, S⟩
  | succ d ih =>
    intro k hkd H T W S hT hi hm
    have hlt : k < l.length := by omega
    have hc : (k : Int) < (l.length : Int) := by omega
    have kx := y8g (o := nz l) (i := k) (by rw [ydt]; exact List.getElem?_eq_getElem hlt) .i64
    have hd : l.drop k = l[k] :: l.drop (k + 1) := List.drop_eq_getElem_cons hlt
    have hto := hl l[k] (List.getElem_mem hlt)
    rw [hd]
    generalize l[k] = to at *
    have lx : ∀ H : Heap, evLd false 1 (.rp [.int .i64 to]) H = some (.int .i64 to) := fun H => by simp
    have hTl := hT.len
    have hiT := y1pr hi
    have hWb : W.length ≤ 1000000000 := Nat.le_trans (Nat.le_add_left _ _) hm
    have lb := yk0 S.tbx
    have ix := y9z (n := T.length) (p := (i : Int)) (by omega) (by omega) 10 1 .i64
    rw [Int.toNat_natCast] at ix
    have lr := yut S.tab (y5d hiT)
    obtain ⟨H1, c1, S1⟩ := y1ck hto.1 (by rw [hTl]; exact hto.2.1) hWb S hT.zero (fun t ht => (hT.rows _ t ht).1) (yjw hT.zero hi)
    obtain ⟨a1, _⟩ := y8v (p := (T, W)) hT ht hto.2.2 hto.1 hto.2.1
    have hse := yhs (p := (T, W)) (to := to) hi ⟨hto.1, by rw [hTl]; exact hto.2.1⟩
    have e2 : y37 t (to :: l.drop (k + 1)) (T, W) = y37 t (l.drop (k + 1)) (yau t to (T, W)) := rfl
    rw [e2]
    have hp := a1.pot
    have hok := a1.ok
    generalize yau t to (T, W) = q at *
    obtain ⟨T1, W1⟩ := q
    obtain ⟨H2, r1, r2⟩ := ih (k + 1) (by omega) H1 T1 W1 S1 hok hse (Nat.le_trans hp hm)
    refine ⟨H2, ?_, r2⟩
    rw [yhk, yus, yq, y4, decide_eq_true hc, yqc, y1h, y1d6, kx, y4, lx, y4, lb, y4, ix, y4, lr, y4, c1, y8, y14s, yf9 hlt (by omega), y4]
    exact r1
variable (w : Wf f) (hr : (lst f.rows).length ≤ 1000000)
include w hr
theorem y25i : ∀ (m : Nat) (H : Heap) (T : KTab) (W : List Int), meaK f (T, W) ≤ m → KSt H f p g T W → InvK f (T, W) → meaK f (T, W) ≤ 1000000000 →
    ∃ H' T', y9o V1 V2 V3 V4 V5 H = y1k9 V1 V2 V3 H' ∧ KSt H' f p g T' [] ∧ InvK f (T', []) := by
  intro m
  induction m with
  | zero =>
    intro H T W hm S v hb
    have hW : W = [] := by
      refine List.eq_nil_of_length_eq_zero ?_
      unfold meaK at hm
      simp only at hm
      omega
    subst hW
    obtain ⟨gw, D, w1, w2⟩ := S.wk
    have l := yk0 w2
    refine ⟨H, T, ?_, S, v⟩
    rw [ybd, yly, l, y4, y53, y4, yaw, y4, decide_eq_false (by simp), y1t]
  | succ m ih =>
    intro H T W hm S v hb
    by_cases hW : W = []
    · subst hW
      obtain ⟨gw, D, w1, w2⟩ := S.wk
      have l := yk0 w2
      refine ⟨H, T, ?_, S, v⟩
      rw [ybd, yly, l, y4, y53, y4, yaw, y4, decide_eq_false (by simp), y1t]
    · obtain ⟨W', i, rfl⟩ : ∃ W' i, W = W' ++ [i] := ⟨W.dropLast, W.getLast hW, (List.dropLast_concat_getLast hW).symm⟩
      obtain ⟨gw, D, w1, w2⟩ := S.wk
      obtain ⟨q1, q2⟩ := y1nl w v
      obtain ⟨i0, i1, hn⟩ := v.wk i (by simp)
      obtain ⟨t, ht⟩ := notN hn
      simp only at ht
      have ei : ((i.toNat : Nat) : Int) = i := by omega
      have hil : i.toNat < (lst f.code).length := by omega
      have hTok := v.ok
      simp only at hTok
      have hWl : (W' ++ [i]).length = W'.length + 1 := by simp
      have hWb : W'.length ≤ 1000000000 := by unfold meaK at hb; simp only [hWl] at hb; omega
      rw [hWl] at w2
      have l1 := yk0 w2
      have gt : y6 .gtr (.int .i64 ((W'.length + 1 : Nat) : Int)) (.int .i64 0) = some (.bool true) := by rw [yaw, decide_eq_true (by omega)]
      have sb : y6 .sub (.int .i64 ((W'.length + 1 : Nat) : Int)) (.int .i64 1) = some (.int .i64 (W'.length : Int)) := by
        rw [ymi]
        congr 2
        rw [y22] <;> omega
      have ix := y1pl 13 gw W'.length
      have hl13 := yzk (α := Int) (H := H) (id := 13) (g := gw) (i := W'.length) (x := i) (v := .int .i64 i) w1 (by simp) rfl
      have sl := y14n 13 gw W'.length
      have st := y1le (w := .ls 13 gw 1 0 W'.length) w2 rfl rfl
      have S1 : KSt (H.set 14 ⟨1, .arr true false 1 [[.ls 13 gw 1 0 W'.length]]⟩) f p g T W' := by
        refine ⟨S.d.set (by omega), by rw [y11 (by omega)]; exact S.tab, by rw [y11 (by omega)]; exact S.tbx, by rw [y11 (by omega)]; exact S.m0, gw, i :: D, ?_, y4e (y4q w2)⟩
        rw [y11 (by omega), w1, List.append_assoc]
        rfl
      generalize H.set 14 ⟨1, .arr true false 1 [[.ls 13 gw 1 0 W'.length]]⟩ = H1 at *
      have hcl : (yv f i).length ≤ 1000000 := Nat.le_trans (yf7 f i) hr
      have hnl : (y1v f i).length ≤ 1000000 := by have := ydp f i; omega
      have fr : ∀ l : List Int, (exO (nz l)).fresh = true := fun l => by rw [y19c, ydt]; simp
      have c79 := S1.d.call2 (E := E) (C := yb E) (fb := 0) (sl := none) (k := 79) (i := i) rfl (fr _) (yx1 f i (by omega)) ⟨_, y1a1 _, rfl⟩
      have ln : ∀ (l : List Int) (H : Heap), y12 1 (slA (nz l)) H = some (.int .i64 l.length) := fun l H => by rw [y6j, ydt]
      have hmea1 : meaK f (T, W') ≤ 1000000000 := by unfold meaK at hb ⊢; simp only [hWl] at hb ⊢; omega
      obtain ⟨f1, _, f3, f4, f5, f6, f7, f8⟩ := ymb w (p := (T, W')) hTok hil ht
      rw [ei] at f3 f4 f7 f8
      obtain ⟨H2, r1, S2⟩ := y1xb (t := t) (i := i.toNat) f5 (yv f i) f7 hcl _ 0 (Nat.zero_add _) H1 T W' S1 hTok ht hmea1
      rw [List.drop_zero] at S2
      rw [ei] at r1
      have hA := (y67 f5 (yv f i) (T, W') hTok f7).1.pot
      have etK : tK T i.toNat = t := by rw [tK, ht]; rfl
      have er : rndK f i.toNat (T, W') = y37 (behK t (ye f i.toNat)) (y1v f i) (y37 t (yv f i) (T, W')) := by rw [rndK, ei]; simp only [etK]
      rw [er] at q1 q2
      generalize y37 t (yv f i) (T, W') = q at *
      obtain ⟨T1, W1⟩ := q
      simp only at S2 f3 f4 hA
      have lb := yk0 S2.tbx
      have hT1 := y1pr f4
      have ixT := y9z (n := T1.length) (p := i) i0 (by omega) 10 1 .i64
      have lr := yut S2.tab (y5d hT1)
      obtain ⟨L, hL⟩ : ∃ L, f.code = some L := by
        cases hc : f.code with
        | none => rw [hc] at hil; simp at hil
        | some L => exact ⟨L, rfl⟩
      have lc := S2.d.ldc
      have hov : ownV (p 2) (g 2) f.code = .ls (p 2) (g 2) 9 0 (lst f.code).length := by rw [hL]; rfl
      rw [hov] at lc
      have ixC := y1qv hil (p 2) (g 2) 9 .i64
      rw [ei] at ixC
      have lC := S2.d.ix hL (i := i.toNat) (x := ye f i.toNat) (by have := y3e hil; rwa [hL] at this)
      obtain ⟨fr1, ids1', hz1, _⟩ := (yjw f3.zero f4).fz S2.m0 9
      have ha : yj (fz H2 y19) [rowK T1 i.toNat, .agg (enc (ye f i.toNat))] = some ⟨[.rm (mE t), .agg (enc (ye f i.toNat))], fr1 && (scal (ye f i.toNat) && true), ids1' ++ ([] ++ [])⟩ := by
        rw [yo, yo, yak, show y19 = 9 + 3 from rfl, hz1, y14]
      obtain ⟨c168, _⟩ := ykh (fb := 0) (f := 168) rfl ha (y204 t (ye f i.toNat) f5.nd)
      have c81 := S2.d.call2 (E := E) (C := yb E) (fb := 0) (sl := none) (k := 81) (i := i) rfl (fr _) (y1qi f i (by have := w.n2; omega)) ⟨_, y1a1 _, rfl⟩
      have hmea2 : meaK f (T1, W1) ≤ 1000000000 := by unfold meaK at hmea1 ⊢; simp only at hmea1 hA ⊢; omega
      obtain ⟨H3, r2, S3⟩ := y1xm (s := behK t (ye f i.toNat)) f6 (y1v f i) f8 hnl _ 0 (Nat.zero_add _) H2 T1 W1 S2 f3 hmea2
      rw [List.drop_zero] at S3
      generalize y37 (behK t (ye f i.toNat)) (y1v f i) (T1, W1) = q2' at *
      obtain ⟨T2, W2⟩ := q2'
      obtain ⟨H4, T', r3, S4, v4⟩ := ih H3 T2 W2 (by omega) S3 q1 (by omega)
      refine ⟨H4, T', ?_, S4, v4⟩
      have z : ((0 : Nat) : Int) = 0 := rfl
      rw [z] at r1 r2
      have fa : evFa 3 V1 = some (.lp 0 1 0 3) := rfl
      rw [ybd, yly, l1, y4, y53, y4, gt, y4, y1h, y1eq, l1, y4, y4, y53, y4, sb, y4, ix, y4, hl13, y4, y1ap, l1, y4, y4, y53, y4, sb, y4, sl, y4, st, y8,
        y19v, S1.d.ld, y4, c79, y8, ln, y4, r1, ypr, lb, y4, ixT, y4, lr, y4, fa, y4, lc, y4, ixC, y4, lC, y4, c168, y8, y1g9, S2.d.ld, y4, c81, y8, ln, y4, r2, r3]
end
end Go.Vm
namespace Go.Vm
def nopI : Ins := ⟨33, 0, 0, 0, 0, 0, 0, [], none⟩
theorem yya {f : Fn} : y2h f nopI = true := by
  simp [y2h, nopI, yl, y25, ydw, calls, y3i, leads]
end Go.Vm
namespace Go.Vm
open Cel
attribute [local simp] y9 y1x yt
@[simp] theorem y25x (a b c d : AV) (r : List AV) (h : r.length = 4) : yr 0 [a, b, c, d] r = [a, b, c, d] := by
  simp [yr, ← h]
@[simp] theorem y27c (h : Heap) (a b c d : Int) (o : Bool) : yi h (.tup [.agg [.int .i64 a, .int .i64 b, .int .i64 c, .int .i64 d], .bool o]) = some (exK (a, b, c, d, o)) := rfl
@[simp] theorem y28p (a b c d : Int) : yd [.int .i64 0, .int .i64 0, .int .i64 0, .int .i64 0] [(0, 1, .int .i64 a), (1, 1, .int .i64 b), (2, 1, .int .i64 c), (3, 1, .int .i64 d)] = some (.agg [.int .i64 a, .int .i64 b, .int .i64 c, .int .i64 d]) := rfl
@[simp] theorem y27d : yd [.int .i64 0, .int .i64 0, .int .i64 0, .int .i64 0] [] = some (.agg [.int .i64 0, .int .i64 0, .int .i64 0, .int .i64 0]) := rfl
@[simp] theorem y25g (h : Heap) (a b c : Int) : fz h y19 (.tup [.int .i64 a, .int .i64 b, .int .i64 c]) = some ⟨.tup [.int .i64 a, .int .i64 b, .int .i64 c], true, []⟩ := rfl
@[simp] theorem y283 (h : Heap) (a b c d : Int) (o : Bool) : fz h y19 (.tup [.agg [.int .i64 a, .int .i64 b, .int .i64 c, .int .i64 d], .bool o]) = some ⟨.tup [.agg [.int .i64 a, .int .i64 b, .int .i64 c, .int .i64 d], .bool o], true, []⟩ := rfl
@[simp] theorem agg4 (a b c d : AV) : y43 true 4 [a, b, c, d] = some (.agg [a, b, c, d]) := rfl
set_option maxHeartbeats 4000000 in
theorem y1uw (x : Ins) (h : x.op = 1 ∨ x.op = 2 ∨ x.op = 3 ∨ x.op = 4 ∨ x.op = 7 ∨ x.op = 8 ∨ x.op = 9 ∨ x.op = 10 ∨ x.op = 11 ∨ x.op = 13 ∨ x.op = 14 ∨ x.op = 15 ∨ x.op = 16 ∨ x.op = 17 ∨ x.op = 18 ∨ x.op = 19 ∨ x.op = 20 ∨ x.op = 27 ∨ x.op = 31 ∨ x.op = 32 ∨ x.op = 33) : (yb E).p 47 [.agg (enc x)] = some (exK (yl x)) := by
  rw [y1hd]
  rcases h with h|h|h|h|h|h|h|h|h|h|h|h|h|h|h|h|h|h|h|h|h <;> simp [h, yd2, ybr, ycu, ycw, ycz, ycx, yd1, ycv, yct, y78, y70, y7o, y7d, y71, y7g, y7q, y7h, y7c, y74, y6t, y7f, y7k, y7m, y73, y7i, y76, y6u, y6y, y7a, y5w, y75, y7s, y79, y72, y6v, y6x, y7p, y6w, y77, y4x, y7n, y5v, y7e, y7j, y6r, yz, y27, meets, ids1, yl]
theorem y1tv (x : Ins) (hs : x.s.length ≤ 9223372036854775807) (h : x.op = 12 ∨ x.op = 21 ∨ x.op = 22) : (yb E).p 47 [.agg (enc x)] = some (exK (yl x)) := by
  rw [y1hd]
  have ht := y1zd x.s hs
  rcases h with h|h|h <;> simp [h, ht, yd2, ybr, ycu, ycw, ycz, ycx, yd1, ycv, yct, y78, y70, y7o, y7d, y71, y7g, y7q, y7h, y7c, y74, y6t, y7f, y7k, y7m, y73, y7i, y76, y6u, y6y, y7a, y5w, y75, y7s, y79, y72, y6v, y6x, y7p, y6w, y77, y4x, y7n, y5v, y7e, y7j, y6r, yz, y27, meets, ids1, yl]
theorem y1xi (x : Ins) (hn : -9223372036854775808 ≤ x.n ∧ x.n < 9223372036854775808) (h : x.op = 5 ∨ x.op = 6) : (yb E).p 47 [.agg (enc x)] = some (exK (yl x)) := by
  rw [y1hd]
  have hk := y1wq x.n
  have hw := y22 hn.1 hn.2
  rcases h with h|h
  · simp [h, hk, hw, yd2, ybr, ycu, ycw, ycz, ycx, yd1, ycv, yct, y78, y70, y7o, y7d, y71, y7g, y7q, y7h, y7c, y74, y6t, y7f, y7k, y7m, y73, y7i, y76, y6u, y6y, y7a, y5w, y75, y7s, y79, y72, y6v, y6x, y7p, y6w, y77, y4x, y7n, y5v, y7e, y7j, y6r, yz, y27, meets, ids1, yl]
  · by_cases h0 : (numK x.n).1 = 0
    · simp [h, hk, hw, h0, yd2, ybr, ycu, ycw, ycz, ycx, yd1, ycv, yct, y78, y70, y7o, y7d, y71, y7g, y7q, y7h, y7c, y74, y6t, y7f, y7k, y7m, y73, y7i, y76, y6u, y6y, y7a, y5w, y75, y7s, y79, y72, y6v, y6x, y7p, y6w, y77, y4x, y7n, y5v, y7e, y7j, y6r, yz, y27, meets, ids1, yl]
    · simp [h, hk, hw, h0, yd2, ybr, ycu, ycw, ycz, ycx, yd1, ycv, yct, y78, y70, y7o, y7d, y71, y7g, y7q, y7h, y7c, y74, y6t, y7f, y7k, y7m, y73, y7i, y76, y6u, y6y, y7a, y5w, y75, y7s, y79, y72, y6v, y6x, y7p, y6w, y77, y4x, y7n, y5v, y7e, y7j, y6r, yz, y27, meets, ids1, yl]
theorem y1t0 (x : Ins) (h : x.op = 28) : (yb E).p 47 [.agg (enc x)] = some (exK (yl x)) := by
  rw [y1hd]
  by_cases h0 : 0 ≤ x.n
  · simp [h, h0, yd2, ybr, ycu, ycw, ycz, ycx, yd1, ycv, yct, y78, y70, y7o, y7d, y71, y7g, y7q, y7h, y7c, y74, y6t, y7f, y7k, y7m, y73, y7i, y76, y6u, y6y, y7a, y5w, y75, y7s, y79, y72, y6v, y6x, y7p, y6w, y77, y4x, y7n, y5v, y7e, y7j, y6r, yz, y27, meets, ids1, yl]
  · simp [h, h0, yd2, ybr, ycu, ycw, ycz, ycx, yd1, ycv, yct, y78, y70, y7o, y7d, y71, y7g, y7q, y7h, y7c, y74, y6t, y7f, y7k, y7m, y73, y7i, y76, y6u, y6y, y7a, y5w, y75, y7s, y79, y72, y6v, y6x, y7p, y6w, y77, y4x, y7n, y5v, y7e, y7j, y6r, yz, y27, meets, ids1, yl]
end Go.Vm
namespace Go.Vm
open Cel
attribute [local simp] y9 y1x yt
theorem y1nr (x : Ins) (h : x.op = 29) : (yb E).p 51 [.agg (enc x)] = some (exK (yl x)) := by
  rw [y1hq]
  by_cases h0 : x.b = -1 <;> by_cases h1 : x.n = 0 <;> simp [h, h0, h1, yo7, yn7, ynj, yof, ymu, yoc, yny, ym6, yo6, ydj, y9b, yf1, yfi, yfa, yem, ye0, yeo, yex, yz, y27, meets, yl]
theorem y1jh (x : Ins) (h : x.op = 30) : (yb E).p 51 [.agg (enc x)] = some (exK (yl x)) := by
  rw [y1hq]
  by_cases h0 : x.a = -1 <;> simp [h, h0, yo7, yn7, ynj, yof, ymu, yoc, yny, ym6, yo6, ydj, y9b, yf1, yfi, yfa, yem, ye0, yeo, yex, yz, y27, meets, yl]
set_option maxHeartbeats 4000000 in
theorem yj1 (x : Ins) (h : x.op = 23 ∨ x.op = 24 ∨ x.op = 25 ∨ x.op = 26) : (yb E).p 51 [.agg (enc x)] = some (exK (yl x)) := by
  rw [y1hq]
  have e1 : ((0 : Int) < ((lst x.args).length : Int)) = (0 < (lst x.args).length) := by simp
  have e2 : (((lst x.args).length : Int) ≤ (21 : Int)) = ((lst x.args).length ≤ 21) := by simp; omega
  by_cases h0 : x.d = -1 <;> by_cases h1 : 0 ≤ x.n <;> by_cases h2 : 0 < (lst x.args).length <;> rcases h with h|h|h|h <;> simp [h, h0, h1, h2, e1, e2, yo7, yn7, ynj, yof, ymu, yoc, yny, ym6, yo6, ydj, y9b, yf1, yfi, yfa, yem, ye0, yeo, yex, yz, y27, meets, yl]
theorem y1y7 (x : Ins) (h : x.op < 1 ∨ 33 < x.op) : (yb E).p 51 [.agg (enc x)] = some (exK (yl x)) := by
  rw [y1hq, yzl h]
  rcases h with h|h
  · simp [lo_f h, yo7, yn7, ynj, yof, ymu, yoc, yny, ym6, yo6, ydj, y9b, yf1, yfi, yfa, yem, ye0, yeo, yex, yz, y27, meets]
  · simp [hi_f h, yo7, yn7, ynj, yof, ymu, yoc, yny, ym6, yo6, ydj, y9b, yf1, yfi, yfa, yem, ye0, yeo, yex, yz, y27, meets]
theorem y1w3 (x : Ins) (h : x.op = 29 ∨ x.op = 30 ∨ x.op = 23 ∨ x.op = 24 ∨ x.op = 25 ∨ x.op = 26 ∨ x.op < 1 ∨ 33 < x.op) : (yb E).p 47 [.agg (enc x)] = some (exK (yl x)) := by
  have ho : (yb E).p 51 [.agg (enc x)] = some (exK (yl x)) := by
    rcases h with h|h|h|h|h|h|h
    · exact y1nr x h
    · exact y1jh x h
    · exact yj1 x (.inl h)
    · exact yj1 x (.inr (.inl h))
    · exact yj1 x (.inr (.inr (.inl h)))
    · exact yj1 x (.inr (.inr (.inr h)))
    · exact y1y7 x h
  rw [y1hd]
  generalize yl x = k at ho
  obtain ⟨a, b, c, d, o⟩ := k
  simp only [exK] at ho
  rcases h with h|h|h|h|h|h|h|h
  iterate 6 (simp [h, ho, yd2, ybr, ycu, ycw, ycz, ycx, yd1, ycv, yct, y78, y70, y7o, y7d, y71, y7g, y7q, y7h, y7c, y74, y6t, y7f, y7k, y7m, y73, y7i, y76, y6u, y6y, y7a, y5w, y75, y7s, y79, y72, y6v, y6x, y7p, y6w, y77, y4x, y7n, y5v, y7e, y7j, y6r, yz, y27, meets])
  · simp [lo_f h, ho, yd2, ybr, ycu, ycw, ycz, ycx, yd1, ycv, yct, y78, y70, y7o, y7d, y71, y7g, y7q, y7h, y7c, y74, y6t, y7f, y7k, y7m, y73, y7i, y76, y6u, y6y, y7a, y5w, y75, y7s, y79, y72, y6v, y6x, y7p, y6w, y77, y4x, y7n, y5v, y7e, y7j, y6r, yz, y27, meets]
  · simp [hi_f h, ho, yd2, ybr, ycu, ycw, ycz, ycx, yd1, ycv, yct, y78, y70, y7o, y7d, y71, y7g, y7q, y7h, y7c, y74, y6t, y7f, y7k, y7m, y73, y7i, y76, y6u, y6y, y7a, y5w, y75, y7s, y79, y72, y6v, y6x, y7p, y6w, y77, y4x, y7n, y5v, y7e, y7j, y6r, yz, y27, meets]
theorem y1tn (x : Ins) (hn : -9223372036854775808 ≤ x.n ∧ x.n < 9223372036854775808) (hs : x.s.length ≤ 9223372036854775807) : (yb E).p 47 [.agg (enc x)] = some (exK (yl x)) := by
  by_cases h1 : x.op = 1 ∨ x.op = 2 ∨ x.op = 3 ∨ x.op = 4 ∨ x.op = 7 ∨ x.op = 8 ∨ x.op = 9 ∨ x.op = 10 ∨ x.op = 11 ∨ x.op = 13 ∨ x.op = 14 ∨ x.op = 15 ∨ x.op = 16 ∨ x.op = 17 ∨ x.op = 18 ∨ x.op = 19 ∨ x.op = 20 ∨ x.op = 27 ∨ x.op = 31 ∨ x.op = 32 ∨ x.op = 33
  · exact y1uw x h1
  by_cases h2 : x.op = 12 ∨ x.op = 21 ∨ x.op = 22
  · exact y1tv x hs h2
  by_cases h3 : x.op = 5 ∨ x.op = 6
  · exact y1xi x hn h3
  by_cases h4 : x.op = 28
  · exact y1t0 x h4
  exact y1w3 x (by omega)
end Go.Vm
namespace Go.Vm
open Cel
attribute [local simp] y9 y1x yt
abbrev HR (f : Fn) (x : Ins) (a b c d : Int) : Heap := [⟨1, .arr true false 5 [enc f]⟩, ⟨1, .arr true false 9 [enc x]⟩, ⟨1, .arr true false 4 [[.int .i64 a, .int .i64 b, .int .i64 c, .int .i64 d]]⟩]
abbrev P0 : AV := .lp 0 1 0 0
abbrev P1 : AV := .lp 1 1 0 0
abbrev P2 : AV := .lp 2 1 0 0
theorem y9t {f : Fn} {r : Int} (h : inR (lst f.regs) r = true) : yu 1 (slA f.regs) (.int .i64 r) = some (.rp [.int .i64 (regK (lst f.regs) r)]) := by
  obtain ⟨h0, h1, h2⟩ := y19d h
  exact yxw h0 h2 .i64
theorem yoe (f : Fn) (x : Ins) (a b c d : Int) (i : Nat) (w r : Int) (v26 : AV) (hi : i < 4) (hw : [a, b, c, d][i]? = some w) :
    yac P0 P1 P2 (.int .i64 i) (.int .i64 r) v26 (.int .i64 i) (HR f x a b c d) =
      if y25 (lst f.regs) w r then yle P0 P1 P2 v26 (.int .i64 i) (HR f x a b c d) else some ⟨.bool false, [], true, [], []⟩ := by
  have e1 : yj0 4 1 P2 (.int .i64 i) = some (.lp 2 1 0 i) := by
    have : ((i : Int) < (4 : Int)) := by omega
    simp [yj0, this]
  have e2 : ∀ f x, evLd false 1 (.lp 2 1 0 i) (HR f x a b c d) = some (.int .i64 w) := by
    intro f x
    simp only [y2v]
    have : (yk (HR f x a b c d) 2 1) = some (false, 4, [[.int .i64 a, .int .i64 b, .int .i64 c, .int .i64 d]]) := rfl
    rw [this]
    simp only [List.getElem?_cons_zero, y5b]
    match i, hi, hw with
    | 0, _, hw => simp at hw; simp [hw]
    | 1, _, hw => simp at hw; simp [hw]
    | 2, _, hw => simp at hw; simp [hw]
    | 3, _, hw => simp at hw; simp [hw]
  have e2 := e2 f x
  by_cases hw0 : w < 0
  · simp [yac, e1, e2, y25, hw0]
  by_cases h0 : r < 0
  · have : ¬ 0 ≤ r := by omega
    simp [yac, yfl, e1, e2, y25, hw0, h0, inR, this]
  by_cases h1 : r < ((lst f.regs).length : Int)
  · have h0' : 0 ≤ r := by omega
    have h1' : ¬ ((lst f.regs).length : Int) ≤ r := by omega
    have hin : inR (lst f.regs) r = true := by simp [inR, h0', h1]
    have hr := y9t hin
    by_cases h2 : 0 < w
    · have h2' : ¬ w ≤ 0 := by omega
      by_cases h3 : regK (lst f.regs) r = w
      · simp [yac, yfl, e1, e2, y25, hw0, h0, h1', h2, h2', hin, hr, h3]
      · simp [yac, yfl, e1, e2, y25, hw0, h0, h1', h2, h2', hin, hr, h3]
    · have h2' : w ≤ 0 := by omega
      simp [yac, yfl, e1, e2, y25, hw0, h0, h1', h2, h2', hin]
  · have h1' : ((lst f.regs).length : Int) ≤ r := by omega
    simp [yac, yfl, e1, e2, y25, hw0, h0, h1', h1, inR]
theorem yz1 (f : Fn) (x : Ins) (a b c d : Int) (h1 : x.op = 1 → inR (lst f.regs) x.d = true) (h4 : x.op = 4 → inR (lst f.regs) x.d = true ∧ inR (lst f.regs) x.a = true) (h7 : x.op = 7 → inR (lst f.regs) x.a = true)
    (h30 : x.op = 30 → x.a = -1 ∨ inR (lst f.regs) x.a = true) :
    y7v P0 P1 (HR f x a b c d) = some ⟨.bool (y3i (lst f.regs) f.ret (lst f.code).length x), [], true, [], []⟩ := by
  by_cases o1 : x.op = 1
  · have hr := y9t (h1 o1)
    by_cases k3 : regK (lst f.regs) x.d = 3
    · simp [y7v, y3i, o1, hr, k3]
    · by_cases k2 : regK (lst f.regs) x.d = 2
      · simp [y7v, y3i, o1, hr, k2]
      · simp [y7v, y3i, o1, hr, k2, k3]
  by_cases o4 : x.op = 4
  · have hr := y9t (h4 o4).1
    have hr2 := y9t (h4 o4).2
    simp [y7v, y3i, o4, hr, hr2]
  by_cases o7 : x.op = 7
  · have hr := y9t (h7 o7)
    simp [y7v, y3i, o7, hr]
  by_cases o30 : x.op = 30
  · by_cases ha : x.a = -1
    · by_cases hz : f.ret = 0
      · simp [y7v, y3i, o30, ha, hz]
      · simp [y7v, y3i, o30, ha, hz]
    · have hr := y9t ((h30 o30).resolve_left ha)
      by_cases hz : f.ret = 0
      · simp [y7v, y3i, o30, ha, hz]
      · simp [y7v, y3i, o30, ha, hz, hr]
  · cases hl : leads x.op with
    | false => simp [y7v, y1cv, y3i, o1, o4, o7, o30, hl]
    | true =>
      by_cases ht : 0 ≤ x.t
      · simp [y7v, y1cv, y3i, o1, o4, o7, o30, hl, ht]
      · simp [y7v, y1cv, y3i, o1, o4, o7, o30, hl, ht]
end Go.Vm
namespace Go.Vm
open Cel
attribute [local simp] y9 y1x yt
theorem yld (f : Fn) (x : Ins) (a b c d : Int) (i : Nat) (r : Int) (v63 v64 : AV) :
    yey P0 P1 (.int .i64 i) (.int .i64 r) v63 v64 (.int .i64 i) (HR f x a b c d) =
      if inR (lst f.regs) r && (!decide (i = 0) || !(decide (x.op = 24) || decide (x.op = 25)) || decide (regK (lst f.regs) r = 3)) then y1cg P0 P1 v63 v64 (.int .i64 i) (HR f x a b c d) else some ⟨.bool false, [], true, [], []⟩ := by
  by_cases h0 : r < 0
  · have : ¬ 0 ≤ r := by omega
    simp [yey, h0, inR, this]
  by_cases h1 : r < ((lst f.regs).length : Int)
  · have h0' : 0 ≤ r := by omega
    have h1' : ¬ ((lst f.regs).length : Int) ≤ r := by omega
    have hin : inR (lst f.regs) r = true := by simp [inR, h0', h1]
    have hr := y9t hin
    by_cases hi : i = 0
    · subst hi
      by_cases o1 : x.op = 24
      · by_cases h3 : regK (lst f.regs) r = 3
        · simp [yey, h0, h1', hin, hr, o1, h3]
        · simp [yey, h0, h1', hin, hr, o1, h3]
      · by_cases o2 : x.op = 25
        · by_cases h3 : regK (lst f.regs) r = 3
          · simp [yey, h0, h1', hin, hr, o2, h3]
          · simp [yey, h0, h1', hin, hr, o2, h3]
        · simp [yey, h0, h1', hin, o1, o2]
    · have hi' : ¬ ((i : Int) = 0) := by omega
      simp [yey, h0, h1', hin, hi, hi']
  · have h1' : ((lst f.regs).length : Int) ≤ r := by omega
    simp [yey, h0, h1', h1, inR]
theorem yzq (f : Fn) (x : Ins) (a b c d : Int) (T : Bool) (hc : calls x.op = true) (hl : (lst x.args).length ≤ 9223372036854775807) (hT : y7v P0 P1 (HR f x a b c d) = some ⟨.bool T, [], true, [], []⟩) :
    ∀ (k i : Nat), i + k = (lst x.args).length → 0 < i →
    ydh P0 P1 (slA x.args) (.int .i64 (lst x.args).length) (.int .i64 i) (HR f x a b c d) = some ⟨.bool (((lst x.args).drop i).all (inR (lst f.regs)) && T), [], true, [], []⟩ := by
  intro k
  induction k with
  | zero =>
    intro i hi _
    have e1 : (lst x.args).drop i = [] := List.drop_eq_nil_of_le (by omega)
    have hn : ¬ ((i : Int) < ((lst x.args).length : Int)) := by omega
    rw [ye1, e1]
    simp [yfz, yfm, hn, hT]
  | succ k ih =>
    intro i hi h0
    have hlt : i < (lst x.args).length := by omega
    have hn : ((i : Int) < ((lst x.args).length : Int)) := by omega
    have e1 : ((lst x.args).drop i).all (inR (lst f.regs)) = (inR (lst f.regs) (lst x.args)[i] && ((lst x.args).drop (i + 1)).all (inR (lst f.regs))) := by rw [List.drop_eq_getElem_cons hlt, List.all_cons]
    have ih := ih (i + 1) (by omega) (by omega)
    push_cast at ih
    have k1 := y8g (o := x.args) (i := i) (List.getElem?_eq_getElem hlt) .i64
    have hz : ¬ i = 0 := by omega
    rw [ye1, e1]
    simp only [yfz, yfm, yq, y4, hn, decide_true, y1h]
    simp only [y1ai, k1, y4, you, y5b, List.head?_cons]
    simp only [y0n]
    simp only [y2v]
    simp only [yju, ya7]
    simp only [List.getElem?_cons_zero, List.drop_zero, yjs, y4]
    simp only [y9, ynt, Option.isSome_none, Bool.and_false, Bool.not_false, Bool.and_self, if_true, y1x, yo, yak, y14, yno, yt, yje, y8, Bool.true_or]
    simp only [y3f, y4, hc, Bool.not_true, y1t, yld]
    cases inR (lst f.regs) (lst x.args)[i]
    · simp
    · simp [hz, y1cg, y2j hlt hl, ih]
theorem yy7 (f : Fn) (x : Ins) (a b c d : Int) (T : Bool) (hl : (lst x.args).length ≤ 9223372036854775807) (hT : y7v P0 P1 (HR f x a b c d) = some ⟨.bool T, [], true, [], []⟩) :
    ylo P0 P1 (HR f x a b c d) = some ⟨.bool (ydw (lst f.regs) x && T), [], true, [], []⟩ := by
  have e0 : ylo P0 P1 (HR f x a b c d) = ydh P0 P1 (slA x.args) (.int .i64 (lst x.args).length) (.int .i64 0) (HR f x a b c d) := by simp [ylo]
  rw [e0, ye1]
  cases ha : lst x.args with
  | nil => simp [yfz, yfm, hT, ydw, yod, ha]
  | cons r rest =>
    have k1 := y8g (o := x.args) (i := 0) (x := r) (by rw [ha]; rfl) .i64
    have k1 : yu 1 (slA x.args) (.int .i64 0) = some (.rp [.int .i64 r]) := k1
    have hn : ((0 : Int) < ((lst x.args).length : Int)) := by rw [ha]; simp
    have hra := yld f x a b c d 0 r (slA x.args) (.int .i64 (lst x.args).length)
    simp only [Int.ofNat_zero, decide_true, Bool.not_true, Bool.false_or] at hra
    rw [← ha]
    cases hc : calls x.op with
    | false =>
      simp only [yfz, yfm, yq, y4, hn, decide_true, y1h]
      simp only [y1ai, k1, y4, you, y5b, List.head?_cons]
      simp only [y0n]
      simp only [y2v]
      simp only [yju, ya7]
      simp only [List.getElem?_cons_zero, List.drop_zero, yjs, y4]
      simp only [y9, ynt, Option.isSome_none, Bool.and_false, Bool.not_false, Bool.and_self, if_true, y1x, yo, yak, y14, yno, yt, yje, y8, Bool.true_or]
      simp only [y3f, y4, hc, Bool.not_false, y1h, hT, ydw, Bool.true_or, Bool.true_and]
    | true =>
      have hlp := yzq f x a b c d T hc hl hT rest.length 1 (by rw [ha]; simp; omega) (by omega)
      have hd : (lst x.args).drop 1 = rest := by rw [ha]; rfl
      rw [hd] at hlp
      have hlp : ydh P0 P1 (slA x.args) (.int .i64 (lst x.args).length) (.int .i64 1) (HR f x a b c d) = _ := hlp
      simp only [yfz, yfm, yq, y4, hn, decide_true, y1h]
      simp only [y1ai, k1, y4, you, y5b, List.head?_cons]
      simp only [y0n]
      simp only [y2v]
      simp only [yju, ya7]
      simp only [List.getElem?_cons_zero, List.drop_zero, yjs, y4]
      simp only [y9, ynt, Option.isSome_none, Bool.and_false, Bool.not_false, Bool.and_self, if_true, y1x, yo, yak, y14, yno, yt, yje, y8, Bool.true_or]
      simp only [y3f, y4, hc, Bool.not_true, y1t, hra]
      simp only [ydw, yod, ha, List.all_cons]
      have hw : IntKind.wrap .i64 ((0 : Int) + 1) = 1 := y22 (n := 1) (by omega) (by omega)
      generalize (!(decide (x.op = 24) || decide (x.op = 25)) || decide (regK (lst f.regs) r = 3)) = B
      have hw2 : IntKind.wrap .i64 (1 : Int) = 1 := y22 (n := 1) (by omega) (by omega)
      cases inR (lst f.regs) r with
      | false => cases B <;> simp [hc]
      | true =>
        cases B with
        | false => simp [hc]
        | true =>
          simp only [Bool.and_self, if_true, y1cg, y1f, y4]
          rw [show IntKind.wrap .i64 ((0 : Int) + 1) = 1 from hw]
          rw [← ha, hlp]
          simp [hc]
theorem y1al (x : Ins) : (x.op = 1 → (yl x).1 = 0) ∧ (x.op = 4 → (yl x).1 = 0 ∧ (yl x).2.1 = 0) ∧ (x.op = 7 → (yl x).2.1 = 0) ∧ (x.op = 30 → x.a = -1 ∨ (yl x).2.1 = 0) := by
  refine ⟨fun h => ?_, fun h => ?_, fun h => ?_, fun h => ?_⟩ <;> simp [yl, h]
  by_cases ha : x.a = -1 <;> simp [ha]
theorem ya4 {R : List Int} {w r : Int} (h : y25 R w r = true) (hw : w = 0) : inR R r = true := by
  subst hw
  simpa [y25] using h
set_option maxHeartbeats 1000000 in
theorem y1tf (f : Fn) (x : Ins) (hn : -9223372036854775808 ≤ x.n ∧ x.n < 9223372036854775808) (hs : x.s.length ≤ 9223372036854775807) (hl : (lst x.args).length ≤ 9223372036854775807) :
    (yb E).p 63 [.agg (enc f), .agg (enc x)] = some ⟨.bool (y2h f x), [], true, [], []⟩ := by
  have hk := y1tn x hn hs
  obtain ⟨q1, q4, q7, q30⟩ := y1al x
  rw [y25r]
  have red : ∀ X : Option (Ex AV), y2h f x = y2h f x → True := fun _ _ => trivial
  have e0 : yn3 (.agg (enc f)) (.agg (enc x)) [⟨0, .dead⟩, ⟨0, .dead⟩, ⟨0, .dead⟩] =
      if (yl x).2.2.2.2 = true then y9q P0 P1 P2 (.agg [.int .i64 x.d, .int .i64 x.a, .int .i64 x.b, .int .i64 x.c]) (.int .i64 0) (HR f x (yl x).1 (yl x).2.1 (yl x).2.2.1 (yl x).2.2.2.1) else some ⟨.bool false, [], true, [], []⟩ := by
    unfold exK at hk
    generalize yl x = k at *
    obtain ⟨a, b, c, d, o⟩ := k
    simp only at hk ⊢
    cases o with
    | true => simp [yn3, ysz, ytm, y15m, hk]
    | false => simp [yn3, ysz, ytm, hk]
  rw [e0, y2h]
  cases hok : (yl x).2.2.2.2 with
  | false => simp
  | true =>
    simp only [if_true, Bool.true_and]
    have step : ∀ (i : Nat) (w r : Int), i < 4 → [(yl x).1, (yl x).2.1, (yl x).2.2.1, (yl x).2.2.2.1][i]? = some w → [x.d, x.a, x.b, x.c][i]? = some r →
        y9q P0 P1 P2 (.agg [.int .i64 x.d, .int .i64 x.a, .int .i64 x.b, .int .i64 x.c]) (.int .i64 i) (HR f x (yl x).1 (yl x).2.1 (yl x).2.2.1 (yl x).2.2.2.1) =
        if y25 (lst f.regs) w r then y9q P0 P1 P2 (.agg [.int .i64 x.d, .int .i64 x.a, .int .i64 x.b, .int .i64 x.c]) (.int .i64 (i + 1 : Nat)) (HR f x (yl x).1 (yl x).2.1 (yl x).2.2.1 (yl x).2.2.2.1) else some ⟨.bool false, [], true, [], []⟩ := by
      intro i w r hi hw hr
      have hc : ((i : Int) < (4 : Int)) := by omega
      have hv : yfy false 4 1 (.agg [.int .i64 x.d, .int .i64 x.a, .int .i64 x.b, .int .i64 x.c]) (.int .i64 i) = some (.int .i64 r) := by
        match i, hi, hr with
        | 0, _, hr => simp at hr; simp [yfy, hr]
        | 1, _, hr => simp at hr; simp [yfy, hr]
        | 2, _, hr => simp at hr; simp [yfy, hr]
        | 3, _, hr => simp at hr; simp [yfy, hr]
      have hw2 : IntKind.wrap .i64 ((i : Int) + 1) = ((i + 1 : Nat) : Int) := by rw [y22] <;> omega
      rw [ygo]
      simp only [ypp, yw6, yq, y4, hc, decide_true, y1h]
      simp only [y1a6, hv, y4]
      rw [yoe f x _ _ _ _ i w r _ hi hw]
      simp only [yle, y1f, y4, hw2]
    have s0 := step 0 _ _ (by omega) rfl rfl
    have s1 := step 1 _ _ (by omega) rfl rfl
    have s2 := step 2 _ _ (by omega) rfl rfl
    have s3 := step 3 _ _ (by omega) rfl rfl
    simp only [Int.ofNat_zero] at s0
    rw [s0]
    cases f0 : y25 (lst f.regs) (yl x).1 x.d with
    | false => simp
    | true =>
      simp only [if_true, Bool.true_and]
      rw [s1]
      cases f1 : y25 (lst f.regs) (yl x).2.1 x.a with
      | false => simp
      | true =>
        simp only [if_true, Bool.true_and]
        rw [s2]
        cases f2 : y25 (lst f.regs) (yl x).2.2.1 x.b with
        | false => simp
        | true =>
          simp only [if_true, Bool.true_and]
          rw [s3]
          cases f3 : y25 (lst f.regs) (yl x).2.2.2.1 x.c with
          | false => simp
          | true =>
            simp only [if_true, Bool.true_and]
            have ht := yz1 f x (yl x).1 (yl x).2.1 (yl x).2.2.1 (yl x).2.2.2.1 (fun h => ya4 f0 (q1 h)) (fun h => ⟨ya4 f0 (q4 h).1, ya4 f1 (q4 h).2⟩) (fun h => ya4 f1 (q7 h)) (fun h => (q30 h).imp id fun h => ya4 f1 h)
            rw [← yy7 f x _ _ _ _ _ hl ht]
            rw [ygo]
            simp [ypp, yw6]
end Go.Vm
namespace Go.Vm
open Cel
attribute [local simp] y9 y1x yt
abbrev HC (f : Fn) (o1 o2 : AO) : Heap := [⟨1, .arr true false 5 [enc f]⟩, o1, o2]
abbrev E80 : Option (Ex AV) := some ⟨.int .i64 80, [], true, [], []⟩
abbrev E0 : Option (Ex AV) := some ⟨.int .i64 0, [], true, [], []⟩
theorem y00 (f : Fn) (o1 : AO) (n : Int) (hn : n = (lst f.code).length) (hl : (lst f.rows).length ≤ 9223372036854775807) : ∀ (d i : Nat) (o2 : AO), i + d = (lst f.rows).length →
    ygl P0 (.int .i64 n) (slA f.rows) (.int .i64 (lst f.rows).length) (.int .i64 i) (HC f o1 o2) = if ((lst f.rows).drop i).all (y7t (lst f.code)) then E0 else E80 := by
  intro d
  induction d with
  | zero =>
    intro i o2 hi
    have e1 : (lst f.rows).drop i = [] := List.drop_eq_nil_of_le (by omega)
    have hn : ¬ ((i : Int) < ((lst f.rows).length : Int)) := by omega
    rw [ymz, e1]
    simp [y1my, y1mg, y1rr, hn]
  | succ d ih =>
    intro i o2 hi
    have hlt : i < (lst f.rows).length := by omega
    have hc : ((i : Int) < ((lst f.rows).length : Int)) := by omega
    have k1 := yng (o := f.rows) (i := i) (List.getElem?_eq_getElem hlt) .i64
    rw [ymz]
    have e1 : ((lst f.rows).drop i).all (y7t (lst f.code)) = (y7t (lst f.code) (lst f.rows)[i] && ((lst f.rows).drop (i + 1)).all (y7t (lst f.code))) := by rw [List.drop_eq_getElem_cons hlt, List.all_cons]
    rw [e1]
    generalize hr : (lst f.rows)[i] = r at *
    have ih := fun o2 => ih (i + 1) o2 (by omega)
    push_cast at ih
    subst hn
    simp only [y1my, y1mg, yq, y4, hc, decide_true, y1h]
    by_cases h1 : r.f < 0
    · simp [yjg, k1, y7t, h1]
    by_cases h2 : r.t ≤ r.f
    · simp [yjg, k1, y7t, h1, h2]
    by_cases h3 : ((lst f.code).length : Int) < r.t
    · simp [yjg, k1, y7t, h1, h2, h3]
    by_cases h4 : r.at_ < 0
    · simp [yjg, k1, y7t, h1, h2, h3, h4]
    by_cases h5 : ((lst f.code).length : Int) ≤ r.at_
    · simp [yjg, k1, y7t, h1, h2, h3, h4, h5]
    · have hx : r.at_.toNat < (lst f.code).length := by omega
      have k2 := yd9 (o := f.code) (n := r.at_) (by omega) (List.getElem?_eq_getElem hx) .i64
      have hg : (lst f.code).getD r.at_.toNat default = (lst f.code)[r.at_.toNat] := by rw [List.getD_eq_getElem?_getD, List.getElem?_eq_getElem hx]; rfl
      by_cases h6 : ((lst f.code)[r.at_.toNat]).op = 32
      · simp [yjg, k1, y7t, h1, h2, h3, h4, h5, k2, h6, hx, y1sa, y2j hlt hl, ih]
      · simp [yjg, k1, y7t, h1, h2, h3, h4, h5, k2, h6, hx]
theorem yz7 (f : Fn) (o1 o2 : AO) (n : Int) (hl : (lst f.regs).length ≤ 9223372036854775807) : ∀ (d i : Nat), i + d = (lst f.regs).length →
    yb9 P0 (.int .i64 n) (slA f.regs) (.int .i64 (lst f.regs).length) (.int .i64 i) (HC f o1 o2) = if ((lst f.regs).drop i).all (fun k => decide (1 ≤ k) && decide (k ≤ 3)) then yl5 P0 (.int .i64 n) (HC f o1 o2) else E80 := by
  intro d
  induction d with
  | zero =>
    intro i hi
    have e1 : (lst f.regs).drop i = [] := List.drop_eq_nil_of_le (by omega)
    have hn : ¬ ((i : Int) < ((lst f.regs).length : Int)) := by omega
    rw [yhl, e1]
    simp [yps, ytw, hn]
  | succ d ih =>
    intro i hi
    have hlt : i < (lst f.regs).length := by omega
    have hc : ((i : Int) < ((lst f.regs).length : Int)) := by omega
    have k1 := y8g (o := f.regs) (i := i) (List.getElem?_eq_getElem hlt) .i64
    have e1 : ((lst f.regs).drop i).all (fun k => decide (1 ≤ k) && decide (k ≤ 3)) = ((decide (1 ≤ (lst f.regs)[i]) && decide ((lst f.regs)[i] ≤ 3)) && ((lst f.regs).drop (i + 1)).all (fun k => decide (1 ≤ k) && decide (k ≤ 3))) := by
      rw [List.drop_eq_getElem_cons hlt, List.all_cons]
    rw [yhl, e1]
    generalize hr : (lst f.regs)[i] = r at *
    have ih := ih (i + 1) (by omega)
    push_cast at ih
    simp only [yps, ytw, yq, y4, hc, decide_true, y1h]
    by_cases h1 : r < 1
    · have : ¬ 1 ≤ r := by omega
      simp [yl4, k1, h1, this]
    by_cases h2 : 3 < r
    · have : ¬ r ≤ 3 := by omega
      simp [yl4, k1, h1, h2, this]
    · have a1 : 1 ≤ r := by omega
      have a2 : r ≤ 3 := by omega
      simp [yl4, k1, h1, h2, a1, a2, y183, y2j hlt hl, ih]
theorem yml (f : Fn) (o1 o2 : AO) (n : Int) (hl : (lst f.params).length ≤ 9223372036854775807) : ∀ (d i : Nat), i + d = (lst f.params).length →
    ybl P0 (.int .i64 n) (slA f.params) (.int .i64 (lst f.params).length) (.int .i64 i) (HC f o1 o2) = if yg5 (lst f.regs) i ((lst f.params).take i) ((lst f.params).drop i) then ym4 P0 (.int .i64 n) (HC f o1 o2) else E80 := by
  intro d
  induction d with
  | zero =>
    intro i hi
    have e1 : (lst f.params).drop i = [] := List.drop_eq_nil_of_le (by omega)
    have hn : ¬ ((i : Int) < ((lst f.params).length : Int)) := by omega
    rw [yil, e1]
    simp [yvp, yrl, hn, yg5]
  | succ d ih =>
    intro i hi
    have hlt : i < (lst f.params).length := by omega
    have hc : ((i : Int) < ((lst f.params).length : Int)) := by omega
    have k1 := y8g (o := f.params) (i := i) (List.getElem?_eq_getElem hlt) .i64
    have ks := y20m (α := Int) f.params i (by omega) .i64
    simp only [yuj] at ks
    have hlm : lst (f.params.map (List.take i)) = (lst f.params).take i := by cases f.params <;> simp
    have e1 : yg5 (lst f.regs) i ((lst f.params).take i) ((lst f.params).drop i) = ((inR (lst f.regs) (lst f.params)[i] && !((lst f.params).take i).contains (lst f.params)[i] && decide (i ≤ 20)) && yg5 (lst f.regs) (i + 1) ((lst f.params).take (i + 1)) ((lst f.params).drop (i + 1))) := by
      rw [List.drop_eq_getElem_cons hlt, yg5, List.take_append_getElem]
    rw [yil, e1]
    have hct : (yb E).p 46 [slA (f.params.map (List.take i)), .int .i64 (lst f.params)[i]] = some ⟨.bool (((lst f.params).take i).contains (lst f.params)[i]), [], true, [], []⟩ := by
      rw [y8x _ _ (by rw [hlm, List.length_take]; omega), hlm]
    generalize hr : (lst f.params)[i] = r at *
    generalize ((lst f.params).take i).contains r = B at *
    have ih := ih (i + 1) (by omega)
    push_cast at ih
    simp only [yvp, yrl, yq, y4, hc, decide_true, y1h]
    have e20 : ((20 : Int) < (i : Int)) ↔ ¬ i ≤ 20 := by omega
    by_cases h1 : r < 0
    · have : ¬ 0 ≤ r := by omega
      simp [yfq, k1, inR, h1, this]
    by_cases h2 : ((lst f.regs).length : Int) ≤ r
    · have : ¬ r < ((lst f.regs).length : Int) := by omega
      simp [yfq, k1, inR, h1, h2, this]
    · have a1 : 0 ≤ r := by omega
      have a2 : r < ((lst f.regs).length : Int) := by omega
      cases B with
      | true => simp [yfq, k1, inR, h1, h2, a1, a2, ks, hct]
      | false =>
        by_cases h3 : i ≤ 20
        · have h3' : ¬ ((20 : Int) < (i : Int)) := by omega
          simp [yfq, k1, inR, h1, h2, a1, a2, ks, hct, h3, h3', y0j, y2j hlt hl, ih]
        · have h3' : ((20 : Int) < (i : Int)) := by omega
          simp [yfq, k1, inR, h1, h2, a1, a2, ks, hct, h3, h3']
theorem yzb {R : List Int} {ret : Int} {n : Nat} {x : Ins} (h : y3i R ret n x = true) (hl : leads x.op = true) : 0 ≤ x.t ∧ x.t < n := by
  have hne : ¬ x.op = 1 ∧ ¬ x.op = 4 ∧ ¬ x.op = 7 ∧ ¬ x.op = 30 := by
    simp only [leads, Bool.or_eq_true, decide_eq_true_eq] at hl
    omega
  simp only [y3i, hne, if_false, hl, Bool.not_true, Bool.false_or, Bool.and_eq_true, decide_eq_true_eq] at h
  exact h
theorem yoo {f : Fn} {x : Ins} (h : y2h f x = true) (hl : leads x.op = true) : 0 ≤ x.t ∧ x.t < (lst f.code).length := by
  simp only [y2h, Bool.and_eq_true] at h
  exact yzb h.2 hl
structure InsFit (x : Ins) : Prop where
  n : -9223372036854775808 ≤ x.n ∧ x.n < 9223372036854775808
  s : x.s.length ≤ 9223372036854775807
  a : (lst x.args).length ≤ 9223372036854775807
theorem yzs (f : Fn) (o2 : AO) (n : Int) (x : Ins) (i g : Nat) (v92 v93 v94 : AV) (hi : i < (lst f.code).length) (hl : (lst f.code).length ≤ 9223372036854775807) (ht : leads x.op = true → 0 ≤ x.t ∧ x.t < (lst f.code).length) :
    y97 P0 (.int .i64 n) (.int .i64 i) (.lp 1 g 0 0) v92 v93 v94 (HC f ⟨g, .arr true false 9 [enc x]⟩ o2) =
      if y47 (lst f.code) i x then ype P0 (.int .i64 n) v92 v93 v94 (HC f ⟨g, .arr true false 9 [enc x]⟩ o2) else E80 := by
  by_cases h32 : x.op = 32
  · have hld : leads x.op = false := by simp [leads, h32]
    by_cases h0 : i = 0
    · subst h0
      simp [y97, h32, y47]
    · have h0' : ¬ ((i : Int) = 0) := by omega
      have hp : i - 1 < (lst f.code).length := by omega
      have k1 := yf3 (o := f.code) (i := i - 1) (List.getElem?_eq_getElem hp) .i64
      have hw : IntKind.wrap .i64 ((i : Int) - 1) = ((i - 1 : Nat) : Int) := by rw [y22] <;> omega
      have hg : (lst f.code).getD (i - 1) default = (lst f.code)[i - 1] := by rw [List.getD_eq_getElem?_getD, List.getElem?_eq_getElem hp]; rfl
      have hld32 : leads 32 = false := by simp [leads]
      cases he : ends ((lst f.code)[i - 1]).op with
      | true => simp [y97, h32, y47, h0, h0', hw, k1, hp, he, hld32]
      | false => simp [y97, h32, y47, h0, h0', hw, k1, hp, he]
  · cases hld : leads x.op with
    | false => simp [y97, h32, y47, hld]
    | true =>
      obtain ⟨t0, t1⟩ := ht hld
      have hx : x.t.toNat < (lst f.code).length := by omega
      have k2 := yd9 (o := f.code) (n := x.t) t0 (List.getElem?_eq_getElem hx) .i64
      by_cases h6 : ((lst f.code)[x.t.toNat]).op = 32
      · simp [y97, h32, y47, hld, k2, h6, hx]
      · simp [y97, h32, y47, hld, k2, h6, hx]
theorem yyr (f : Fn) (o2 : AO) (n : Int) (hfit : ∀ x ∈ lst f.code, InsFit x) (hl : (lst f.code).length ≤ 9223372036854775807) : ∀ (d i : Nat) (o1 : AO), i + d = (lst f.code).length →
    ∃ o1', ybz P0 (.int .i64 n) (slA f.code) (.int .i64 (lst f.code).length) (.int .i64 i) (HC f o1 o2) = if y59 f (lst f.code) i ((lst f.code).drop i) then y12g P0 (.int .i64 n) (HC f o1' o2) else E80 := by
  intro d
  induction d with
  | zero =>
    intro i o1 hi
    have e1 : (lst f.code).drop i = [] := List.drop_eq_nil_of_le (by omega)
    have hn : ¬ ((i : Int) < ((lst f.code).length : Int)) := by omega
    rw [yii, e1]
    exact ⟨o1, by simp [yre, yrh, hn, y59]⟩
  | succ d ih =>
    intro i o1 hi
    have hlt : i < (lst f.code).length := by omega
    have hc : ((i : Int) < ((lst f.code).length : Int)) := by omega
    have k1 := yf3 (o := f.code) (i := i) (List.getElem?_eq_getElem hlt) .i64
    have e1 : y59 f (lst f.code) i ((lst f.code).drop i) = (y2h f (lst f.code)[i] && y47 (lst f.code) i (lst f.code)[i] && y59 f (lst f.code) (i + 1) ((lst f.code).drop (i + 1))) := by
      rw [List.drop_eq_getElem_cons hlt, y59]
    have fit := hfit _ (List.getElem_mem hlt)
    rw [yii, e1]
    generalize hx : (lst f.code)[i] = x at *
    have hr := y1tf f x fit.n fit.s fit.a
    simp only [yre, yrh, yq, y4, hc, decide_true, y1h]
    cases hok : y2h f x with
    | false =>
      rw [hok] at hr
      exact ⟨o1, by simp [ykp, yue, k1, hr]⟩
    | true =>
      rw [hok] at hr
      have e13 : ∀ K : Option (Ex AV), ykp P0 (.int .i64 n) (slA f.code) (.int .i64 (lst f.code).length) (.int .i64 i) (HC f o1 o2) = y97 P0 (.int .i64 n) (.int .i64 i) (.lp 1 (o1.gen + 1) 0 0) (slA f.code) (.int .i64 (lst f.code).length) (.int .i64 i) (HC f ⟨o1.gen + 1, .arr true false 9 [enc x]⟩ o2) := by
        intro _
        simp [ykp, yue, k1, hr]
      rw [e13 none]
      rw [yzs f o2 n x i _ _ _ _ hlt hl (fun h => yoo hok h)]
      cases hs : y47 (lst f.code) i x with
      | false => exact ⟨o1, by simp⟩
      | true =>
        obtain ⟨o1', ih⟩ := ih (i + 1) ⟨o1.gen + 1, .arr true false 9 [enc x]⟩ (by omega)
        push_cast at ih
        exact ⟨o1', by simp [ype, y2j hlt hl, ih]⟩
structure FnFit (f : Fn) : Prop where
  ins : ∀ x ∈ lst f.code, InsFit x
  code : (lst f.code).length ≤ 9223372036854775807
  regs : (lst f.regs).length ≤ 9223372036854775807
  params : (lst f.params).length ≤ 9223372036854775807
  rows : (lst f.rows).length ≤ 9223372036854775807
theorem y120 (f : Fn) (hf : FnFit f) (o1 o2 : AO) (n : Int) (hn : n = (lst f.code).length) :
    ygm P0 (.int .i64 n) (HC f o1 o2) = if (lst f.regs).all (fun k => decide (1 ≤ k) && decide (k ≤ 3)) && yg5 (lst f.regs) 0 [] (lst f.params) && y59 f (lst f.code) 0 (lst f.code) && (lst f.rows).all (y7t (lst f.code)) then E0 else E80 := by
  have a1 := yz7 f o1 o2 n hf.regs _ 0 (Nat.zero_add _)
  have a2 := yml f o1 o2 n hf.params _ 0 (Nat.zero_add _)
  obtain ⟨o1', a3⟩ := yyr f o2 n hf.ins hf.code _ 0 o1 (Nat.zero_add _)
  have a4 := y00 f o1' n hn hf.rows _ 0 o2 (Nat.zero_add _)
  simp only [Int.ofNat_zero, List.drop_zero, List.take_zero] at a1 a2 a3 a4
  have e1 : ygm P0 (.int .i64 n) (HC f o1 o2) = yb9 P0 (.int .i64 n) (slA f.regs) (.int .i64 (lst f.regs).length) (.int .i64 0) (HC f o1 o2) := by simp [ygm]
  have e2 : yl5 P0 (.int .i64 n) (HC f o1 o2) = ybl P0 (.int .i64 n) (slA f.params) (.int .i64 (lst f.params).length) (.int .i64 0) (HC f o1 o2) := by simp [yl5]
  have e3 : ym4 P0 (.int .i64 n) (HC f o1 o2) = ybz P0 (.int .i64 n) (slA f.code) (.int .i64 (lst f.code).length) (.int .i64 0) (HC f o1 o2) := by simp [ym4]
  have e4 : y12g P0 (.int .i64 n) (HC f o1' o2) = ygl P0 (.int .i64 n) (slA f.rows) (.int .i64 (lst f.rows).length) (.int .i64 0) (HC f o1' o2) := by simp [y12g]
  rw [e1, a1, e2, a2, e3, a3, e4, a4]
  generalize (lst f.regs).all (fun k => decide (1 ≤ k) && decide (k ≤ 3)) = b1
  generalize yg5 (lst f.regs) 0 [] (lst f.params) = b2
  generalize y59 f (lst f.code) 0 (lst f.code) = b3
  generalize (lst f.rows).all (y7t (lst f.code)) = b4
  cases b1 <;> cases b2 <;> cases b3 <;> cases b4 <;> rfl
set_option maxHeartbeats 1000000 in
theorem y1ez (f : Fn) (hf : FnFit f) : (yb E).p 8 [.agg (enc f)] = some ⟨.int .i64 (if wf f then 0 else 80), [], true, [], []⟩ := by
  rw [y27n]
  have hall := y120 f hf ⟨0, .dead⟩ ⟨0, .dead⟩ _ rfl
  by_cases h1 : (lst f.code).length < 1
  · have h1' : ((lst f.code).length : Int) < 1 := by omega
    have : ¬ 1 ≤ (lst f.code).length := by omega
    simp [y96, yax, ya3, h1', wf, this]
  have h1' : ¬ ((lst f.code).length : Int) < 1 := by omega
  have g1 : 1 ≤ (lst f.code).length := by omega
  by_cases h2 : 20000 < (lst f.code).length
  · have h2' : (20000 : Int) < ((lst f.code).length : Int) := by omega
    have : ¬ (lst f.code).length ≤ 20000 := by omega
    simp [y96, yax, ya3, h1', h2', wf, this]
  have h2' : ¬ (20000 : Int) < ((lst f.code).length : Int) := by omega
  have g2 : (lst f.code).length ≤ 20000 := by omega
  by_cases h3 : 20000 < (lst f.regs).length
  · have h3' : (20000 : Int) < ((lst f.regs).length : Int) := by omega
    have : ¬ (lst f.regs).length ≤ 20000 := by omega
    simp [y96, yax, ya3, h1', h2', h3', wf, this]
  have h3' : ¬ (20000 : Int) < ((lst f.regs).length : Int) := by omega
  have g3 : (lst f.regs).length ≤ 20000 := by omega
  by_cases h4 : f.ret < 0
  · have : ¬ 0 ≤ f.ret := by omega
    simp [y96, yax, ya3, h1', h2', h3', h4, wf, this]
  have g4 : 0 ≤ f.ret := by omega
  by_cases h5 : 3 < f.ret
  · have : ¬ f.ret ≤ 3 := by omega
    simp [y96, yax, ya3, h1', h2', h3', h4, h5, wf, this]
  have g5 : f.ret ≤ 3 := by omega
  have hp : (lst f.code).length - 1 < (lst f.code).length := by omega
  have k1 := yf3 (o := f.code) (i := (lst f.code).length - 1) (List.getElem?_eq_getElem hp) .i64
  have hw : IntKind.wrap .i64 (((lst f.code).length : Int) - 1) = (((lst f.code).length - 1 : Nat) : Int) := by rw [y22] <;> omega
  have hg : (lst f.code).getD ((lst f.code).length - 1) default = (lst f.code)[(lst f.code).length - 1] := by rw [List.getD_eq_getElem?_getD, List.getElem?_eq_getElem hp]; rfl
  cases he : ends ((lst f.code)[(lst f.code).length - 1]).op with
  | false =>
    have hwf : wf f = false := by rw [wf, hg, he]; simp
    rw [hwf]
    simp [y96, yax, ya3, h1', h2', h3', h4, h5, hw, k1, he]
  | true =>
    have hwf : wf f = ((lst f.regs).all (fun k => decide (1 ≤ k) && decide (k ≤ 3)) && yg5 (lst f.regs) 0 [] (lst f.params) && y59 f (lst f.code) 0 (lst f.code) && (lst f.rows).all (y7t (lst f.code))) := by
      rw [wf, hg, he]
      simp only [g1, g2, g3, g4, g5, decide_true, Bool.true_and]
    have e : y96 (.agg (enc f)) [⟨0, .dead⟩, ⟨0, .dead⟩, ⟨0, .dead⟩] = ygm P0 (.int .i64 (lst f.code).length) (HC f ⟨0, .dead⟩ ⟨0, .dead⟩) := by
      simp [y96, yax, ya3, h1', h2', h3', h4, h5, hw, k1, he]
    rw [e, hall, hwf]
    split <;> rfl
end Go.Vm
namespace Go.Vm
open Cel
def y3l (f : Fn) (T : KTab) (i : Nat) : Bool := match ofM (ye f i), kAt T i with
  | some c, some s => decide (c ∈ s)
  | _, _ => false
def knoI (f : Fn) (T : KTab) (i : Nat) : Ins := if y3l f T i then nopI else ye f i
def knoL (f : Fn) (T : KTab) : List Ins := (List.range (lst f.code).length).map (knoI f T)
def knoF (f : Fn) (T : KTab) : Fn := y9p f (knoL f T)
def y5c (f : Fn) (T : KTab) (k : Nat) : List Ins := (List.range (lst f.code).length).map fun j => if j < k then knoI f T j else ye f j
theorem yav (f : Fn) (T : KTab) (k : Nat) : (y5c f T k).length = (lst f.code).length := by simp [y5c]
theorem y1vu (f : Fn) (T : KTab) : y5c f T 0 = lst f.code := by
  refine List.ext_getElem? fun i => ?_
  unfold y5c
  rw [List.getElem?_map]
  by_cases h : i < (lst f.code).length
  · rw [List.getElem?_range h, y3e h]; rfl
  · rw [List.getElem?_eq_none (by simpa using h), List.getElem?_eq_none (by omega)]; rfl
theorem y07 (f : Fn) (T : KTab) : y5c f T (lst f.code).length = knoL f T := by
  refine List.map_congr_left fun i hi => ?_
  rw [List.mem_range] at hi
  rw [if_pos hi]
theorem y197 (f : Fn) (T : KTab) (k : Nat) (hk : k < (lst f.code).length) : (y5c f T k).set k (knoI f T k) = y5c f T (k + 1) := by
  refine List.ext_getElem? fun j => ?_
  rw [List.getElem?_set]
  unfold y5c
  by_cases hj : j < (lst f.code).length
  · simp only [List.getElem?_map, List.getElem?_range hj, List.length_map, List.length_range, Option.map_some]
    by_cases e : k = j
    · subst e
      rw [if_pos rfl, if_pos hk, if_pos (by omega)]
    · rw [if_neg e]
      by_cases h : j < k
      · rw [if_pos h, if_pos (by omega)]
      · rw [if_neg h, if_neg (by omega)]
  · rw [if_neg (by omega), List.getElem?_eq_none (by simpa using hj), List.getElem?_eq_none (by simpa using hj)]
theorem ybc {f : Fn} {T : KTab} {k : Nat} (h : y3l f T k = false) : y5c f T (k + 1) = y5c f T k := by
  refine List.map_congr_left fun j hj => ?_
  by_cases e : j = k
  · subst e
    rw [if_pos (by omega), if_neg (by omega), knoI, h]
    rfl
  · by_cases h : j < k
    · rw [if_pos h, if_pos (by omega)]
    · rw [if_neg h, if_neg (by omega)]
theorem y1kx {f : Fn} {T : KTab} {k : Nat} (hk : k < (lst f.code).length) : (y5c f T k)[k]? = some (ye f k) := by
  unfold y5c
  rw [List.getElem?_map, List.getElem?_range hk, Option.map_some, if_neg (by omega)]
structure NSt (H : Heap) (F : Fn) (p g : Nat → Nat) (T : KTab) : Prop where
  d : DSt H F p g 17
  tab : H[10]? = some ⟨1, .arr false false 1 (tabK T)⟩
  tbx : H[11]? = some ⟨1, .arr true false 1 [[.ls 10 1 1 0 T.length]]⟩
  m0 : H[12]? = some (AK 1 [])
theorem NSt.set {H : Heap} {F : Fn} {p g : Nat → Nat} {T : KTab} (S : NSt H F p g T) {a : Nat} {x : AO} (ha : 15 ≤ a) : NSt (H.set a x) F p g T :=
  ⟨S.d.set (by omega), by rw [y11 (by omega)]; exact S.tab, by rw [y11 (by omega)]; exact S.tbx, by rw [y11 (by omega)]; exact S.m0⟩
theorem NSt.code {H : Heap} {F : Fn} {p g : Nat → Nat} {T : KTab} {L L' : List Ins} (S : NSt H F p g T) (hL : F.code = some L) (hl : L.length = L'.length) : NSt (H.set (p 2) ⟨g 2, .arr false false 9 (L'.map enc)⟩) (y9p F L') p g T := by
  have h2 := S.d.lo 2 (by omega) (by simp [hasL, hL])
  exact ⟨S.d.setCode hL hl, by rw [y11 (by omega)]; exact S.tab, by rw [y11 (by omega)]; exact S.tbx, by rw [y11 (by omega)]; exact S.m0⟩
section
variable {f : Fn} (w : Wf f) {T : KTab} (v : InvK f (T, [])) {p g : Nat → Nat}
include w v
theorem y1nb : ∀ (d k : Nat), k + d = (lst f.code).length → ∀ (H : Heap), NSt H (y9p f (y5c f T k)) p g T →
    ∃ H', yie V1 V2 V3 (.ls (p 2) (g 2) 9 0 (lst f.code).length) (.int .i64 (lst f.code).length) (.int .i64 (k : Int)) H = y03 V1 V2 H' ∧ DSt H' (knoF f T) p g 17 := by
  have hn2 := w.n2
  have hTl := v.ok.len
  have hz := v.ok.zero
  simp only at hTl hz
  intro d
  induction d with
  | zero =>
    intro k hkd H S
    have hc : ¬ (k : Int) < ((lst f.code).length : Int) := by omega
    have e : k = (lst f.code).length := by omega
    subst e
    have D := S.d
    rw [y07] at D
    refine ⟨H, ?_, D⟩
    rw [ylq, y1k8, yq, y4, decide_eq_false hc, y1ig, y1t]
  | succ d ih =>
    intro k hkd H S
    have hk : k < (lst f.code).length := by omega
    have hc : (k : Int) < ((lst f.code).length : Int) := by omega
    have hcode : (y9p f (y5c f T k)).code = some (y5c f T k) := rfl
    have ixc := y1qv hk (p 2) (g 2) 9 .i64
    have lc := S.d.ix hcode (y1kx (T := T) hk)
    have hlen := S.d.len
    obtain ⟨o, ho⟩ : ∃ o, H[0 + 15]? = some o := ⟨_, List.getElem?_eq_getElem (by omega)⟩
    have nx := y22r ho
    rw [Nat.zero_add] at nx ho
    have sx := st_x (H := H.set 15 (AX (o.gen + 1) default)) (id := 15) (g := o.gen + 1) (y := ye f k) (y4e (y4q ho))
    rw [List.set_set] at sx
    have S1 := S.set (a := 15) (x := AX (o.gen + 1) (ye f k)) (by omega)
    have h15 : (H.set 15 (AX (o.gen + 1) (ye f k)))[15]? = some (AX (o.gen + 1) (ye f k)) := y4e (y4q ho)
    generalize H.set 15 (AX (o.gen + 1) (ye f k)) = H1 at *
    have lx := y1lg h15
    have c169 : y9 E (yb E) 0 none true 169 [.agg (enc (ye f k))] H1 = some (ofV (ye f k), H1) := y39 rfl (y1tm (ye f k) H1) rfl (s_of (ye f k)) ⟨_, rfl, rfl⟩
    have x0 : y3d 0 (ofV (ye f k)) = some (vFa ((ofM (ye f k)).getD zF)) := rfl
    have x1 : y3d 1 (ofV (ye f k)) = some (.bool (ofM (ye f k)).isSome) := rfl
    have hlen1 := S1.d.len
    obtain ⟨o16, ho16⟩ : ∃ o, H1[0 + 16]? = some o := ⟨_, List.getElem?_eq_getElem (by omega)⟩
    have nc := yzr (j := 16) ho16
    rw [Nat.zero_add] at nc ho16
    have sc := st_c (H := H1.set 16 (AC (o16.gen + 1) zF)) (id := 16) (g := o16.gen + 1) (c := zF) (e := (ofM (ye f k)).getD zF) (y4e (y4q ho16))
    rw [List.set_set] at sc
    have S2 := S1.set (a := 16) (x := AC (o16.gen + 1) ((ofM (ye f k)).getD zF)) (by omega)
    have h16 : (H1.set 16 (AC (o16.gen + 1) ((ofM (ye f k)).getD zF)))[16]? = some (AC (o16.gen + 1) ((ofM (ye f k)).getD zF)) := y4e (y4q ho16)
    generalize H1.set 16 (AC (o16.gen + 1) ((ofM (ye f k)).getD zF)) = H2 at *
    have lb := yk0 S2.tbx
    have ixk := y9z (n := T.length) (p := (k : Int)) (by omega) (by omega) 10 1 .i64
    rw [Int.toNat_natCast] at ixk
    have lr := yut S2.tab (y5d (T := T) (i := k) (by omega))
    have la := y1lr h16
    have next : ∀ H' : Heap, NSt H' (y9p f (y5c f T (k + 1))) p g T →
        ∃ H'', y1hg V1 V2 V3 (.ls (p 2) (g 2) 9 0 (lst f.code).length) (.int .i64 (lst f.code).length) (.int .i64 (k : Int)) H' = y03 V1 V2 H'' ∧ DSt H'' (knoF f T) p g 17 := by
      intro H' S'
      obtain ⟨H'', r1, r2⟩ := ih (k + 1) (by omega) H' S'
      refine ⟨H'', ?_, r2⟩
      rw [y1hg, yf9 hk (by omega), y4]
      exact r1
    have pfx : ∀ R, (yna V1 V2 V3 (.ls (p 2) (g 2) 9 0 (lst f.code).length) (.int .i64 (lst f.code).length) (.int .i64 (k : Int)) H = R) →
        yie V1 V2 V3 (.ls (p 2) (g 2) 9 0 (lst f.code).length) (.int .i64 (lst f.code).length) (.int .i64 (k : Int)) H = R := by
      intro R hR
      rw [ylq, y1k8, yq, y4, decide_eq_true hc, y1ig, y1h, hR]
    have lov : ownV (p 2) (g 2) (y9p f (y5c f T k)).code = .ls (p 2) (g 2) 9 0 (lst f.code).length := by
      show AV.ls (p 2) (g 2) 9 0 (y5c f T k).length = _
      rw [yav]
    cases hof : ofM (ye f k) with
    | none =>
      rw [hof] at sc x0 x1 la h16
      have hg : y3l f T k = false := by unfold y3l; rw [hof]
      obtain ⟨H'', r1, r2⟩ := next H2 (by rw [ybc hg]; exact S2)
      refine ⟨H'', pfx _ ?_, r2⟩
      rw [yna, ixc, y4, lc, y4, nx, y8, sx, y8, lx, y4, c169, y8, x0, y4, x1, y4, nc, y8, sc, y8]
      simp only [Option.isSome_none, ygc, y33, y4, y1t]
      exact r1
    | some c =>
      rw [hof] at sc x0 x1 la h16
      simp only [Option.getD_some] at la sc x0
      cases hT : kAt T k with
      | none =>
        have hg : y3l f T k = false := by unfold y3l; rw [hof, hT]
        have hk0 : k ≠ 0 := fun e => by rw [e, hz] at hT; cases hT
        have er : rowK T k = .nilm := by rw [rowK, if_neg hk0, hT]
        rw [er] at lr
        have ne : y7b 2 true AV.nilm AV.nilm = some (.bool false) := rfl
        obtain ⟨H'', r1, r2⟩ := next H2 (by rw [ybc hg]; exact S2)
        refine ⟨H'', pfx _ ?_, r2⟩
        rw [yna, ixc, y4, lc, y4, nx, y8, sx, y8, lx, y4, c169, y8, x0, y4, x1, y4, nc, y8, sc, y8]
        simp only [Option.isSome_some, ybg, lb, ixk, lr, ne, y2o, y4, ygc, y33, y1t]
        exact r1
      | some s =>
        have hi := yjw hz hT
        have mg : y4r true [0, 0, 0] (.bool false) false (rowK T k) (vFa c) H2 = some (.bool (decide (c ∈ s))) := by
          rcases hi with h | ⟨h, h'⟩
          · rw [h]; exact y1py c s
          · rw [h, h']; exact y1rc S2.m0 c
        have ne := hi.nn.2
        by_cases hm : c ∈ s
        · rw [decide_eq_true hm] at mg
          have hg : y3l f T k = true := by unfold y3l; rw [hof, hT]; exact decide_eq_true hm
          have fa : evFa 3 V1 = some (.lp 0 1 0 3) := rfl
          have lc2 := S2.d.ldc
          rw [lov] at lc2
          have bl : yd y50 [(0, 1, .int .i64 33)] = some (.agg (enc nopI)) := rfl
          have st := S2.d.st hcode (i := k) (by rw [yav]; exact hk) (knoI f T k)
          have ek : knoI f T k = nopI := by rw [knoI, hg]; rfl
          rw [y197 f T k hk, ek] at st
          have S3 := S2.code hcode (L' := y5c f T (k + 1)) (by rw [yav, yav])
          obtain ⟨H'', r1, r2⟩ := next _ S3
          refine ⟨H'', pfx _ ?_, r2⟩
          rw [yna, ixc, y4, lc, y4, nx, y8, sx, y8, lx, y4, c169, y8, x0, y4, x1, y4, nc, y8, sc, y8]
          simp only [Option.isSome_some, ybg, lb, ixk, lr, ne, la, mg, y2o, y4, y1h, fa, lc2, bl, ixc, st, y8]
          exact r1
        · rw [decide_eq_false hm] at mg
          have hg : y3l f T k = false := by unfold y3l; rw [hof, hT]; exact decide_eq_false hm
          obtain ⟨H'', r1, r2⟩ := next H2 (by rw [ybc hg]; exact S2)
          refine ⟨H'', pfx _ ?_, r2⟩
          rw [yna, ixc, y4, lc, y4, nx, y8, sx, y8, lx, y4, c169, y8, x0, y4, x1, y4, nc, y8, sc, y8]
          simp only [Option.isSome_some, ybg, lb, ixk, lr, ne, la, mg, y2o, y4, y1t]
          exact r1
end
theorem y1ns (H : Heap) {j : Nat} {o : AO} (h : H[j]? = some o) (n : Nat) (hn : n ≤ 1000000) : mkSC 0 (some j) 1 8 [.nilm] (.int .i64 n) (.int .i64 n) H = some (.ls j (o.gen + 1) 1 0 n, H.set j ⟨o.gen + 1, .arr false false 1 (List.replicate n [.nilm])⟩) := by
  have h1 : (n : Int) * 8 ≤ 2 ^ 47 := by omega
  have h2 : (n : Int) ≤ 2 ^ 62 := by omega
  have z : [AV.nilm].length = 1 ∧ [AV.nilm].all yx = true ∧ (0 : Int) ≤ (n : Int) ∧ (n : Int) ≤ n ∧ (n : Int) * ((8 : Nat) : Int) ≤ 2 ^ 47 ∧ (n : Int) ≤ 2 ^ 62 := ⟨rfl, rfl, by omega, by omega, h1, h2⟩
  rw [mkSC, if_pos z, y2z, place]
  simp only [Nat.zero_add, h, Option.map_some, Int.toNat_natCast, List.length_replicate]
theorem yzi {f : Fn} (w : Wf f) : (List.replicate (lst f.code).length [AV.nilm]).set 0 [.lm 12 1] = tabK (y3x f) := by
  have hl : (y3x f).length = (lst f.code).length := by simp [y3x]
  refine List.ext_getElem? fun j => ?_
  rw [List.getElem?_set]
  have hn := w.n1
  by_cases e : 0 = j
  · subst e
    rw [if_pos rfl, if_pos (by rw [List.length_replicate]; omega), y5d (by omega), rowK, if_pos rfl]
  · rw [if_neg e]
    by_cases hj : j < (lst f.code).length
    · rw [y5d (by omega), rowK, if_neg (fun h => e h.symm), yq6 w, if_neg (fun h => e h.symm), List.getElem?_replicate, if_pos hj]
    · rw [List.getElem?_eq_none (by simpa using hj), List.getElem?_eq_none (by simp [tabK, hl]; omega)]
theorem y1qa {H : Heap} {j : Nat} (h : H[j]? = some D0) : newC 0 (some j) [.nils] H = some (.lp j 1 0 0, H.set j ⟨1, .arr true false 1 [[.nils]]⟩) := by
  simp [h]
theorem y25a {H : Heap} {j : Nat} (h : H[j]? = some D0) : mkmC 0 (some j) H = some (.lm j 1, H.set j (AK 1 [])) := by
  simp [mkmC, place, h]
  rfl
theorem y0y {f : Fn} (w : Wf f) {p g : Nat → Nat} {H : Heap} (D : DSt H f p g 17) (hd : ∀ k, 10 ≤ k → k < 17 → H[k]? = some D0) :
    ∃ H', ysg V1 V2 H = y9o V1 V2 V3 V4 V5 H' ∧ KSt H' f p g (y3x f) [0] := by
  have hn := w.n2
  have hn1 := w.n1
  have hlen := D.len
  have lc := D.ldc
  have hov : ownV (p 2) (g 2) f.code = .ls (p 2) (g 2) 9 0 (lst f.code).length := by
    cases hc : f.code with
    | none => rw [hc] at hn1; simp at hn1
    | some L => rfl
  rw [hov] at lc
  have fa3 : evFa 3 V1 = some (.lp 0 1 0 3) := rfl
  have mk := y1ns H (j := 10) (o := D0) (hd 10 (by omega) (by omega)) (lst f.code).length (by omega)
  have D1 := D.set (a := 10) (x := ⟨D0.gen + 1, .arr false false 1 (List.replicate (lst f.code).length [.nilm])⟩) (by omega)
  have a10 : (H.set 10 ⟨D0.gen + 1, .arr false false 1 (List.replicate (lst f.code).length [.nilm])⟩)[10]? = some ⟨1, .arr false false 1 (List.replicate (lst f.code).length [.nilm])⟩ := y4e (by omega)
  have ad : ∀ k, 11 ≤ k → k < 17 → (H.set 10 ⟨D0.gen + 1, .arr false false 1 (List.replicate (lst f.code).length [.nilm])⟩)[k]? = some D0 := fun k h1 h2 => by rw [y11 (by omega)]; exact hd k (by omega) h2
  generalize H.set 10 ⟨D0.gen + 1, .arr false false 1 (List.replicate (lst f.code).length [.nilm])⟩ = H1 at *
  have n11 := y1qa (ad 11 (by omega) (by omega))
  have hl1 := D1.len
  have s11 := y1le (H := H1.set 11 ⟨1, .arr true false 1 [[.nils]]⟩) (a := 11) (v := .nils) (w := .ls 10 (D0.gen + 1) 1 0 (lst f.code).length) (y4e (by omega)) rfl rfl
  rw [List.set_set] at s11
  have D2 := D1.set (a := 11) (x := ⟨1, .arr true false 1 [[.ls 10 (D0.gen + 1) 1 0 (lst f.code).length]]⟩) (by omega)
  have b10 : (H1.set 11 ⟨1, .arr true false 1 [[.ls 10 (D0.gen + 1) 1 0 (lst f.code).length]]⟩)[10]? = some ⟨1, .arr false false 1 (List.replicate (lst f.code).length [.nilm])⟩ := by rw [y11 (by omega)]; exact a10
  have b11 : (H1.set 11 ⟨1, .arr true false 1 [[.ls 10 (D0.gen + 1) 1 0 (lst f.code).length]]⟩)[11]? = some ⟨1, .arr true false 1 [[.ls 10 1 1 0 (lst f.code).length]]⟩ := y4e (by omega)
  have bd : ∀ k, 12 ≤ k → k < 17 → (H1.set 11 ⟨1, .arr true false 1 [[.ls 10 (D0.gen + 1) 1 0 (lst f.code).length]]⟩)[k]? = some D0 := fun k h1 h2 => by rw [y11 (by omega)]; exact ad k (by omega) h2
  generalize H1.set 11 ⟨1, .arr true false 1 [[.ls 10 (D0.gen + 1) 1 0 (lst f.code).length]]⟩ = H2 at *
  have l11 := yk0 b11
  have hl2 := D2.len
  have m12 := y25a (bd 12 (by omega) (by omega))
  have D3 := D2.set (a := 12) (x := AK 1 []) (by omega)
  have c10 : (H2.set 12 (AK 1 []))[10]? = some ⟨1, .arr false false 1 (List.replicate (lst f.code).length [.nilm])⟩ := by rw [y11 (by omega)]; exact b10
  have c11 : (H2.set 12 (AK 1 []))[11]? = some ⟨1, .arr true false 1 [[.ls 10 1 1 0 (lst f.code).length]]⟩ := by rw [y11 (by omega)]; exact b11
  have c12 : (H2.set 12 (AK 1 []))[12]? = some (AK 1 []) := y4e (by omega)
  have cd : ∀ k, 13 ≤ k → k < 17 → (H2.set 12 (AK 1 []))[k]? = some D0 := fun k h1 h2 => by rw [y11 (by omega)]; exact bd k (by omega) h2
  generalize H2.set 12 (AK 1 []) = H3 at *
  have ix0 := y9z (n := (lst f.code).length) (p := 0) (by omega) (by omega) 10 1 .i64
  rw [show Int.toNat 0 = 0 from rfl] at ix0
  have hrow : (List.replicate (lst f.code).length [AV.nilm])[0]? = some [AV.nilm] := by
    rw [List.getElem?_replicate, if_pos (by omega)]
  have st := y1q1 (v := .lm 12 1) c10 hrow rfl rfl
  rw [yzi w] at st
  have D4 := D3.set (a := 10) (x := ⟨1, .arr false false 1 (tabK (y3x f))⟩) (by omega)
  have hl3 := D3.len
  have d10 : (H3.set 10 ⟨1, .arr false false 1 (tabK (y3x f))⟩)[10]? = some ⟨1, .arr false false 1 (tabK (y3x f))⟩ := y4e (by omega)
  have d11 : (H3.set 10 ⟨1, .arr false false 1 (tabK (y3x f))⟩)[11]? = some ⟨1, .arr true false 1 [[.ls 10 1 1 0 (lst f.code).length]]⟩ := by rw [y11 (by omega)]; exact c11
  have d12 : (H3.set 10 ⟨1, .arr false false 1 (tabK (y3x f))⟩)[12]? = some (AK 1 []) := by rw [y11 (by omega)]; exact c12
  have dd : ∀ k, 13 ≤ k → k < 17 → (H3.set 10 ⟨1, .arr false false 1 (tabK (y3x f))⟩)[k]? = some D0 := fun k h1 h2 => by rw [y11 (by omega)]; exact cd k (by omega) h2
  generalize H3.set 10 ⟨1, .arr false false 1 (tabK (y3x f))⟩ = H4 at *
  have hl4 := D4.len
  have b13 := y1qc (H := H4) (fb := 0) (j := 13) (o := D0) 0 (by rw [Nat.zero_add]; exact dd 13 (by omega) (by omega))
  rw [Nat.zero_add] at b13
  have D5 := D4.set (a := 13) (x := AI (D0.gen + 1) [0]) (by omega)
  have e10 : (H4.set 13 (AI (D0.gen + 1) [0]))[10]? = some ⟨1, .arr false false 1 (tabK (y3x f))⟩ := by rw [y11 (by omega)]; exact d10
  have e11 : (H4.set 13 (AI (D0.gen + 1) [0]))[11]? = some ⟨1, .arr true false 1 [[.ls 10 1 1 0 (lst f.code).length]]⟩ := by rw [y11 (by omega)]; exact d11
  have e12 : (H4.set 13 (AI (D0.gen + 1) [0]))[12]? = some (AK 1 []) := by rw [y11 (by omega)]; exact d12
  have e13 : (H4.set 13 (AI (D0.gen + 1) [0]))[13]? = some (AI 1 [0]) := y4e (by omega)
  have ed : ∀ k, 14 ≤ k → k < 17 → (H4.set 13 (AI (D0.gen + 1) [0]))[k]? = some D0 := fun k h1 h2 => by rw [y11 (by omega)]; exact dd k (by omega) h2
  generalize H4.set 13 (AI (D0.gen + 1) [0]) = H5 at *
  have hl5 := D5.len
  have n14 := y1qa (ed 14 (by omega) (by omega))
  have s14 := y1le (H := H5.set 14 ⟨1, .arr true false 1 [[.nils]]⟩) (a := 14) (v := .nils) (w := .ls 13 (D0.gen + 1) 1 0 1) (y4e (by omega)) rfl rfl
  rw [List.set_set] at s14
  have D6 := D5.set (a := 14) (x := ⟨1, .arr true false 1 [[.ls 13 (D0.gen + 1) 1 0 1]]⟩) (by omega)
  have hT : (y3x f).length = (lst f.code).length := by simp [y3x]
  refine ⟨_, ?_, ⟨D6, by rw [y11 (by omega)]; exact e10, by rw [y11 (by omega), hT]; exact e11, by rw [y11 (by omega)]; exact e12, 1, [], by rw [y11 (by omega)]; exact e13, y4e (by omega)⟩⟩
  rw [ysg, fa3, y4, lc, y4, y53, y4, mk, y8, n11, y8, s11, y8, y1bd, l11, y4, m12, y8, ix0, y4, st, y8, y1g4, b13, y8, n14, y8, s14, y8, y1gh, y4]
theorem y189 (f : Fn) (hf : FnFit f) (hs : FnSm f) (h1 : (lst f.code).length ≤ 400) (h2 : (lst f.regs).length ≤ 100) (hr : (lst f.rows).length ≤ 1000000) :
    (wf f = false → (yb E).p 166 [.agg (enc f)] = some (y1s f)) ∧ (wf f = true → ∃ T, InvK f (T, []) ∧ (yb E).p 166 [.agg (enc f)] = some (y1s (knoF f T))) := by
  have n0 : newC 0 (some 0) (cellsOf (.agg (enc f))) (List.replicate 17 ⟨0, .dead⟩) = some (.lp 0 1 0 0, AB f :: List.replicate 16 D0) := by simp [List.replicate]
  have n1 : newC 0 (some 1) [.nils, .nils, .int .i64 0, .nils, .nils] (AB f :: List.replicate 16 D0) = some (.lp 1 1 0 0, AB f :: ⟨1, .arr true false 5 [[.nils, .nils, .int .i64 0, .nils, .nils]]⟩ :: List.replicate 15 D0) := by simp [List.replicate]
  have l0 : ∀ t : Heap, evLd true 5 (.lp 0 1 0 0) (AB f :: t) = some (.agg (enc f)) := fun t => by simp
  obtain ⟨H1, H2, p, g, e1, e2, D, hl2, hk2⟩ := yy2 hs (H := AB f :: ⟨1, .arr true false 5 [[.nils, .nils, .int .i64 0, .nils, .nils]]⟩ :: List.replicate 15 D0) rfl ⟨_, rfl, rfl⟩ (n := 17) (by omega) (by simp)
  have hck := y1ez f hf
  have c8 := D.call (E := E) (C := yb E) (fb := 0) (sl := none) (k := 8) rfl rfl hck ⟨_, rfl, rfl⟩
  have e24 : (yb E).p 166 [.agg (enc f)] = ym0 V1 V2 H2 := by
    rw [y288]
    show ysr _ (List.replicate 17 ⟨0, .dead⟩) = _
    rw [ysr, n0, y8, n1, y8, y1gl, l0, y4, e1, y8, e2, y8]
  refine ⟨fun hw => ?_, fun hw => ?_⟩
  · rw [hw] at c8
    obtain ⟨H3, o1, o2, o3⟩ := D.out
    have z : y6 .neq (.int .i64 (if false = true then (0 : Int) else 80)) (.int .i64 0) = some (.bool true) := rfl
    rw [e24, ym0, D.ld, y4, c8, y8, z, y4, y1h, D.ld, y4, o1, y8, o2, y4, o3]
  · rw [hw] at c8
    have w := y1hv hw
    obtain ⟨L, hL⟩ : ∃ L, f.code = some L := by
      cases hc : f.code with
      | none => have := w.n1; rw [hc] at this; simp at this
      | some L => exact ⟨L, rfl⟩
    have hlL : lst f.code = L := by rw [hL]; rfl
    obtain ⟨H3, q1, S3⟩ := y0y w D (fun k h1 h2 => by
      rw [hk2 k (by omega)]
      rw [show k = (k - 2) + 2 by omega, List.getElem?_cons_succ, List.getElem?_cons_succ, List.getElem?_replicate, if_pos (by omega)])
    obtain ⟨H4, T, q2, S4, v⟩ := y25i w hr _ H3 (y3x f) [0] (Nat.le_refl _) S3 (y208 w) (yzn h1 h2)
    refine ⟨T, v, ?_⟩
    have hself : y9p f (y5c f T 0) = f := by rw [y1vu, hlL, yhe hL]
    have N0 : NSt H4 (y9p f (y5c f T 0)) p g T := ⟨by rw [hself]; exact S4.d, S4.tab, S4.tbx, S4.m0⟩
    obtain ⟨H8, t1, D8⟩ := y1nb w v _ 0 (Nat.zero_add _) H4 N0
    obtain ⟨H9, o1, o2, o3⟩ := D8.out
    have z : y6 .neq (.int .i64 (if true = true then (0 : Int) else 80)) (.int .i64 0) = some (.bool false) := rfl
    have fa3 : evFa 3 V1 = some (.lp 0 1 0 3) := rfl
    have lc := S4.d.ldc
    have hov : ownV (p 2) (g 2) f.code = .ls (p 2) (g 2) 9 0 (lst f.code).length := by rw [hL]; rfl
    rw [hov] at lc
    have z0 : ((0 : Nat) : Int) = 0 := rfl
    rw [z0] at t1
    rw [e24, ym0, D.ld, y4, c8, y8, z, y4, y1t, q1, q2, y1k9, fa3, y4, lc, y4, y53, y4, t1, y03, D8.ld, y4, o1, y8, o2, y4, o3]
end Go.Vm
