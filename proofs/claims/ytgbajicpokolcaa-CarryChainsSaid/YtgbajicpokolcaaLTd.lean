/- carry.Pass's closure on the machine: facts flow to a place. Which instructions may throw. flow.Next, flow.Caught. carry.Pass on the machine: the rounds of its work. Maps from whole numbers, as lists of pairs: plain Lean. Maps from whole numbers, as lists of pairs. Boxes of an instruction. carry.Pass on the machine: where blocks begin; the clone of the code. What 'Uses' answers. What 'Replace' answers; whether two lists, two instructions are the same. carry.Pass on the machine: what is read of a copy is read of what it is a copy of. carry.Pass on the machine: the code is turned, place by place. slices.Repeat on the machine: copies to a part of a list of one's own. slices.Repeat on the machine: products of two words. slices.Repeat on the machine: a list of -1. flow.Heads: where blocks begin. -/
import Derived.Test.YtgbajicpokolcaaLTc
set_option linter.unusedSimpArgs false
set_option linter.unusedVariables false
set_option linter.unusedSectionVars false
namespace Go.Vm
open Cel
theorem yg6 {H : Heap} {a : Nat} {v : AV} (h : H[a]? = some ⟨1, .arr true false 1 [[v]]⟩) : evLd false 1 (.lp a 1 0 0) H = some v := by
  have hr : yh H a 1 = some (false, 1, [[v]]) := by simp [yh, y32, h]
  rw [y34, hr]
  rfl
theorem y20k {H : Heap} {a : Nat} {v w : AV} (h : H[a]? = some ⟨1, .arr true false 1 [[v]]⟩) (hv : cellsOf w = [w]) (hl : y11 w = true) : evSt 1 (.lp a 1 0 0) w H = some (.tup [], H.set a ⟨1, .arr true false 1 [[w]]⟩) := by
  have hr : yh H a 1 = some (false, 1, [[v]]) := by simp [yh, y32, h]
  rw [y5g, hr]
  simp only [List.getElem?_cons_zero, hv]
  rw [if_pos (by simp [hl]), y1x, h]
  rfl
def rowF (o : Option Fx) : List AV := [slA o]
abbrev tabF (T : FTab) : List (List AV) := T.map rowF
theorem y9s {T : FTab} {i : Nat} (h : i < T.length) : (tabF T)[i]? = some [slA (fAt T i)] := by
  rw [List.getElem?_map, List.getElem?_eq_getElem h]
  unfold fAt
  rw [List.getElem?_eq_getElem h]
  rfl
theorem yo0 (T : FTab) (i : Nat) (o : Option Fx) : (tabF T).set i [slA o] = tabF (T.set i o) := by
  rw [tabF, tabF, List.map_set]
  rfl
structure CSt (H : Heap) (f : Fn) (p g : Nat → Nat) (T : FTab) (W : List Int) : Prop where
  d : DSt H f p g 20
  tab : H[10]? = some ⟨1, .arr false false 1 (tabF T)⟩
  tbx : H[11]? = some ⟨1, .arr true false 1 [[.ls 10 1 1 0 T.length]]⟩
  wk : ∃ gw D, H[13]? = some (AI gw (W ++ D)) ∧ H[14]? = some ⟨1, .arr true false 1 [[.ls 13 gw 1 0 W.length]]⟩
theorem CSt.grow {H : Heap} {f : Fn} {p g : Nat → Nat} {T : FTab} {W : List Int} (S : CSt H f p g T W) (X : Heap) : CSt (H ++ X) f p g T W := by
  obtain ⟨gw, D, w1, w2⟩ := S.wk
  exact ⟨S.d.grow X, yjn S.tab, yjn S.tbx, gw, D, yjn w1, yjn w2⟩
theorem CSt.set {H : Heap} {f : Fn} {p g : Nat → Nat} {T : FTab} {W : List Int} (S : CSt H f p g T W) {a : Nat} {x : AO} (ha : 18 ≤ a ∨ a = 12 ∨ a = 15 ∨ a = 16 ∨ a = 17) : CSt (H.set a x) f p g T W := by
  obtain ⟨gw, D, w1, w2⟩ := S.wk
  exact ⟨S.d.set (by omega), by rw [yn (by omega)]; exact S.tab, by rw [yn (by omega)]; exact S.tbx, gw, D, by rw [yn (by omega)]; exact w1, by rw [yn (by omega)]; exact w2⟩
section
variable {f : Fn} {p g : Nat → Nat} {T : FTab} {W : List Int} {to : Int} (t0 : 0 ≤ to) (t1 : to < T.length) (hb : W.length ≤ 1000000000)
include t0 t1 hb
theorem yzi {H : Heap} (S : CSt H f p g T W) {fb : Nat} (hf : 18 ≤ fb) (h1 : H[fb + 0]? = some D0) (n : Fx) :
    ∃ H', q2_1 fb (.int .i64 to) (.lp 11 1 0 0) (.lp 14 1 0 0) (slA (some n)) H = some (.tup [], H') ∧ CSt H' f p g (T.set to.toNat (some n)) (W ++ [to]) := by
  obtain ⟨gw, D, w1, w2⟩ := S.wk
  have hlt : to.toNat < T.length := by omega
  have l1 := yg6 S.tbx
  have ix := yjo (n := T.length) t0 t1 10 1 .i64
  have hrow := y9s hlt
  have st := y1jh (v := slA (some n)) S.tab hrow rfl rfl
  rw [yo0] at st
  have q13 := w1
  have q14 := w2
  have S1d := S.d.set (a := 10) (x := ⟨1, .arr false false 1 (tabF (T.set to.toNat (some n)))⟩) (by omega)
  have h10 := y4q S.tab
  have h13 := y4q w1
  have h14 := y4q w2
  have h18 := y4q h1
  have m14 : (H.set 10 ⟨1, .arr false false 1 (tabF (T.set to.toNat (some n)))⟩)[14]? = some ⟨1, .arr true false 1 [[.ls 13 gw 1 0 W.length]]⟩ := by rw [yn (by omega)]; exact w2
  have m13 : (H.set 10 ⟨1, .arr false false 1 (tabF (T.set to.toNat (some n)))⟩)[13]? = some (AI gw (W ++ D)) := by rw [yn (by omega)]; exact w1
  have m11 : (H.set 10 ⟨1, .arr false false 1 (tabF (T.set to.toNat (some n)))⟩)[11]? = some ⟨1, .arr true false 1 [[.ls 10 1 1 0 T.length]]⟩ := by rw [yn (by omega)]; exact S.tbx
  have m10 : (H.set 10 ⟨1, .arr false false 1 (tabF (T.set to.toNat (some n)))⟩)[10]? = some ⟨1, .arr false false 1 (tabF (T.set to.toNat (some n)))⟩ := y35 h10
  have mfb : (H.set 10 ⟨1, .arr false false 1 (tabF (T.set to.toNat (some n)))⟩)[fb + 0]? = some D0 := by rw [yn (by omega)]; exact h1
  have hlen : (H.set 10 ⟨1, .arr false false 1 (tabF (T.set to.toNat (some n)))⟩).length = H.length := List.length_set
  generalize H.set 10 ⟨1, .arr false false 1 (tabF (T.set to.toNat (some n)))⟩ = H1 at *
  have l2 := yg6 m14
  have b1 := yxy to mfb
  have S2d := S1d.set (a := fb + 0) (x := AI (D0.gen + 1) [to]) (by omega)
  have n14 : (H1.set (fb + 0) (AI (D0.gen + 1) [to]))[14]? = some ⟨1, .arr true false 1 [[.ls 13 gw 1 0 W.length]]⟩ := by rw [yn (by omega)]; exact m14
  have n13 : (H1.set (fb + 0) (AI (D0.gen + 1) [to]))[13]? = some (AI gw (W ++ D)) := by rw [yn (by omega)]; exact m13
  have n11 : (H1.set (fb + 0) (AI (D0.gen + 1) [to]))[11]? = some ⟨1, .arr true false 1 [[.ls 10 1 1 0 T.length]]⟩ := by rw [yn (by omega)]; exact m11
  have n10 : (H1.set (fb + 0) (AI (D0.gen + 1) [to]))[10]? = some ⟨1, .arr false false 1 (tabF (T.set to.toNat (some n)))⟩ := by rw [yn (by omega)]; exact m10
  have nfb : (H1.set (fb + 0) (AI (D0.gen + 1) [to]))[fb + 0]? = some (AI (D0.gen + 1) [to]) := y35 (by omega)
  generalize H1.set (fb + 0) (AI (D0.gen + 1) [to]) = H2 at *
  have ap : y2y fb (some 1) 1 8 (.ls 13 gw 1 0 W.length) (.ls (fb + 0) (D0.gen + 1) 1 0 1) H2 = some (.ls 13 (gw + 1) 1 0 (W ++ [to]).length, H2.set 13 (AI (gw + 1) (W ++ [to]))) :=
    yun (α := Int) (M := [to]) (yh8 (α := Int) (L := [to]) nfb) n13 (y1mc (by simp; omega))
  have S3d := S2d.set (a := 13) (x := AI (gw + 1) (W ++ [to])) (by omega)
  have k14 : (H2.set 13 (AI (gw + 1) (W ++ [to])))[14]? = some ⟨1, .arr true false 1 [[.ls 13 gw 1 0 W.length]]⟩ := by rw [yn (by omega)]; exact n14
  have k13 : (H2.set 13 (AI (gw + 1) (W ++ [to])))[13]? = some (AI (gw + 1) (W ++ [to])) := y35 (y4q n13)
  have k11 : (H2.set 13 (AI (gw + 1) (W ++ [to])))[11]? = some ⟨1, .arr true false 1 [[.ls 10 1 1 0 T.length]]⟩ := by rw [yn (by omega)]; exact n11
  have k10 : (H2.set 13 (AI (gw + 1) (W ++ [to])))[10]? = some ⟨1, .arr false false 1 (tabF (T.set to.toNat (some n)))⟩ := by rw [yn (by omega)]; exact n10
  generalize H2.set 13 (AI (gw + 1) (W ++ [to])) = H3 at *
  have s14 := y20k (w := .ls 13 (gw + 1) 1 0 (W ++ [to]).length) k14 rfl rfl
  refine ⟨H3.set 14 ⟨1, .arr true false 1 [[.ls 13 (gw + 1) 1 0 (W ++ [to]).length]]⟩, ?_, S3d.set (by omega), ?_, ?_, gw + 1, [], ?_, y35 (y4q k14)⟩
  · rw [q2_1, l1, y2, ix, y2, st, yb, l2, y2, b1, yb, ap, yb, s14, yb]
  · rw [yn (by omega)]; exact k10
  · rw [yn (by omega), List.length_set]; exact k11
  · rw [yn (by omega), List.append_nil]; exact k13
theorem y13f {H : Heap} (S : CSt H f p g T W) {s : Fx} (hs : ∀ t, fAt T to.toNat = some t → t.length = s.length) (hn : s.length ≤ 1000000) :
    ∃ H', yjx E (y5 E) 0 none true (.fn 151 [.lp 11 1 0 0, .lp 14 1 0 0]) [.int .i64 to, slA (some s)] H = some (.tup [], H') ∧ CSt H' f p g (ydu s to (T, W)).1 (ydu s to (T, W)).2 := by
  have e1 : yjx E (y5 E) 0 none true (.fn 151 [.lp 11 1 0 0, .lp 14 1 0 0]) [.int .i64 to, slA (some s)] H = q2_3 H.length (.int .i64 to) (slA (some s)) (.lp 11 1 0 0) (.lp 14 1 0 0) (H ++ yv 2) := by
    rw [yjx]
    show y4 E (y5 E) 0 none true 151 [.int .i64 to, slA (some s), .lp 11 1 0 0, .lp 14 1 0 0] H = _
    rw [y4, if_neg (by simp), x_q2, if_pos rfl]
  rw [e1]
  have S0 := S.grow (yv 2)
  have hfb : 18 ≤ H.length := Nat.le_trans (by omega) S.d.len
  have d1 : (H ++ yv 2)[H.length + 0]? = some D0 := y2nq (by omega)
  generalize H ++ yv 2 = H0 at *
  generalize H.length = fb at *
  have hlt : to.toNat < T.length := by omega
  have l1 := yg6 S0.tbx
  have ix := yjo (n := T.length) t0 t1 10 1 .i64
  have lr := yk3 S0.tab (y9s hlt)
  have fz2 : ∀ (o : Option Fx) (b : Fx), ∃ fr, yo (fz H0 y1d) [slA o, slA (some b)] = some ⟨[slA o, slA (some b)], fr, []⟩ := fun o b => by
    refine ⟨(lst o).isEmpty && ((lst (some b)).isEmpty && true), ?_⟩
    rw [ym, ym, ymh, ymh, yw]
    rfl
  obtain ⟨fr1, hf1⟩ := fz2 (fAt T to.toNat) s
  have hm := y2ln (fAt T to.toNat) s (fun h => by
    obtain ⟨t, ht⟩ := y52 h
    rw [ht]; exact hs t ht) hn
  have cm : y4 E (y5 E) fb none true 155 [slA (fAt T to.toNat), slA (some s)] H0 = some (slA (some (metM (fAt T to.toNat) s)), H0) :=
    yam rfl hf1 (by rw [y6h]; simp) hm ⟨_, yfl _, rfl⟩
  rw [q2_3, l1, y2, ix, y2, lr, y2, cm, yb]
  have hml := yyb hs
  unfold ydu
  simp only
  by_cases h0 : to = 0
  · rw [if_pos (.inl h0)]
    refine ⟨H0, ?_, S0⟩
    rw [q2_2, y2t, y2, decide_eq_true h0]
    simp only [ytf, yln, y2jl, y3m, y2, y25]
  · cases ho : fAt T to.toNat with
    | none =>
      rw [ho] at lr
      rw [if_neg (by rintro (h | h); exact h0 h; cases h)]
      obtain ⟨H', r1, r2⟩ := yzi t0 t1 hb S0 hfb d1 (metM none s)
      refine ⟨H', ?_, r2⟩
      have ne : y4u 1 true (slA (none : Option Fx)) AV.nils = some (.bool false) := rfl
      rw [q2_2, y2t, y2, decide_eq_false h0]
      simp only [yg2, l1, y2, ix, lr, ne, ysf, y2la, y41, y2e]
      exact r1
    | some t =>
      rw [ho] at lr hml
      have ht := hs t ho
      have ne : y4u 1 true (slA (some t)) AV.nils = some (.bool true) := rfl
      obtain ⟨fr2, hf2⟩ := fz2 (some (metM (some t) s)) t
      have heq := y1uj (metM (some t) s) t (by rw [hml, ht]) (by rw [hml]; omega)
      have ce : y4 E (y5 E) fb none true 156 [slA (some (metM (some t) s)), slA (some t)] H0 = some (.bool (decide (metM (some t) s = t)), H0) :=
        yam rfl hf2 rfl heq ⟨_, rfl, rfl⟩
      rw [q2_2, y2t, y2, decide_eq_false h0]
      simp only [yg2, l1, y2, ix, lr, ne, ybm, y2nr, ce, yb, y3m, y41]
      by_cases e : metM (some t) s = t
      · rw [if_pos (.inr (by rw [e])), decide_eq_true e]
        exact ⟨H0, by rw [y25], S0⟩
      · rw [if_neg (by
          rintro (h | h)
          · exact h0 h
          · injection h with h; exact e h.symm), decide_eq_false e]
        obtain ⟨H', r1, r2⟩ := yzi t0 t1 hb S0 hfb d1 (metM (some t) s)
        exact ⟨H', by rw [y2e]; exact r1, r2⟩
end
end Go.Vm
namespace Go.Vm
open Cel
attribute [local simp] y4 y20 yp
@[simp] theorem y2jt (x : Ins) : (y5 E).p 18 [.agg (enc x)] = some ⟨.bool (throws x.op), [], true, [], []⟩ := by
  rw [y2oc]
  rcases ycu x.op with h|h|h|h|h|h|h|h|h|h|h|h|h|h|h|h|h|h|h|h|h|h|h|h|h|h|h|h|h|h|h|h|h|h|h <;> first | (simp [h, throws, calls, y1mt]; done) | (simp [lo_f h, throws, calls, y1mt]; done) | simp [hi_f h, throws, calls, y1mt]
end Go.Vm
namespace Go.Vm
open Cel
attribute [local simp] y4 y20 yp
theorem yqb (a b : Int) : (y5 E).p 46 [.rs 1 [[.int .i64 a]], .int .i64 b] = some ⟨.bool ([a].contains b), [], true, [], []⟩ := by
  have := yb9 (some [a]) b (by simp)
  exact this
theorem y2ia (f : Fn) (i : Int) (hl : (lst f.code).length ≤ 9223372036854775807) : (y5 E).p 81 [.agg (enc f), .int .i64 i] = some (exO (nz (y4r f i))) := by
  rw [y2ly]
  by_cases h0 : i < 0
  · simp [yjs, yjq, yjp, y1r5, y1dj, y191, y15r, h0, y4r, nz]; rfl
  by_cases h1 : ((lst f.code).length : Int) ≤ i
  · simp [yjs, yjq, yjp, y1r5, y1dj, y191, y15r, h0, h1, y4r, nz]; rfl
  have g0 : 0 ≤ i := by omega
  have hx := y3i (f := f) (i := i.toNat) (by omega)
  have k1 := ybd (o := f.code) g0 hx .i64
  have hw := y1a8 g0 (by omega) hl
  have hn : y4r f i = yqm (yk f i.toNat) i := by rw [y4r, if_neg (by omega)]
  rw [hn]
  generalize yk f i.toNat = x at *
  have e : y15r (.agg (enc f)) (.int .i64 i) [⟨0, .dead⟩, ⟨0, .dead⟩, ⟨0, .dead⟩, ⟨0, .dead⟩, ⟨0, .dead⟩, ⟨0, .dead⟩] = yjp (.int .i64 i) (.lp 1 1 0 0) .nils [⟨1, .arr true false 5 [enc f]⟩, ⟨1, .arr true false 9 [enc x]⟩, ⟨0, .dead⟩, ⟨0, .dead⟩, ⟨0, .dead⟩, ⟨0, .dead⟩] := by
    simp [y15r, y191, y1dj, y1r5, h0, h1, k1]
  rw [e, yqm]
  cases he : ends x.op with
  | true =>
    cases hd : leads x.op with
    | false => simp [yjp, yjq, yjs, he, hd, nz]; rfl
    | true =>
      have := yb9 none x.t (by simp)
      simp [yjp, yjq, yjs, he, hd, nz, slA] at this ⊢
      simp [this, yj, yy, y2y, addN]
      exact yeb (by simp)
  | false =>
    cases hd : leads x.op with
    | false =>
      simp [yjp, yjq, yjs, he, hd, hw, yj, yy, y2y]
      exact yeb (by simp)
    | true =>
      have hz : fz [⟨1, .arr true false 5 [enc f]⟩, ⟨1, .arr true false 9 [enc x]⟩, ⟨1, .arr false false 1 [[.int .i64 (i + 1)]]⟩, ⟨1, .arr false false 1 [[.int .i64 (i + 1)]]⟩, ⟨0, .dead⟩, ⟨0, .dead⟩] y1d (.ls 3 1 1 0 1) = some ⟨.rs 1 [[.int .i64 (i + 1)]], true, [3]⟩ := by
        rw [y1z5]; rfl
      generalize hxt : x.t = t at *
      by_cases hc : i + 1 = t
      · subst hc
        simp [yjp, yjq, yjs, he, hd, hw, yj, yy, y2y, hz, yqb, addN, hxt]
        exact yeb (by simp)
      · have hc' : ¬ t = i + 1 := fun h => hc h.symm
        simp [yjp, yjq, yjs, he, hd, hw, yj, yy, y2y, hz, yqb, hc, hc', addN, hxt]
        exact y15w (by simp)
theorem yt2 (f : Fn) (i : Int) (hl : (lst f.rows).length ≤ 10000000000000) : ∀ (d k g : Nat) (L : List Int) (o1 o2 : AO), k + d = (lst f.rows).length → L.length ≤ k →
    yof (.int .i64 i) (y1w Int 3 g L) (slA f.rows) (.int .i64 (lst f.rows).length) (.int .i64 k) [⟨1, .arr true false 5 [enc f]⟩, o1, o2, y2z g D0 L] = some (exO (nz (y44 i ((lst f.rows).drop k) L))) := by
  intro d
  induction d with
  | zero =>
    intro k g L o1 o2 hk _
    have e1 : (lst f.rows).drop k = [] := List.drop_eq_nil_of_le (by omega)
    have hn : ¬ ((k : Int) < ((lst f.rows).length : Int)) := by omega
    have hx := ycc (H := [⟨1, .arr true false 5 [enc f]⟩, o1, o2, y2z g D0 L]) (j := 3) (g := g) (o := D0) (L := L) rfl
    rw [yon, e1]
    simp [yri, ywu, y1mm, hn, y44, hx]
  | succ d ih =>
    intro k g L o1 o2 hk hL
    have hlt : k < (lst f.rows).length := by omega
    have hc : ((k : Int) < ((lst f.rows).length : Int)) := by omega
    have k1 := yo5 (o := f.rows) (i := k) (List.getElem?_eq_getElem hlt) .i64
    rw [yon, List.drop_eq_getElem_cons hlt]
    generalize hr : (lst f.rows)[k] = r at *
    have ih0 := fun g L o1 o2 hL => ih (k + 1) g L o1 o2 (by omega) hL
    push_cast at ih0
    have hw := y21 hlt (by omega)
    have e11 : yri (.int .i64 i) (y1w Int 3 g L) (slA f.rows) (.int .i64 (lst f.rows).length) (.int .i64 k) [⟨1, .arr true false 5 [enc f]⟩, o1, o2, y2z g D0 L] =
        yt7 (.int .i64 i) (y1w Int 3 g L) (.lp 1 (o1.gen + 1) 0 0) (slA f.rows) (.int .i64 (lst f.rows).length) (.int .i64 k) [⟨1, .arr true false 5 [enc f]⟩, ⟨o1.gen + 1, .arr true false 4 [enc r]⟩, o2, y2z g D0 L] := by
      simp [yri, ywu, y240, hc, k1]
    rw [e11]
    generalize (o1.gen + 1) = g1
    by_cases h1 : i < r.f
    · have : ¬ (r.f ≤ i ∧ i < r.t) := by omega
      simp [yt7, y179, h1, hw, y44, this, ih0 g L _ _ (by omega)]
    by_cases h2 : r.t ≤ i
    · have : ¬ (r.f ≤ i ∧ i < r.t) := by omega
      simp [yt7, y179, h1, h2, hw, y44, this, ih0 g L _ _ (by omega)]
    have hin : r.f ≤ i ∧ i < r.t := by omega
    rw [y44, if_pos hin]
    have hz : ∀ o2, fz [⟨1, .arr true false 5 [enc f]⟩, ⟨g1, .arr true false 4 [enc r]⟩, o2, y2z g D0 L] y1d (y1w Int 3 g L) = some ⟨slA (nz L), true, ids1 (y1w Int 3 g L)⟩ := fun o2 => y1w1 rfl
    have hct := yb9 (nz L) r.at_ (by rw [ydk]; omega)
    rw [ydk] at hct
    have tail : ∀ g L o2, L.length ≤ k + 1 → y16j (.int .i64 i) (y1w Int 3 g L) (.lp 1 g1 0 0) (slA f.rows) (.int .i64 (lst f.rows).length) (.int .i64 k) [⟨1, .arr true false 5 [enc f]⟩, ⟨g1, .arr true false 4 [enc r]⟩, o2, y2z g D0 L] =
        some (exO (nz (if r.c = [] then L else y44 i ((lst f.rows).drop (k + 1)) L))) := by
      intro g L o2 hL
      have hx := ycc (H := [⟨1, .arr true false 5 [enc f]⟩, ⟨g1, .arr true false 4 [enc r]⟩, o2, y2z g D0 L]) (j := 3) (g := g) (o := D0) (L := L) rfl
      by_cases hcl : r.c = []
      · simp [y16j, y1mm, hcl, hx]
      · simp [y16j, y179, hcl, hw, ih0 g L _ _ hL]
    unfold addN
    cases hb : L.contains r.at_ with
    | true =>
      rw [hb] at hct
      rw [if_pos rfl]
      have := tail g L o2 (by omega)
      simp [yt7, y1tc, h1, h2, hz, hct, this]
    | false =>
      rw [hb] at hct
      rw [if_neg Bool.false_ne_true]
      obtain ⟨g', ha⟩ := yu9 (H := [⟨1, .arr true false 5 [enc f]⟩, ⟨g1, .arr true false 4 [enc r]⟩, ⟨o2.gen + 1, .arr false false 1 [[.int .i64 r.at_]]⟩, y2z g D0 L]) (fb := 0) (j := 3) (g := g) (o := D0) (y := .ls 2 (o2.gen + 1) 1 0 1) (L := L) (n := r.at_) (by simp) rfl (by omega)
      have ha' : y2y 0 (some 3) 1 8 (y1w Int 3 g L) (.ls 2 (o2.gen + 1) 1 0 1) [⟨1, .arr true false 5 [enc f]⟩, ⟨g1, .arr true false 4 [enc r]⟩, ⟨o2.gen + 1, .arr false false 1 [[.int .i64 r.at_]]⟩, y2z g D0 L] = some (y1w Int 3 g' (L ++ [r.at_]), [⟨1, .arr true false 5 [enc f]⟩, ⟨g1, .arr true false 4 [enc r]⟩, ⟨o2.gen + 1, .arr false false 1 [[.int .i64 r.at_]]⟩, y2z g' D0 (L ++ [r.at_])]) := ha
      have := tail g' (L ++ [r.at_]) ⟨o2.gen + 1, .arr false false 1 [[.int .i64 r.at_]]⟩ (by simp; omega)
      simp [yt7, y1tc, h1, h2, hz, hct, yj, yy, ha', this]
theorem y20b (f : Fn) (i : Int) (hl : (lst f.rows).length ≤ 10000000000000) : (y5 E).p 79 [.agg (enc f), .int .i64 i] = some (exO (nz (y1r f i))) := by
  rw [y2ml]
  by_cases h0 : i < 0
  · simp [ylw, yl3, h0, y1r, nz]; rfl
  by_cases h1 : ((lst f.code).length : Int) ≤ i
  · simp [ylw, yl3, h0, h1, y1r, nz]; rfl
  have g0 : 0 ≤ i := by omega
  have hx := y3i (f := f) (i := i.toNat) (by omega)
  have k1 := ybd (o := f.code) g0 hx .i64
  have hn : y1r f i = if throws (yk f i.toNat).op then y44 i (lst f.rows) [] else [] := by rw [y1r, if_neg (by omega)]
  rw [hn]
  generalize yk f i.toNat = x at *
  have lp := yt2 f i hl _ 0 0 [] D0 D0 (Nat.zero_add _) (Nat.zero_le _)
  simp only [ypr, yoj, List.drop_zero, Int.ofNat_zero] at lp
  cases ht : throws x.op with
  | false => simp [ylw, yl3, h0, h1, k1, ht, nz]; rfl
  | true => simp [ylw, yl3, y1q6, y1nk, h0, h1, k1, ht, lp]
end Go.Vm
namespace Go.Vm
open Cel
abbrev V1 : AV := .lp 0 1 0 0
abbrev V2 : AV := .lp 1 1 0 0
abbrev V3 : AV := .lp 11 1 0 0
abbrev V4 : AV := .lp 14 1 0 0
abbrev V5 : AV := .fn 151 [V3, V4]
section
variable {f : Fn} {p g : Nat → Nat} (hR : (lst f.regs).length ≤ 1000000)
include hR
theorem y2ae {s : Fx} (hs : s.length = (lst f.regs).length) (hk : yaa f s) (l : List Int) (hl : ∀ to ∈ l, 0 ≤ to ∧ to < (lst f.code).length) (hll : l.length ≤ 1000000) :
    ∀ (d k : Nat), k + d = l.length → ∀ (H : Heap) (T : FTab) (W : List Int), CSt H f p g T W → TOk f T → meaF f (T, W) ≤ 1000000000 →
      ∃ H', ypi V1 V2 V3 V4 V5 (slA (some s)) (slA (nz l)) (.int .i64 l.length) (.int .i64 (k : Int)) H = yhz V1 V2 V3 V4 V5 H' ∧ CSt H' f p g (y48 s (l.drop k) (T, W)).1 (y48 s (l.drop k) (T, W)).2 := by
  intro d
  induction d with
  | zero =>
    intro k hkd H T W S hT hm
    have hc : ¬ (k : Int) < (l.length : Int) := by omega
    have e : l.drop k = [] := List.drop_eq_nil_of_le (by omega)
    rw [e, yso, y1yf, yi, y2, decide_eq_false hc, y20j, y2e]
    exact ⟨H, rfl, S⟩
  | succ d ih =>
    intro k hkd H T W S hT hm
    have hlt : k < l.length := by omega
    have hc : (k : Int) < (l.length : Int) := by omega
    have kx := y2b (o := nz l) (i := k) (by rw [ydk]; exact List.getElem?_eq_getElem hlt) .i64
    have hd : l.drop k = l[k] :: l.drop (k + 1) := List.drop_eq_getElem_cons hlt
    have hto := hl l[k] (List.getElem_mem hlt)
    rw [hd]
    generalize l[k] = to at *
    have lx : ∀ H : Heap, evLd false 1 (.rp [.int .i64 to]) H = some (.int .i64 to) := fun H => by simp
    have hTl := hT.len
    have hWb : W.length ≤ 1000000000 := Nat.le_trans (Nat.le_add_left _ _) hm
    obtain ⟨H1, c1, S1⟩ := y13f hto.1 (by rw [hTl]; exact hto.2) hWb S (s := s) (fun t ht => by rw [(hT.rows _ t ht).1, hs]) (by omega)
    obtain ⟨a1, _⟩ := ybg (p := (T, W)) hT hs hk hto.1 hto.2
    have e2 : y48 s (to :: l.drop (k + 1)) (T, W) = y48 s (l.drop (k + 1)) (ydu s to (T, W)) := rfl
    rw [e2]
    have hp := a1.pot
    have hok := a1.ok
    generalize ydu s to (T, W) = q at *
    obtain ⟨T1, W1⟩ := q
    obtain ⟨H2, r1, r2⟩ := ih (k + 1) (by omega) H1 T1 W1 S1 hok (Nat.le_trans hp hm)
    refine ⟨H2, ?_, r2⟩
    rw [yso, y1yf, yi, y2, decide_eq_true hc, y20j, y25, y2ad, kx, y2, lx, y2, c1, yb, y2aw, y5f hlt (by omega), y2]
    exact r1
theorem y28j {t : Fx} {i : Nat} (l : List Int) (hl : ∀ to ∈ l, 0 ≤ to ∧ to < (lst f.code).length) (hll : l.length ≤ 1000000) :
    ∀ (d k : Nat), k + d = l.length → ∀ (H : Heap) (T : FTab) (W : List Int), CSt H f p g T W → TOk f T → fAt T i = some t → meaF f (T, W) ≤ 1000000000 →
      ∃ H', yog V1 V2 V3 V4 V5 (.int .i64 (i : Int)) (slA (nz l)) (.int .i64 l.length) (.int .i64 (k : Int)) H = y1wl V1 V2 V3 V4 V5 (.int .i64 (i : Int)) H' ∧ CSt H' f p g (y48 t (l.drop k) (T, W)).1 (y48 t (l.drop k) (T, W)).2 := by
  intro d
  induction d with
  | zero =>
    intro k hkd H T W S hT hi hm
    have hc : ¬ (k : Int) < (l.length : Int) := by omega
    have e : l.drop k = [] := List.drop_eq_nil_of_le (by omega)
    rw [e, ys0, y1rh, yi, y2, decide_eq_false hc, y1to, y2e]
    exact ⟨H, rfl, S⟩
  | succ d ih =>
    intro k hkd H T W S hT hi hm
    have hlt : k < l.length := by omega
    have hc : (k : Int) < (l.length : Int) := by omega
    have kx := y2b (o := nz l) (i := k) (by rw [ydk]; exact List.getElem?_eq_getElem hlt) .i64
    have hd : l.drop k = l[k] :: l.drop (k + 1) := List.drop_eq_getElem_cons hlt
    have hto := hl l[k] (List.getElem_mem hlt)
    rw [hd]
    generalize l[k] = to at *
    have lx : ∀ H : Heap, evLd false 1 (.rp [.int .i64 to]) H = some (.int .i64 to) := fun H => by simp
    have hTl := hT.len
    have hiT := yvm hi
    have hWb : W.length ≤ 1000000000 := Nat.le_trans (Nat.le_add_left _ _) hm
    obtain ⟨ht1, ht2⟩ := hT.rows i t hi
    have lb := yg6 S.tbx
    have ix := yjo (n := T.length) (p := (i : Int)) (by omega) (by omega) 10 1 .i64
    rw [Int.toNat_natCast] at ix
    have lr := yk3 S.tab (y9s hiT)
    rw [hi] at lr
    obtain ⟨H1, c1, S1⟩ := y13f hto.1 (by rw [hTl]; exact hto.2) hWb S (s := t) (fun t' ht => by rw [(hT.rows _ t' ht).1, ht1]) (by omega)
    obtain ⟨a1, _⟩ := ybg (p := (T, W)) hT ht1 ht2 hto.1 hto.2
    have hse := yla (p := (T, W)) (to := to) hi ⟨hto.1, by rw [hTl]; exact hto.2⟩
    have e2 : y48 t (to :: l.drop (k + 1)) (T, W) = y48 t (l.drop (k + 1)) (ydu t to (T, W)) := rfl
    rw [e2]
    have hp := a1.pot
    have hok := a1.ok
    generalize ydu t to (T, W) = q at *
    obtain ⟨T1, W1⟩ := q
    obtain ⟨H2, r1, r2⟩ := ih (k + 1) (by omega) H1 T1 W1 S1 hok hse (Nat.le_trans hp hm)
    refine ⟨H2, ?_, r2⟩
    rw [ys0, y1rh, yi, y2, decide_eq_true hc, y1to, y25, y2bj, kx, y2, lx, y2, lb, y2, ix, y2, lr, y2, c1, yb, y25d, y5f hlt (by omega), y2]
    exact r1
variable (w : Wf f) (hr : (lst f.rows).length ≤ 1000000)
include w hr
theorem y2dy {i : Nat} {t : Fx} (hi : i < (lst f.code).length) (ht : t.length = (lst f.regs).length) : (y5 E).p 152 [slA (some t), .agg (enc (yk f i))] = some (exO (some (behM t (yk f i)))) := by
  refine y1s8 (yk f i) t (by omega) ?_ fun h4 => ?_
  · by_cases hd : 0 ≤ defr (yk f i)
    · have := w.def hi hd; omega
    · omega
  · have := w.uses hi (u := (yk f i).a) (by simp [uses, h4, calls, reads])
    omega
theorem y1df : ∀ (m : Nat) (H : Heap) (T : FTab) (W : List Int), meaF f (T, W) ≤ m → CSt H f p g T W → InvF f (T, W) → meaF f (T, W) ≤ 1000000000 →
    ∃ H' T', yhz V1 V2 V3 V4 V5 H = y1s1 V1 V2 V3 H' ∧ CSt H' f p g T' [] ∧ InvF f (T', []) := by
  intro m
  induction m with
  | zero =>
    intro H T W hm S v hb
    have hW : W = [] := by
      refine List.eq_nil_of_length_eq_zero ?_
      unfold meaF at hm
      simp only at hm
      omega
    subst hW
    obtain ⟨gw, D, w1, w2⟩ := S.wk
    have l := yg6 w2
    refine ⟨H, T, ?_, S, v⟩
    rw [yhp, y1ck, l, y2, y84, y2, y59, y2, decide_eq_false (by simp), y2e]
  | succ m ih =>
    intro H T W hm S v hb
    by_cases hW : W = []
    · subst hW
      obtain ⟨gw, D, w1, w2⟩ := S.wk
      have l := yg6 w2
      refine ⟨H, T, ?_, S, v⟩
      rw [yhp, y1ck, l, y2, y84, y2, y59, y2, decide_eq_false (by simp), y2e]
    · obtain ⟨W', i, rfl⟩ : ∃ W' i, W = W' ++ [i] := ⟨W.dropLast, W.getLast hW, (List.dropLast_concat_getLast hW).symm⟩
      obtain ⟨gw, D, w1, w2⟩ := S.wk
      obtain ⟨q1, q2⟩ := y1uk w v
      obtain ⟨i0, i1, hn⟩ := v.wk i (by simp)
      obtain ⟨t, ht⟩ := y52 hn
      simp only at ht
      have ei : ((i.toNat : Nat) : Int) = i := by omega
      have hil : i.toNat < (lst f.code).length := by omega
      have hTok := v.ok
      simp only at hTok
      have hWl : (W' ++ [i]).length = W'.length + 1 := by simp
      have hWb : W'.length ≤ 1000000000 := by unfold meaF at hb; simp only [hWl] at hb; omega
      rw [hWl] at w2
      have l1 := yg6 w2
      have gt : y3 .gtr (.int .i64 ((W'.length + 1 : Nat) : Int)) (.int .i64 0) = some (.bool true) := by rw [y59, decide_eq_true (by omega)]
      have sb : y3 .sub (.int .i64 ((W'.length + 1 : Nat) : Int)) (.int .i64 1) = some (.int .i64 (W'.length : Int)) := by
        rw [ygr]
        congr 2
        rw [y1a] <;> omega
      have ix := y2hc 13 gw W'.length
      have hl13 := y23e (α := Int) (H := H) (id := 13) (g := gw) (i := W'.length) (x := i) (v := .int .i64 i) w1 (by simp) rfl
      have sl := y23w 13 gw W'.length
      have st := y20k (w := .ls 13 gw 1 0 W'.length) w2 rfl rfl
      have S1 : CSt (H.set 14 ⟨1, .arr true false 1 [[.ls 13 gw 1 0 W'.length]]⟩) f p g T W' := by
        refine ⟨S.d.set (by omega), by rw [yn (by omega)]; exact S.tab, by rw [yn (by omega)]; exact S.tbx, gw, i :: D, ?_, y35 (y4q w2)⟩
        rw [yn (by omega), w1, List.append_assoc]
        rfl
      generalize H.set 14 ⟨1, .arr true false 1 [[.ls 13 gw 1 0 W'.length]]⟩ = H1 at *
      have hcl : (y1r f i).length ≤ 1000000 := Nat.le_trans (ytu f i) hr
      have hnl : (y4r f i).length ≤ 1000000 := by have := y1nb f i; omega
      have fr : ∀ l : List Int, (exO (nz l)).fresh = true := fun l => by rw [y6h, ydk]; simp
      have c79 := S1.d.call2 (E := E) (C := y5 E) (fb := 0) (sl := none) (k := 79) (i := i) rfl (fr _) (y20b f i (by omega)) ⟨_, yfl _, rfl⟩
      have ln : ∀ (l : List Int) (H : Heap), yt 1 (slA (nz l)) H = some (.int .i64 l.length) := fun l H => by rw [y6o, ydk]
      have hmea1 : meaF f (T, W') ≤ 1000000000 := by unfold meaF at hb ⊢; simp only [hWl] at hb ⊢; omega
      obtain ⟨H2, r1, S2⟩ := y28j hR (t := t) (i := i.toNat) (y1r f i) (fun to h => w.caught h) hcl _ 0 (Nat.zero_add _) H1 T W' S1 hTok ht hmea1
      rw [List.drop_zero] at S2
      obtain ⟨f1, _, f3, f4⟩ := yp0 w (p := (T, W')) hTok hil ht
      rw [ei] at f1 f3 f4 r1
      obtain ⟨ht1, ht2⟩ := hTok.rows _ t ht
      have hA := (y7t ht1 ht2 (y1r f i) (T, W') hTok (fun to h => w.caught h)).1.pot
      have etF : tF T i.toNat = t := by rw [tF, ht]; rfl
      have er : rndF f i.toNat (T, W') = y48 (behM t (yk f i.toNat)) (y4r f i) (y48 t (y1r f i) (T, W')) := by rw [rndF, ei]; simp only [etF]
      rw [er] at q1 q2
      generalize y48 t (y1r f i) (T, W') = q at *
      obtain ⟨T1, W1⟩ := q
      simp only at S2 f3 f4 hA
      have lb := yg6 S2.tbx
      have hT1 := yvm f4
      have ixT := yjo (n := T1.length) (p := i) i0 (by omega) 10 1 .i64
      have lr := yk3 S2.tab (y9s hT1)
      rw [f4] at lr
      obtain ⟨L, hL⟩ : ∃ L, f.code = some L := by
        cases hc : f.code with
        | none => rw [hc] at hil; simp at hil
        | some L => exact ⟨L, rfl⟩
      have lc := S2.d.ldc
      have hov : ownV (p 2) (g 2) f.code = .ls (p 2) (g 2) 9 0 (lst f.code).length := by rw [hL]; rfl
      rw [hov] at lc
      have ixC := yy7 hil (p 2) (g 2) 9 .i64
      rw [ei] at ixC
      have lC := S2.d.ix hL (i := i.toNat) (x := yk f i.toNat) (by have := y3i hil; rwa [hL] at this)
      have hbeh := y2dy hR w hr hil ht1
      have fzB : ∀ H : Heap, yo (fz H y1d) [slA (some t), .agg (enc (yk f i.toNat))] = some ⟨[slA (some t), .agg (enc (yk f i.toNat))], (lst (some t)).isEmpty && (scal (yk f i.toNat) && true), []⟩ := fun H => by
        rw [ym, ym, ymh, y7k, yw]; rfl
      have c152 : ∀ H : Heap, y4 E (y5 E) 0 none true 152 [slA (some t), .agg (enc (yk f i.toNat))] H = some (slA (some (behM t (yk f i.toNat))), H) := fun H =>
        yam rfl (fzB H) (by rw [y6h]; simp) hbeh ⟨_, yfl _, rfl⟩
      have c81 := S2.d.call2 (E := E) (C := y5 E) (fb := 0) (sl := none) (k := 81) (i := i) rfl (fr _) (y2ia f i (by have := w.n2; omega)) ⟨_, yfl _, rfl⟩
      have hmea2 : meaF f (T1, W1) ≤ 1000000000 := by unfold meaF at hmea1 ⊢; simp only at hmea1 hA ⊢; omega
      obtain ⟨H3, r2, S3⟩ := y2ae hR (s := behM t (yk f i.toNat)) (by rw [ybb]; exact ht1) (ynm (w.ins _ hil) ht1 ht2) (y4r f i) (fun to h => by have := w.next hil (to := to) (by rw [ei]; exact h); exact this) hnl _ 0 (Nat.zero_add _) H2 T1 W1 S2 f3 hmea2
      rw [List.drop_zero] at S3
      generalize y48 (behM t (yk f i.toNat)) (y4r f i) (T1, W1) = q2' at *
      obtain ⟨T2, W2⟩ := q2'
      obtain ⟨H4, T', r3, S4, v4⟩ := ih H3 T2 W2 (by omega) S3 q1 (by omega)
      refine ⟨H4, T', ?_, S4, v4⟩
      have z : ((0 : Nat) : Int) = 0 := rfl
      rw [z] at r1 r2
      have fa : evFa 3 V1 = some (.lp 0 1 0 3) := rfl
      rw [yhp, y1ck, l1, y2, y84, y2, gt, y2, y25, y281, l1, y2, y2, y84, y2, sb, y2, ix, y2, hl13, y2, y26z, l1, y2, y2, y84, y2, sb, y2, sl, y2, st, yb,
        y28k, S1.d.ld, y2, c79, yb, ln, y2, r1, y1wl, lb, y2, ixT, y2, lr, y2, fa, y2, lc, y2, ixC, y2, lC, y2, c152, yb, y2bh, S2.d.ld, y2, c81, yb, ln, y2, r2, r3]
end
end Go.Vm
namespace Go.Vm
section
variable {α : Type}
def aset (k : Int) (v : α) : List (Int × α) → List (Int × α)
  | [] => [(k, v)]
  | (k', v') :: r => if k = k' then (k, v) :: r else (k', v') :: aset k v r
def aget (k : Int) : List (Int × α) → Option α
  | [] => none
  | (k', v') :: r => if k = k' then some v' else aget k r
theorem ysd (k j : Int) (v : α) : ∀ l, aget j (aset k v l) = if j = k then some v else aget j l
  | [] => by simp only [aset, aget]
  | (k', v') :: r => by
    rw [aset]
    by_cases h : k = k'
    · subst h
      rw [if_pos rfl, aget, aget]
      by_cases h2 : j = k <;> simp [h2]
    · rw [if_neg h, aget, ysd k j v r, aget]
      by_cases h2 : j = k'
      · have : ¬ j = k := fun e => h (e.symm.trans h2)
        rw [if_pos h2, if_pos h2, if_neg this]
      · rw [if_neg h2, if_neg h2]
end
end Go.Vm
namespace Go.Vm
open Cel
section
variable {α : Type}
variable (vf : α → AV)
def mEnt (l : List (Int × α)) : List (AV × AV) := l.map fun p => (.int .i64 p.1, vf p.2)
theorem ypb (k : Int) : ∀ l : List (Int × α), mfind false [0] (.int .i64 k) (mEnt vf l) = some ((aget k l).map vf)
  | [] => rfl
  | (k', v') :: r => by
    have ih := ypb k r
    simp only [mEnt, List.map_cons, mfind, yqh, Bool.false_eq_true, if_false, y58, if_true, aget] at ih ⊢
    by_cases e : k = k'
    · simp [e]
    · have : (k == k') = false := by simpa using e
      rw [this]
      simp only [if_neg e]
      exact ih
theorem y136 (k : Int) (v : α) : ∀ l : List (Int × α), mset false [0] (.int .i64 k) (vf v) (mEnt vf l) = some (mEnt vf (aset k v l))
  | [] => rfl
  | (k', v') :: r => by
    have ih := y136 k v r
    simp only [mEnt, List.map_cons, mset, yqh, Bool.false_eq_true, if_false, y58, if_true, aset] at ih ⊢
    by_cases e : k = k'
    · simp [e]
    · have : (k == k') = false := by simpa using e
      rw [this]
      simp only [if_neg e, ih, Option.map_some, List.map_cons]
abbrev AM (g : Nat) (l : List (Int × α)) : AO := ⟨g, .map false (mEnt vf l)⟩
variable {vf}
theorem yzd {H : Heap} {id g : Nat} {l : List (Int × α)} (h : H[id]? = some (AM vf g l)) : yc6 H id g = some (false, mEnt vf l) := by
  simp [yc6, y32, h]
theorem y24a {H : Heap} {id g : Nat} {l : List (Int × α)} (h : H[id]? = some (AM vf g l)) (z : AV) (k : Int) : y7f false [0] z false (.lm id g) (.int .i64 k) H = some (((aget k l).map vf).getD z) := by
  simp only [y7f, yzd h, Option.map_some, ypb]
  cases aget k l <;> rfl
theorem y2bp {H : Heap} {id g : Nat} {l : List (Int × α)} (h : H[id]? = some (AM vf g l)) (k : Int) (v : α) : yc0 false [0] (.lm id g) (.int .i64 k) (vf v) H = some (.tup [], H.set id (AM vf g (aset k v l))) := by
  simp only [yc0, yzd h, y136, y8w, h]
variable (vf) in
theorem y2hk {H : Heap} {fb j : Nat} {o : AO} (h : H[fb + j]? = some o) : mkmC fb (some j) H = some (.lm (fb + j) (o.gen + 1), H.set (fb + j) (AM vf (o.gen + 1) [])) := by
  have e : AM vf (o.gen + 1) [] = ⟨o.gen + 1, .map false []⟩ := rfl
  rw [e]
  simp [mkmC, place, h]
end
abbrev vB (b : Bool) : AV := .bool b
end Go.Vm
namespace Go.Vm
open Cel
abbrev y2e2 : List AV := [.int .i64 0, .int .i64 0, .int .i64 0, .int .i64 0, .int .i64 0, .int .i64 0, .int .i64 0, .str [], .nils]
theorem ld_x {H : Heap} {id g k : Nat} {x : Ins} {v : AV} (h : H[id]? = some (AX g x)) (hv : (enc x)[k]? = some v) : evLd false 1 (.lp id g 0 k) H = some v := by
  have hr : yh H id g = some (false, 9, [enc x]) := by simp [yh, y32, h]
  rw [y34, hr]
  simp only [List.getElem?_cons_zero, y7z, List.head?_drop, hv]
theorem y2h4 {H : Heap} {id g : Nat} {x : Ins} (h : H[id]? = some (AX g x)) : evLd true 9 (.lp id g 0 0) H = some (.agg (enc x)) := by
  have hr : yh H id g = some (false, 9, [enc x]) := by simp [yh, y32, h]
  simp [y34, hr]
theorem y2lc {H : Heap} {id g : Nat} {x y : Ins} {v : AV} (h : H[id]? = some (AX g x)) (hv : cellsOf v = enc y) : evSt 9 (.lp id g 0 0) v H = some (.tup [], H.set id (AX g y)) := by
  have hr : yh H id g = some (false, 9, [enc x]) := by simp [yh, y32, h]
  rw [y5g, hr]
  simp only [List.getElem?_cons_zero, hv]
  rw [if_pos ⟨rfl, by rw [yta]; exact Nat.le_refl _, y1tr y⟩, yev (by rw [yta, yta]), y1x, h]
  rfl
theorem st_x {H : Heap} {id g : Nat} {x y : Ins} (h : H[id]? = some (AX g x)) : evSt 9 (.lp id g 0 0) (.agg (enc y)) H = some (.tup [], H.set id (AX g y)) := y2lc h rfl
theorem y2he {H : Heap} {fb j : Nat} {o : AO} (h : H[fb + j]? = some o) : newC fb (some j) y2e2 H = some (.lp (fb + j) (o.gen + 1) 0 0, H.set (fb + j) (AX (o.gen + 1) default)) := by
  simp [h]
  rfl
end Go.Vm
namespace Go.Vm
open Cel
section
variable {f : Fn} {p g : Nat → Nat} {T : FTab} {W : List Int} {gh : Nat}
theorem y1io (hs : List Int) (hl : hs.length ≤ 1000000) : ∀ (d j : Nat) (H : Heap) (m : List (Int × Bool)), j + d = hs.length → (∀ r : Int, aget r m = if r ∈ hs.take j then some true else none) → CSt H f p g T W → H[15]? = some (AM vB gh m) →
    ∃ H' m', (∀ r : Int, aget r m' = if r ∈ hs then some true else none) ∧ yrv V1 V2 V3 (.lm 15 gh) (slA (nz hs)) (.int .i64 hs.length) (.int .i64 j) H = y1z2 V1 V2 V3 (.lm 15 gh) H' ∧ CSt H' f p g T W ∧ H'[15]? = some (AM vB gh m') := by
  intro d
  induction d with
  | zero =>
    intro j H m hd hm S h15
    have hc : ¬ (j : Int) < (hs.length : Int) := by omega
    refine ⟨H, m, by rw [List.take_of_length_le (by omega)] at hm; exact hm, ?_, S, h15⟩
    rw [yqd, y1yq, yi, y2, decide_eq_false hc, y1w2, y2e]
  | succ d ih =>
    intro j H m hd hm S h15
    have hlt : j < hs.length := by omega
    have hc : (j : Int) < (hs.length : Int) := by omega
    have kx := y2b (o := nz hs) (i := j) (by rw [ydk]; exact List.getElem?_eq_getElem hlt) .i64
    have htk : hs.take (j + 1) = hs.take j ++ [hs[j]] := List.take_succ_eq_append_getElem hlt
    generalize hs[j] = u at *
    have lx : ∀ H : Heap, evLd false 1 (.rp [.int .i64 u]) H = some (.int .i64 u) := fun H => by simp
    have mp := y2bp (vf := vB) h15 u true
    obtain ⟨H', m', h1, h2, h3, h4⟩ := ih (j + 1) (H.set 15 (AM vB gh (aset u true m))) (aset u true m) (by omega) (fun r => by
      rw [ysd, htk, hm]
      by_cases e : r = u
      · simp [e]
      · simp [e]) (S.set (by omega)) (y35 (y4q h15))
    refine ⟨H', m', h1, ?_, h3, h4⟩
    rw [yqd, y1yq, yi, y2, decide_eq_true hc, y1w2, y25, y23f, kx, y2, lx, y2, mp, yb, y23k, y5f hlt (by omega), y2]
    exact h2
end
theorem y2gg {H : Heap} {fb : Nat} {o : AO} (h : H[fb + 0]? = some o) : yj fb (some 0) 9 0 y2e2 [] H = some (.ls (fb + 0) (o.gen + 1) 9 0 0, H.set (fb + 0) ⟨o.gen + 1, .arr false false 9 []⟩) := by
  simp only [Nat.add_zero] at h
  simp [yj, yy, y3g, place, h]
theorem y1qq {H : Heap} {L : List Ins} {id g : Nat} {o : AO} (h : H[id]? = some ⟨g, .arr false false 9 (L.map enc)⟩) (h16 : H[16]? = some o) (hid : id ≠ 16) (hl : 16 ≠ H.length) (hL : L.length ≤ 1000000) :
    y4 E (y5 E) 0 (some 16) true 40 [.ls id g 9 0 L.length] H = some (.ls 16 (o.gen + 1 + 1) 9 0 L.length, H.set 16 ⟨o.gen + 1 + 1, .arr false false 9 (L.map enc)⟩) := by
  have e16 : 0 + 16 = 16 := rfl
  rw [y4, if_neg (by simp), y4l]
  simp only [e16]
  rw [if_neg hl]
  have b := y2gg (H := H) (fb := 16) h16
  have ne : y4u 1 false (.ls id g 9 0 L.length) AV.nils = some (.bool false) := rfl
  have r : y33 (H.set 16 ⟨o.gen + 1, .arr false false 9 []⟩) 9 (.ls id g 9 0 L.length) = some (L.map enc) := yh8 (α := Ins) (by rw [yn (fun e => hid e.symm)]; exact h)
  have ap := yun (α := Ins) (H := H.set 16 ⟨o.gen + 1, .arr false false 9 []⟩) (fb := 16) (id := 16) (g := o.gen + 1) (b := 96) (sl := some 1) (L := []) (M := L) (T := []) r (y35 (y4q h16)) (by simp only [List.length_nil]; omega)
  rw [List.set_set, List.nil_append] at ap
  rw [y1v, y1s, ne, y2, y2e, y1u, b, yb]
  have ap' : y2y 16 (some 1) 9 96 (.ls (16 + 0) (o.gen + 1) 9 0 0) (.ls id g 9 0 L.length) (H.set (16 + 0) ⟨o.gen + 1, .arr false false 9 []⟩) = some (.ls 16 (o.gen + 1 + 1) 9 0 L.length, H.set 16 ⟨o.gen + 1 + 1, .arr false false 9 (L.map enc)⟩) := ap
  rw [ap', yb]
end Go.Vm
namespace Go.Vm
open Cel
attribute [local simp] y4 y20 yp
theorem y2f8 (x : Ins) (h : x.op = 4 ∨ x.op = 6 ∨ x.op = 7 ∨ x.op = 8 ∨ x.op = 10 ∨ x.op = 12 ∨ x.op = 15 ∨ x.op = 16 ∨ x.op = 19 ∨ x.op = 21 ∨ x.op = 22 ∨ x.op = 31) : (y5 E).p 10 [.agg (enc x)] = some (exO (uses x)) := by
  rw [yu7]
  rcases h with h|h|h|h|h|h|h|h|h|h|h|h <;> (simp [h, uses, calls, reads, ycl, ydn, ycw, yda, yd8, y9w, ydf, ye1, yd0, y4k, y6r, y3b, y6n, y6k, y6p, yj, yy]; exact y1y (α := Int) (L := [x.a]) (by simp))
theorem y2hy (x : Ins) (h : x.op = 5 ∨ x.op = 9 ∨ x.op = 11 ∨ x.op = 13 ∨ x.op = 17 ∨ x.op = 28) : (y5 E).p 10 [.agg (enc x)] = some (exO (uses x)) := by
  rw [yu7]
  rcases h with h|h|h|h|h|h <;> (simp [h, uses, calls, reads, ycl, ydn, ycw, yda, yd8, y9w, ydf, ye1, yd0, y4k, y6r, y3b, y6n, y6k, y6p, yj, yy]; exact y1y (α := Int) (L := [x.a, x.b]) (by simp))
theorem y2i2 (x : Ins) (h : x.op = 14) : (y5 E).p 10 [.agg (enc x)] = some (exO (uses x)) := by
  rw [yu7]
  simp [h, uses, calls, reads, ycl, ydn, ycw, yda, yd8, y9w, ydf, ye1, yd0, y4k, y6r, y3b, y6n, y6k, y6p, yj, yy]
  exact y1y (α := Int) (L := [x.a, x.b, x.c]) (by simp)
theorem y2ds (x : Ins) (h : x.op = 23 ∨ x.op = 24 ∨ x.op = 25 ∨ x.op = 26) (hl : (lst x.args).length ≤ 17592186043904) : (y5 E).p 10 [.agg (enc x)] = some (exO (uses x)) := by
  rw [yu7]
  have e : uses x = x.args := by rcases h with h|h|h|h <;> simp [h, uses, calls]
  rw [e]
  have hc := y60 x.args hl
  cases ha : x.args with
  | none =>
    rw [ha] at hc
    rcases h with h|h|h|h <;> (simp [h, ycl, ydn, ycw, yda, yd8, y9w, ydf, ye1, yd0, y4k, y6r, y3b, y6n, y6k, y6p, ha, hc, exO, y23, reloc, y8b, y2a]; done)
  | some L =>
    rw [ha] at hc
    rcases h with h|h|h|h <;> (simp [h, ycl, ydn, ycw, yda, yd8, y9w, ydf, ye1, yd0, y4k, y6r, y3b, y6n, y6k, y6p, ha, hc, y23, y5d, okOC, reloc, y8b, y2a, exO]; exact y1y (α := Int) (L := L) (by simp))
theorem y2dt (x : Ins) (h : x.op = 29) : (y5 E).p 10 [.agg (enc x)] = some (exO (uses x)) := by
  rw [yu7]
  by_cases hb : x.b < 0
  · simp [hb, h, uses, calls, reads, ycl, ydn, ycw, yda, yd8, y9w, ydf, ye1, yd0, y4k, y6r, y3b, y6n, y6k, y6p, yj, yy]
    exact y1y (α := Int) (L := [x.a]) (by simp)
  · simp [hb, h, uses, calls, reads, ycl, ydn, ycw, yda, yd8, y9w, ydf, ye1, yd0, y4k, y6r, y3b, y6n, y6k, y6p, yj, yy]
    exact y1y (α := Int) (L := [x.a, x.b]) (by simp)
theorem y2hx (x : Ins) (h : x.op = 30) : (y5 E).p 10 [.agg (enc x)] = some (exO (uses x)) := by
  rw [yu7]
  by_cases hb : 0 ≤ x.a
  · simp [hb, h, uses, calls, reads, ycl, ydn, ycw, yda, yd8, y9w, ydf, ye1, yd0, y4k, y6r, y3b, y6n, y6k, y6p, yj, yy]
    exact y1y (α := Int) (L := [x.a]) (by simp)
  · simp [hb, h, uses, calls, reads, ycl, ydn, ycw, yda, yd8, y9w, ydf, ye1, yd0, y4k, y6r, y3b, y6n, y6k, y6p, yj, yy, exO]
theorem y2fd (x : Ins) (h : x.op = 1 ∨ x.op = 2 ∨ x.op = 3 ∨ x.op = 18 ∨ x.op = 20 ∨ x.op = 27 ∨ x.op = 32 ∨ x.op = 33 ∨ x.op < 1 ∨ 33 < x.op) : (y5 E).p 10 [.agg (enc x)] = some (exO (uses x)) := by
  rw [yu7]
  rcases h with h|h|h|h|h|h|h|h|h|h
  all_goals first | (simp [h, uses, calls, reads, ycl, ydn, ycw, yda, yd8, y9w, ydf, ye1, yd0, y4k, y6r, y3b, y6n, y6k, y6p, exO]; done) | (simp [lo_f h, uses, calls, reads, ycl, ydn, ycw, yda, yd8, y9w, ydf, ye1, yd0, y4k, y6r, y3b, y6n, y6k, y6p, exO]; done) | simp [hi_f h, uses, calls, reads, ycl, ydn, ycw, yda, yd8, y9w, ydf, ye1, yd0, y4k, y6r, y3b, y6n, y6k, y6p, exO]
theorem yf7 (x : Ins) (hl : (lst x.args).length ≤ 17592186043904) : (y5 E).p 10 [.agg (enc x)] = some (exO (uses x)) := by
  by_cases h1 : x.op = 4 ∨ x.op = 6 ∨ x.op = 7 ∨ x.op = 8 ∨ x.op = 10 ∨ x.op = 12 ∨ x.op = 15 ∨ x.op = 16 ∨ x.op = 19 ∨ x.op = 21 ∨ x.op = 22 ∨ x.op = 31
  · exact y2f8 x h1
  by_cases h2 : x.op = 5 ∨ x.op = 9 ∨ x.op = 11 ∨ x.op = 13 ∨ x.op = 17 ∨ x.op = 28
  · exact y2hy x h2
  by_cases h4 : x.op = 23 ∨ x.op = 24 ∨ x.op = 25 ∨ x.op = 26
  · exact y2ds x h4 hl
  by_cases h5 : x.op = 29
  · exact y2dt x h5
  by_cases h6 : x.op = 30
  · exact y2hx x h6
  by_cases h3 : x.op = 14
  · exact y2i2 x h3
  exact y2fd x (by omega)
end Go.Vm
namespace Go.Vm
open Cel
attribute [local simp] y4 y20 yp
set_option maxHeartbeats 1000000 in
theorem y19z (x : Ins) (l : Option (List Int)) (hc : calls x.op = true) (hn : (lst (uses x)).length = (lst l).length) (hx : (lst x.args).length ≤ 17592186043904) (hl : (lst l).length ≤ 17592186043904) :
    ∃ r, (y5 E).p 27 [.agg (enc x), slA l] = some r ∧ ytl r (.agg (enc (repl x l))) := by
  have e : repl x l = { x with args := l } := by simp [repl, hn, hc]
  have h1 := y60 l hl
  rw [e, y24t]
  cases l with
  | none =>
    refine ⟨⟨.agg (enc { x with args := none }), [], scal { x with args := none }, [], []⟩, ?_, ⟨_, y7k _ _, rfl⟩⟩
    simp [yju, yjl, yjj, yn1, ymf, ynl, ymk, ymz, yf7 x hx, hn, hc, h1]
  | some L =>
    refine ⟨⟨.agg (y7h x (.ls 0 0 1 0 L.length)), [.arr false false 1 (L.map enc)], true, [], []⟩, ?_, y1d4 x [.arr false false 1 (L.map enc)] rfl⟩
    simp only [y3j] at hn
    simp [yju, yjl, yjj, yn1, ymf, ynl, ymk, ymz, yf7 x hx, hn, hc, h1]
    exact yr7 x (by simp)
set_option maxHeartbeats 2000000 in
theorem y1pq (x : Ins) (l : Option (List Int)) (hx : (lst x.args).length ≤ 17592186043904) (hl : (lst l).length ≤ 17592186043904) :
    ∃ r, (y5 E).p 27 [.agg (enc x), slA l] = some r ∧ ytl r (.agg (enc (repl x l))) := by
  by_cases hn : (lst (uses x)).length = (lst l).length
  · by_cases hc : calls x.op = true
    · exact y19z x l hc hn hx hl
    · have hc' : calls x.op = false := by simpa using hc
      refine ⟨⟨.agg (enc (repl x l)), [], scal (repl x l), [], []⟩, ?_, ⟨_, y7k _ _, rfl⟩⟩
      have h3 := yy8 hc'
      rw [hn] at h3
      rw [y24t]
      match hL : lst l, h3 with
      | [], _ => rw [hL] at hn; simp [yju, yjl, yjj, yn1, ymf, ynl, ymk, ymz, yf7 x hx, hn, hc', hL, repl, y4b]
      | [a], _ => 
        rw [hL] at hn
        have e0 := y2b (o := l) (i := 0) (x := a) (by rw [hL]; rfl) .i64
        simp [yju, yjl, yjj, yn1, ymf, ynl, ymk, ymz, yf7 x hx, hn, hc', hL, repl, y4b, show yg 1 (slA l) (.int .i64 0) = _ from e0]
      | [a, b], _ =>
        rw [hL] at hn
        have e0 := y2b (o := l) (i := 0) (x := a) (by rw [hL]; rfl) .i64
        have e1 := y2b (o := l) (i := 1) (x := b) (by rw [hL]; rfl) .i64
        simp [yju, yjl, yjj, yn1, ymf, ynl, ymk, ymz, yf7 x hx, hn, hc', hL, repl, y4b, show yg 1 (slA l) (.int .i64 0) = _ from e0, show yg 1 (slA l) (.int .i64 1) = _ from e1]
      | [a, b, c], _ =>
        rw [hL] at hn
        have e0 := y2b (o := l) (i := 0) (x := a) (by rw [hL]; rfl) .i64
        have e1 := y2b (o := l) (i := 1) (x := b) (by rw [hL]; rfl) .i64
        have e2 := y2b (o := l) (i := 2) (x := c) (by rw [hL]; rfl) .i64
        simp [yju, yjl, yjj, yn1, ymf, ynl, ymk, ymz, yf7 x hx, hn, hc', hL, repl, y4b, show yg 1 (slA l) (.int .i64 0) = _ from e0, show yg 1 (slA l) (.int .i64 1) = _ from e1, show yg 1 (slA l) (.int .i64 2) = _ from e2]
      | _ :: _ :: _ :: _ :: _, h => simp only [List.length_cons] at h; omega
  · refine ⟨⟨.agg (enc x), [], scal x, [], []⟩, ?_, ⟨_, y7k _ _, by rw [repl, if_pos hn]⟩⟩
    have hn' : ¬ ((lst (uses x)).length : Int) = ((lst l).length : Int) := by omega
    rw [y24t]
    simp [yju, yjl, yjj, yn1, ymf, ynl, ymk, ymz, yf7 x hx, hn']
end Go.Vm
namespace Go.Vm
open Cel
def mapK (σ : Int → Int) (k : Nat) (M : List Int) : List Int := (M.take k).map σ ++ M.drop k
theorem y2do (σ : Int → Int) (M : List Int) : mapK σ 0 M = M := by simp [mapK]
theorem y1vi (σ : Int → Int) (M : List Int) : mapK σ M.length M = M.map σ := by simp [mapK]
theorem yzw (σ : Int → Int) (k : Nat) (M : List Int) : (mapK σ k M).length = M.length := by
  simp only [mapK, List.length_append, List.length_map, List.length_take, List.length_drop]; omega
theorem y2af {σ : Int → Int} {k : Nat} {M : List Int} (hk : k < M.length) : (mapK σ k M)[k]? = some M[k] := by
  have hl : ((M.take k).map σ).length = k := by simp; omega
  rw [mapK, List.getElem?_append_right (by omega), hl, Nat.sub_self]
  simp [hk]
theorem y19s {σ : Int → Int} {k : Nat} {M : List Int} (hk : k < M.length) : mapK σ (k + 1) M = (mapK σ k M).set k (σ M[k]) := by
  have hl : ((M.take k).map σ).length = k := by simp; omega
  have hs : ((M.take (k + 1)).map σ).length = k + 1 := by simp; omega
  refine List.ext_getElem? fun i => ?_
  rw [List.getElem?_set]
  by_cases e : k = i
  · subst e
    rw [if_pos rfl, if_pos (by rw [yzw]; exact hk), mapK, List.getElem?_append_left (by omega)]
    simp [hk]
  · rw [if_neg e]
    by_cases hi : i < k
    · rw [mapK, mapK, List.getElem?_append_left (by omega), List.getElem?_append_left (by omega)]
      simp only [List.getElem?_map, List.getElem?_take]
      rw [if_pos (by omega), if_pos hi]
    · rw [mapK, mapK, List.getElem?_append_right (by omega), List.getElem?_append_right (by omega), hs, hl, List.getElem?_drop, List.getElem?_drop]
      congr 1; omega
structure RSt (H : Heap) (F : Fn) (p g : Nat → Nat) (Tm : FTab) (hm : List (Int × Bool)) (gh gk : Nat) (L0 : List Ins) : Prop where
  d : DSt H F p g 20
  tab : H[10]? = some ⟨1, .arr false false 1 (tabF Tm)⟩
  tbx : H[11]? = some ⟨1, .arr true false 1 [[.ls 10 1 1 0 Tm.length]]⟩
  hm : H[15]? = some (AM vB gh hm)
  cl : H[16]? = some ⟨gk, .arr false false 9 (L0.map enc)⟩
theorem RSt.set {H : Heap} {F : Fn} {p g : Nat → Nat} {Tm : FTab} {hm : List (Int × Bool)} {gh gk : Nat} {L0 : List Ins} (S : RSt H F p g Tm hm gh gk L0) {a : Nat} {x : AO} (ha : 17 ≤ a) : RSt (H.set a x) F p g Tm hm gh gk L0 :=
  ⟨S.d.set (by omega), by rw [yn (by omega)]; exact S.tab, by rw [yn (by omega)]; exact S.tbx, by rw [yn (by omega)]; exact S.hm, by rw [yn (by omega)]; exact S.cl⟩
theorem RSt.row {H : Heap} {F : Fn} {p g : Nat → Nat} {Tm : FTab} {hm : List (Int × Bool)} {gh gk : Nat} {L0 : List Ins} (S : RSt H F p g Tm hm gh gk L0) {i : Nat} (s : Option Fx) : RSt (H.set 10 ⟨1, .arr false false 1 (tabF (Tm.set i s))⟩) F p g (Tm.set i s) hm gh gk L0 :=
  ⟨S.d.set (by omega), y35 (y4q S.tab), by rw [yn (by omega), List.length_set]; exact S.tbx, by rw [yn (by omega)]; exact S.hm, by rw [yn (by omega)]; exact S.cl⟩
theorem RSt.code {H : Heap} {F : Fn} {p g : Nat → Nat} {Tm : FTab} {hm : List (Int × Bool)} {gh gk : Nat} {L0 L L' : List Ins} (S : RSt H F p g Tm hm gh gk L0) (hL : F.code = some L) (hl : L.length = L'.length) :
    RSt (H.set (p 2) ⟨g 2, .arr false false 9 (L'.map enc)⟩) (y70 F L') p g Tm hm gh gk L0 := by
  have h2 := S.d.lo 2 (by omega) (by simp [hasL, hL])
  exact ⟨S.d.setCode hL hl, by rw [yn (by omega)]; exact S.tab, by rw [yn (by omega)]; exact S.tbx, by rw [yn (by omega)]; exact S.hm, by rw [yn (by omega)]; exact S.cl⟩
section
variable {F : Fn} {p g : Nat → Nat} {Tm : FTab} {hm : List (Int × Bool)} {gh gk : Nat} {L0 : List Ins}
theorem y1va {s : Fx} {k : Nat} (hk : fAt Tm k = some s) {M : List Int} (hM : ∀ u ∈ M, 0 ≤ u ∧ u < s.length) (hn : M.length ≤ 9223372036854775806) {g19 : Nat} (v12 v15 v17 v107 v108 v109 : AV) :
    ∀ (d j : Nat) (H : Heap), j + d = M.length → RSt H F p g Tm hm gh gk L0 → H[19]? = some (AI g19 (mapK (subC s) j M)) →
    ∃ H', y1li V1 V2 V3 v12 v15 (.int .i64 (k : Int)) v17 (.ls 19 g19 1 0 M.length) v107 v108 v109 (.ls 19 g19 1 0 M.length) (.int .i64 M.length) (.int .i64 (j : Int)) H = q1_4 V1 V2 V3 v12 v15 (.int .i64 (k : Int)) v17 (.ls 19 g19 1 0 M.length) v107 v108 v109 H' ∧
      RSt H' F p g Tm hm gh gk L0 ∧ H'[19]? = some (AI g19 (M.map (subC s))) ∧ H'[18]? = H[18]? := by
  intro d
  induction d with
  | zero =>
    intro j H hd S h19
    have hc : ¬ (j : Int) < (M.length : Int) := by omega
    have : j = M.length := by omega
    subst this
    rw [y1vi] at h19
    refine ⟨H, ?_, S, h19, rfl⟩
    rw [ymg, q1_9, yi, y2, decide_eq_false hc, q1_8, y2e]
  | succ d ih =>
    intro j H hd S h19
    have hlt : j < M.length := by omega
    have hc : (j : Int) < (M.length : Int) := by omega
    have hl := yzw (subC s) j M
    have hat := y2af (σ := subC s) hlt
    have hsu := y19s (σ := subC s) hlt
    have hu := hM M[j] (List.getElem_mem hlt)
    have l19 := y23e (α := Int) (v := .int .i64 M[j]) h19 hat rfl
    have ix19 := ym7 (id := 19) (g := g19) hlt
    generalize M[j] = u at *
    have hkT := yvm hk
    have lb := yg6 S.tbx
    have ixk := yjo (n := Tm.length) (p := (k : Int)) (by omega) (by omega) 10 1 .i64
    rw [Int.toNat_natCast] at ixk
    have lr := yk3 S.tab (y9s hkT)
    rw [hk] at lr
    have hut : u.toNat < s.length := by omega
    have xs := yns (o := some s) (n := u) hu.1 (List.getElem?_eq_getElem hut) .i64
    have hg : s.getD u.toNat (-1) = s[u.toNat] := by rw [List.getD_eq_getElem?_getD, List.getElem?_eq_getElem hut]; rfl
    have hσ : subC s u = if 0 ≤ s[u.toNat] then s[u.toNat] else u := by rw [subC, hg]
    generalize s[u.toNat] = q at *
    have lq : ∀ H : Heap, evLd false 1 (.rp [.int .i64 q]) H = some (.int .i64 q) := fun H => by simp
    rw [ymg, q1_9, yi, y2, decide_eq_true hc, q1_8, y25, q1_7]
    by_cases h0 : 0 ≤ q
    · rw [if_pos h0] at hσ
      rw [hσ] at hsu
      have st := yna (α := Int) (H := H) (id := 19) (g := g19) (i := j) (L := mapK (subC s) j M) (v := .int .i64 q) (y := q) h19 (by rw [hl]; exact hlt) rfl
      rw [← hsu] at st
      simp only [y1a6] at st
      obtain ⟨H', r1, r2, r3, r4⟩ := ih (j + 1) (H.set 19 (AI g19 (mapK (subC s) (j + 1) M))) (by omega) (S.set (by omega)) (y35 (y4q h19))
      refine ⟨H', ?_, r2, r3, by rw [r4, yn (by omega)]⟩
      rw [ix19, y2, l19, y2, lb, y2, ixk, y2, lr, y2, xs, y2, lq, y2, y7e, y2, decide_eq_true h0, y25, y2, ixk, y2, lr, y2, xs, y2, lq, y2, y2, st, yb, q1_6, y5f hlt (by omega), y2]
      exact r1
    · rw [if_neg h0] at hσ
      rw [hσ] at hsu
      have hsame : mapK (subC s) (j + 1) M = mapK (subC s) j M := by
        rw [hsu]
        refine List.ext_getElem? fun i => ?_
        rw [List.getElem?_set]
        by_cases e : j = i
        · subst e; rw [if_pos rfl, if_pos (by rw [hl]; exact hlt), hat]
        · rw [if_neg e]
      obtain ⟨H', r1, r2, r3, r4⟩ := ih (j + 1) H (by omega) S (by rw [hsame]; exact h19)
      refine ⟨H', ?_, r2, r3, r4⟩
      rw [ix19, y2, l19, y2, lb, y2, ixk, y2, lr, y2, xs, y2, lq, y2, y7e, y2, decide_eq_false h0, y2e, q1_6, y5f hlt (by omega), y2]
      exact r1
end
theorem y1kc {H : Heap} {x : Ins} {g19 : Nat} {o : Option (List Int)} (h19 : ∀ L, o = some L → H[19]? = some (AI g19 L)) (hx : (lst x.args).length ≤ 17592186043904) (hl : (lst o).length ≤ 17592186043904) :
    ∃ H' ids ids', y4 E (y5 E) 0 none true 27 [.agg (enc x), ownV 19 g19 o] H = some (.agg (enc (repl x o)), H') ∧ (H' = H ∨ ∃ c, H' = H.set 19 c) ∧
      y38 E (y5 E) 0 none true 27 [.agg (enc x), ownV 19 g19 o] H = some (ids, ids') ∧ 0 ∉ ids' := by
  obtain ⟨r, hr, q, hq, hv⟩ := y1pq x o hx hl
  have hz : fz H y1d (ownV 19 g19 o) = some ⟨slA o, (lst o).all scal, ownI 19 o⟩ := yj3 (α := Int) (k := 10) (fun L e => h19 L e)
  have ha : yo (fz H y1d) [.agg (enc x), ownV 19 g19 o] = some ⟨[.agg (enc x), slA o], scal x && ((lst o).all scal && true), ownI 19 o⟩ := by
    rw [ym, ym, y7k, hz, yw]
    simp
  have hp : E.pure 27 = true := rfl
  have n0 : 0 ∉ ownI 19 o := by cases o <;> simp [ownI]
  by_cases hf : (r.fresh || (ownI 19 o).isEmpty) = true
  · refine ⟨H, ownI 19 o, [], ?_, .inl rfl, ?_, by simp⟩
    · simp [y4, y20, ha, hr, hf, hq, hv]
    · simp [y38, ha, hr, hf]
  · have hf' : (r.fresh || (ownI 19 o).isEmpty) = false := by simpa using hf
    refine ⟨y13 (ownI 19 o) H, ownI 19 o, ownI 19 o, ?_, ?_, ?_, n0⟩
    · simp [y4, y20, ha, hr, hf', hq, hv]
    · cases o with
      | none => simp [ownI] at hf'
      | some L =>
        right
        have h := h19 L rfl
        simp only [ownI, y13, h]
        exact ⟨_, rfl⟩
    · simp [y38, ha, hr, hf']
end Go.Vm
namespace Go.Vm
open Cel
def y5e (f : Fn) (T : FTab) (k : Nat) : List Ins := (List.range (lst f.code).length).map fun j => if j < k then carI f T j else yk f j
def y9n (f : Fn) (T : FTab) (k j : Nat) : Option Fx := if j < k ∧ fAt T j ≠ none then some (rowC f T j) else fAt T j
theorem ye2 (f : Fn) (T : FTab) (k : Nat) : (y5e f T k).length = (lst f.code).length := by simp [y5e]
theorem y28g (f : Fn) (T : FTab) : y5e f T 0 = lst f.code := by
  refine List.ext_getElem? fun i => ?_
  unfold y5e
  rw [List.getElem?_map]
  by_cases h : i < (lst f.code).length
  · rw [List.getElem?_range h, y3i h]; rfl
  · rw [List.getElem?_eq_none (by simpa using h), List.getElem?_eq_none (by omega)]; rfl
theorem y1qg (f : Fn) (T : FTab) : y5e f T (lst f.code).length = carL f T := by
  refine List.map_congr_left fun i hi => ?_
  rw [List.mem_range] at hi
  rw [if_pos hi]
theorem y1bb (f : Fn) (T : FTab) (k : Nat) : (y5e f T k).set k (carI f T k) = y5e f T (k + 1) := by
  unfold y5e
  refine y15n ?_ fun j hj => ?_
  · rw [if_pos (by omega)]
  · by_cases h : j < k
    · rw [if_pos h, if_pos (by omega)]
    · rw [if_neg h, if_neg (by omega)]
theorem y184 {f : Fn} {T : FTab} {k : Nat} (h : fAt T k = none) : y5e f T (k + 1) = y5e f T k := by
  refine List.map_congr_left fun j hj => ?_
  by_cases e : j = k
  · subst e
    rw [if_pos (by omega), if_neg (by omega), carI, if_pos h]
  · by_cases h : j < k
    · rw [if_pos h, if_pos (by omega)]
    · rw [if_neg h, if_neg (by omega)]
section
variable {f : Fn} (w : Wf f) {T : FTab} (v : InvF f (T, [])) (hR : (lst f.regs).length ≤ 1000000) (hr : (lst f.rows).length ≤ 1000000) (hA : ∀ x ∈ lst f.code, (lst x.args).length ≤ 17592186043904)
  {p g : Nat → Nat} {hm : List (Int × Bool)} {gh gk : Nat} (hh : ∀ i : Int, aget i hm = if i ∈ y5q f then some true else none)
include w v hR hr hA hh
theorem yqy {i : Nat} (hi : i < (lst f.code).length) : (i : Int) ∈ y5q f ↔ y3w f i = true := by
  have key : ∀ n : Nat, (i : Int) ∈ y4i f n ↔ i < n ∧ y3w f i = true := by
    intro n
    induction n with
    | zero => simp [y4i]
    | succ n ih =>
      rw [y4i, List.mem_append, ih]
      constructor
      · rintro (⟨h1, h2⟩ | h)
        · exact ⟨by omega, h2⟩
        · split at h
          · rename_i hn
            rw [List.mem_singleton] at h
            have : i = n := by omega
            subst this
            exact ⟨by omega, hn⟩
          · cases h
      · rintro ⟨h1, h2⟩
        by_cases e : i = n
        · subst e; right; rw [if_pos h2]; simp
        · exact .inl ⟨by omega, h2⟩
  rw [y5q, key]
  exact ⟨fun h => h.2, fun h => ⟨hi, h⟩⟩
theorem y27r {k : Nat} (hk : k < (lst f.code).length) {H : Heap} {Tm : FTab} (S : RSt H (y70 f (y5e f T k)) p g Tm hm gh gk (lst f.code)) (hTl : Tm.length = (lst f.code).length) (hT : ∀ j, fAt Tm j = y9n f T k j)
    (hn : fAt T k ≠ none) (v17 v107 v108 v109 : AV) :
    ∃ H' Tm', y172 V1 V2 V3 (.lm 15 gh) (.ls 16 gk 9 0 (lst f.code).length) (.int .i64 (k : Int)) v17 v107 v108 v109 H = y1l4 V1 V2 V3 (.lm 15 gh) (.ls 16 gk 9 0 (lst f.code).length) (.int .i64 (k : Int)) v17 v107 v108 v109 H' ∧
      RSt H' (y70 f (y5e f T k)) p g Tm' hm gh gk (lst f.code) ∧ Tm'.length = (lst f.code).length ∧ (∀ j, fAt Tm' j = y9n f T (k + 1) j) ∧ H'[18]? = H[18]? := by
  have mg := y24a (vf := vB) S.hm (.bool false) (k : Int)
  rw [hh] at mg
  have hrow : y9n f T (k + 1) k = some (rowC f T k) := by rw [y9n, if_pos ⟨by omega, hn⟩]
  have hoth : ∀ j, j ≠ k → y9n f T (k + 1) j = y9n f T k j := fun j hj => by
    unfold y9n
    by_cases e : j < k
    · by_cases e2 : fAt T j = none
      · rw [if_neg (fun h => h.2 e2), if_neg (fun h => h.2 e2)]
      · rw [if_pos ⟨by omega, e2⟩, if_pos ⟨e, e2⟩]
    · rw [if_neg (fun h => e (by omega)), if_neg (fun h => e h.1)]
  have hkk : y9n f T k k = fAt T k := by rw [y9n, if_neg (fun h => by omega)]
  cases hd : y3w f k with
  | true =>
    have hmem : (k : Int) ∈ y5q f := (yqy w v hR hr hA hh hk).2 hd
    rw [if_pos hmem] at mg
    have mg' : y7f false [0] (.bool false) false (.lm 15 gh) (.int .i64 (k : Int)) H = some (.bool true) := mg
    refine ⟨H, Tm, ?_, S, hTl, fun j => ?_, rfl⟩
    · rw [y172, mg', y2, y4f, y2, Bool.not_true, y2e]
    · by_cases e : j = k
      · subst e
        rw [hT, hrow, hkk]
        obtain ⟨t, ht⟩ := y52 hn
        have e1 : tF T j = t := by rw [tF, ht]; rfl
        rw [ht]
        cases j with
        | zero => rw [rowC, e1]
        | succ i => rw [rowC, if_pos hd, e1]
      · rw [hT, hoth j e]
  | false =>
    have hmem : ¬ (k : Int) ∈ y5q f := fun h => by rw [(yqy w v hR hr hA hh hk).1 h] at hd; cases hd
    rw [if_neg hmem] at mg
    have mg' : y7f false [0] (.bool false) false (.lm 15 gh) (.int .i64 (k : Int)) H = some (.bool false) := mg
    have k0 : k ≠ 0 := fun e => by rw [y1uv e] at hd; cases hd
    obtain ⟨i, rfl⟩ : ∃ i, k = i + 1 := ⟨k - 1, by omega⟩
    have ha := ym9 w v hn hd
    obtain ⟨r1, r2⟩ := ye7 w v i ha
    have hTi : fAt Tm i = some (rowC f T i) := by rw [hT, y9n, if_pos ⟨by omega, ha⟩]
    have hTk := hT (i + 1)
    rw [hkk] at hTk
    have hro : rowC f T (i + 1) = behM (rowC f T i) (yk f i) := by rw [rowC, if_neg (by rw [hd]; simp)]
    have lb := yg6 S.tbx
    have sb : y3 .sub (.int .i64 ((i + 1 : Nat) : Int)) (.int .i64 1) = some (.int .i64 (i : Int)) := by
      rw [ygr]
      congr 2
      have := w.n2
      rw [y1a] <;> omega
    have ixi := yjo (n := Tm.length) (p := (i : Int)) (by omega) (by omega) 10 1 .i64
    have ixk := yjo (n := Tm.length) (p := ((i + 1 : Nat) : Int)) (by omega) (by omega) 10 1 .i64
    rw [Int.toNat_natCast] at ixi ixk
    have li := yk3 S.tab (y9s (T := Tm) (i := i) (by omega))
    rw [hTi] at li
    have hil : i < (lst f.code).length := by omega
    have ixc := yy7 hil 16 gk 9 .i64
    have lc := y1q5 S.cl (y3i hil)
    have hbeh := y2dy hR w hr hil r1
    have ha2 : yo (fz H y1d) [slA (some (rowC f T i)), .agg (enc (yk f i))] = some ⟨[slA (some (rowC f T i)), .agg (enc (yk f i))], (lst (some (rowC f T i))).isEmpty && (scal (yk f i) && true), []⟩ := by
      rw [ym, ym, ymh, y7k, yw]; rfl
    have c152 := yam (E := E) (C := y5 E) (fb := 0) (f := 152) rfl ha2 (by rw [y6h]; simp) hbeh ⟨_, yfl _, rfl⟩
    have f152 := y13s (E := E) (C := y5 E) (fb := 0) (f := 152) rfl ha2 rfl hbeh
    have hrk := y9s (T := Tm) (i := i + 1) (by omega)
    have st := y1jh (v := slA (some (behM (rowC f T i) (yk f i)))) S.tab hrk rfl rfl
    rw [yo0] at st
    have S1 := S.row (i := i + 1) (some (behM (rowC f T i) (yk f i)))
    refine ⟨_, Tm.set (i + 1) (some (behM (rowC f T i) (yk f i))), ?_, S1, by rw [List.length_set]; exact hTl, fun j => ?_, by rw [yn (by omega)]⟩
    · rw [y172, mg', y2, y4f, y2, Bool.not_false, y25, lb, y2, y2, sb, y2, ixi, y2, li, y2, y2, ixc, y2, lc, y2, f152, ydp, c152, yb, ixk, y2, st, yb, y19r (by rfl)]
    · rw [yo2 (by omega)]
      by_cases e : i + 1 = j
      · subst e; rw [if_pos rfl, hrow, hro]
      · rw [if_neg e, hT, hoth j (fun h => e h.symm)]
theorem y1dw {k : Nat} (hk : k < (lst f.code).length) {H : Heap} {Tm : FTab} (S : RSt H (y70 f (y5e f T k)) p g Tm hm gh gk (lst f.code)) (hTl : Tm.length = (lst f.code).length) (hT : ∀ j, fAt Tm j = y9n f T k j)
    (hn : fAt T k ≠ none) {g18 : Nat} (h18 : H[18]? = some (AX g18 (yk f k))) (v107 v108 v109 : AV) :
    ∃ H' Tm', y172 V1 V2 V3 (.lm 15 gh) (.ls 16 gk 9 0 (lst f.code).length) (.int .i64 (k : Int)) (.lp 18 g18 0 0) v107 v108 v109 H = q1_3 V1 V2 V3 (.lm 15 gh) (.ls 16 gk 9 0 (lst f.code).length) v107 v108 v109 H' ∧
      RSt H' (y70 f (y5e f T (k + 1))) p g Tm' hm gh gk (lst f.code) ∧ Tm'.length = (lst f.code).length ∧ (∀ j, fAt Tm' j = y9n f T (k + 1) j) := by
  obtain ⟨H1, T1, e1, S1, hl1, hT1, k18⟩ := y27r w v hR hr hA hh hk S hTl hT hn (.lp 18 g18 0 0) v107 v108 v109
  rw [h18] at k18
  have hx := List.mem_of_getElem? (y3i hk)
  have hxa := hA _ hx
  obtain ⟨r1, r2⟩ := ye7 w v k hn
  have hrow : fAt T1 k = some (rowC f T k) := by rw [hT1, y9n, if_pos ⟨by omega, hn⟩]
  have hul : (lst (uses (yk f k))).length ≤ 17592186043904 := by
    by_cases hc : calls (yk f k).op = true
    · have : uses (yk f k) = (yk f k).args := by simp [uses, hc]
      rw [this]; omega
    · have := yy8 (x := yk f k) (by simpa using hc); omega
  have lx := y2h4 k18
  have ay : yo (fz H1 y1d) [.agg (enc (yk f k))] = some ⟨[.agg (enc (yk f k))], scal (yk f k) && true, []⟩ := by
    rw [ym, y7k, yw]; rfl
  have hlen := S1.d.len
  obtain ⟨o, ho⟩ : ∃ o, H1[0 + 19]? = some o := ⟨_, List.getElem?_eq_getElem (by omega)⟩
  have cU := y1gr (α := Int) (E := E) (C := y5 E) (fb := 0) (j := 19) (f := 10) (H := H1) (N := uses (yk f k)) rfl ay (yf7 (yk f k) (by omega)) (by simp) ho
  rw [Nat.zero_add] at cU ho
  have S2 := S1.set (a := 19) (x := ownO (α := Int) (o.gen + 1) o (uses (yk f k))) (by omega)
  have m18 : (H1.set 19 (ownO (α := Int) (o.gen + 1) o (uses (yk f k))))[18]? = some (AX g18 (yk f k)) := by rw [yn (by omega)]; exact k18
  have m19 : (H1.set 19 (ownO (α := Int) (o.gen + 1) o (uses (yk f k))))[19]? = some (ownO (α := Int) (o.gen + 1) o (uses (yk f k))) := y35 (y4q ho)
  generalize H1.set 19 (ownO (α := Int) (o.gen + 1) o (uses (yk f k))) = H2 at *
  -- the loop over what is read
  have lp : ∃ H3, y1fy V1 V2 V3 (.lm 15 gh) (.ls 16 gk 9 0 (lst f.code).length) (.int .i64 (k : Int)) (.lp 18 g18 0 0) (ownV 19 (o.gen + 1) (uses (yk f k))) v107 v108 v109 H2 =
      q1_4 V1 V2 V3 (.lm 15 gh) (.ls 16 gk 9 0 (lst f.code).length) (.int .i64 (k : Int)) (.lp 18 g18 0 0) (ownV 19 (o.gen + 1) ((uses (yk f k)).map fun l => l.map (subC (rowC f T k)))) v107 v108 v109 H3 ∧
      RSt H3 (y70 f (y5e f T k)) p g T1 hm gh gk (lst f.code) ∧ H3[18]? = some (AX g18 (yk f k)) ∧ ∀ L, (uses (yk f k)).map (fun l => l.map (subC (rowC f T k))) = some L → H3[19]? = some (AI (o.gen + 1) L) := by
    cases hu : uses (yk f k) with
    | none =>
      rw [hu] at m19
      have hc : ¬ (0 : Int) < 0 := by omega
      refine ⟨H2, ?_, S2, m18, fun L h => by cases h⟩
      have l0 : yt 1 (ownV 19 (o.gen + 1) (none : Option (List Int))) H2 = some (.int .i64 0) := rfl
      rw [y1fy, l0, y2, ymg, q1_9, yi, y2, decide_eq_false hc, q1_8, y2e]
      rfl
    | some M =>
      rw [hu] at m19 hul
      simp only [y3j] at hul
      have hM : ∀ u ∈ M, 0 ≤ u ∧ u < (rowC f T k).length := fun u h => by
        rw [r1]
        exact w.uses hk (by rw [hu]; exact h)
      obtain ⟨H3, q1, q2, q3, q4⟩ := y1va hrow hM (by omega) (g19 := o.gen + 1) (.lm 15 gh) (.ls 16 gk 9 0 (lst f.code).length) (.lp 18 g18 0 0) v107 v108 v109 _ 0 H2 (Nat.zero_add _) S2 (by rw [y2do]; exact m19)
      refine ⟨H3, ?_, q2, by rw [q4]; exact m18, fun L h => ?_⟩
      · have l0 : yt 1 (ownV 19 (o.gen + 1) (some M)) H2 = some (.int .i64 M.length) := rfl
        have hml : (M.map (subC (rowC f T k))).length = M.length := List.length_map _
        have ev : ownV 19 (o.gen + 1) ((some M).map fun l => l.map (subC (rowC f T k))) = (.ls 19 (o.gen + 1) 1 0 M.length : AV) := by
          show AV.ls 19 (o.gen + 1) 1 0 (M.map (subC (rowC f T k))).length = _
          rw [hml]
        rw [ev, ← q1, y1fy, l0, y2]
        rfl
      · have : M.map (subC (rowC f T k)) = L := Option.some.inj h
        rw [← this]; exact q3
  obtain ⟨H3, e3, S3, n18, n19⟩ := lp
  obtain ⟨H4, ids, ids', c27, hH, f27, h0⟩ := y1kc (x := yk f k) n19 (by omega) (by rw [yaq, List.length_map]; omega)
  have S4 : RSt H4 (y70 f (y5e f T k)) p g T1 hm gh gk (lst f.code) := by
    rcases hH with e | ⟨c, e⟩
    · rw [e]; exact S3
    · rw [e]; exact S3.set (by omega)
  have lx3 := y2h4 n18
  have hcode : (y70 f (y5e f T k)).code = some (y5e f T k) := rfl
  have lc := S3.d.ldc
  have hov : ownV (p 2) (g 2) (y70 f (y5e f T k)).code = .ls (p 2) (g 2) 9 0 (lst f.code).length := by
    show AV.ls (p 2) (g 2) 9 0 (y5e f T k).length = _
    rw [ye2]
  rw [hov] at lc
  have ixc := yy7 hk (p 2) (g 2) 9 .i64
  have hy : repl (yk f k) ((uses (yk f k)).map fun l => l.map (subC (rowC f T k))) = carI f T k := by rw [carI, if_neg hn]; rfl
  rw [hy] at c27
  have st := S4.d.st hcode (i := k) (by rw [ye2]; exact hk) (carI f T k)
  rw [y1bb] at st
  have S5 := S4.code hcode (L' := y5e f T (k + 1)) (by rw [ye2, ye2])
  refine ⟨_, T1, ?_, S5, hl1, hT1⟩
  have fa : evFa 3 V1 = some (.lp 0 1 0 3) := rfl
  have hp : y9 [([], []), (ids1 (.lp 0 1 0 3), []), ([], []), (ids1 (.lp 18 g18 0 0), []), ([], []), (ids, ids'), ([], []), ([], ids1 (.lp (p 2) (g 2) k 0))] [(1, 5)] = true := by
    simp [y9, yl, meets, ids1, h0]
  rw [e1, y1l4, lx, y2, cU, yb, e3, q1_4, fa, y2, lc, y2, lx3, y2, f27, ydp, c27, yb, ixc, y2, st, yb, y19r hp]
theorem y1sy : ∀ (d k : Nat), k + d = (lst f.code).length → ∀ (H : Heap) (Tm : FTab), RSt H (y70 f (y5e f T k)) p g Tm hm gh gk (lst f.code) → Tm.length = (lst f.code).length → (∀ j, fAt Tm j = y9n f T k j) →
    ∃ H', y169 V1 V2 V3 (.lm 15 gh) (.ls 16 gk 9 0 (lst f.code).length) (.ls 16 gk 9 0 (lst f.code).length) (.int .i64 (lst f.code).length) (.int .i64 (k : Int)) H = q1_1 V1 V2 H' ∧ DSt H' (carF f T) p g 20 := by
  have hn2 := w.n2
  intro d
  induction d with
  | zero =>
    intro k hkd H Tm S hTl hT
    have hc : ¬ (k : Int) < ((lst f.code).length : Int) := by omega
    have e : k = (lst f.code).length := by omega
    subst e
    have D := S.d
    rw [y1qg] at D
    refine ⟨H, ?_, D⟩
    rw [y14p, y1w8, yi, y2, decide_eq_false hc, y20d, y2e]
  | succ d ih =>
    intro k hkd H Tm S hTl hT
    have hk : k < (lst f.code).length := by omega
    have hc : (k : Int) < ((lst f.code).length : Int) := by omega
    have ixc := yy7 hk 16 gk 9 .i64
    have lc := y1q5 S.cl (y3i hk)
    have hlen := S.d.len
    obtain ⟨o, ho⟩ : ∃ o, H[0 + 18]? = some o := ⟨_, List.getElem?_eq_getElem (by omega)⟩
    have nx := y2he ho
    rw [Nat.zero_add] at nx ho
    have sx := st_x (H := H.set 18 (AX (o.gen + 1) default)) (id := 18) (g := o.gen + 1) (y := yk f k) (y35 (y4q ho))
    rw [List.set_set] at sx
    have S1 := S.set (a := 18) (x := AX (o.gen + 1) (yk f k)) (by omega)
    have h18 : (H.set 18 (AX (o.gen + 1) (yk f k)))[18]? = some (AX (o.gen + 1) (yk f k)) := y35 (y4q ho)
    generalize H.set 18 (AX (o.gen + 1) (yk f k)) = H1 at *
    have lb := yg6 S1.tbx
    have ixk := yjo (n := Tm.length) (p := (k : Int)) (by omega) (by omega) 10 1 .i64
    rw [Int.toNat_natCast] at ixk
    have lr := yk3 S1.tab (y9s (T := Tm) (i := k) (by omega))
    have hTk : fAt Tm k = fAt T k := by rw [hT, y9n, if_neg (fun h => by omega)]
    rw [hTk] at lr
    have next : ∀ (H' : Heap) (T' : FTab), RSt H' (y70 f (y5e f T (k + 1))) p g T' hm gh gk (lst f.code) → T'.length = (lst f.code).length → (∀ j, fAt T' j = y9n f T (k + 1) j) →
        ∃ H'', q1_3 V1 V2 V3 (.lm 15 gh) (.ls 16 gk 9 0 (lst f.code).length) (.ls 16 gk 9 0 (lst f.code).length) (.int .i64 (lst f.code).length) (.int .i64 (k : Int)) H' = q1_1 V1 V2 H'' ∧ DSt H'' (carF f T) p g 20 := by
      intro H' T' S' hl' hT'
      obtain ⟨H'', r1, r2⟩ := ih (k + 1) (by omega) H' T' S' hl' hT'
      refine ⟨H'', ?_, r2⟩
      rw [q1_3, y5f hk (by omega), y2]
      exact r1
    have e15 : y169 V1 V2 V3 (.lm 15 gh) (.ls 16 gk 9 0 (lst f.code).length) (.ls 16 gk 9 0 (lst f.code).length) (.int .i64 (lst f.code).length) (.int .i64 (k : Int)) H =
        y1j4 V1 V2 V3 (.lm 15 gh) (.ls 16 gk 9 0 (lst f.code).length) (.int .i64 (k : Int)) (.lp 18 (o.gen + 1) 0 0) (.ls 16 gk 9 0 (lst f.code).length) (.int .i64 (lst f.code).length) (.int .i64 (k : Int)) H1 := by
      rw [y14p, y1w8, yi, y2, decide_eq_true hc, y20d, y25, y269, ixc, y2, lc, y2, nx, yb, sx, yb]
    rw [e15]
    cases hTn : fAt T k with
    | none =>
      rw [hTn] at lr
      have eq : y4u 1 false (slA (none : Option Fx)) AV.nils = some (.bool true) := rfl
      obtain ⟨H'', r1, r2⟩ := next H1 Tm (by rw [y184 hTn]; exact S1) hTl (fun j => by
        rw [hT]
        unfold y9n
        by_cases e : j = k
        · subst e
          rw [if_neg (fun h => h.2 hTn), if_neg (fun h => h.2 hTn)]
        · by_cases h : j < k ∧ fAt T j ≠ none
          · rw [if_pos h, if_pos ⟨by omega, h.2⟩]
          · rw [if_neg h, if_neg (fun h2 => h ⟨by omega, h2.2⟩)])
      refine ⟨H'', ?_, r2⟩
      rw [y1j4, lb, y2, ixk, y2, lr, y2, eq, y2, y25]
      exact r1
    | some t =>
      rw [hTn] at lr
      have eq : y4u 1 false (slA (some t)) AV.nils = some (.bool false) := rfl
      obtain ⟨H2, T2, q1, q2, q3, q4⟩ := y1dw w v hR hr hA hh hk S1 hTl hT (by rw [hTn]; simp) h18 (.ls 16 gk 9 0 (lst f.code).length) (.int .i64 (lst f.code).length) (.int .i64 (k : Int))
      obtain ⟨H'', r1, r2⟩ := next H2 T2 q2 q3 q4
      refine ⟨H'', ?_, r2⟩
      rw [y1j4, lb, y2, ixk, y2, lr, y2, eq, y2, y2e, q1]
      exact r1
end
end Go.Vm
namespace Go.Vm
open Cel
theorem y1pn {H : Heap} {id g off len : Nat} {L M : Fx} {y : AV} (h : H[id]? = some (AI g L)) (hy : y33 H 1 y = some (M.map enc)) (hl : off + len ≤ L.length) :
    yhf 1 (.ls id g 1 off len) y H = some (.int .i64 ((min M.length len : Nat) : Int), H.set id (AI g (L.take off ++ M.take (min M.length len) ++ L.drop (off + min M.length len)))) := by
  have hr : yh H id g = some (false, 1, L.map enc) := by simp [yh, y32, h]
  have hc : off + len ≤ (L.map (enc (α := Int))).length := by rw [List.length_map]; exact hl
  rw [yhf, hy]
  simp only [hr]
  rw [if_pos ⟨trivial, trivial, trivial, hc⟩]
  simp only [List.length_map, y1x, h]
  rw [AI, List.map_append, List.map_append, List.map_take, List.map_take, List.map_drop]
theorem y1vs {H : Heap} {id g off len : Nat} {L : Fx} (h : H[id]? = some (AI g L)) (hl : off + len ≤ L.length) : y33 H 1 (.ls id g 1 off len) = some (((L.drop off).take len).map enc) := by
  have hr : yh H id g = some (false, 1, L.map enc) := by simp [yh, y32, h]
  have hc : off + len ≤ (L.map (enc (α := Int))).length := by rw [List.length_map]; exact hl
  rw [y1he, hr]
  simp only
  rw [if_pos ⟨trivial, trivial, hc⟩, List.map_take, List.map_drop]
theorem y1rq {n k : Nat} (h : k ≤ n) : (List.replicate k (-1 : Int) ++ List.replicate (n - k) 0).take k ++ (List.replicate k (-1 : Int)).take (min k (n - k)) ++ (List.replicate k (-1 : Int) ++ List.replicate (n - k) 0).drop (k + min k (n - k)) = List.replicate (k + min k (n - k)) (-1 : Int) ++ List.replicate (n - (k + min k (n - k))) 0 := by
  have e1 : (List.replicate k (-1 : Int) ++ List.replicate (n - k) 0).take k = List.replicate k (-1) := by
    rw [List.take_append_of_le_length (by simp), List.take_of_length_le (by simp)]
  have e2 : (List.replicate k (-1 : Int) ++ List.replicate (n - k) 0).drop (k + min k (n - k)) = List.replicate (n - (k + min k (n - k))) 0 := by
    rw [List.drop_append, List.drop_eq_nil_of_le (by simp), List.nil_append, List.length_replicate, List.drop_replicate]
    congr 1; omega
  rw [e1, e2, List.take_replicate]
  congr 1
  rw [List.replicate_append_replicate]
  congr 1
  omega
end Go.Vm
namespace Go.Vm
open Cel
theorem u64n {n : Nat} (h : n < 18446744073709551616) : IntKind.wrap .u64 (n : Int) = (n : Int) := by
  simp [IntKind.wrap, IntKind.bits, IntKind.signed]; omega
theorem y1xn {n : Nat} (h : n < 4294967296) : y3 .and (.int .u64 n) (.int .u64 4294967295) = some (.int .u64 n) := by
  show some (AV.int .u64 (IntKind.wrap .u64 ((BitVec.ofInt 64 (n : Int) &&& BitVec.ofInt 64 4294967295).toNat : Int))) = _
  have e : (BitVec.ofInt 64 (n : Int) &&& BitVec.ofInt 64 4294967295).toNat = n := by
    rw [BitVec.toNat_and]
    have e1 : (BitVec.ofInt 64 (n : Int)).toNat = n := by
      rw [BitVec.ofInt_natCast, BitVec.toNat_ofNat]; omega
    have e2 : (BitVec.ofInt 64 4294967295).toNat = 2 ^ 32 - 1 := by decide
    rw [e1, e2, Nat.and_two_pow_sub_one_eq_mod]
    omega
  rw [e, u64n (by omega)]
theorem y2ma {n : Nat} (h : n < 4294967296) : y3 .shr (.int .u64 n) (.int .u64 32) = some (.int .u64 0) := by
  show some (AV.int .u64 (Int.fdiv (n : Int) (2 ^ 32))) = _
  have e2 : ((2 : Int) ^ 32) = ((2 ^ 32 : Nat) : Int) := by decide
  have e3 : n / 2 ^ 32 = 0 := Nat.div_eq_of_lt (by simpa using h)
  rw [e2, Int.fdiv_eq_ediv_of_nonneg _ (Int.natCast_nonneg _), ← Int.natCast_ediv, e3]
  rfl
theorem y1lw {n : Nat} (h : n < 4294967296) : y3 .mul (.int .u64 1) (.int .u64 n) = some (.int .u64 n) := by
  show some (AV.int .u64 (IntKind.wrap .u64 (1 * (n : Int)))) = _
  rw [Int.one_mul, u64n (by omega)]
theorem y15o {n : Nat} : y3 .mul (.int .u64 0) (.int .u64 n) = some (.int .u64 0) := by
  show some (AV.int .u64 (IntKind.wrap .u64 (0 * (n : Int)))) = _
  rw [Int.zero_mul]
  rfl
theorem y264 {n : Nat} (h : n < 4294967296) : (y5 E).p 159 [.int .u64 1, .int .u64 n] = some ⟨.tup [.int .u64 0, .int .u64 n], [], true, [], []⟩ := by
  rw [y2kv]
  have a1 : y3 .and (.int .u64 1) (.int .u64 4294967295) = some (.int .u64 1) := rfl
  have s1 : y3 .shr (.int .u64 1) (.int .u64 32) = some (.int .u64 0) := rfl
  have z1 : y3 .add (.int .u64 0) (.int .u64 0) = some (.int .u64 0) := rfl
  have z2 : y3 .and (.int .u64 0) (.int .u64 4294967295) = some (.int .u64 0) := rfl
  have z3 : y3 .shr (.int .u64 0) (.int .u64 32) = some (.int .u64 0) := rfl
  have z4 : y3 .mul (.int .u64 1) (.int .u64 0) = some (.int .u64 0) := rfl
  have z5 : y3 .mul (.int .u64 0) (.int .u64 0) = some (.int .u64 0) := rfl
  simp only [y25x, a1, y2, s1, y1xn h, y2ma h, y1lw h, y15o, z1, z2, z3, z4, z5]
  rfl
theorem y2n6 {n : Nat} (h : n < 4294967296) : (y5 E).p 157 [.int .u64 1, .int .u64 n] = some ⟨.tup [.int .u64 0, .int .u64 n], [], true, [], []⟩ := by
  rw [y2ob]
  have c : y4 E (y5 E) 0 none true 159 [.int .u64 1, .int .u64 n] [] = some (.tup [.int .u64 0, .int .u64 n], []) := y5v (fa := ⟨[.int .u64 1, .int .u64 n], true, []⟩) rfl rfl rfl (y264 h) ⟨_, rfl, rfl⟩
  have x0 : y57 0 (.tup [.int .u64 0, .int .u64 n]) = some (.int .u64 0) := rfl
  have x1 : y57 1 (.tup [.int .u64 0, .int .u64 n]) = some (.int .u64 n) := rfl
  rw [y24j, y28p, y2e, y27y, c, yb, x0, y2, x1, y2]
  rfl
end Go.Vm
namespace Go.Vm
open Cel
abbrev repL (n k : Nat) : Fx := List.replicate k (-1 : Int) ++ List.replicate (n - k) 0
theorem y1td {n k : Nat} (h : k ≤ n) : (repL n k).length = n := by simp [repL]; omega
theorem y2j7 {id g n a b : Nat} (ha : a ≤ b) (hb : b ≤ n) (h : n ≤ 9223372036854775807) :
    y5s 1 (.ls id g 1 0 n) (some (.int .i64 (a : Int))) none = some (.ls id g 1 a (n - a)) ∧ y5s 1 (.ls id g 1 0 n) none (some (.int .i64 (b : Int))) = some (.ls id g 1 0 b) := by
  have e1 : ycb (.int .i64 (a : Int)) n = some a := by
    unfold ycb
    simp; omega
  have e2 : ycb (.int .i64 (b : Int)) n = some b := by
    unfold ycb
    simp; omega
  constructor
  · simp [y5s, yny, y6t, e1]
  · simp [y5s, yny, y6t, e2]
theorem y1ua {n : Nat} (hn : n ≤ 1000000) : ∀ (d k : Nat), n - k ≤ d → k ≤ n → (1 ≤ k ∨ n = 0) → ∀ H : Heap, H[0]? = some (AI 1 (repL n k)) →
    yi6 (.ls 0 1 1 0 n) (.int .i64 (k : Int)) H = yzp (.ls 0 1 1 0 n) (H.set 0 (AI 1 (List.replicate n (-1)))) := by
  intro d
  induction d with
  | zero =>
    intro k hd hk h1 H hH
    have e : k = n := by omega
    subst e
    have hc : ¬ (k : Int) < (k : Int) := by omega
    have e2 : repL k k = List.replicate k (-1) := by simp [repL]
    rw [e2] at hH
    have l : yt 1 (.ls 0 1 1 0 k) H = some (.int .i64 k) := rfl
    rw [ykj, ybh hH, yyr, l, y2, yi, y2, decide_eq_false hc, y2e]
  | succ d ih =>
    intro k hd hk h1 H hH
    by_cases e : k = n
    · exact ih k (by omega) hk h1 H hH
    have hlt : (k : Int) < (n : Int) := by omega
    have l : yt 1 (.ls 0 1 1 0 n) H = some (.int .i64 n) := rfl
    obtain ⟨s1, s2⟩ := y2j7 (id := 0) (g := 1) (n := n) (a := k) (b := k) (by omega) hk (by omega)
    have hl := y1td hk
    have r := y1vs (H := H) (id := 0) (g := 1) (off := 0) (len := k) hH (by omega)
    have e0 : ((repL n k).drop 0).take k = List.replicate k (-1) := by
      rw [List.drop_zero, repL, List.take_append_of_le_length (by simp), List.take_of_length_le (by simp)]
    rw [e0] at r
    have c := y1pn (H := H) (id := 0) (g := 1) (off := k) (len := n - k) hH r (by omega)
    rw [List.length_replicate] at c
    have st := y1rq hk
    rw [show (List.replicate k (-1 : Int) ++ List.replicate (n - k) 0) = repL n k from rfl] at st
    rw [st] at c
    have hl1 : 0 < H.length := (List.getElem?_eq_some_iff.1 hH).1
    have ad : y3 .add (.int .i64 (k : Int)) (.int .i64 ((min k (n - k) : Nat) : Int)) = some (.int .i64 ((k + min k (n - k) : Nat) : Int)) := by
      rw [y27]
      congr 2
      rw [y1a] <;> omega
    have := ih (k + min k (n - k)) (by omega) (by omega) (by omega) (H.set 0 (AI 1 (repL n (k + min k (n - k))))) (by rw [List.getElem?_set_self hl1])
    rw [List.set_set] at this
    rw [ykj, yyr, l, y2, yi, y2, decide_eq_true hlt, y25, y1jb, s1, y2, s2, y2, c, yb, ad, y2]
    exact this
theorem y28m (H : Heap) {j : Nat} {o : AO} (h : H[j]? = some o) (n : Nat) (hn : n ≤ 1000000) : mkSC 0 (some j) 1 8 [.int .i64 0] (.int .i64 n) (.int .i64 n) H = some (.ls j (o.gen + 1) 1 0 n, H.set j (AI (o.gen + 1) (List.replicate n 0))) := by
  have h1 : (n : Int) * 8 ≤ 2 ^ 47 := by omega
  have h2 : (n : Int) ≤ 2 ^ 62 := by omega
  have z : [AV.int .i64 0].length = 1 ∧ [AV.int .i64 0].all y11 = true ∧ (0 : Int) ≤ (n : Int) ∧ (n : Int) ≤ n ∧ (n : Int) * ((8 : Nat) : Int) ≤ 2 ^ 47 ∧ (n : Int) ≤ 2 ^ 62 := ⟨rfl, rfl, by omega, by omega, h1, h2⟩
  rw [mkSC, if_pos z, y3g, place]
  simp only [Nat.zero_add, h, Option.map_some, Int.toNat_natCast, List.length_replicate]
  rw [show (List.replicate n [AV.int .i64 0]) = (List.replicate n (0 : Int)).map enc by rw [List.map_replicate]; rfl]
theorem y1t7 {n : Nat} (hn : n ≤ 1000000) : (y5 E).p 150 [slA (some [-1]), .int .i64 (n : Int)] = some (exO (some (List.replicate n (-1 : Int)))) := by
  rw [y2j8]
  have hneg : ¬ (n : Int) < 0 := by omega
  have c1 : yt 1 (slA (some [-1])) [D0] = some (.int .i64 1) := by rw [y6o]; rfl
  have u1 : ybk .u64 (.int .i64 1) = some (.int .u64 1) := rfl
  have un : ybk .u64 (.int .i64 (n : Int)) = some (.int .u64 (n : Int)) := by rw [ypq, u64n (by omega)]
  have ni : ybk .i64 (.int .u64 (n : Int)) = some (.int .i64 (n : Int)) := by
    rw [ypq]
    congr 2
    rw [y1a] <;> omega
  have cM : y4 E (y5 E) 0 none true 157 [.int .u64 1, .int .u64 (n : Int)] [D0] = some (.tup [.int .u64 0, .int .u64 (n : Int)], [D0]) := y5v (fa := ⟨[.int .u64 1, .int .u64 (n : Int)], true, []⟩) rfl rfl rfl (y2n6 (by omega)) ⟨_, rfl, rfl⟩
  have x0 : y57 0 (.tup [.int .u64 0, .int .u64 (n : Int)]) = some (.int .u64 0) := rfl
  have x1 : y57 1 (.tup [.int .u64 0, .int .u64 (n : Int)]) = some (.int .u64 (n : Int)) := rfl
  have g0 : y3 .gtr (.int .u64 0) (.int .u64 0) = some (.bool false) := rfl
  have gn : y3 .gtr (.int .u64 (n : Int)) (.int .u64 9223372036854775807) = some (.bool false) := by
    rw [y59, decide_eq_false (by omega)]
  have mk := y28m [D0] (j := 0) (o := D0) rfl n hn
  have mk' : mkSC 0 (some 0) 1 8 [.int .i64 0] (.int .i64 n) (.int .i64 n) [D0] = some (.ls 0 1 1 0 n, [AI 1 (List.replicate n 0)]) := mk
  have r1 : y33 [AI 1 (List.replicate n 0)] 1 (slA (some [(-1 : Int)])) = some (([-1] : Fx).map enc) := y17c (some [-1]) _
  have c2 := y1pn (H := [AI 1 (List.replicate n 0)]) (id := 0) (g := 1) (off := 0) (len := n) (L := List.replicate n 0) (M := [-1]) rfl r1 (by simp)
  have e0 : (List.replicate n (0 : Int)).take 0 ++ ([-1] : Fx).take (min ([-1] : Fx).length n) ++ (List.replicate n (0 : Int)).drop (0 + min ([-1] : Fx).length n) = repL n (min 1 n) := by
    have e1 : ([-1] : Fx).length = 1 := rfl
    rw [List.take_zero, List.nil_append, e1, Nat.zero_add, List.drop_replicate, repL]
    congr 1
    rcases Nat.eq_zero_or_pos n with h | h
    · subst h; rfl
    · rw [show min 1 n = 1 by omega]; rfl
  rw [e0] at c2
  have e3 : min ([-1] : Fx).length n = min 1 n := rfl
  rw [e3] at c2
  have hs : [AI 1 (List.replicate n 0)].set 0 (AI 1 (repL n (min 1 n))) = [AI 1 (repL n (min 1 n))] := rfl
  rw [hs] at c2
  have lp := y1ua hn n (min 1 n) (by omega) (by omega) (by omega) [AI 1 (repL n (min 1 n))] rfl
  have hs2 : [AI 1 (repL n (min 1 n))].set 0 (AI 1 (List.replicate n (-1))) = [AI 1 (List.replicate n (-1))] := rfl
  rw [hs2] at lp
  rw [yur, yuo, yi, y2, decide_eq_false hneg, y2e, ytt, c1, y2, u1, y2, un, y2, cM, yb, x0, y2, x1, y2, y1qr, g0, y2, yg2, y2, yg2, gn, y2, y41, y2, y2e, y1jl, ni, y2, mk', yb, y1ii, c2, yb, lp, yzp]
  have hl : (List.replicate n (-1 : Int)).length = n := List.length_replicate
  clear lp hs2
  generalize List.replicate n (-1 : Int) = L at *
  rw [← hl]
  exact y1y (α := Int) (L := L) (by simp [yh, y32])
end Go.Vm
namespace Go.Vm
open Cel
attribute [local simp] y4 y20 yp
abbrev HH (f : Fn) (a : List Bool) (o2 o3 o4 o5 o6 : AO) : Heap := [⟨1, .arr true false 5 [enc f]⟩, ⟨1, .arr false false 1 (a.map enc)⟩, o2, o3, o4, o5, o6]
theorem ixAt {n : Nat} {p : Int} (h0 : 0 ≤ p) (h1 : p < (n : Int)) (id g : Nat) (k : IntKind) : yg 1 (.ls id g 1 0 n) (.int k p) = some (.lp id g p.toNat 0) := by simp [yg, h0, h1]
theorem stHH (f : Fn) (a : List Bool) (o2 o3 o4 o5 o6 : AO) {j : Nat} (h : j < a.length) : evSt 1 (.lp 1 1 j 0) (.bool true) (HH f a o2 o3 o4 o5 o6) = some (.tup [], HH f (a.set j true) o2 o3 o4 o5 o6) :=
  yna (α := Bool) (v := .bool true) (y := true) rfl h rfl
theorem y15i (f : Fn) (o3 o4 o5 o6 : AO) (hl : (lst f.code).length ≤ 9223372036854775806) : ∀ (d i : Nat) (a : List Bool) (o2 : AO), i + d = (lst f.code).length → a.length = (lst f.code).length + 1 →
    ∃ o2', yiq (.lp 0 1 0 0) (.ls 1 1 1 0 ((lst f.code).length + 1)) (slA f.code) (.int .i64 (lst f.code).length) (.int .i64 i) (HH f a o2 o3 o4 o5 o6) =
      yqa (.lp 0 1 0 0) (.ls 1 1 1 0 ((lst f.code).length + 1)) (HH f (hA1 (lst f.code).length i ((lst f.code).drop i) a) o2' o3 o4 o5 o6) := by
  intro d
  induction d with
  | zero =>
    intro i a o2 hi _
    have e1 : (lst f.code).drop i = [] := List.drop_eq_nil_of_le (by omega)
    have hn : ¬ ((i : Int) < ((lst f.code).length : Int)) := by omega
    rw [yls, e1]
    exact ⟨o2, by simp [yqq, y13k, hn, hA1]⟩
  | succ d ih =>
    intro i a o2 hi ha
    have hlt : i < (lst f.code).length := by omega
    have hc : ((i : Int) < ((lst f.code).length : Int)) := by omega
    have k1 := yas (o := f.code) (i := i) (List.getElem?_eq_getElem hlt) .i64
    have hw := y21 hlt (by omega)
    rw [yls, List.drop_eq_getElem_cons hlt, hA1]
    generalize (lst f.code)[i] = x at *
    generalize hN : (lst f.code).length = n at *
    have e36 : yqq (.lp 0 1 0 0) (.ls 1 1 1 0 (n + 1)) (slA f.code) (.int .i64 n) (.int .i64 i) (HH f a o2 o3 o4 o5 o6) =
        yfe (.lp 0 1 0 0) (.ls 1 1 1 0 (n + 1)) (.int .i64 i) (.lp 2 (o2.gen + 1) 0 0) (slA f.code) (.int .i64 n) (.int .i64 i) (HH f a ⟨o2.gen + 1, .arr true false 9 [enc x]⟩ o3 o4 o5 o6) := by
      simp [yqq, y13k, y1ho, hc, k1]
    generalize hg : (o2.gen + 1) = g at *
    have e31 : yfe (.lp 0 1 0 0) (.ls 1 1 1 0 (n + 1)) (.int .i64 i) (.lp 2 g 0 0) (slA f.code) (.int .i64 n) (.int .i64 i) (HH f a ⟨g, .arr true false 9 [enc x]⟩ o3 o4 o5 o6) =
        ylt (.lp 0 1 0 0) (.ls 1 1 1 0 (n + 1)) (.int .i64 i) (.lp 2 g 0 0) (slA f.code) (.int .i64 n) (.int .i64 i) (HH f (if leads x.op = true then putP n x.t a else a) ⟨g, .arr true false 9 [enc x]⟩ o3 o4 o5 o6) := by
      cases hd : leads x.op with
      | false => simp [yfe, hd]
      | true =>
        rw [if_pos rfl, putP]
        by_cases h0 : 0 ≤ x.t
        rotate_left
        · rw [if_neg (fun h => h0 h.1)]
          simp [yfe, hd, h0]
        by_cases h1 : x.t < (n : Int)
        rotate_left
        · rw [if_neg (fun h => h1 h.2)]
          simp [yfe, hd, h0, h1, hN]
        rw [if_pos ⟨h0, h1⟩]
        have st := stHH f a ⟨g, .arr true false 9 [enc x]⟩ o3 o4 o5 o6 (j := x.t.toNat) (by omega)
        have ix := ixAt (n := n + 1) h0 (by omega) 1 1 .i64
        simp [yfe, hd, h0, h1, hN, ix, -y5g, st]
    have e30 : ∀ a : List Bool, a.length = n + 1 → ylt (.lp 0 1 0 0) (.ls 1 1 1 0 (n + 1)) (.int .i64 i) (.lp 2 g 0 0) (slA f.code) (.int .i64 n) (.int .i64 i) (HH f a ⟨g, .arr true false 9 [enc x]⟩ o3 o4 o5 o6) =
        yoh (.lp 0 1 0 0) (.ls 1 1 1 0 (n + 1)) (slA f.code) (.int .i64 n) (.int .i64 i) (HH f (if (leads x.op || ends x.op) = true then a.set (i + 1) true else a) ⟨g, .arr true false 9 [enc x]⟩ o3 o4 o5 o6) := by
      intro a ha
      have st := stHH f a ⟨g, .arr true false 9 [enc x]⟩ o3 o4 o5 o6 (j := i + 1) (by omega)
      have ix := ixAt (n := n + 1) (p := (i : Int) + 1) (by omega) (by omega) 1 1 .i64
      rw [show ((i : Int) + 1).toNat = i + 1 by omega] at ix
      cases hd : leads x.op <;> cases he : ends x.op <;> simp [ylt, hd, he, hw, ix, -y5g, st]
    obtain ⟨o2', ih⟩ := ih (i + 1) (y17w n i x a) ⟨g, .arr true false 9 [enc x]⟩ (by omega) (by simpa using ha)
    push_cast at ih
    refine ⟨o2', ?_⟩
    rw [e36, e31, e30 _ (by split <;> simp [ha]), yoh, y27, y2, hw, ← ih]
    rfl
theorem y1jr (f : Fn) (v62 v63 v64 : AV) (o2 o3 o5 o6 : AO) (g : Nat) (P : List Int) (hP : P.length = 3) : ∀ (d k : Nat) (a : List Bool), k + d = 3 → a.length = (lst f.code).length + 1 →
    yeq (.lp 0 1 0 0) (.ls 1 1 1 0 ((lst f.code).length + 1)) v62 v63 v64 (.ls 4 g 1 0 3) (.int .i64 3) (.int .i64 k) (HH f a o2 o3 ⟨g, .arr false false 1 (P.map enc)⟩ o5 o6) =
      yw2 (.lp 0 1 0 0) (.ls 1 1 1 0 ((lst f.code).length + 1)) v62 v63 v64 (HH f ((P.drop k).foldl (fun a p => putP (lst f.code).length p a) a) o2 o3 ⟨g, .arr false false 1 (P.map enc)⟩ o5 o6) := by
  intro d
  induction d with
  | zero =>
    intro k a hk _
    have e1 : P.drop k = [] := List.drop_eq_nil_of_le (by omega)
    have hn : ¬ ((k : Int) < 3) := by omega
    rw [ykh, e1]
    simp [yl1, yk2, hn]
  | succ d ih =>
    intro k a hk ha
    have hlt : k < P.length := by omega
    have hc : ((k : Int) < 3) := by omega
    have hw := y21 (n := 3) (i := k) (by omega) (by omega)
    have l1 : ∀ a, evLd false 1 (.lp 4 g k 0) (HH f a o2 o3 ⟨g, .arr false false 1 (P.map enc)⟩ o5 o6) = some (.int .i64 P[k]) := by
      intro a
      simp [evLd, yh, y32, hlt]
    have ix : yg 1 (.ls 4 g 1 0 3) (.int .i64 (k : Int)) = some (.lp 4 g k 0) := by
      have := ixAt (n := 3) (p := (k : Int)) (by omega) (by omega) 4 g .i64
      simpa using this
    rw [ykh, List.drop_eq_getElem_cons hlt, List.foldl_cons]
    generalize P[k] = p at *
    have ih0 := fun a ha => ih (k + 1) a (by omega) ha
    push_cast at ih0
    rw [← ih0 _ (by simpa using ha), putP]
    by_cases h0 : 0 ≤ p
    rotate_left
    · rw [if_neg (fun h => h0 h.1)]
      simp [yl1, yk2, ys5, yma, hc, ix, -y34, l1, h0, hw]
    by_cases h1 : p < ((lst f.code).length : Int)
    rotate_left
    · rw [if_neg (fun h => h1 h.2)]
      have lb : ∀ a : List Bool, evLd false 1 (.lp 0 1 0 3) (HH f a o2 o3 ⟨g, .arr false false 1 (P.map enc)⟩ o5 o6) = some (slA f.code) := fun a => by simp
      simp [yl1, yk2, ys5, yma, hc, ix, -y34, l1, h0, h1, hw, lb]
    rw [if_pos ⟨h0, h1⟩]
    have lb : ∀ a : List Bool, evLd false 1 (.lp 0 1 0 3) (HH f a o2 o3 ⟨g, .arr false false 1 (P.map enc)⟩ o5 o6) = some (slA f.code) := fun a => by simp
    have st := stHH f a o2 o3 ⟨g, .arr false false 1 (P.map enc)⟩ o5 o6 (j := p.toNat) (by omega)
    have ix2 := ixAt (n := (lst f.code).length + 1) h0 (by omega) 1 1 .i64
    simp [yl1, yk2, ys5, yma, hc, ix, -y34, l1, h0, h1, hw, lb, ix2, -y5g, st]
theorem y16x (f : Fn) (o2 o5 o6 : AO) (hl : (lst f.rows).length ≤ 9223372036854775806) : ∀ (d k : Nat) (a : List Bool) (o3 o4 : AO), k + d = (lst f.rows).length → a.length = (lst f.code).length + 1 →
    ∃ o3' o4', yja (.lp 0 1 0 0) (.ls 1 1 1 0 ((lst f.code).length + 1)) (slA f.rows) (.int .i64 (lst f.rows).length) (.int .i64 k) (HH f a o2 o3 o4 o5 o6) =
      ylf (.lp 0 1 0 0) (.ls 1 1 1 0 ((lst f.code).length + 1)) (HH f (hA2 (lst f.code).length ((lst f.rows).drop k) a) o2 o3' o4' o5 o6) := by
  intro d
  induction d with
  | zero =>
    intro k a o3 o4 hk _
    have e1 : (lst f.rows).drop k = [] := List.drop_eq_nil_of_le (by omega)
    have hn : ¬ ((k : Int) < ((lst f.rows).length : Int)) := by omega
    rw [yl0, e1]
    exact ⟨o3, o4, by simp [you, y0p, hn, hA2]⟩
  | succ d ih =>
    intro k a o3 o4 hk ha
    have hlt : k < (lst f.rows).length := by omega
    have hc : ((k : Int) < ((lst f.rows).length : Int)) := by omega
    have k1 := yo5 (o := f.rows) (i := k) (List.getElem?_eq_getElem hlt) .i64
    have hw := y21 hlt (by omega)
    rw [yl0, List.drop_eq_getElem_cons hlt, hA2]
    generalize (lst f.rows)[k] = r at *
    have lit := y1jr f (slA f.rows) (.int .i64 (lst f.rows).length) (.int .i64 k) o2 ⟨o3.gen + 1, .arr true false 4 [enc r]⟩ o5 o6 (o4.gen + 1) [r.f, r.t, r.at_] rfl 3 0 a (by omega) ha
    simp only [List.drop_zero, List.foldl_cons, List.foldl_nil, Int.ofNat_zero] at lit
    have e24 : you (.lp 0 1 0 0) (.ls 1 1 1 0 ((lst f.code).length + 1)) (slA f.rows) (.int .i64 (lst f.rows).length) (.int .i64 k) (HH f a o2 o3 o4 o5 o6) =
        yeq (.lp 0 1 0 0) (.ls 1 1 1 0 ((lst f.code).length + 1)) (slA f.rows) (.int .i64 (lst f.rows).length) (.int .i64 k) (.ls 4 (o4.gen + 1) 1 0 3) (.int .i64 3) (.int .i64 0)
          (HH f a o2 ⟨o3.gen + 1, .arr true false 4 [enc r]⟩ ⟨o4.gen + 1, .arr false false 1 ([r.f, r.t, r.at_].map enc)⟩ o5 o6) := by
      simp [you, y0p, y19l, y1ey, hc, k1, yj, yy]
    obtain ⟨o3', o4', ih⟩ := ih (k + 1) (putP (lst f.code).length r.at_ (putP (lst f.code).length r.t (putP (lst f.code).length r.f a))) ⟨o3.gen + 1, .arr true false 4 [enc r]⟩ ⟨o4.gen + 1, .arr false false 1 ([r.f, r.t, r.at_].map enc)⟩ (by omega) (by simpa using ha)
    push_cast at ih
    refine ⟨o3', o4', ?_⟩
    rw [e24, lit, yw2, y27, y2, hw, ih]
theorem y16n (f : Fn) (o2 o3 o4 : AO) (hl : (lst f.code).length ≤ 274877906944) : ∀ (d k g : Nat) (o5 : AO), k + d = (lst f.code).length →
    yr0 (.ls 1 1 1 0 ((lst f.code).length + 1)) (y1w Int 6 g (y4i f k)) (.int .i64 (lst f.code).length) (.int .i64 k) (HH f (hA f) o2 o3 o4 o5 (y2z g D0 (y4i f k))) = some (exO (nz (y5q f))) := by
  intro d
  induction d with
  | zero =>
    intro k g o5 hk
    have hk' : k = (lst f.code).length := by omega
    have hn : ¬ ((k : Int) < ((lst f.code).length : Int)) := by omega
    have hx := ycc (H := HH f (hA f) o2 o3 o4 o5 (y2z g D0 (y4i f k))) (j := 6) (g := g) (o := D0) (L := y4i f k) rfl
    rw [ypd, y5q, ← hk', ← hx]
    simp [y1hj, y1jd, y25v, hk']
  | succ d ih =>
    intro k g o5 hk
    have hlt : k < (lst f.code).length := by omega
    have hc : ((k : Int) < ((lst f.code).length : Int)) := by omega
    have hw := y21 hlt (by omega)
    have ix := ixAt (n := (lst f.code).length + 1) (p := (k : Int)) (by omega) (by omega) 1 1 .i64
    rw [show ((k : Int)).toNat = k by omega] at ix
    have hg := y2cy f hlt
    have l1 : ∀ o5 o6, evLd false 1 (.lp 1 1 k 0) (HH f (hA f) o2 o3 o4 o5 o6) = some (.bool (y3w f k)) := by
      intro o5 o6
      simp [evLd, yh, y32, hg]
    rw [ypd]
    have ih0 := fun g o5 => ih (k + 1) g o5 (by omega)
    push_cast at ih0
    simp only [y4i] at ih0
    cases hh : y3w f k with
    | false =>
      have ih0 := ih0 g o5
      rw [hh] at ih0 l1
      simp only [Bool.false_eq_true, if_false, List.append_nil] at ih0
      simp [y1hj, y1jd, y1zg, y1a2, hc, ix, -y34, l1, hw, ih0]
    | true =>
      rw [hh] at ih0 l1
      simp only [if_true] at ih0
      obtain ⟨g', ha⟩ := yu9 (H := HH f (hA f) o2 o3 o4 ⟨o5.gen + 1, .arr false false 1 [[.int .i64 k]]⟩ (y2z g D0 (y4i f k))) (fb := 0) (j := 6) (g := g) (o := D0) (y := .ls 5 (o5.gen + 1) 1 0 1) (L := y4i f k) (n := k) (by simp) rfl (by have := yf3 f k; omega)
      have ha' : y2y 0 (some 6) 1 8 (y1w Int 6 g (y4i f k)) (.ls 5 (o5.gen + 1) 1 0 1) (HH f (hA f) o2 o3 o4 ⟨o5.gen + 1, .arr false false 1 [[.int .i64 k]]⟩ (y2z g D0 (y4i f k))) = some (y1w Int 6 g' (y4i f k ++ [(k : Int)]), HH f (hA f) o2 o3 o4 ⟨o5.gen + 1, .arr false false 1 [[.int .i64 k]]⟩ (y2z g' D0 (y4i f k ++ [(k : Int)]))) := ha
      simp [y1hj, y1jd, y1zg, y1a2, hc, ix, -y34, l1, hw, yj, yy, ha', ih0]
theorem y2a2 (f : Fn) (hc : (lst f.code).length ≤ 30000) (hr : (lst f.rows).length ≤ 1000000) : (y5 E).p 102 [.agg (enc f)] = some (exO (nz (y5q f))) := by
  rw [y2km]
  obtain ⟨o2, h1⟩ := y15i f D0 D0 D0 D0 (by omega) _ 0 (hA0 (lst f.code).length) D0 (Nat.zero_add _) (by simp)
  obtain ⟨o3, o4, h2⟩ := y16x f o2 D0 D0 (by omega) _ 0 (hA1 (lst f.code).length 0 (lst f.code) (hA0 (lst f.code).length)) D0 D0 (Nat.zero_add _) (by rw [yn0, yn6])
  have h3 := y16n f o2 o3 o4 (by omega) _ 0 0 D0 (Nat.zero_add _)
  simp only [List.drop_zero, Int.ofNat_zero, y4i, ypr, yoj] at h1 h2 h3
  have e10 : ylf (.lp 0 1 0 0) (.ls 1 1 1 0 ((lst f.code).length + 1)) (HH f (hA f) o2 o3 o4 D0 D0) = some (exO (nz (y5q f))) := by
    simp [ylf, y24s, h3]
  have e26 : yqa (.lp 0 1 0 0) (.ls 1 1 1 0 ((lst f.code).length + 1)) (HH f (hA1 (lst f.code).length 0 (lst f.code) (hA0 (lst f.code).length)) o2 D0 D0 D0 D0) = some (exO (nz (y5q f))) := by
    rw [← e10, ← show _ = ylf _ _ (HH f (hA f) o2 o3 o4 D0 D0) from h2]
    simp [yqa]
  have e38 : yoc (.lp 0 1 0 0) (.ls 1 1 1 0 ((lst f.code).length + 1)) (HH f (hA0 (lst f.code).length) D0 D0 D0 D0 D0) = some (exO (nz (y5q f))) := by
    rw [← e26, ← h1]
    simp [yoc]
  rw [← e38]
  have b1 : ((lst f.code).length : Int) + 1 ≤ 140737488355328 := by omega
  have b2 : ((lst f.code).length : Int) + 1 ≤ 4611686018427387904 := by omega
  have b3 : (0 : Int) ≤ ((lst f.code).length : Int) + 1 := by omega
  have b4 : (((lst f.code).length : Int) + 1).toNat = (lst f.code).length + 1 := by omega
  have hw : IntKind.wrap .i64 (((lst f.code).length : Int) + 1) = ((lst f.code).length : Int) + 1 := by rw [y1a] <;> omega
  have e42 : yxz (.agg (enc f)) [D0, D0, D0, D0, D0, D0, D0] = yo6 (.lp 0 1 0 0) (.ls 1 1 1 0 ((lst f.code).length + 1)) (HH f (List.replicate ((lst f.code).length + 1) false) D0 D0 D0 D0 D0) := by
    simp [yxz, y1ib, mkSC, hw, b1, b2, b3, b4, HH]
  rw [e42]
  have l1 : ∀ (a : List Bool) (o2 o3 o4 o5 o6 : AO), evLd false 1 (.lp 0 1 0 3) (HH f a o2 o3 o4 o5 o6) = some (slA f.code) := fun a o2 o3 o4 o5 o6 => by simp
  by_cases h0 : 0 < (lst f.code).length
  · have h0' : (0 : Int) < ((lst f.code).length : Int) := by omega
    have st := stHH f (List.replicate ((lst f.code).length + 1) false) D0 D0 D0 D0 D0 (j := 0) (by simp)
    have ix := ixAt (n := (lst f.code).length + 1) (p := 0) (by omega) (by omega) 1 1 .i64
    simp only [yo6, ygs, y2, l1, y6o, y59, h0', decide_true, y25, ix, Int.toNat_zero, st, yb, hA0, h0, if_true, Nat.zero_add]
  · have h0' : ¬ (0 : Int) < ((lst f.code).length : Int) := by omega
    simp only [yo6, ygs, y2, l1, y6o, y59, h0', decide_false, y2e, hA0, h0, if_false, Nat.zero_add]
end Go.Vm
