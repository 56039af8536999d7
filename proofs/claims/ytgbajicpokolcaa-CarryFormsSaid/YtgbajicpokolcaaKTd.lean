/- What 'Replace' answers; whether two lists, two instructions are the same. carry.Pass on the machine: what is read of a copy is read of what it is a copy of. carry.Pass on the machine: the code is turned, place by place. slices.Repeat on the machine: copies to a part of a list of one's own. slices.Repeat on the machine: products of two words. slices.Repeat on the machine: a list of -1. flow.Heads: where blocks begin. The table of what is set tells whether each register is written ahead of all that reads it. Clones of lists of marks. flow.meet: what is set on one way more to a place. What 'kinds' answers. What 'other' answers; all of 'kinds'. Whether one instruction is well formed: 'right'. -/
import Derived.Test.YtgbajicpokolcaaKX
import Derived.Test.YtgbajicpokolcaaKTc
set_option linter.unusedSimpArgs false
set_option linter.unusedVariables false
set_option linter.unusedSectionVars false
namespace Go.Vm
open Cel
attribute [local simp] y7 y28 yr
set_option maxHeartbeats 1000000 in
theorem y1on (x : Ins) (l : Option (List Int)) (hc : calls x.op = true) (hn : (lst (uses x)).length = (lst l).length) (hx : (lst x.args).length ≤ 17592186043904) (hl : (lst l).length ≤ 17592186043904) :
    ∃ r, (y8 E).p 27 [.agg (enc x), slA l] = some r ∧ ywn r (.agg (enc (repl x l))) := by
  have e : repl x l = { x with args := l } := by simp [repl, hn, hc]
  have h1 := y6o l hl
  rw [e, y2jn]
  cases l with
  | none =>
    refine ⟨⟨.agg (enc { x with args := none }), [], scal { x with args := none }, [], []⟩, ?_, ⟨_, y5d _ _, rfl⟩⟩
    simp [yln, ylv, ylm, ypm, yp6, yq4, yq7, ypn, ye2 x hx, hn, hc, h1]
  | some L =>
    refine ⟨⟨.agg (y7w x (.ls 0 0 1 0 L.length)), [.arr false false 1 (L.map enc)], true, [], []⟩, ?_, y1is x [.arr false false 1 (L.map enc)] rfl⟩
    simp only [y3b] at hn
    simp [yln, ylv, ylm, ypm, yp6, yq4, yq7, ypn, ye2 x hx, hn, hc, h1]
    exact yr8 x (by simp)
set_option maxHeartbeats 2000000 in
theorem y1mw (x : Ins) (l : Option (List Int)) (hx : (lst x.args).length ≤ 17592186043904) (hl : (lst l).length ≤ 17592186043904) :
    ∃ r, (y8 E).p 27 [.agg (enc x), slA l] = some r ∧ ywn r (.agg (enc (repl x l))) := by
  by_cases hn : (lst (uses x)).length = (lst l).length
  · by_cases hc : calls x.op = true
    · exact y1on x l hc hn hx hl
    · have hc' : calls x.op = false := by simpa using hc
      refine ⟨⟨.agg (enc (repl x l)), [], scal (repl x l), [], []⟩, ?_, ⟨_, y5d _ _, rfl⟩⟩
      have h3 := yp7 hc'
      rw [hn] at h3
      rw [y2jn]
      match hL : lst l, h3 with
      | [], _ => rw [hL] at hn; simp [yln, ylv, ylm, ypm, yp6, yq4, yq7, ypn, ye2 x hx, hn, hc', hL, repl, y5f]
      | [a], _ => 
        rw [hL] at hn
        have e0 := y24 (o := l) (i := 0) (x := a) (by rw [hL]; rfl) .i64
        simp [yln, ylv, ylm, ypm, yp6, yq4, yq7, ypn, ye2 x hx, hn, hc', hL, repl, y5f, show yi 1 (slA l) (.int .i64 0) = _ from e0]
      | [a, b], _ =>
        rw [hL] at hn
        have e0 := y24 (o := l) (i := 0) (x := a) (by rw [hL]; rfl) .i64
        have e1 := y24 (o := l) (i := 1) (x := b) (by rw [hL]; rfl) .i64
        simp [yln, ylv, ylm, ypm, yp6, yq4, yq7, ypn, ye2 x hx, hn, hc', hL, repl, y5f, show yi 1 (slA l) (.int .i64 0) = _ from e0, show yi 1 (slA l) (.int .i64 1) = _ from e1]
      | [a, b, c], _ =>
        rw [hL] at hn
        have e0 := y24 (o := l) (i := 0) (x := a) (by rw [hL]; rfl) .i64
        have e1 := y24 (o := l) (i := 1) (x := b) (by rw [hL]; rfl) .i64
        have e2 := y24 (o := l) (i := 2) (x := c) (by rw [hL]; rfl) .i64
        simp [yln, ylv, ylm, ypm, yp6, yq4, yq7, ypn, ye2 x hx, hn, hc', hL, repl, y5f, show yi 1 (slA l) (.int .i64 0) = _ from e0, show yi 1 (slA l) (.int .i64 1) = _ from e1, show yi 1 (slA l) (.int .i64 2) = _ from e2]
      | _ :: _ :: _ :: _ :: _, h => simp only [List.length_cons] at h; omega
  · refine ⟨⟨.agg (enc x), [], scal x, [], []⟩, ?_, ⟨_, y5d _ _, by rw [repl, if_pos hn]⟩⟩
    have hn' : ¬ ((lst (uses x)).length : Int) = ((lst l).length : Int) := by omega
    rw [y2jn]
    simp [yln, ylv, ylm, ypm, yp6, yq4, yq7, ypn, ye2 x hx, hn']
end Go.Vm
namespace Go.Vm
open Cel
def mapK (σ : Int → Int) (k : Nat) (M : List Int) : List Int := (M.take k).map σ ++ M.drop k
theorem y2u0 (σ : Int → Int) (M : List Int) : mapK σ 0 M = M := by simp [mapK]
theorem y27p (σ : Int → Int) (M : List Int) : mapK σ M.length M = M.map σ := by simp [mapK]
theorem y14l (σ : Int → Int) (k : Nat) (M : List Int) : (mapK σ k M).length = M.length := by
  simp only [mapK, List.length_append, List.length_map, List.length_take, List.length_drop]; omega
theorem y2kv {σ : Int → Int} {k : Nat} {M : List Int} (hk : k < M.length) : (mapK σ k M)[k]? = some M[k] := by
  have hl : ((M.take k).map σ).length = k := by simp; omega
  rw [mapK, List.getElem?_append_right (by omega), hl, Nat.sub_self]
  simp [hk]
theorem y1jn {σ : Int → Int} {k : Nat} {M : List Int} (hk : k < M.length) : mapK σ (k + 1) M = (mapK σ k M).set k (σ M[k]) := by
  have hl : ((M.take k).map σ).length = k := by simp; omega
  have hs : ((M.take (k + 1)).map σ).length = k + 1 := by simp; omega
  refine List.ext_getElem? fun i => ?_
  rw [List.getElem?_set]
  by_cases e : k = i
  · subst e
    rw [if_pos rfl, if_pos (by rw [y14l]; exact hk), mapK, List.getElem?_append_left (by omega)]
    simp [hk]
  · rw [if_neg e]
    by_cases hi : i < k
    · rw [mapK, mapK, List.getElem?_append_left (by omega), List.getElem?_append_left (by omega)]
      simp only [List.getElem?_map, List.getElem?_take]
      rw [if_pos (by omega), if_pos hi]
    · rw [mapK, mapK, List.getElem?_append_right (by omega), List.getElem?_append_right (by omega), hs, hl, List.getElem?_drop, List.getElem?_drop]
      congr 1; omega
structure RSt (H : Heap) (F : Fn) (p g : Nat → Nat) (Tm : FTab) (hm : List (Int × Bool)) (gh gk : Nat) (L0 : List Ins) : Prop where
  d : DSt H F p g 20
  tab : H[10]? = some ⟨1, .arr false false 1 (tabF Tm)⟩
  tbx : H[11]? = some ⟨1, .arr true false 1 [[.ls 10 1 1 0 Tm.length]]⟩
  hm : H[15]? = some (AM vB gh hm)
  cl : H[16]? = some ⟨gk, .arr false false 9 (L0.map enc)⟩
theorem RSt.set {H : Heap} {F : Fn} {p g : Nat → Nat} {Tm : FTab} {hm : List (Int × Bool)} {gh gk : Nat} {L0 : List Ins} (S : RSt H F p g Tm hm gh gk L0) {a : Nat} {x : AO} (ha : 17 ≤ a) : RSt (H.set a x) F p g Tm hm gh gk L0 :=
  ⟨S.d.set (by omega), by rw [yv (by omega)]; exact S.tab, by rw [yv (by omega)]; exact S.tbx, by rw [yv (by omega)]; exact S.hm, by rw [yv (by omega)]; exact S.cl⟩
theorem RSt.row {H : Heap} {F : Fn} {p g : Nat → Nat} {Tm : FTab} {hm : List (Int × Bool)} {gh gk : Nat} {L0 : List Ins} (S : RSt H F p g Tm hm gh gk L0) {i : Nat} (s : Option Fx) : RSt (H.set 10 ⟨1, .arr false false 1 (tabF (Tm.set i s))⟩) F p g (Tm.set i s) hm gh gk L0 :=
  ⟨S.d.set (by omega), y3w (y3d S.tab), by rw [yv (by omega), List.length_set]; exact S.tbx, by rw [yv (by omega)]; exact S.hm, by rw [yv (by omega)]; exact S.cl⟩
theorem RSt.code {H : Heap} {F : Fn} {p g : Nat → Nat} {Tm : FTab} {hm : List (Int × Bool)} {gh gk : Nat} {L0 L L' : List Ins} (S : RSt H F p g Tm hm gh gk L0) (hL : F.code = some L) (hl : L.length = L'.length) :
    RSt (H.set (p 2) ⟨g 2, .arr false false 9 (L'.map enc)⟩) (y7l F L') p g Tm hm gh gk L0 := by
  have h2 := S.d.lo 2 (by omega) (by simp [hasL, hL])
  exact ⟨S.d.setCode hL hl, by rw [yv (by omega)]; exact S.tab, by rw [yv (by omega)]; exact S.tbx, by rw [yv (by omega)]; exact S.hm, by rw [yv (by omega)]; exact S.cl⟩
section
variable {F : Fn} {p g : Nat → Nat} {Tm : FTab} {hm : List (Int × Bool)} {gh gk : Nat} {L0 : List Ins}
theorem y24o {s : Fx} {k : Nat} (hk : fAt Tm k = some s) {M : List Int} (hM : ∀ u ∈ M, 0 ≤ u ∧ u < s.length) (hn : M.length ≤ 9223372036854775806) {g19 : Nat} (v12 v15 v17 v107 v108 v109 : AV) :
    ∀ (d j : Nat) (H : Heap), j + d = M.length → RSt H F p g Tm hm gh gk L0 → H[19]? = some (AI g19 (mapK (subC s) j M)) →
    ∃ H', y1x9 V1 V2 V3 v12 v15 (.int .i64 (k : Int)) v17 (.ls 19 g19 1 0 M.length) v107 v108 v109 (.ls 19 g19 1 0 M.length) (.int .i64 M.length) (.int .i64 (j : Int)) H = q1_4 V1 V2 V3 v12 v15 (.int .i64 (k : Int)) v17 (.ls 19 g19 1 0 M.length) v107 v108 v109 H' ∧
      RSt H' F p g Tm hm gh gk L0 ∧ H'[19]? = some (AI g19 (M.map (subC s))) ∧ H'[18]? = H[18]? := by
  intro d
  induction d with
  | zero =>
    intro j H hd S h19
    have hc : ¬ (j : Int) < (M.length : Int) := by omega
    have : j = M.length := by omega
    subst this
    rw [y27p] at h19
    refine ⟨H, ?_, S, h19, rfl⟩
    rw [yq1, q1_9, yh, y2, decide_eq_false hc, q1_8, y1p]
  | succ d ih =>
    intro j H hd S h19
    have hlt : j < M.length := by omega
    have hc : (j : Int) < (M.length : Int) := by omega
    have hl := y14l (subC s) j M
    have hat := y2kv (σ := subC s) hlt
    have hsu := y1jn (σ := subC s) hlt
    have hu := hM M[j] (List.getElem_mem hlt)
    have l19 := y1bo (α := Int) (v := .int .i64 M[j]) h19 hat rfl
    have ix19 := ynk (id := 19) (g := g19) hlt
    generalize M[j] = u at *
    have hkT := y185 hk
    have lb := yhl S.tbx
    have ixk := y8c (n := Tm.length) (p := (k : Int)) (by omega) (by omega) 10 1 .i64
    rw [Int.toNat_natCast] at ixk
    have lr := ya6 S.tab (yal hkT)
    rw [hk] at lr
    have hut : u.toNat < s.length := by omega
    have xs := ypb (o := some s) (n := u) hu.1 (List.getElem?_eq_getElem hut) .i64
    have hg : s.getD u.toNat (-1) = s[u.toNat] := by rw [List.getD_eq_getElem?_getD, List.getElem?_eq_getElem hut]; rfl
    have hσ : subC s u = if 0 ≤ s[u.toNat] then s[u.toNat] else u := by rw [subC, hg]
    generalize s[u.toNat] = q at *
    have lq : ∀ H : Heap, evLd false 1 (.rp [.int .i64 q]) H = some (.int .i64 q) := fun H => by simp
    rw [yq1, q1_9, yh, y2, decide_eq_true hc, q1_8, y1f, q1_7]
    by_cases h0 : 0 ≤ q
    · rw [if_pos h0] at hσ
      rw [hσ] at hsu
      have st := ydc (α := Int) (H := H) (id := 19) (g := g19) (i := j) (L := mapK (subC s) j M) (v := .int .i64 q) (y := q) h19 (by rw [hl]; exact hlt) rfl
      rw [← hsu] at st
      simp only [y1ft] at st
      obtain ⟨H', r1, r2, r3, r4⟩ := ih (j + 1) (H.set 19 (AI g19 (mapK (subC s) (j + 1) M))) (by omega) (S.set (by omega)) (y3w (y3d h19))
      refine ⟨H', ?_, r2, r3, by rw [r4, yv (by omega)]⟩
      rw [ix19, y2, l19, y2, lb, y2, ixk, y2, lr, y2, xs, y2, lq, y2, y5x, y2, decide_eq_true h0, y1f, y2, ixk, y2, lr, y2, xs, y2, lq, y2, y2, st, yf, q1_6, y76 hlt (by omega), y2]
      exact r1
    · rw [if_neg h0] at hσ
      rw [hσ] at hsu
      have hsame : mapK (subC s) (j + 1) M = mapK (subC s) j M := by
        rw [hsu]
        refine List.ext_getElem? fun i => ?_
        rw [List.getElem?_set]
        by_cases e : j = i
        · subst e; rw [if_pos rfl, if_pos (by rw [hl]; exact hlt), hat]
        · rw [if_neg e]
      obtain ⟨H', r1, r2, r3, r4⟩ := ih (j + 1) H (by omega) S (by rw [hsame]; exact h19)
      refine ⟨H', ?_, r2, r3, r4⟩
      rw [ix19, y2, l19, y2, lb, y2, ixk, y2, lr, y2, xs, y2, lq, y2, y5x, y2, decide_eq_false h0, y1p, q1_6, y76 hlt (by omega), y2]
      exact r1
end
theorem y1rb {H : Heap} {x : Ins} {g19 : Nat} {o : Option (List Int)} (h19 : ∀ L, o = some L → H[19]? = some (AI g19 L)) (hx : (lst x.args).length ≤ 17592186043904) (hl : (lst o).length ≤ 17592186043904) :
    ∃ H' ids ids', y7 E (y8 E) 0 none true 27 [.agg (enc x), ownV 19 g19 o] H = some (.agg (enc (repl x o)), H') ∧ (H' = H ∨ ∃ c, H' = H.set 19 c) ∧
      y3p E (y8 E) 0 none true 27 [.agg (enc x), ownV 19 g19 o] H = some (ids, ids') ∧ 0 ∉ ids' := by
  obtain ⟨r, hr, q, hq, hv⟩ := y1mw x o hx hl
  have hz : fz H y18 (ownV 19 g19 o) = some ⟨slA o, (lst o).all scal, ownI 19 o⟩ := yj6 (α := Int) (k := 10) (fun L e => h19 L e)
  have ha : yt (fz H y18) [.agg (enc x), ownV 19 g19 o] = some ⟨[.agg (enc x), slA o], scal x && ((lst o).all scal && true), ownI 19 o⟩ := by
    rw [yk, yk, y5d, hz, y11]
    simp
  have hp : E.pure 27 = true := rfl
  have n0 : 0 ∉ ownI 19 o := by cases o <;> simp [ownI]
  by_cases hf : (r.fresh || (ownI 19 o).isEmpty) = true
  · refine ⟨H, ownI 19 o, [], ?_, .inl rfl, ?_, by simp⟩
    · simp [y7, y28, ha, hr, hf, hq, hv]
    · simp [y3p, ha, hr, hf]
  · have hf' : (r.fresh || (ownI 19 o).isEmpty) = false := by simpa using hf
    refine ⟨y16 (ownI 19 o) H, ownI 19 o, ownI 19 o, ?_, ?_, ?_, n0⟩
    · simp [y7, y28, ha, hr, hf', hq, hv]
    · cases o with
      | none => simp [ownI] at hf'
      | some L =>
        right
        have h := h19 L rfl
        simp only [ownI, y16, h]
        exact ⟨_, rfl⟩
    · simp [y3p, ha, hr, hf']
end Go.Vm
namespace Go.Vm
open Cel
def y66 (f : Fn) (T : FTab) (k : Nat) : List Ins := (List.range (lst f.code).length).map fun j => if j < k then carI f T j else yg f j
def yaj (f : Fn) (T : FTab) (k j : Nat) : Option Fx := if j < k ∧ fAt T j ≠ none then some (rowC f T j) else fAt T j
theorem yfa (f : Fn) (T : FTab) (k : Nat) : (y66 f T k).length = (lst f.code).length := by simp [y66]
theorem y2ld (f : Fn) (T : FTab) : y66 f T 0 = lst f.code := by
  refine List.ext_getElem? fun i => ?_
  unfold y66
  rw [List.getElem?_map]
  by_cases h : i < (lst f.code).length
  · rw [List.getElem?_range h, y3u h]; rfl
  · rw [List.getElem?_eq_none (by simpa using h), List.getElem?_eq_none (by omega)]; rfl
theorem y1nu (f : Fn) (T : FTab) : y66 f T (lst f.code).length = carL f T := by
  refine List.map_congr_left fun i hi => ?_
  rw [List.mem_range] at hi
  rw [if_pos hi]
theorem y1j4 (f : Fn) (T : FTab) (k : Nat) : (y66 f T k).set k (carI f T k) = y66 f T (k + 1) := by
  unfold y66
  refine ycg ?_ fun j hj => ?_
  · rw [if_pos (by omega)]
  · by_cases h : j < k
    · rw [if_pos h, if_pos (by omega)]
    · rw [if_neg h, if_neg (by omega)]
theorem y1d3 {f : Fn} {T : FTab} {k : Nat} (h : fAt T k = none) : y66 f T (k + 1) = y66 f T k := by
  refine List.map_congr_left fun j hj => ?_
  by_cases e : j = k
  · subst e
    rw [if_pos (by omega), if_neg (by omega), carI, if_pos h]
  · by_cases h : j < k
    · rw [if_pos h, if_pos (by omega)]
    · rw [if_neg h, if_neg (by omega)]
section
variable {f : Fn} (w : Wf f) {T : FTab} (v : InvF f (T, [])) (hR : (lst f.regs).length ≤ 1000000) (hr : (lst f.rows).length ≤ 1000000) (hA : ∀ x ∈ lst f.code, (lst x.args).length ≤ 17592186043904)
  {p g : Nat → Nat} {hm : List (Int × Bool)} {gh gk : Nat} (hh : ∀ i : Int, aget i hm = if i ∈ y69 f then some true else none)
include w v hR hr hA hh
theorem yvp {i : Nat} (hi : i < (lst f.code).length) : (i : Int) ∈ y69 f ↔ y53 f i = true := by
  have key : ∀ n : Nat, (i : Int) ∈ y58 f n ↔ i < n ∧ y53 f i = true := by
    intro n
    induction n with
    | zero => simp [y58]
    | succ n ih =>
      rw [y58, List.mem_append, ih]
      constructor
      · rintro (⟨h1, h2⟩ | h)
        · exact ⟨by omega, h2⟩
        · split at h
          · rename_i hn
            rw [List.mem_singleton] at h
            have : i = n := by omega
            subst this
            exact ⟨by omega, hn⟩
          · cases h
      · rintro ⟨h1, h2⟩
        by_cases e : i = n
        · subst e; right; rw [if_pos h2]; simp
        · exact .inl ⟨by omega, h2⟩
  rw [y69, key]
  exact ⟨fun h => h.2, fun h => ⟨hi, h⟩⟩
theorem y2gd {k : Nat} (hk : k < (lst f.code).length) {H : Heap} {Tm : FTab} (S : RSt H (y7l f (y66 f T k)) p g Tm hm gh gk (lst f.code)) (hTl : Tm.length = (lst f.code).length) (hT : ∀ j, fAt Tm j = yaj f T k j)
    (hn : fAt T k ≠ none) (v17 v107 v108 v109 : AV) :
    ∃ H' Tm', y1bl V1 V2 V3 (.lm 15 gh) (.ls 16 gk 9 0 (lst f.code).length) (.int .i64 (k : Int)) v17 v107 v108 v109 H = y1th V1 V2 V3 (.lm 15 gh) (.ls 16 gk 9 0 (lst f.code).length) (.int .i64 (k : Int)) v17 v107 v108 v109 H' ∧
      RSt H' (y7l f (y66 f T k)) p g Tm' hm gh gk (lst f.code) ∧ Tm'.length = (lst f.code).length ∧ (∀ j, fAt Tm' j = yaj f T (k + 1) j) ∧ H'[18]? = H[18]? := by
  have mg := y2ee (vf := vB) S.hm (.bool false) (k : Int)
  rw [hh] at mg
  have hrow : yaj f T (k + 1) k = some (rowC f T k) := by rw [yaj, if_pos ⟨by omega, hn⟩]
  have hoth : ∀ j, j ≠ k → yaj f T (k + 1) j = yaj f T k j := fun j hj => by
    unfold yaj
    by_cases e : j < k
    · by_cases e2 : fAt T j = none
      · rw [if_neg (fun h => h.2 e2), if_neg (fun h => h.2 e2)]
      · rw [if_pos ⟨by omega, e2⟩, if_pos ⟨e, e2⟩]
    · rw [if_neg (fun h => e (by omega)), if_neg (fun h => e h.1)]
  have hkk : yaj f T k k = fAt T k := by rw [yaj, if_neg (fun h => by omega)]
  cases hd : y53 f k with
  | true =>
    have hmem : (k : Int) ∈ y69 f := (yvp w v hR hr hA hh hk).2 hd
    rw [if_pos hmem] at mg
    have mg' : y85 false [0] (.bool false) false (.lm 15 gh) (.int .i64 (k : Int)) H = some (.bool true) := mg
    refine ⟨H, Tm, ?_, S, hTl, fun j => ?_, rfl⟩
    · rw [y1bl, mg', y2, y2d, y2, Bool.not_true, y1p]
    · by_cases e : j = k
      · subst e
        rw [hT, hrow, hkk]
        obtain ⟨t, ht⟩ := y6h hn
        have e1 : tF T j = t := by rw [tF, ht]; rfl
        rw [ht]
        cases j with
        | zero => rw [rowC, e1]
        | succ i => rw [rowC, if_pos hd, e1]
      · rw [hT, hoth j e]
  | false =>
    have hmem : ¬ (k : Int) ∈ y69 f := fun h => by rw [(yvp w v hR hr hA hh hk).1 h] at hd; cases hd
    rw [if_neg hmem] at mg
    have mg' : y85 false [0] (.bool false) false (.lm 15 gh) (.int .i64 (k : Int)) H = some (.bool false) := mg
    have k0 : k ≠ 0 := fun e => by rw [y21d e] at hd; cases hd
    obtain ⟨i, rfl⟩ : ∃ i, k = i + 1 := ⟨k - 1, by omega⟩
    have ha := ymk w v hn hd
    obtain ⟨r1, r2⟩ := yj8 w v i ha
    have hTi : fAt Tm i = some (rowC f T i) := by rw [hT, yaj, if_pos ⟨by omega, ha⟩]
    have hTk := hT (i + 1)
    rw [hkk] at hTk
    have hro : rowC f T (i + 1) = behM (rowC f T i) (yg f i) := by rw [rowC, if_neg (by rw [hd]; simp)]
    have lb := yhl S.tbx
    have sb : y5 .sub (.int .i64 ((i + 1 : Nat) : Int)) (.int .i64 1) = some (.int .i64 (i : Int)) := by
      rw [yeu]
      congr 2
      have := w.n2
      rw [y2b] <;> omega
    have ixi := y8c (n := Tm.length) (p := (i : Int)) (by omega) (by omega) 10 1 .i64
    have ixk := y8c (n := Tm.length) (p := ((i + 1 : Nat) : Int)) (by omega) (by omega) 10 1 .i64
    rw [Int.toNat_natCast] at ixi ixk
    have li := ya6 S.tab (yal (T := Tm) (i := i) (by omega))
    rw [hTi] at li
    have hil : i < (lst f.code).length := by omega
    have ixc := y11p hil 16 gk 9 .i64
    have lc := y1sk S.cl (y3u hil)
    have hbeh := y2r1 hR w hr hil r1
    have ha2 : yt (fz H y18) [slA (some (rowC f T i)), .agg (enc (yg f i))] = some ⟨[slA (some (rowC f T i)), .agg (enc (yg f i))], (lst (some (rowC f T i))).isEmpty && (scal (yg f i) && true), []⟩ := by
      rw [yk, yk, yqk, y5d, y11]; rfl
    have c152 := ydk (E := E) (C := y8 E) (fb := 0) (f := 152) rfl ha2 (by rw [y6x]; simp) hbeh ⟨_, ybe _, rfl⟩
    have f152 := yzj (E := E) (C := y8 E) (fb := 0) (f := 152) rfl ha2 rfl hbeh
    have hrk := yal (T := Tm) (i := i + 1) (by omega)
    have st := yud (v := slA (some (behM (rowC f T i) (yg f i)))) S.tab hrk rfl rfl
    rw [yqb] at st
    have S1 := S.row (i := i + 1) (some (behM (rowC f T i) (yg f i)))
    refine ⟨_, Tm.set (i + 1) (some (behM (rowC f T i) (yg f i))), ?_, S1, by rw [List.length_set]; exact hTl, fun j => ?_, by rw [yv (by omega)]⟩
    · rw [y1bl, mg', y2, y2d, y2, Bool.not_false, y1f, lb, y2, y2, sb, y2, ixi, y2, li, y2, y2, ixc, y2, lc, y2, f152, yek, c152, yf, ixk, y2, st, yf, y1xc (by rfl)]
    · rw [yqr (by omega)]
      by_cases e : i + 1 = j
      · subst e; rw [if_pos rfl, hrow, hro]
      · rw [if_neg e, hT, hoth j (fun h => e h.symm)]
theorem y1me {k : Nat} (hk : k < (lst f.code).length) {H : Heap} {Tm : FTab} (S : RSt H (y7l f (y66 f T k)) p g Tm hm gh gk (lst f.code)) (hTl : Tm.length = (lst f.code).length) (hT : ∀ j, fAt Tm j = yaj f T k j)
    (hn : fAt T k ≠ none) {g18 : Nat} (h18 : H[18]? = some (AX g18 (yg f k))) (v107 v108 v109 : AV) :
    ∃ H' Tm', y1bl V1 V2 V3 (.lm 15 gh) (.ls 16 gk 9 0 (lst f.code).length) (.int .i64 (k : Int)) (.lp 18 g18 0 0) v107 v108 v109 H = q1_3 V1 V2 V3 (.lm 15 gh) (.ls 16 gk 9 0 (lst f.code).length) v107 v108 v109 H' ∧
      RSt H' (y7l f (y66 f T (k + 1))) p g Tm' hm gh gk (lst f.code) ∧ Tm'.length = (lst f.code).length ∧ (∀ j, fAt Tm' j = yaj f T (k + 1) j) := by
  obtain ⟨H1, T1, e1, S1, hl1, hT1, k18⟩ := y2gd w v hR hr hA hh hk S hTl hT hn (.lp 18 g18 0 0) v107 v108 v109
  rw [h18] at k18
  have hx := List.mem_of_getElem? (y3u hk)
  have hxa := hA _ hx
  obtain ⟨r1, r2⟩ := yj8 w v k hn
  have hrow : fAt T1 k = some (rowC f T k) := by rw [hT1, yaj, if_pos ⟨by omega, hn⟩]
  have hul : (lst (uses (yg f k))).length ≤ 17592186043904 := by
    by_cases hc : calls (yg f k).op = true
    · have : uses (yg f k) = (yg f k).args := by simp [uses, hc]
      rw [this]; omega
    · have := yp7 (x := yg f k) (by simpa using hc); omega
  have lx := y2ns k18
  have ay : yt (fz H1 y18) [.agg (enc (yg f k))] = some ⟨[.agg (enc (yg f k))], scal (yg f k) && true, []⟩ := by
    rw [yk, y5d, y11]; rfl
  have hlen := S1.d.len
  obtain ⟨o, ho⟩ : ∃ o, H1[0 + 19]? = some o := ⟨_, List.getElem?_eq_getElem (by omega)⟩
  have cU := ykv (α := Int) (E := E) (C := y8 E) (fb := 0) (j := 19) (f := 10) (H := H1) (N := uses (yg f k)) rfl ay (ye2 (yg f k) (by omega)) (by simp) ho
  rw [Nat.zero_add] at cU ho
  have S2 := S1.set (a := 19) (x := ownO (α := Int) (o.gen + 1) o (uses (yg f k))) (by omega)
  have m18 : (H1.set 19 (ownO (α := Int) (o.gen + 1) o (uses (yg f k))))[18]? = some (AX g18 (yg f k)) := by rw [yv (by omega)]; exact k18
  have m19 : (H1.set 19 (ownO (α := Int) (o.gen + 1) o (uses (yg f k))))[19]? = some (ownO (α := Int) (o.gen + 1) o (uses (yg f k))) := y3w (y3d ho)
  generalize H1.set 19 (ownO (α := Int) (o.gen + 1) o (uses (yg f k))) = H2 at *
  -- the loop over what is read
  have lp : ∃ H3, y1vs V1 V2 V3 (.lm 15 gh) (.ls 16 gk 9 0 (lst f.code).length) (.int .i64 (k : Int)) (.lp 18 g18 0 0) (ownV 19 (o.gen + 1) (uses (yg f k))) v107 v108 v109 H2 =
      q1_4 V1 V2 V3 (.lm 15 gh) (.ls 16 gk 9 0 (lst f.code).length) (.int .i64 (k : Int)) (.lp 18 g18 0 0) (ownV 19 (o.gen + 1) ((uses (yg f k)).map fun l => l.map (subC (rowC f T k)))) v107 v108 v109 H3 ∧
      RSt H3 (y7l f (y66 f T k)) p g T1 hm gh gk (lst f.code) ∧ H3[18]? = some (AX g18 (yg f k)) ∧ ∀ L, (uses (yg f k)).map (fun l => l.map (subC (rowC f T k))) = some L → H3[19]? = some (AI (o.gen + 1) L) := by
    cases hu : uses (yg f k) with
    | none =>
      rw [hu] at m19
      have hc : ¬ (0 : Int) < 0 := by omega
      refine ⟨H2, ?_, S2, m18, fun L h => by cases h⟩
      have l0 : yq 1 (ownV 19 (o.gen + 1) (none : Option (List Int))) H2 = some (.int .i64 0) := rfl
      rw [y1vs, l0, y2, yq1, q1_9, yh, y2, decide_eq_false hc, q1_8, y1p]
      rfl
    | some M =>
      rw [hu] at m19 hul
      simp only [y3b] at hul
      have hM : ∀ u ∈ M, 0 ≤ u ∧ u < (rowC f T k).length := fun u h => by
        rw [r1]
        exact w.uses hk (by rw [hu]; exact h)
      obtain ⟨H3, q1, q2, q3, q4⟩ := y24o hrow hM (by omega) (g19 := o.gen + 1) (.lm 15 gh) (.ls 16 gk 9 0 (lst f.code).length) (.lp 18 g18 0 0) v107 v108 v109 _ 0 H2 (Nat.zero_add _) S2 (by rw [y2u0]; exact m19)
      refine ⟨H3, ?_, q2, by rw [q4]; exact m18, fun L h => ?_⟩
      · have l0 : yq 1 (ownV 19 (o.gen + 1) (some M)) H2 = some (.int .i64 M.length) := rfl
        have hml : (M.map (subC (rowC f T k))).length = M.length := List.length_map _
        have ev : ownV 19 (o.gen + 1) ((some M).map fun l => l.map (subC (rowC f T k))) = (.ls 19 (o.gen + 1) 1 0 M.length : AV) := by
          show AV.ls 19 (o.gen + 1) 1 0 (M.map (subC (rowC f T k))).length = _
          rw [hml]
        rw [ev, ← q1, y1vs, l0, y2]
        rfl
      · have : M.map (subC (rowC f T k)) = L := Option.some.inj h
        rw [← this]; exact q3
  obtain ⟨H3, e3, S3, n18, n19⟩ := lp
  obtain ⟨H4, ids, ids', c27, hH, f27, h0⟩ := y1rb (x := yg f k) n19 (by omega) (by rw [ybk, List.length_map]; omega)
  have S4 : RSt H4 (y7l f (y66 f T k)) p g T1 hm gh gk (lst f.code) := by
    rcases hH with e | ⟨c, e⟩
    · rw [e]; exact S3
    · rw [e]; exact S3.set (by omega)
  have lx3 := y2ns n18
  have hcode : (y7l f (y66 f T k)).code = some (y66 f T k) := rfl
  have lc := S3.d.ldc
  have hov : ownV (p 2) (g 2) (y7l f (y66 f T k)).code = .ls (p 2) (g 2) 9 0 (lst f.code).length := by
    show AV.ls (p 2) (g 2) 9 0 (y66 f T k).length = _
    rw [yfa]
  rw [hov] at lc
  have ixc := y11p hk (p 2) (g 2) 9 .i64
  have hy : repl (yg f k) ((uses (yg f k)).map fun l => l.map (subC (rowC f T k))) = carI f T k := by rw [carI, if_neg hn]; rfl
  rw [hy] at c27
  have st := S4.d.st hcode (i := k) (by rw [yfa]; exact hk) (carI f T k)
  rw [y1j4] at st
  have S5 := S4.code hcode (L' := y66 f T (k + 1)) (by rw [yfa, yfa])
  refine ⟨_, T1, ?_, S5, hl1, hT1⟩
  have fa : evFa 3 V1 = some (.lp 0 1 0 3) := rfl
  have hp : yd [([], []), (ids1 (.lp 0 1 0 3), []), ([], []), (ids1 (.lp 18 g18 0 0), []), ([], []), (ids, ids'), ([], []), ([], ids1 (.lp (p 2) (g 2) k 0))] [(1, 5)] = true := by
    simp [yd, yu, meets, ids1, h0]
  rw [e1, y1th, lx, y2, cU, yf, e3, q1_4, fa, y2, lc, y2, lx3, y2, f27, yek, c27, yf, ixc, y2, st, yf, y1xc hp]
theorem y262 : ∀ (d k : Nat), k + d = (lst f.code).length → ∀ (H : Heap) (Tm : FTab), RSt H (y7l f (y66 f T k)) p g Tm hm gh gk (lst f.code) → Tm.length = (lst f.code).length → (∀ j, fAt Tm j = yaj f T k j) →
    ∃ H', y1b2 V1 V2 V3 (.lm 15 gh) (.ls 16 gk 9 0 (lst f.code).length) (.ls 16 gk 9 0 (lst f.code).length) (.int .i64 (lst f.code).length) (.int .i64 (k : Int)) H = q1_1 V1 V2 H' ∧ DSt H' (carF f T) p g 20 := by
  have hn2 := w.n2
  intro d
  induction d with
  | zero =>
    intro k hkd H Tm S hTl hT
    have hc : ¬ (k : Int) < ((lst f.code).length : Int) := by omega
    have e : k = (lst f.code).length := by omega
    subst e
    have D := S.d
    rw [y1nu] at D
    refine ⟨H, ?_, D⟩
    rw [y11q, y29j, yh, y2, decide_eq_false hc, y22j, y1p]
  | succ d ih =>
    intro k hkd H Tm S hTl hT
    have hk : k < (lst f.code).length := by omega
    have hc : (k : Int) < ((lst f.code).length : Int) := by omega
    have ixc := y11p hk 16 gk 9 .i64
    have lc := y1sk S.cl (y3u hk)
    have hlen := S.d.len
    obtain ⟨o, ho⟩ : ∃ o, H[0 + 18]? = some o := ⟨_, List.getElem?_eq_getElem (by omega)⟩
    have nx := y2yy ho
    rw [Nat.zero_add] at nx ho
    have sx := st_x (H := H.set 18 (AX (o.gen + 1) default)) (id := 18) (g := o.gen + 1) (y := yg f k) (y3w (y3d ho))
    rw [List.set_set] at sx
    have S1 := S.set (a := 18) (x := AX (o.gen + 1) (yg f k)) (by omega)
    have h18 : (H.set 18 (AX (o.gen + 1) (yg f k)))[18]? = some (AX (o.gen + 1) (yg f k)) := y3w (y3d ho)
    generalize H.set 18 (AX (o.gen + 1) (yg f k)) = H1 at *
    have lb := yhl S1.tbx
    have ixk := y8c (n := Tm.length) (p := (k : Int)) (by omega) (by omega) 10 1 .i64
    rw [Int.toNat_natCast] at ixk
    have lr := ya6 S1.tab (yal (T := Tm) (i := k) (by omega))
    have hTk : fAt Tm k = fAt T k := by rw [hT, yaj, if_neg (fun h => by omega)]
    rw [hTk] at lr
    have next : ∀ (H' : Heap) (T' : FTab), RSt H' (y7l f (y66 f T (k + 1))) p g T' hm gh gk (lst f.code) → T'.length = (lst f.code).length → (∀ j, fAt T' j = yaj f T (k + 1) j) →
        ∃ H'', q1_3 V1 V2 V3 (.lm 15 gh) (.ls 16 gk 9 0 (lst f.code).length) (.ls 16 gk 9 0 (lst f.code).length) (.int .i64 (lst f.code).length) (.int .i64 (k : Int)) H' = q1_1 V1 V2 H'' ∧ DSt H'' (carF f T) p g 20 := by
      intro H' T' S' hl' hT'
      obtain ⟨H'', r1, r2⟩ := ih (k + 1) (by omega) H' T' S' hl' hT'
      refine ⟨H'', ?_, r2⟩
      rw [q1_3, y76 hk (by omega), y2]
      exact r1
    have e15 : y1b2 V1 V2 V3 (.lm 15 gh) (.ls 16 gk 9 0 (lst f.code).length) (.ls 16 gk 9 0 (lst f.code).length) (.int .i64 (lst f.code).length) (.int .i64 (k : Int)) H =
        y1ih V1 V2 V3 (.lm 15 gh) (.ls 16 gk 9 0 (lst f.code).length) (.int .i64 (k : Int)) (.lp 18 (o.gen + 1) 0 0) (.ls 16 gk 9 0 (lst f.code).length) (.int .i64 (lst f.code).length) (.int .i64 (k : Int)) H1 := by
      rw [y11q, y29j, yh, y2, decide_eq_true hc, y22j, y1f, y2kw, ixc, y2, lc, y2, nx, yf, sx, yf]
    rw [e15]
    cases hTn : fAt T k with
    | none =>
      rw [hTn] at lr
      have eq : y3n 1 false (slA (none : Option Fx)) AV.nils = some (.bool true) := rfl
      obtain ⟨H'', r1, r2⟩ := next H1 Tm (by rw [y1d3 hTn]; exact S1) hTl (fun j => by
        rw [hT]
        unfold yaj
        by_cases e : j = k
        · subst e
          rw [if_neg (fun h => h.2 hTn), if_neg (fun h => h.2 hTn)]
        · by_cases h : j < k ∧ fAt T j ≠ none
          · rw [if_pos h, if_pos ⟨by omega, h.2⟩]
          · rw [if_neg h, if_neg (fun h2 => h ⟨by omega, h2.2⟩)])
      refine ⟨H'', ?_, r2⟩
      rw [y1ih, lb, y2, ixk, y2, lr, y2, eq, y2, y1f]
      exact r1
    | some t =>
      rw [hTn] at lr
      have eq : y3n 1 false (slA (some t)) AV.nils = some (.bool false) := rfl
      obtain ⟨H2, T2, q1, q2, q3, q4⟩ := y1me w v hR hr hA hh hk S1 hTl hT (by rw [hTn]; simp) h18 (.ls 16 gk 9 0 (lst f.code).length) (.int .i64 (lst f.code).length) (.int .i64 (k : Int))
      obtain ⟨H'', r1, r2⟩ := next H2 T2 q2 q3 q4
      refine ⟨H'', ?_, r2⟩
      rw [y1ih, lb, y2, ixk, y2, lr, y2, eq, y2, y1p, q1]
      exact r1
end
end Go.Vm
namespace Go.Vm
open Cel
theorem y1o5 {H : Heap} {id g off len : Nat} {L M : Fx} {y : AV} (h : H[id]? = some (AI g L)) (hy : y3g H 1 y = some (M.map enc)) (hl : off + len ≤ L.length) :
    yjy 1 (.ls id g 1 off len) y H = some (.int .i64 ((min M.length len : Nat) : Int), H.set id (AI g (L.take off ++ M.take (min M.length len) ++ L.drop (off + min M.length len)))) := by
  have hr : ym H id g = some (false, 1, L.map enc) := by simp [ym, y37, h]
  have hc : off + len ≤ (L.map (enc (α := Int))).length := by rw [List.length_map]; exact hl
  rw [yjy, hy]
  simp only [hr]
  rw [if_pos ⟨trivial, trivial, trivial, hc⟩]
  simp only [List.length_map, y29, h]
  rw [AI, List.map_append, List.map_append, List.map_take, List.map_take, List.map_drop]
theorem y249 {H : Heap} {id g off len : Nat} {L : Fx} (h : H[id]? = some (AI g L)) (hl : off + len ≤ L.length) : y3g H 1 (.ls id g 1 off len) = some (((L.drop off).take len).map enc) := by
  have hr : ym H id g = some (false, 1, L.map enc) := by simp [ym, y37, h]
  have hc : off + len ≤ (L.map (enc (α := Int))).length := by rw [List.length_map]; exact hl
  rw [y1n2, hr]
  simp only
  rw [if_pos ⟨trivial, trivial, hc⟩, List.map_take, List.map_drop]
theorem y21r {n k : Nat} (h : k ≤ n) : (List.replicate k (-1 : Int) ++ List.replicate (n - k) 0).take k ++ (List.replicate k (-1 : Int)).take (min k (n - k)) ++ (List.replicate k (-1 : Int) ++ List.replicate (n - k) 0).drop (k + min k (n - k)) = List.replicate (k + min k (n - k)) (-1 : Int) ++ List.replicate (n - (k + min k (n - k))) 0 := by
  have e1 : (List.replicate k (-1 : Int) ++ List.replicate (n - k) 0).take k = List.replicate k (-1) := by
    rw [List.take_append_of_le_length (by simp), List.take_of_length_le (by simp)]
  have e2 : (List.replicate k (-1 : Int) ++ List.replicate (n - k) 0).drop (k + min k (n - k)) = List.replicate (n - (k + min k (n - k))) 0 := by
    rw [List.drop_append, List.drop_eq_nil_of_le (by simp), List.nil_append, List.length_replicate, List.drop_replicate]
    congr 1; omega
  rw [e1, e2, List.take_replicate]
  congr 1
  rw [List.replicate_append_replicate]
  congr 1
  omega
end Go.Vm
namespace Go.Vm
open Cel
theorem u64n {n : Nat} (h : n < 18446744073709551616) : IntKind.wrap .u64 (n : Int) = (n : Int) := by
  simp [IntKind.wrap, IntKind.bits, IntKind.signed]; omega
theorem y20i {n : Nat} (h : n < 4294967296) : y5 .and (.int .u64 n) (.int .u64 4294967295) = some (.int .u64 n) := by
  show some (AV.int .u64 (IntKind.wrap .u64 ((BitVec.ofInt 64 (n : Int) &&& BitVec.ofInt 64 4294967295).toNat : Int))) = _
  have e : (BitVec.ofInt 64 (n : Int) &&& BitVec.ofInt 64 4294967295).toNat = n := by
    rw [BitVec.toNat_and]
    have e1 : (BitVec.ofInt 64 (n : Int)).toNat = n := by
      rw [BitVec.ofInt_natCast, BitVec.toNat_ofNat]; omega
    have e2 : (BitVec.ofInt 64 4294967295).toNat = 2 ^ 32 - 1 := by decide
    rw [e1, e2, Nat.and_two_pow_sub_one_eq_mod]
    omega
  rw [e, u64n (by omega)]
theorem y2vy {n : Nat} (h : n < 4294967296) : y5 .shr (.int .u64 n) (.int .u64 32) = some (.int .u64 0) := by
  show some (AV.int .u64 (Int.fdiv (n : Int) (2 ^ 32))) = _
  have e2 : ((2 : Int) ^ 32) = ((2 ^ 32 : Nat) : Int) := by decide
  have e3 : n / 2 ^ 32 = 0 := Nat.div_eq_of_lt (by simpa using h)
  rw [e2, Int.fdiv_eq_ediv_of_nonneg _ (Int.natCast_nonneg _), ← Int.natCast_ediv, e3]
  rfl
theorem y1nz {n : Nat} (h : n < 4294967296) : y5 .mul (.int .u64 1) (.int .u64 n) = some (.int .u64 n) := by
  show some (AV.int .u64 (IntKind.wrap .u64 (1 * (n : Int)))) = _
  rw [Int.one_mul, u64n (by omega)]
theorem y1b7 {n : Nat} : y5 .mul (.int .u64 0) (.int .u64 n) = some (.int .u64 0) := by
  show some (AV.int .u64 (IntKind.wrap .u64 (0 * (n : Int)))) = _
  rw [Int.zero_mul]
  rfl
theorem y2gg {n : Nat} (h : n < 4294967296) : (y8 E).p 159 [.int .u64 1, .int .u64 n] = some ⟨.tup [.int .u64 0, .int .u64 n], [], true, [], []⟩ := by
  rw [y2w2]
  have a1 : y5 .and (.int .u64 1) (.int .u64 4294967295) = some (.int .u64 1) := rfl
  have s1 : y5 .shr (.int .u64 1) (.int .u64 32) = some (.int .u64 0) := rfl
  have z1 : y5 .add (.int .u64 0) (.int .u64 0) = some (.int .u64 0) := rfl
  have z2 : y5 .and (.int .u64 0) (.int .u64 4294967295) = some (.int .u64 0) := rfl
  have z3 : y5 .shr (.int .u64 0) (.int .u64 32) = some (.int .u64 0) := rfl
  have z4 : y5 .mul (.int .u64 1) (.int .u64 0) = some (.int .u64 0) := rfl
  have z5 : y5 .mul (.int .u64 0) (.int .u64 0) = some (.int .u64 0) := rfl
  simp only [y2hu, a1, y2, s1, y20i h, y2vy h, y1nz h, y1b7, z1, z2, z3, z4, z5]
  rfl
theorem y2wu {n : Nat} (h : n < 4294967296) : (y8 E).p 157 [.int .u64 1, .int .u64 n] = some ⟨.tup [.int .u64 0, .int .u64 n], [], true, [], []⟩ := by
  rw [y2ze]
  have c : y7 E (y8 E) 0 none true 159 [.int .u64 1, .int .u64 n] [] = some (.tup [.int .u64 0, .int .u64 n], []) := y27 (fa := ⟨[.int .u64 1, .int .u64 n], true, []⟩) rfl rfl rfl (y2gg h) ⟨_, rfl, rfl⟩
  have x0 : y5r 0 (.tup [.int .u64 0, .int .u64 n]) = some (.int .u64 0) := rfl
  have x1 : y5r 1 (.tup [.int .u64 0, .int .u64 n]) = some (.int .u64 n) := rfl
  rw [y2iy, y2ir, y1p, y2eq, c, yf, x0, y2, x1, y2]
  rfl
end Go.Vm
namespace Go.Vm
open Cel
abbrev repL (n k : Nat) : Fx := List.replicate k (-1 : Int) ++ List.replicate (n - k) 0
theorem y20y {n k : Nat} (h : k ≤ n) : (repL n k).length = n := by simp [repL]; omega
theorem y2p0 {id g n a b : Nat} (ha : a ≤ b) (hb : b ≤ n) (h : n ≤ 9223372036854775807) :
    y5y 1 (.ls id g 1 0 n) (some (.int .i64 (a : Int))) none = some (.ls id g 1 a (n - a)) ∧ y5y 1 (.ls id g 1 0 n) none (some (.int .i64 (b : Int))) = some (.ls id g 1 0 b) := by
  have e1 : yd6 (.int .i64 (a : Int)) n = some a := by
    unfold yd6
    simp; omega
  have e2 : yd6 (.int .i64 (b : Int)) n = some b := by
    unfold yd6
    simp; omega
  constructor
  · simp [y5y, yq6, y7i, e1]
  · simp [y5y, yq6, y7i, e2]
theorem y22o {n : Nat} (hn : n ≤ 1000000) : ∀ (d k : Nat), n - k ≤ d → k ≤ n → (1 ≤ k ∨ n = 0) → ∀ H : Heap, H[0]? = some (AI 1 (repL n k)) →
    yij (.ls 0 1 1 0 n) (.int .i64 (k : Int)) H = y19f (.ls 0 1 1 0 n) (H.set 0 (AI 1 (List.replicate n (-1)))) := by
  intro d
  induction d with
  | zero =>
    intro k hd hk h1 H hH
    have e : k = n := by omega
    subst e
    have hc : ¬ (k : Int) < (k : Int) := by omega
    have e2 : repL k k = List.replicate k (-1) := by simp [repL]
    rw [e2] at hH
    have l : yq 1 (.ls 0 1 1 0 k) H = some (.int .i64 k) := rfl
    rw [yms, y6e hH, y13p, l, y2, yh, y2, decide_eq_false hc, y1p]
  | succ d ih =>
    intro k hd hk h1 H hH
    by_cases e : k = n
    · exact ih k (by omega) hk h1 H hH
    have hlt : (k : Int) < (n : Int) := by omega
    have l : yq 1 (.ls 0 1 1 0 n) H = some (.int .i64 n) := rfl
    obtain ⟨s1, s2⟩ := y2p0 (id := 0) (g := 1) (n := n) (a := k) (b := k) (by omega) hk (by omega)
    have hl := y20y hk
    have r := y249 (H := H) (id := 0) (g := 1) (off := 0) (len := k) hH (by omega)
    have e0 : ((repL n k).drop 0).take k = List.replicate k (-1) := by
      rw [List.drop_zero, repL, List.take_append_of_le_length (by simp), List.take_of_length_le (by simp)]
    rw [e0] at r
    have c := y1o5 (H := H) (id := 0) (g := 1) (off := k) (len := n - k) hH r (by omega)
    rw [List.length_replicate] at c
    have st := y21r hk
    rw [show (List.replicate k (-1 : Int) ++ List.replicate (n - k) 0) = repL n k from rfl] at st
    rw [st] at c
    have hl1 : 0 < H.length := (List.getElem?_eq_some_iff.1 hH).1
    have ad : y5 .add (.int .i64 (k : Int)) (.int .i64 ((min k (n - k) : Nat) : Int)) = some (.int .i64 ((k + min k (n - k) : Nat) : Int)) := by
      rw [y1q]
      congr 2
      rw [y2b] <;> omega
    have := ih (k + min k (n - k)) (by omega) (by omega) (by omega) (H.set 0 (AI 1 (repL n (k + min k (n - k))))) (by rw [List.getElem?_set_self hl1])
    rw [List.set_set] at this
    rw [yms, y13p, l, y2, yh, y2, decide_eq_true hlt, y1f, y1ic, s1, y2, s2, y2, c, yf, ad, y2]
    exact this
theorem y2j6 (H : Heap) {j : Nat} {o : AO} (h : H[j]? = some o) (n : Nat) (hn : n ≤ 1000000) : mkSC 0 (some j) 1 8 [.int .i64 0] (.int .i64 n) (.int .i64 n) H = some (.ls j (o.gen + 1) 1 0 n, H.set j (AI (o.gen + 1) (List.replicate n 0))) := by
  have h1 : (n : Int) * 8 ≤ 2 ^ 47 := by omega
  have h2 : (n : Int) ≤ 2 ^ 62 := by omega
  have z : [AV.int .i64 0].length = 1 ∧ [AV.int .i64 0].all y17 = true ∧ (0 : Int) ≤ (n : Int) ∧ (n : Int) ≤ n ∧ (n : Int) * ((8 : Nat) : Int) ≤ 2 ^ 47 ∧ (n : Int) ≤ 2 ^ 62 := ⟨rfl, rfl, by omega, by omega, h1, h2⟩
  rw [mkSC, if_pos z, y42, place]
  simp only [Nat.zero_add, h, Option.map_some, Int.toNat_natCast, List.length_replicate]
  rw [show (List.replicate n [AV.int .i64 0]) = (List.replicate n (0 : Int)).map enc by rw [List.map_replicate]; rfl]
theorem y291 {n : Nat} (hn : n ≤ 1000000) : (y8 E).p 150 [slA (some [-1]), .int .i64 (n : Int)] = some (exO (some (List.replicate n (-1 : Int)))) := by
  rw [y2ra]
  have hneg : ¬ (n : Int) < 0 := by omega
  have c1 : yq 1 (slA (some [-1])) [D0] = some (.int .i64 1) := by rw [y33]; rfl
  have u1 : yco .u64 (.int .i64 1) = some (.int .u64 1) := rfl
  have un : yco .u64 (.int .i64 (n : Int)) = some (.int .u64 (n : Int)) := by rw [yv0, u64n (by omega)]
  have ni : yco .i64 (.int .u64 (n : Int)) = some (.int .i64 (n : Int)) := by
    rw [yv0]
    congr 2
    rw [y2b] <;> omega
  have cM : y7 E (y8 E) 0 none true 157 [.int .u64 1, .int .u64 (n : Int)] [D0] = some (.tup [.int .u64 0, .int .u64 (n : Int)], [D0]) := y27 (fa := ⟨[.int .u64 1, .int .u64 (n : Int)], true, []⟩) rfl rfl rfl (y2wu (by omega)) ⟨_, rfl, rfl⟩
  have x0 : y5r 0 (.tup [.int .u64 0, .int .u64 (n : Int)]) = some (.int .u64 0) := rfl
  have x1 : y5r 1 (.tup [.int .u64 0, .int .u64 (n : Int)]) = some (.int .u64 (n : Int)) := rfl
  have g0 : y5 .gtr (.int .u64 0) (.int .u64 0) = some (.bool false) := rfl
  have gn : y5 .gtr (.int .u64 (n : Int)) (.int .u64 9223372036854775807) = some (.bool false) := by
    rw [y3c, decide_eq_false (by omega)]
  have mk := y2j6 [D0] (j := 0) (o := D0) rfl n hn
  have mk' : mkSC 0 (some 0) 1 8 [.int .i64 0] (.int .i64 n) (.int .i64 n) [D0] = some (.ls 0 1 1 0 n, [AI 1 (List.replicate n 0)]) := mk
  have r1 : y3g [AI 1 (List.replicate n 0)] 1 (slA (some [(-1 : Int)])) = some (([-1] : Fx).map enc) := y1dp (some [-1]) _
  have c2 := y1o5 (H := [AI 1 (List.replicate n 0)]) (id := 0) (g := 1) (off := 0) (len := n) (L := List.replicate n 0) (M := [-1]) rfl r1 (by simp)
  have e0 : (List.replicate n (0 : Int)).take 0 ++ ([-1] : Fx).take (min ([-1] : Fx).length n) ++ (List.replicate n (0 : Int)).drop (0 + min ([-1] : Fx).length n) = repL n (min 1 n) := by
    have e1 : ([-1] : Fx).length = 1 := rfl
    rw [List.take_zero, List.nil_append, e1, Nat.zero_add, List.drop_replicate, repL]
    congr 1
    rcases Nat.eq_zero_or_pos n with h | h
    · subst h; rfl
    · rw [show min 1 n = 1 by omega]; rfl
  rw [e0] at c2
  have e3 : min ([-1] : Fx).length n = min 1 n := rfl
  rw [e3] at c2
  have hs : [AI 1 (List.replicate n 0)].set 0 (AI 1 (repL n (min 1 n))) = [AI 1 (repL n (min 1 n))] := rfl
  rw [hs] at c2
  have lp := y22o hn n (min 1 n) (by omega) (by omega) (by omega) [AI 1 (repL n (min 1 n))] rfl
  have hs2 : [AI 1 (repL n (min 1 n))].set 0 (AI 1 (List.replicate n (-1))) = [AI 1 (List.replicate n (-1))] := rfl
  rw [hs2] at lp
  rw [yxj, yy0, yh, y2, decide_eq_false hneg, y1p, yx5, c1, y2, u1, y2, un, y2, cM, yf, x0, y2, x1, y2, y1mv, g0, y2, ycn, y2, ycn, gn, y2, y2p, y2, y1p, y1ny, ni, y2, mk', yf, y1fe, c2, yf, lp, y19f]
  have hl : (List.replicate n (-1 : Int)).length = n := List.length_replicate
  clear lp hs2
  generalize List.replicate n (-1 : Int) = L at *
  rw [← hl]
  exact y26 (α := Int) (L := L) (by simp [ym, y37])
end Go.Vm
namespace Go.Vm
open Cel
attribute [local simp] y7 y28 yr
abbrev HH (f : Fn) (a : List Bool) (o2 o3 o4 o5 o6 : AO) : Heap := [⟨1, .arr true false 5 [enc f]⟩, ⟨1, .arr false false 1 (a.map enc)⟩, o2, o3, o4, o5, o6]
theorem ixAt {n : Nat} {p : Int} (h0 : 0 ≤ p) (h1 : p < (n : Int)) (id g : Nat) (k : IntKind) : yi 1 (.ls id g 1 0 n) (.int k p) = some (.lp id g p.toNat 0) := by simp [yi, h0, h1]
theorem stHH (f : Fn) (a : List Bool) (o2 o3 o4 o5 o6 : AO) {j : Nat} (h : j < a.length) : evSt 1 (.lp 1 1 j 0) (.bool true) (HH f a o2 o3 o4 o5 o6) = some (.tup [], HH f (a.set j true) o2 o3 o4 o5 o6) :=
  ydc (α := Bool) (v := .bool true) (y := true) rfl h rfl
theorem y1dn (f : Fn) (o3 o4 o5 o6 : AO) (hl : (lst f.code).length ≤ 9223372036854775806) : ∀ (d i : Nat) (a : List Bool) (o2 : AO), i + d = (lst f.code).length → a.length = (lst f.code).length + 1 →
    ∃ o2', yib (.lp 0 1 0 0) (.ls 1 1 1 0 ((lst f.code).length + 1)) (slA f.code) (.int .i64 (lst f.code).length) (.int .i64 i) (HH f a o2 o3 o4 o5 o6) =
      yse (.lp 0 1 0 0) (.ls 1 1 1 0 ((lst f.code).length + 1)) (HH f (hA1 (lst f.code).length i ((lst f.code).drop i) a) o2' o3 o4 o5 o6) := by
  intro d
  induction d with
  | zero =>
    intro i a o2 hi _
    have e1 : (lst f.code).drop i = [] := List.drop_eq_nil_of_le (by omega)
    have hn : ¬ ((i : Int) < ((lst f.code).length : Int)) := by omega
    rw [ymd, e1]
    exact ⟨o2, by simp [yvr, y1ak, hn, hA1]⟩
  | succ d ih =>
    intro i a o2 hi ha
    have hlt : i < (lst f.code).length := by omega
    have hc : ((i : Int) < ((lst f.code).length : Int)) := by omega
    have k1 := y7t (o := f.code) (i := i) (List.getElem?_eq_getElem hlt) .i64
    have hw := y1a hlt (by omega)
    rw [ymd, List.drop_eq_getElem_cons hlt, hA1]
    generalize (lst f.code)[i] = x at *
    generalize hN : (lst f.code).length = n at *
    have e36 : yvr (.lp 0 1 0 0) (.ls 1 1 1 0 (n + 1)) (slA f.code) (.int .i64 n) (.int .i64 i) (HH f a o2 o3 o4 o5 o6) =
        yh1 (.lp 0 1 0 0) (.ls 1 1 1 0 (n + 1)) (.int .i64 i) (.lp 2 (o2.gen + 1) 0 0) (slA f.code) (.int .i64 n) (.int .i64 i) (HH f a ⟨o2.gen + 1, .arr true false 9 [enc x]⟩ o3 o4 o5 o6) := by
      simp [yvr, y1ak, y1g0, hc, k1]
    generalize hg : (o2.gen + 1) = g at *
    have e31 : yh1 (.lp 0 1 0 0) (.ls 1 1 1 0 (n + 1)) (.int .i64 i) (.lp 2 g 0 0) (slA f.code) (.int .i64 n) (.int .i64 i) (HH f a ⟨g, .arr true false 9 [enc x]⟩ o3 o4 o5 o6) =
        yng (.lp 0 1 0 0) (.ls 1 1 1 0 (n + 1)) (.int .i64 i) (.lp 2 g 0 0) (slA f.code) (.int .i64 n) (.int .i64 i) (HH f (if leads x.op = true then putP n x.t a else a) ⟨g, .arr true false 9 [enc x]⟩ o3 o4 o5 o6) := by
      cases hd : leads x.op with
      | false => simp [yh1, hd]
      | true =>
        rw [if_pos rfl, putP]
        by_cases h0 : 0 ≤ x.t
        rotate_left
        · rw [if_neg (fun h => h0 h.1)]
          simp [yh1, hd, h0]
        by_cases h1 : x.t < (n : Int)
        rotate_left
        · rw [if_neg (fun h => h1 h.2)]
          simp [yh1, hd, h0, h1, hN]
        rw [if_pos ⟨h0, h1⟩]
        have st := stHH f a ⟨g, .arr true false 9 [enc x]⟩ o3 o4 o5 o6 (j := x.t.toNat) (by omega)
        have ix := ixAt (n := n + 1) h0 (by omega) 1 1 .i64
        simp [yh1, hd, h0, h1, hN, ix, -y5n, st]
    have e30 : ∀ a : List Bool, a.length = n + 1 → yng (.lp 0 1 0 0) (.ls 1 1 1 0 (n + 1)) (.int .i64 i) (.lp 2 g 0 0) (slA f.code) (.int .i64 n) (.int .i64 i) (HH f a ⟨g, .arr true false 9 [enc x]⟩ o3 o4 o5 o6) =
        yti (.lp 0 1 0 0) (.ls 1 1 1 0 (n + 1)) (slA f.code) (.int .i64 n) (.int .i64 i) (HH f (if (leads x.op || ends x.op) = true then a.set (i + 1) true else a) ⟨g, .arr true false 9 [enc x]⟩ o3 o4 o5 o6) := by
      intro a ha
      have st := stHH f a ⟨g, .arr true false 9 [enc x]⟩ o3 o4 o5 o6 (j := i + 1) (by omega)
      have ix := ixAt (n := n + 1) (p := (i : Int) + 1) (by omega) (by omega) 1 1 .i64
      rw [show ((i : Int) + 1).toNat = i + 1 by omega] at ix
      cases hd : leads x.op <;> cases he : ends x.op <;> simp [yng, hd, he, hw, ix, -y5n, st]
    obtain ⟨o2', ih⟩ := ih (i + 1) (y1ds n i x a) ⟨g, .arr true false 9 [enc x]⟩ (by omega) (by simpa using ha)
    push_cast at ih
    refine ⟨o2', ?_⟩
    rw [e36, e31, e30 _ (by split <;> simp [ha]), yti, y1q, y2, hw, ← ih]
    rfl
theorem y1rm (f : Fn) (v62 v63 v64 : AV) (o2 o3 o5 o6 : AO) (g : Nat) (P : List Int) (hP : P.length = 3) : ∀ (d k : Nat) (a : List Bool), k + d = 3 → a.length = (lst f.code).length + 1 →
    ygm (.lp 0 1 0 0) (.ls 1 1 1 0 ((lst f.code).length + 1)) v62 v63 v64 (.ls 4 g 1 0 3) (.int .i64 3) (.int .i64 k) (HH f a o2 o3 ⟨g, .arr false false 1 (P.map enc)⟩ o5 o6) =
      yzw (.lp 0 1 0 0) (.ls 1 1 1 0 ((lst f.code).length + 1)) v62 v63 v64 (HH f ((P.drop k).foldl (fun a p => putP (lst f.code).length p a) a) o2 o3 ⟨g, .arr false false 1 (P.map enc)⟩ o5 o6) := by
  intro d
  induction d with
  | zero =>
    intro k a hk _
    have e1 : P.drop k = [] := List.drop_eq_nil_of_le (by omega)
    have hn : ¬ ((k : Int) < 3) := by omega
    rw [ymu, e1]
    simp [yo9, ylz, hn]
  | succ d ih =>
    intro k a hk ha
    have hlt : k < P.length := by omega
    have hc : ((k : Int) < 3) := by omega
    have hw := y1a (n := 3) (i := k) (by omega) (by omega)
    have l1 : ∀ a, evLd false 1 (.lp 4 g k 0) (HH f a o2 o3 ⟨g, .arr false false 1 (P.map enc)⟩ o5 o6) = some (.int .i64 P[k]) := by
      intro a
      simp [evLd, ym, y37, hlt]
    have ix : yi 1 (.ls 4 g 1 0 3) (.int .i64 (k : Int)) = some (.lp 4 g k 0) := by
      have := ixAt (n := 3) (p := (k : Int)) (by omega) (by omega) 4 g .i64
      simpa using this
    rw [ymu, List.drop_eq_getElem_cons hlt, List.foldl_cons]
    generalize P[k] = p at *
    have ih0 := fun a ha => ih (k + 1) a (by omega) ha
    push_cast at ih0
    rw [← ih0 _ (by simpa using ha), putP]
    by_cases h0 : 0 ≤ p
    rotate_left
    · rw [if_neg (fun h => h0 h.1)]
      simp [yo9, ylz, ytr, yor, hc, ix, -y38, l1, h0, hw]
    by_cases h1 : p < ((lst f.code).length : Int)
    rotate_left
    · rw [if_neg (fun h => h1 h.2)]
      have lb : ∀ a : List Bool, evLd false 1 (.lp 0 1 0 3) (HH f a o2 o3 ⟨g, .arr false false 1 (P.map enc)⟩ o5 o6) = some (slA f.code) := fun a => by simp
      simp [yo9, ylz, ytr, yor, hc, ix, -y38, l1, h0, h1, hw, lb]
    rw [if_pos ⟨h0, h1⟩]
    have lb : ∀ a : List Bool, evLd false 1 (.lp 0 1 0 3) (HH f a o2 o3 ⟨g, .arr false false 1 (P.map enc)⟩ o5 o6) = some (slA f.code) := fun a => by simp
    have st := stHH f a o2 o3 ⟨g, .arr false false 1 (P.map enc)⟩ o5 o6 (j := p.toNat) (by omega)
    have ix2 := ixAt (n := (lst f.code).length + 1) h0 (by omega) 1 1 .i64
    simp [yo9, ylz, ytr, yor, hc, ix, -y38, l1, h0, h1, hw, lb, ix2, -y5n, st]
theorem y1eh (f : Fn) (o2 o5 o6 : AO) (hl : (lst f.rows).length ≤ 9223372036854775806) : ∀ (d k : Nat) (a : List Bool) (o3 o4 : AO), k + d = (lst f.rows).length → a.length = (lst f.code).length + 1 →
    ∃ o3' o4', yjw (.lp 0 1 0 0) (.ls 1 1 1 0 ((lst f.code).length + 1)) (slA f.rows) (.int .i64 (lst f.rows).length) (.int .i64 k) (HH f a o2 o3 o4 o5 o6) =
      ynn (.lp 0 1 0 0) (.ls 1 1 1 0 ((lst f.code).length + 1)) (HH f (hA2 (lst f.code).length ((lst f.rows).drop k) a) o2 o3' o4' o5 o6) := by
  intro d
  induction d with
  | zero =>
    intro k a o3 o4 hk _
    have e1 : (lst f.rows).drop k = [] := List.drop_eq_nil_of_le (by omega)
    have hn : ¬ ((k : Int) < ((lst f.rows).length : Int)) := by omega
    rw [yow, e1]
    exact ⟨o3, o4, by simp [yvg, y15g, hn, hA2]⟩
  | succ d ih =>
    intro k a o3 o4 hk ha
    have hlt : k < (lst f.rows).length := by omega
    have hc : ((k : Int) < ((lst f.rows).length : Int)) := by omega
    have k1 := ygh (o := f.rows) (i := k) (List.getElem?_eq_getElem hlt) .i64
    have hw := y1a hlt (by omega)
    rw [yow, List.drop_eq_getElem_cons hlt, hA2]
    generalize (lst f.rows)[k] = r at *
    have lit := y1rm f (slA f.rows) (.int .i64 (lst f.rows).length) (.int .i64 k) o2 ⟨o3.gen + 1, .arr true false 4 [enc r]⟩ o5 o6 (o4.gen + 1) [r.f, r.t, r.at_] rfl 3 0 a (by omega) ha
    simp only [List.drop_zero, List.foldl_cons, List.foldl_nil, Int.ofNat_zero] at lit
    have e24 : yvg (.lp 0 1 0 0) (.ls 1 1 1 0 ((lst f.code).length + 1)) (slA f.rows) (.int .i64 (lst f.rows).length) (.int .i64 k) (HH f a o2 o3 o4 o5 o6) =
        ygm (.lp 0 1 0 0) (.ls 1 1 1 0 ((lst f.code).length + 1)) (slA f.rows) (.int .i64 (lst f.rows).length) (.int .i64 k) (.ls 4 (o4.gen + 1) 1 0 3) (.int .i64 3) (.int .i64 0)
          (HH f a o2 ⟨o3.gen + 1, .arr true false 4 [enc r]⟩ ⟨o4.gen + 1, .arr false false 1 ([r.f, r.t, r.at_].map enc)⟩ o5 o6) := by
      simp [yvg, y15g, y1oy, y1uv, hc, k1, yw, y15]
    obtain ⟨o3', o4', ih⟩ := ih (k + 1) (putP (lst f.code).length r.at_ (putP (lst f.code).length r.t (putP (lst f.code).length r.f a))) ⟨o3.gen + 1, .arr true false 4 [enc r]⟩ ⟨o4.gen + 1, .arr false false 1 ([r.f, r.t, r.at_].map enc)⟩ (by omega) (by simpa using ha)
    push_cast at ih
    refine ⟨o3', o4', ?_⟩
    rw [e24, lit, yzw, y1q, y2, hw, ih]
theorem y1ch (f : Fn) (o2 o3 o4 : AO) (hl : (lst f.code).length ≤ 274877906944) : ∀ (d k g : Nat) (o5 : AO), k + d = (lst f.code).length →
    yw1 (.ls 1 1 1 0 ((lst f.code).length + 1)) (y45 Int 6 g (y58 f k)) (.int .i64 (lst f.code).length) (.int .i64 k) (HH f (hA f) o2 o3 o4 o5 (y4r g D0 (y58 f k))) = some (exO (nz (y69 f))) := by
  intro d
  induction d with
  | zero =>
    intro k g o5 hk
    have hk' : k = (lst f.code).length := by omega
    have hn : ¬ ((k : Int) < ((lst f.code).length : Int)) := by omega
    have hx := yd9 (H := HH f (hA f) o2 o3 o4 o5 (y4r g D0 (y58 f k))) (j := 6) (g := g) (o := D0) (L := y58 f k) rfl
    rw [yvy, y69, ← hk', ← hx]
    simp [y1tp, y1hd, y2ex, hk']
  | succ d ih =>
    intro k g o5 hk
    have hlt : k < (lst f.code).length := by omega
    have hc : ((k : Int) < ((lst f.code).length : Int)) := by omega
    have hw := y1a hlt (by omega)
    have ix := ixAt (n := (lst f.code).length + 1) (p := (k : Int)) (by omega) (by omega) 1 1 .i64
    rw [show ((k : Int)).toNat = k by omega] at ix
    have hg := y2rd f hlt
    have l1 : ∀ o5 o6, evLd false 1 (.lp 1 1 k 0) (HH f (hA f) o2 o3 o4 o5 o6) = some (.bool (y53 f k)) := by
      intro o5 o6
      simp [evLd, ym, y37, hg]
    rw [yvy]
    have ih0 := fun g o5 => ih (k + 1) g o5 (by omega)
    push_cast at ih0
    simp only [y58] at ih0
    cases hh : y53 f k with
    | false =>
      have ih0 := ih0 g o5
      rw [hh] at ih0 l1
      simp only [Bool.false_eq_true, if_false, List.append_nil] at ih0
      simp [y1tp, y1hd, y27u, y1w4, hc, ix, -y38, l1, hw, ih0]
    | true =>
      rw [hh] at ih0 l1
      simp only [if_true] at ih0
      obtain ⟨g', ha⟩ := y1il (H := HH f (hA f) o2 o3 o4 ⟨o5.gen + 1, .arr false false 1 [[.int .i64 k]]⟩ (y4r g D0 (y58 f k))) (fb := 0) (j := 6) (g := g) (o := D0) (y := .ls 5 (o5.gen + 1) 1 0 1) (L := y58 f k) (n := k) (by simp) rfl (by have := ygc f k; omega)
      have ha' : y3h 0 (some 6) 1 8 (y45 Int 6 g (y58 f k)) (.ls 5 (o5.gen + 1) 1 0 1) (HH f (hA f) o2 o3 o4 ⟨o5.gen + 1, .arr false false 1 [[.int .i64 k]]⟩ (y4r g D0 (y58 f k))) = some (y45 Int 6 g' (y58 f k ++ [(k : Int)]), HH f (hA f) o2 o3 o4 ⟨o5.gen + 1, .arr false false 1 [[.int .i64 k]]⟩ (y4r g' D0 (y58 f k ++ [(k : Int)]))) := ha
      simp [y1tp, y1hd, y27u, y1w4, hc, ix, -y38, l1, hw, yw, y15, ha', ih0]
theorem y2g6 (f : Fn) (hc : (lst f.code).length ≤ 30000) (hr : (lst f.rows).length ≤ 1000000) : (y8 E).p 102 [.agg (enc f)] = some (exO (nz (y69 f))) := by
  rw [y2wa]
  obtain ⟨o2, h1⟩ := y1dn f D0 D0 D0 D0 (by omega) _ 0 (hA0 (lst f.code).length) D0 (Nat.zero_add _) (by simp)
  obtain ⟨o3, o4, h2⟩ := y1eh f o2 D0 D0 (by omega) _ 0 (hA1 (lst f.code).length 0 (lst f.code) (hA0 (lst f.code).length)) D0 D0 (Nat.zero_add _) (by rw [ypu, yp0])
  have h3 := y1ch f o2 o3 o4 (by omega) _ 0 0 D0 (Nat.zero_add _)
  simp only [List.drop_zero, Int.ofNat_zero, y58, yt2, ysl] at h1 h2 h3
  have e10 : ynn (.lp 0 1 0 0) (.ls 1 1 1 0 ((lst f.code).length + 1)) (HH f (hA f) o2 o3 o4 D0 D0) = some (exO (nz (y69 f))) := by
    simp [ynn, y2l1, h3]
  have e26 : yse (.lp 0 1 0 0) (.ls 1 1 1 0 ((lst f.code).length + 1)) (HH f (hA1 (lst f.code).length 0 (lst f.code) (hA0 (lst f.code).length)) o2 D0 D0 D0 D0) = some (exO (nz (y69 f))) := by
    rw [← e10, ← show _ = ynn _ _ (HH f (hA f) o2 o3 o4 D0 D0) from h2]
    simp [yse]
  have e38 : yw0 (.lp 0 1 0 0) (.ls 1 1 1 0 ((lst f.code).length + 1)) (HH f (hA0 (lst f.code).length) D0 D0 D0 D0 D0) = some (exO (nz (y69 f))) := by
    rw [← e26, ← h1]
    simp [yw0]
  rw [← e38]
  have b1 : ((lst f.code).length : Int) + 1 ≤ 140737488355328 := by omega
  have b2 : ((lst f.code).length : Int) + 1 ≤ 4611686018427387904 := by omega
  have b3 : (0 : Int) ≤ ((lst f.code).length : Int) + 1 := by omega
  have b4 : (((lst f.code).length : Int) + 1).toNat = (lst f.code).length + 1 := by omega
  have hw : IntKind.wrap .i64 (((lst f.code).length : Int) + 1) = ((lst f.code).length : Int) + 1 := by rw [y2b] <;> omega
  have e42 : y130 (.agg (enc f)) [D0, D0, D0, D0, D0, D0, D0] = yvd (.lp 0 1 0 0) (.ls 1 1 1 0 ((lst f.code).length + 1)) (HH f (List.replicate ((lst f.code).length + 1) false) D0 D0 D0 D0 D0) := by
    simp [y130, y1hh, mkSC, hw, b1, b2, b3, b4, HH]
  rw [e42]
  have l1 : ∀ (a : List Bool) (o2 o3 o4 o5 o6 : AO), evLd false 1 (.lp 0 1 0 3) (HH f a o2 o3 o4 o5 o6) = some (slA f.code) := fun a o2 o3 o4 o5 o6 => by simp
  by_cases h0 : 0 < (lst f.code).length
  · have h0' : (0 : Int) < ((lst f.code).length : Int) := by omega
    have st := stHH f (List.replicate ((lst f.code).length + 1) false) D0 D0 D0 D0 D0 (j := 0) (by simp)
    have ix := ixAt (n := (lst f.code).length + 1) (p := 0) (by omega) (by omega) 1 1 .i64
    simp only [yvd, y4m, y2, l1, y33, y3c, h0', decide_true, y1f, ix, Int.toNat_zero, st, yf, hA0, h0, if_true, Nat.zero_add]
  · have h0' : ¬ (0 : Int) < ((lst f.code).length : Int) := by omega
    simp only [yvd, y4m, y2, l1, y33, y3c, h0', decide_false, y1p, hA0, h0, if_false, Nat.zero_add]
end Go.Vm
namespace Go.Vm
def y6v (f : Fn) : List Bool := (List.range (lst f.regs).length).map fun (r : Nat) => decide (((r : Nat) : Int) ∈ lst f.params)
theorem yga (f : Fn) : (y6v f).length = (lst f.regs).length := by simp [y6v]
theorem yo3 {f : Fn} {r : Nat} (h : r < (lst f.regs).length) : (y6v f)[r]? = some (decide ((r : Int) ∈ lst f.params)) := by simp [y6v, h]
theorem yo0 (d : Int) (s : List Bool) : (y3k d s).length = s.length := by unfold y3k; split <;> simp
theorem yv9 {d : Int} {s : List Bool} {r : Nat} (h : (y3k d s)[r]? = some false) : d ≠ r ∧ s[r]? = some false := by
  unfold y3k at h
  split at h
  · rename_i hd
    rw [List.getElem?_set] at h
    split at h
    · split at h <;> cases h
    · exact ⟨by omega, h⟩
  · exact ⟨by omega, h⟩
theorem yw7 {d : Int} {s : List Bool} {r : Nat} (h : (y3k d s)[r]? = some true) (hd : d ≠ r) : s[r]? = some true := by
  unfold y3k at h
  split at h
  · rw [List.getElem?_set] at h
    split at h
    · omega
    · exact h
  · exact h
section
variable (f : Fn)
def y1l5 (ins : Tab) (i : Nat) (s : List Bool) : Prop := (∀ to ∈ yx f i, LeAt ins to s) ∧ ∀ to ∈ y2j f i, LeAt ins to (y3k (defr (yg f i)) s)
structure SInv (ins : Tab) (work : List Int) : Prop where
  ok : TblOk (lst f.code).length (lst f.regs).length ins
  src : ∀ (i r : Nat) t, ins[i]? = some (some t) → t[r]? = some false → Rch (lst f.code).length (yd8 f r) [0] i ∧ (r : Int) ∉ lst f.params
  cl : ∀ (i : Nat) s, ins[i]? = some (some s) → (i : Int) ∈ work ∨ y1l5 f ins i s
  st : LeAt ins 0 (y6v f)
  wk : ∀ j ∈ work, 0 ≤ j ∧ j < (lst f.code).length ∧ ∃ t, ins[j.toNat]? = some (some t)
def tab0 : Tab := (List.replicate (lst f.code).length none).set 0 (some (y6v f))
variable {f}
theorem y1l5.mono {a b : Tab} (h : LeT a b) {i : Nat} {s : List Bool} (hf : y1l5 f a i s) : y1l5 f b i s :=
  ⟨fun to ht => (hf.1 to ht).mono h, fun to ht => (hf.2 to ht).mono h⟩
theorem SInv.start (w : Wf f) : SInv f (tab0 f) [0] := by
  have hn := w.n1
  have h0 : (tab0 f)[0]? = some (some (y6v f)) := y5h (by rw [List.length_replicate]; omega)
  have hx : ∀ (i : Nat) t, (tab0 f)[i]? = some (some t) → i = 0 ∧ t = y6v f := by
    intro i t ht
    rcases y7z ht with ⟨e, e2⟩ | ⟨_, h⟩
    · injection e2 with e2; exact ⟨e, e2⟩
    · rw [List.getElem?_replicate] at h
      split at h <;> cases h
  refine ⟨⟨by simp [tab0], fun i s hs => by rw [(hx i s hs).2, yga]⟩, fun i r t ht hr => ?_, fun i s hs => .inl (by rw [(hx i s hs).1]; simp), ⟨_, h0, .refl _⟩, fun j hj => ?_⟩
  · obtain ⟨rfl, rfl⟩ := hx i t ht
    have hr1 : r < (lst f.regs).length := by rw [← yga]; exact (List.getElem?_eq_some_iff.1 hr).1
    rw [yo3 hr1] at hr
    refine ⟨Rch.base (j := 0) (by simp) (by omega) (by omega), ?_⟩
    simpa using hr
  · rw [List.mem_singleton] at hj
    subst hj
    exact ⟨by omega, by omega, _, h0⟩
theorem SInv.step (w : Wf f) {ins : Tab} {work : List Int} (I : SInv f ins work) {i : Int} (hi : work.getLast? = some i) :
    SInv f (y4g (y3k (defr (yg f i.toNat)) (ye3 ins i.toNat)) (y2j f i) (y4g (ye3 ins i.toNat) (yx f i) (ins, work.dropLast))).1
      (y4g (y3k (defr (yg f i.toNat)) (ye3 ins i.toNat)) (y2j f i) (y4g (ye3 ins i.toNat) (yx f i) (ins, work.dropLast))).2 ∧
    2 * pot (lst f.regs).length (y4g (y3k (defr (yg f i.toNat)) (ye3 ins i.toNat)) (y2j f i) (y4g (ye3 ins i.toNat) (yx f i) (ins, work.dropLast))).1 +
      (y4g (y3k (defr (yg f i.toNat)) (ye3 ins i.toNat)) (y2j f i) (y4g (ye3 ins i.toNat) (yx f i) (ins, work.dropLast))).2.length + 1 ≤ 2 * pot (lst f.regs).length ins + work.length := by
  have e := y6d hi
  obtain ⟨i0, i1, s, hs⟩ := I.wk i (by rw [e]; simp)
  have hts : ye3 ins i.toNat = s := by simp [ye3, hs]
  rw [hts]
  have hsl := I.ok.rows _ _ hs
  have ei : ((i.toNat : Nat) : Int) = i := by omega
  obtain ⟨a1, a2⟩ := ycf (n := (lst f.code).length) hsl (yx f i) (ins, work.dropLast) I.ok (fun to h => w.caught h)
  generalize y4g s (yx f i) (ins, work.dropLast) = p1 at *
  obtain ⟨b1, b2⟩ := ycf (n := (lst f.code).length) (s := y3k (defr (yg f i.toNat)) s) (by rw [yo0]; exact hsl) (y2j f i) p1 a1.ok (fun to h => by
    rw [← ei] at h
    exact w.next (by omega) h)
  generalize y4g (y3k (defr (yg f i.toNat)) s) (y2j f i) p1 = p2 at *
  refine ⟨⟨b1.ok, fun j r t ht hr => ?_, fun j t ht => ?_, (I.st.mono a1.le).mono b1.le, fun j hj => ?_⟩, ?_⟩
  · -- what isn't set
    have old : ∀ u, ins[j]? = some (some u) → u[r]? = some false → Rch (lst f.code).length (yd8 f r) [0] j ∧ (r : Int) ∉ lst f.params := fun u h1 h2 => I.src j r u h1 h2
    have hjlt : j < (lst f.code).length := by rw [← b1.ok.len]; exact (List.getElem?_eq_some_iff.1 ht).1
    rcases b1.src j r t ht hr with ⟨u, h1, h2⟩ | ⟨h1, h2⟩
    · rcases a1.src j r u h1 h2 with ⟨v, h3, h4⟩ | ⟨h3, h4⟩
      · exact old v h3 h4
      · obtain ⟨k1, k2⟩ := I.src _ _ _ hs h3
        refine ⟨?_, k2⟩
        have := Rch.step (j := (j : Int)) k1 (by rw [yd8, ei]; exact List.mem_append_left _ h4) (by omega) (by omega)
        simpa using this
    · obtain ⟨h3, h4⟩ := yv9 h1
      obtain ⟨k1, k2⟩ := I.src _ _ _ hs h4
      refine ⟨?_, k2⟩
      have := Rch.step (j := (j : Int)) k1 (by rw [yd8, if_neg h3, ei]; exact List.mem_append_right _ h2) (by omega) (by omega)
      simpa using this
  · -- closed but for the work
    rcases b1.work j t ht with h | h
    · rcases a1.work j t h with h | h
      · simp only at h
        rcases I.cl j t h with hw | hw
        · rw [e, List.mem_append, List.mem_singleton] at hw
          rcases hw with hw | hw
          · exact .inl (b1.keep _ (a1.keep _ hw))
          · right
            have ej : j = i.toNat := by omega
            subst ej
            rw [hs] at h
            injection h with h; injection h with h
            subst h
            rw [y1l5, ei]
            exact ⟨fun to hto => (a2 to hto).mono b1.le, fun to hto => b2 to hto⟩
        · exact .inr ((hw.mono a1.le).mono b1.le)
      · exact .inl (b1.keep _ h)
    · exact .inl h
  · rcases b1.fresh j hj with h | h
    · rcases a1.fresh j h with h | ⟨k1, k2, t, k3⟩
      · obtain ⟨k1, k2, t, k3⟩ := I.wk j (ybg h)
        obtain ⟨t2, k4, _⟩ := a1.le _ _ k3
        obtain ⟨t3, k5, _⟩ := b1.le _ _ k4
        exact ⟨k1, k2, t3, k5⟩
      · obtain ⟨t2, k4, _⟩ := b1.le _ _ k3
        exact ⟨k1, k2, t2, k4⟩
    · exact h
  · have h1 := a1.pot
    have h2 := b1.pot
    have h3 : work.length = work.dropLast.length + 1 := by rw [e]; simp
    simp only at h1
    omega
theorem yha (w : Wf f) : ∀ (k : Nat) (ins : Tab) (work : List Int), SInv f ins work → 2 * pot (lst f.regs).length ins + work.length < k → ∃ r, yi5 f k ins work = some r ∧ SInv f r []
  | 0, _, _, _, h => by omega
  | k + 1, ins, work, I, h => by
    rw [yi5]
    cases hw : work.getLast? with
    | none =>
      rw [List.getLast?_eq_none_iff] at hw
      subst hw
      exact ⟨ins, rfl, I⟩
    | some i =>
      obtain ⟨I2, hp⟩ := I.step w hw
      exact yha w k _ _ I2 (Nat.le_trans hp (Nat.le_of_lt_succ h))
theorem SInv.tells (w : Wf f) {ins : Tab} (I : SInv f ins []) : (∀ i, i < (lst f.code).length → ∀ u ∈ yel f i, ∀ s, ins[i]? = some (some s) → s[u.toNat]? = some true) ↔ setP f := by
  constructor
  · intro h r r0 r1 hp ⟨i, hi, hu⟩
    have er : ((r.toNat : Nat) : Int) = r := by omega
    have hle : ∀ {to : Int} {s : List Bool}, LeAt ins to s → s[r.toNat]? ≠ some true → ∃ t, ins[to.toNat]? = some (some t) ∧ t[r.toNat]? = some false := by
      intro to s ⟨t, h1, h2⟩ hne
      refine ⟨t, h1, ?_⟩
      have hl := I.ok.rows _ _ h1
      have hlt : r.toNat < t.length := by omega
      rw [List.getElem?_eq_getElem hlt]
      cases hb : t[r.toNat] with
      | false => rfl
      | true => exact (hne (h2 _ (by rw [List.getElem?_eq_getElem hlt, hb]))).elim
    have key : ∀ {i : Nat}, Rch (lst f.code).length (yd8 f r) [0] i → ∃ t, ins[i]? = some (some t) ∧ t[r.toNat]? = some false := by
      intro i hr
      induction hr with
      | base hj j0 j1 =>
        rw [List.mem_singleton] at hj
        subst hj
        refine hle I.st ?_
        rw [yo3 (by omega), er]
        simpa using hp
      | step hr hj j0 j1 ih =>
        rename_i i j
        obtain ⟨t, h1, h2⟩ := ih
        rcases I.cl _ _ h1 with hw | ⟨c1, c2⟩
        · cases hw
        · rw [yd8, List.mem_append] at hj
          rcases hj with hj | hj
          · exact hle (c1 _ hj) (by rw [h2]; simp)
          · split at hj
            · cases hj
            · rename_i hd
              refine hle (c2 _ hj) fun ht => ?_
              have := yw7 ht (by rw [er]; exact hd)
              rw [h2] at this
              cases this
    obtain ⟨t, h1, h2⟩ := key hi
    have := h i hi.lt r hu t h1
    rw [h2] at this
    cases this
  · intro h i hi u hu s hs
    obtain ⟨u0, u1⟩ := w.uses hi hu
    have hl := I.ok.rows _ _ hs
    have hlt : u.toNat < s.length := by omega
    rw [List.getElem?_eq_getElem hlt]
    cases hb : s[u.toNat] with
    | true => rfl
    | false =>
      obtain ⟨k1, k2⟩ := I.src i u.toNat s hs (by rw [List.getElem?_eq_getElem hlt, hb])
      have eu : ((u.toNat : Nat) : Int) = u := by omega
      rw [eu] at k1 k2
      exact (h u u0 u1 k2 ⟨i, k1, hu⟩).elim
end
end Go.Vm
namespace Go.Vm
open Cel
attribute [local simp] y7 y28 yr
theorem y1ca (o : Option (List Bool)) (h : Heap) : y3g h 1 (slA o) = some ((lst o).map enc) := yed o h
theorem y0a (o : Option (List Bool)) (h : (lst o).length ≤ 1000000) : (y8 E).p 78 [slA o] = some (exO o) := by
  rw [y2tk]
  cases o with
  | none => rfl
  | some L =>
    simp only [y3b] at h
    have h1 : 2 * L.length ≤ 281474976710144 := by omega
    simp [y1w8, y1sy, y1ol, yw, y15, y3h, y1ca, h1]
    exact y26 (α := Bool) (L := L) (by simp)
end Go.Vm
namespace Go.Vm
open Cel
def yll (P : Nat → Nat × Nat) (i : Nat) : Option (List Bool) → List AV
  | none => [.nils]
  | some s => [.ls (P i).1 (P i).2 1 0 s.length]
def y3q (P : Nat → Nat × Nat) (ins : Tab) : List (List AV) := (List.range ins.length).map fun i => yll P i (ins[i]?.join)
structure SRep (f : Fn) (H : Heap) (ins : Tab) (P : Nat → Nat × Nat) : Prop where
  box : H[0]? = some (AB f)
  tab : H[1]? = some ⟨1, .arr false false 1 (y3q P ins)⟩
  obj : ∀ (i : Nat) s, ins[i]? = some (some s) → H[(P i).1]? = some (AL (P i).2 s)
  inj : ∀ (i j : Nat) s t, ins[i]? = some (some s) → ins[j]? = some (some t) → i ≠ j → (P i).1 ≠ (P j).1
  far : ∀ (i : Nat) s, ins[i]? = some (some s) → (P i).1 = 2 ∨ 6 ≤ (P i).1
theorem y90 {P : Nat → Nat × Nat} {ins : Tab} {i : Nat} {x : Option (List Bool)} (h : ins[i]? = some x) : (y3q P ins)[i]? = some (yll P i x) := by
  have hi := (List.getElem?_eq_some_iff.1 h).1
  simp only [y3q, List.getElem?_map, List.getElem?_range hi, Option.map_some, h, Option.join]
  rfl
theorem ydv {P P' : Nat → Nat × Nat} {ins : Tab} {i : Nat} {x : Option (List Bool)} (hi : i < ins.length) (hP : ∀ j, j ≠ i → P' j = P j) : (y3q P ins).set i (yll P' i x) = y3q P' (ins.set i x) := by
  unfold y3q
  rw [List.length_set]
  refine ycg ?_ fun j hj => ?_
  · simp [hi]
  · rw [List.getElem?_set_ne (fun e => hj e.symm)]
    cases h : ins[j]?.join with
    | none => rfl
    | some s => simp only [yll, hP j hj]
theorem SRep.other {f : Fn} {H : Heap} {ins : Tab} {P : Nat → Nat × Nat} (R : SRep f H ins P) {a : Nat} {x : AO} (ha : a = 3 ∨ a = 4 ∨ a = 5 ∨ H.length ≤ a) : SRep f (H.set a x) ins P := by
  have h0 := y3d R.box
  have h1 := y3d R.tab
  refine ⟨by rw [yv (by omega)]; exact R.box, by rw [yv (by omega)]; exact R.tab, fun i s hs => ?_, R.inj, R.far⟩
  have := R.far i s hs
  have h2 := y3d (R.obj i s hs)
  rw [yv (by omega)]
  exact R.obj i s hs
theorem SRep.more {f : Fn} {H : Heap} {ins : Tab} {P : Nat → Nat × Nat} (R : SRep f H ins P) (n : Nat) : SRep f (H ++ yp n) ins P :=
  ⟨by rw [y1bn (y3d R.box)]; exact R.box, by rw [y1bn (y3d R.tab)]; exact R.tab, fun i s hs => by rw [y1bn (y3d (R.obj i s hs))]; exact R.obj i s hs, R.inj, R.far⟩
theorem SRep.beyond {f : Fn} {H : Heap} {ins : Tab} {P : Nat → Nat × Nat} (R : SRep f H ins P) {a : Nat} {x : AO} (h0 : a ≠ 0) (h1 : a ≠ 1) (ha : ∀ (i : Nat) s, ins[i]? = some (some s) → (P i).1 ≠ a) : SRep f (H.set a x) ins P :=
  ⟨by rw [yv h0]; exact R.box, by rw [yv h1]; exact R.tab, fun i s hs => by rw [yv (fun e => ha i s hs e.symm)]; exact R.obj i s hs, R.inj, R.far⟩
def andK (k : Nat) (t s : List Bool) : List Bool := (List.range t.length).map fun j => if j < k then t.getD j false && s.getD j false else t.getD j false
def ylk (k : Nat) (t s : List Bool) : Bool := (List.range k).any fun j => t.getD j false && !s.getD j false
theorem y23q (k : Nat) (t s : List Bool) : (andK k t s).length = t.length := by simp [andK]
theorem y2cm (t s : List Bool) : andK 0 t s = t := by
  refine List.ext_getElem (by simp [andK]) fun i h1 h2 => ?_
  simp [andK, h2]
theorem y29r {k : Nat} {t s : List Bool} {j : Nat} (h : j < t.length) : (andK k t s)[j]? = some (if j < k then t.getD j false && s.getD j false else t.getD j false) := by simp [andK, h]
theorem yyy {t s : List Bool} (h : t.length = s.length) : andK t.length t s = andB t s := by
  refine List.ext_getElem (by simp [andK, andB, h]) fun i h1 h2 => ?_
  have hi : i < t.length := by simpa [andK] using h1
  have hi2 : i < s.length := by omega
  simp [andK, andB, hi, hi2]
theorem y1qz {t s : List Bool} (h : t.length = s.length) : ylk t.length t s = yxs t s := by
  rw [Bool.eq_iff_iff, yec, ylk, List.any_eq_true]
  constructor
  · rintro ⟨j, hj, hb⟩
    rw [List.mem_range] at hj
    have hj2 : j < s.length := by omega
    simp only [List.getD_eq_getElem?_getD, List.getElem?_eq_getElem hj, List.getElem?_eq_getElem hj2, Option.getD_some, Bool.and_eq_true, Bool.not_eq_true'] at hb
    exact ⟨j, by rw [List.getElem?_eq_getElem hj, hb.1], by rw [List.getElem?_eq_getElem hj2, hb.2]⟩
  · rintro ⟨j, h1, h2⟩
    have hj := (List.getElem?_eq_some_iff.1 h1).1
    exact ⟨j, List.mem_range.2 hj, by simp [List.getD_eq_getElem?_getD, h1, h2]⟩
theorem y2a5 {k : Nat} {t s : List Bool} (ht : t.getD k false = true) (hs : s.getD k false = false) : (andK k t s).set k false = andK (k + 1) t s := by
  unfold andK
  refine ycg ?_ fun j hj => ?_
  · rw [if_pos (by omega), ht, hs]; rfl
  · by_cases h1 : j < k
    · rw [if_pos (by omega), if_pos h1]
    · rw [if_neg (by omega), if_neg h1]
theorem yt1 {k : Nat} {t s : List Bool} (h : (t.getD k false && !s.getD k false) = false) : andK (k + 1) t s = andK k t s := by
  refine List.map_congr_left fun j _ => ?_
  by_cases e : j = k
  · subst e
    rw [if_pos (by omega), if_neg (by omega)]
    cases ht : t.getD j false <;> cases hs : s.getD j false <;> simp_all
  · by_cases h1 : j < k
    · rw [if_pos (by omega), if_pos h1]
    · rw [if_neg (by omega), if_neg h1]
theorem ym8 (k : Nat) (t s : List Bool) : ylk (k + 1) t s = (ylk k t s || (t.getD k false && !s.getD k false)) := by
  simp [ylk, List.range_succ]
theorem y1s5 (fb : Nat) (v3 : AV) (n to : Nat) (hto : to < n) (id g ga : Nat) (t s : List Bool) (hl : t.length = s.length) (hn : t.length ≤ 9223372036854775806) (hid1 : id ≠ 1) (hid4 : id ≠ 4) (rows : List (List AV)) (hrow : rows[to]? = some [.ls id g 1 0 t.length]) :
    ∀ (d k : Nat) (H : Heap), k + d = t.length → H[1]? = some ⟨1, .arr false false 1 rows⟩ → H[id]? = some (AL g (andK k t s)) → H[4]? = some (AL ga s) →
    ysz fb (.ls 1 1 1 0 n) (.int .i64 (to : Int)) (.ls 4 ga 1 0 s.length) v3 (.bool (ylk k t s)) (.ls id g 1 0 t.length) (.int .i64 t.length) (.int .i64 k) H =
      y1cj fb (.int .i64 (to : Int)) v3 (.bool (yxs t s)) (H.set id (AL g (andB t s))) := by
  intro d
  induction d with
  | zero =>
    intro k H hk h1 hi h4
    have hk' : k = t.length := by omega
    subst hk'
    have hc : ¬ ((t.length : Int) < (t.length : Int)) := by omega
    rw [yu7]
    simp only [y1bx, yh, hc, decide_false, y2, y1c6, y1p, y1qz hl]
    rw [← yyy hl, y6e hi]
  | succ d ih =>
    intro k H hk h1 hi h4
    have hlt : k < t.length := by omega
    have hlt2 : k < s.length := by omega
    have hc : ((k : Int) < (t.length : Int)) := by omega
    have hw := y1a hlt (by omega)
    have ixT := y8c (n := t.length) (p := (k : Int)) (by omega) hc id g .i64
    have ixS := y8c (n := s.length) (p := (k : Int)) (by omega) (by omega) 4 ga .i64
    have ixI := y8c (n := n) (p := (to : Int)) (by omega) (by omega) 1 1 .i64
    rw [show ((k : Int)).toNat = k by omega] at ixT ixS
    rw [show ((to : Int)).toNat = to by omega] at ixI
    have gT := y29r (k := k) (s := s) hlt
    rw [if_neg (Nat.lt_irrefl _)] at gT
    have lT := y1bo (α := Bool) (H := H) (id := id) (g := g) (i := k) (v := .bool (t.getD k false)) hi gT rfl
    have lS := y1bo (α := Bool) (H := H) (id := 4) (g := ga) (i := k) (v := .bool (s.getD k false)) h4 (by rw [List.getD_eq_getElem?_getD, List.getElem?_eq_getElem hlt2]; rfl) rfl
    have lI := ya6 (i := to) h1 hrow
    have ih0 := fun H => ih (k + 1) H (by omega)
    rw [yu7]
    cases hb : (t.getD k false && !s.getD k false) with
    | true =>
      rw [Bool.and_eq_true, Bool.not_eq_true'] at hb
      obtain ⟨b1, b2⟩ := hb
      have hidl := y3d hi
      have st := ydc (α := Bool) (H := H) (id := id) (g := g) (i := k) (L := andK k t s) (v := .bool false) (y := false) hi (by rw [y23q]; exact hlt) rfl
      rw [y2a5 b1 b2] at st
      simp only [yk4] at st
      have ls : ylk (k + 1) t s = true := by rw [ym8, b1, b2]; simp
      have := ih0 (H.set id (AL g (andK (k + 1) t s))) (by rw [yv hid1]; exact h1) (y3w hidl) (by rw [yv hid4]; exact h4)
      rw [List.set_set, ls] at this
      push_cast at this
      rw [b1] at lT
      rw [b2] at lS
      simp only [y1bx, yh, hc, decide_true, y2, y1c6, y1f, y1xj, ixT, lT, ycm, ixS, lS, y2d, Bool.not_false, y2a, ixI, lI, st, yf, y1cz, y1q, hw, this]
    | false =>
      have ls : ylk (k + 1) t s = ylk k t s := by rw [ym8, hb, Bool.or_false]
      have := ih0 H h1 (by rw [yt1 hb]; exact hi) h4
      rw [ls] at this
      push_cast at this
      cases b1 : t.getD k false with
      | false =>
        rw [b1] at lT
        simp only [y1bx, yh, hc, decide_true, y2, y1c6, y1f, y1xj, ixT, lT, ylj, yj9, y2p, y1p, y1cz, y1q, hw, this]
      | true =>
        rw [b1] at lT
        have b2 : s.getD k false = true := by
          rw [b1] at hb
          simpa using hb
        rw [b2] at lS
        simp only [y1bx, yh, hc, decide_true, y2, y1c6, y1f, y1xj, ixT, lT, ycm, ixS, lS, y2d, Bool.not_true, y2a, y1p, y1cz, y1q, hw, this]
theorem y2bj {H : Heap} {fb j gw g2 : Nat} {work T : List Int} {to : Int} (h3 : H[3]? = some (AI gw (work ++ T))) (hl : H[fb + j]? = some (AI g2 [to])) (hb : work.length + 1 ≤ 137438953472) (sl : Option Nat) :
    y3h fb sl 1 8 (.ls 3 gw 1 0 work.length) (.ls (fb + j) g2 1 0 1) H = some (.ls 3 (gw + 1) 1 0 (work ++ [to]).length, H.set 3 (AI (gw + 1) (work ++ [to]))) :=
  ywg (α := Int) (M := [to]) (yxk (α := Int) (L := [to]) hl) h3 (yrd (by simpa using hb))
theorem y2od {f : Fn} {H : Heap} {ins : Tab} {P : Nat → Nat × Nat} (Rp : SRep f H ins P) {n R : Nat} (ok : TblOk n R ins) {s : List Bool} {work T : List Int} {gw ga : Nat} {to : Int} (hs : s.length = R) (hR : R ≤ 1000000) (h3 : H[3]? = some (AI gw (work ++ T))) (h4 : H[4]? = some (AL ga s)) (h6 : 6 ≤ H.length)
    (t0 : 0 ≤ to) (t1 : to < n) (hb : work.length + 1 ≤ 137438953472) :
    ∃ H' P' gw' T', y7 E (y8 E) 0 none false 80 [.ls 1 1 1 0 n, .int .i64 to, .ls 4 ga 1 0 R, .ls 3 gw 1 0 work.length] H = some (.ls 3 gw' 1 0 (ydn s to (ins, work)).2.length, H') ∧
      SRep f H' (ydn s to (ins, work)).1 P' ∧ H'[3]? = some (AI gw' ((ydn s to (ins, work)).2 ++ T')) ∧ H'[4]? = some (AL ga s) ∧ H'[5]? = H[5]? ∧ 6 ≤ H'.length := by
  have R0 := Rp.more 5
  have g3 : (H ++ yp 5)[3]? = some (AI gw (work ++ T)) := by rw [y1bn (by omega)]; exact h3
  have g4 : (H ++ yp 5)[4]? = some (AL ga s) := by rw [y1bn (by omega)]; exact h4
  have g5 : (H ++ yp 5)[5]? = H[5]? := y1bn (by omega)
  have ecall : y7 E (y8 E) 0 none false 80 [.ls 1 1 1 0 n, .int .i64 to, .ls 4 ga 1 0 R, .ls 3 gw 1 0 work.length] H =
      ymt H.length (.ls 1 1 1 0 n) (.int .i64 to) (.ls 4 ga 1 0 R) (.ls 3 gw 1 0 work.length) (H ++ yp 5) := by
    rw [y7, if_neg (by simp), y2we, if_pos rfl]
    rfl
  rw [ecall]
  have hlen : (H ++ yp 5).length = H.length + 5 := by simp [yp]
  have d0 : (H ++ yp 5)[H.length + 0]? = some ⟨0, .dead⟩ := y29g (by omega)
  have d1 : (H ++ yp 5)[H.length + 1]? = some ⟨0, .dead⟩ := y29g (by omega)
  have d3 : (H ++ yp 5)[H.length + 3]? = some ⟨0, .dead⟩ := y29g (by omega)
  have dead : ∀ (i : Nat) u, ins[i]? = some (some u) → (P i).1 < H.length := fun i u hu => y3d (Rp.obj i u hu)
  generalize hH0 : H ++ yp 5 = H0 at *
  have ixI := y8c (n := n) (p := to) t0 (by omega) 1 1 .i64
  have hlt : to.toNat < ins.length := by rw [ok.len]; omega
  obtain ⟨x, hx⟩ : ∃ x, ins[to.toNat]? = some x := ⟨_, List.getElem?_eq_getElem hlt⟩
  have hrow := y90 (P := P) hx
  cases x with
  | none =>
    have hm : ydn s to (ins, work) = (ins.set to.toNat (some s), work ++ [to]) := by rw [ydn, hx]
    rw [hm]
    have lI := ya6 (i := to.toNat) R0.tab hrow
    have hE : y3n 1 false .nils .nils = some (.bool true) := rfl
    have ha : yt (fz H0 y18) [.ls 4 ga 1 0 R] = some ⟨[slA (some s)], true, [4]⟩ := by
      have hz := y1ie (α := Bool) (k := 10) g4
      rw [hs] at hz
      have hz' : fz H0 y18 (.ls 4 ga 1 0 R) = some ⟨slA (some s), s.all scal, [4]⟩ := hz
      rw [yk, hz', y11]
      simp
    have c1 := ykv (α := Bool) (E := E) (C := y8 E) (fb := H.length) (j := 0) (f := 78) (H := H0) (N := some s) rfl ha (y0a (some s) (by simp only [y3b]; omega)) (by simp) d0
    simp only [ownV, ownO, yk4, hs] at c1
    have st1 := yud (H := H0.set (H.length + 0) (AL 1 s)) (id := 1) (g := 1) (i := to.toNat) (rows := y3q P ins) (v := .ls (H.length + 0) 1 1 0 R) (w := .nils) (by rw [yv (by omega)]; exact R0.tab) hrow rfl rfl
    have hrows : (y3q P ins).set to.toNat [.ls (H.length + 0) 1 1 0 R] = y3q (fun j => if j = to.toNat then (H.length + 0, 1) else P j) (ins.set to.toNat (some s)) := by
      rw [← ydv (P := P) (P' := fun j => if j = to.toNat then (H.length + 0, 1) else P j) (x := some s) hlt (fun j hj => by rw [if_neg hj])]
      simp only [yll, if_true, hs]
    rw [hrows] at st1
    have b1 := yoa (H := (H0.set (H.length + 0) (AL 1 s)).set 1 ⟨1, .arr false false 1 (y3q (fun j => if j = to.toNat then (H.length + 0, 1) else P j) (ins.set to.toNat (some s)))⟩) (fb := H.length) (j := 1) (o := ⟨0, .dead⟩) to (by
      rw [yv (by omega), yv (by omega)]; exact d1)
    have a1 := y2bj (H := ((H0.set (H.length + 0) (AL 1 s)).set 1 ⟨1, .arr false false 1 (y3q (fun j => if j = to.toNat then (H.length + 0, 1) else P j) (ins.set to.toNat (some s)))⟩).set (H.length + 1) (AI 1 [to])) (fb := H.length) (j := 1) (gw := gw) (g2 := 1) (work := work) (T := T) (to := to)
      (by rw [yv (by omega), yv (by omega), yv (by omega)]; exact g3) (y3w (by rw [List.length_set, List.length_set]; omega)) hb (some 2)
    simp only [Nat.zero_add] at b1
    refine ⟨(((H0.set (H.length + 0) (AL 1 s)).set 1 ⟨1, .arr false false 1 (y3q (fun j => if j = to.toNat then (H.length + 0, 1) else P j) (ins.set to.toNat (some s)))⟩).set (H.length + 1) (AI 1 [to])).set 3 (AI (gw + 1) (work ++ [to])), fun j => if j = to.toNat then (H.length + 0, 1) else P j, gw + 1, [], ?_, ?_, ?_, ?_, ?_, ?_⟩
    · simp only [ymt, ixI, y2, lI, hE, y1f, c1, yf, st1, b1, a1]
    · have nf : ∀ (i : Nat) u, (ins.set to.toNat (some s))[i]? = some (some u) → (i = to.toNat ∧ u = s) ∨ (i ≠ to.toNat ∧ ins[i]? = some (some u)) := fun i u hu => by
        rcases y7z hu with ⟨e, e2⟩ | h
        · injection e2 with e2; exact .inl ⟨e, e2⟩
        · exact .inr h
      refine ⟨?_, ?_, fun i u hu => ?_, fun i j u v hu hv hij => ?_, fun i u hu => ?_⟩
      · rw [yv (by omega), yv (by omega), yv (by omega), yv (by omega)]; exact R0.box
      · rw [yv (by omega), yv (by omega), y3w (by rw [List.length_set]; omega)]
      · rcases nf i u hu with ⟨e, e2⟩ | ⟨e, h⟩
        · subst e2
          rw [if_pos e, yv (by omega), yv (by omega), yv (by omega), y3w (by omega)]
        · have h1 := Rp.far i u h
          have h2 := dead i u h
          rw [if_neg e, yv (by omega), yv (by omega), yv (by omega), yv (by omega)]
          exact R0.obj i u h
      · rcases nf i u hu with ⟨e, _⟩ | ⟨e, h⟩
        · rcases nf j v hv with ⟨e', _⟩ | ⟨e', h'⟩
          · omega
          · have := dead j v h'
            rw [if_pos e, if_neg e']; simp only; omega
        · rcases nf j v hv with ⟨e', _⟩ | ⟨e', h'⟩
          · have := dead i u h
            rw [if_neg e, if_pos e']; simp only; omega
          · rw [if_neg e, if_neg e']; exact Rp.inj i j u v h h' hij
      · rcases nf i u hu with ⟨e, _⟩ | ⟨e, h⟩
        · rw [if_pos e]; right; simp only; omega
        · rw [if_neg e]; exact Rp.far i u h
    · rw [y3w (by simp only [List.length_set]; omega), List.append_nil]
    · rw [yv (by omega), yv (by omega), yv (by omega), yv (by omega)]; exact g4
    · rw [yv (by omega), yv (by omega), yv (by omega), yv (by omega)]; exact g5
    · simp only [List.length_set]; omega
  | some t =>
    have ht := ok.rows _ _ hx
    have lI := ya6 (i := to.toNat) R0.tab hrow
    have hE : y3n 1 false (.ls (P to.toNat).1 (P to.toNat).2 1 0 t.length) .nils = some (.bool false) := rfl
    have hfar := Rp.far _ _ hx
    have hobj := R0.obj _ _ hx
    have hid := dead _ _ hx
    have eto : ((to.toNat : Nat) : Int) = to := by omega
    have lp := y1s5 H.length (.ls 3 gw 1 0 work.length) n to.toNat (by omega) (P to.toNat).1 (P to.toNat).2 ga t s (by omega) (by omega) (by omega) (by omega) (y3q P ins) hrow _ 0 H0 (Nat.zero_add _) R0.tab (by rw [y2cm]; exact hobj) g4
    have lk0 : ylk 0 t s = false := rfl
    rw [lk0, eto, hs] at lp
    simp only [Int.ofNat_zero] at lp
    have e12 : ymt H.length (.ls 1 1 1 0 n) (.int .i64 to) (.ls 4 ga 1 0 R) (.ls 3 gw 1 0 work.length) H0 = y1cj H.length (.int .i64 to) (.ls 3 gw 1 0 work.length) (.bool (yxs t s)) (H0.set (P to.toNat).1 (AL (P to.toNat).2 (andB t s))) := by
      rw [← lp]
      simp only [ymt, ixI, y2, lI, hE, y1p, y1tt, y2j1, y4h]
    rw [e12]
    have hal : (andB t s).length = t.length := y124 (by omega)
    have RA : SRep f (H0.set (P to.toNat).1 (AL (P to.toNat).2 (andB t s))) (ins.set to.toNat (some (andB t s))) P := by
      refine ⟨by rw [yv (by omega)]; exact R0.box, ?_, fun i u hu => ?_, fun i j u v hu hv hij => ?_, fun i u hu => ?_⟩
      · rw [yv (by omega), R0.tab]
        congr 3
        rw [← ydv (P := P) (P' := P) hlt (fun _ _ => rfl)]
        have : yll P to.toNat (some (andB t s)) = yll P to.toNat (some t) := by simp only [yll, hal]
        rw [this, y186 hrow]
      · rcases y7z hu with ⟨e, e2⟩ | ⟨e, h⟩
        · injection e2 with e2; subst e2; subst e
          exact y3w (by omega)
        · rw [yv (fun e3 => Rp.inj _ _ _ _ hx h (fun e4 => e e4.symm) e3)]
          exact R0.obj i u h
      · have key : ∀ (i : Nat) u, (ins.set to.toNat (some (andB t s)))[i]? = some (some u) → ∃ u', ins[i]? = some (some u') := fun i u hu => by
          rcases y7z hu with ⟨e, _⟩ | ⟨_, h⟩
          · subst e; exact ⟨t, hx⟩
          · exact ⟨u, h⟩
        obtain ⟨u', h1⟩ := key i u hu
        obtain ⟨v', h2⟩ := key j v hv
        exact Rp.inj i j u' v' h1 h2 hij
      · rcases y7z hu with ⟨e, _⟩ | ⟨_, h⟩
        · subst e; exact hfar
        · exact Rp.far i u h
    have k3 : (H0.set (P to.toNat).1 (AL (P to.toNat).2 (andB t s)))[3]? = some (AI gw (work ++ T)) := by rw [yv (by omega)]; exact g3
    have k4 : (H0.set (P to.toNat).1 (AL (P to.toNat).2 (andB t s)))[4]? = some (AL ga s) := by rw [yv (by omega)]; exact g4
    have k5 : (H0.set (P to.toNat).1 (AL (P to.toNat).2 (andB t s)))[5]? = H[5]? := by rw [yv (by omega)]; exact g5
    cases hb2 : yxs t s with
    | true =>
      have hm : ydn s to (ins, work) = (ins.set to.toNat (some (andB t s)), work ++ [to]) := by rw [ydn, hx]; simp [hb2]
      rw [hm]
      have b1 := yoa (H := H0.set (P to.toNat).1 (AL (P to.toNat).2 (andB t s))) (fb := H.length) (j := 3) (o := ⟨0, .dead⟩) to (by rw [yv (by omega)]; exact d3)
      have a1 := y2bj (H := (H0.set (P to.toNat).1 (AL (P to.toNat).2 (andB t s))).set (H.length + 3) (AI 1 [to])) (fb := H.length) (j := 3) (gw := gw) (g2 := 1) (work := work) (T := T) (to := to)
        (by rw [yv (by omega)]; exact k3) (y3w (by rw [List.length_set]; omega)) hb (some 4)
      simp only [Nat.zero_add] at b1
      refine ⟨((H0.set (P to.toNat).1 (AL (P to.toNat).2 (andB t s))).set (H.length + 3) (AI 1 [to])).set 3 (AI (gw + 1) (work ++ [to])), P, gw + 1, [], ?_, ?_, ?_, ?_, ?_, ?_⟩
      · simp only [y1cj, y1f, b1, yf, a1, y205]
      · refine (RA.beyond (a := H.length + 3) (by omega) (by omega) (fun i u hu => ?_)).other (.inl rfl)
        rcases y7z hu with ⟨e, _⟩ | ⟨_, h⟩
        · subst e; omega
        · have := dead i u h; omega
      · rw [y3w (by simp only [List.length_set]; omega), List.append_nil]
      · rw [yv (by omega), yv (by omega)]; exact k4
      · rw [yv (by omega), yv (by omega)]; exact k5
      · simp only [List.length_set]; omega
    | false =>
      have hm : ydn s to (ins, work) = (ins, work) := by rw [ydn, hx]; simp [hb2]
      rw [hm]
      have eA : andB t s = t := by
        rw [← yyy (by omega : t.length = s.length)]
        have : ∀ k, k ≤ t.length → andK k t s = t := by
          intro k
          induction k with
          | zero => intro _; exact y2cm t s
          | succ k ih =>
            intro hk
            rw [yt1, ih (by omega)]
            cases hc : (t.getD k false && !s.getD k false) with
            | false => rfl
            | true =>
              rw [Bool.and_eq_true, Bool.not_eq_true'] at hc
              have q1 : t[k]? = some true := by
                have := hc.1
                rw [List.getD_eq_getElem?_getD, List.getElem?_eq_getElem (by omega)] at this
                rw [List.getElem?_eq_getElem (by omega)]; simpa using this
              have q2 : s[k]? = some false := by
                have := hc.2
                rw [List.getD_eq_getElem?_getD, List.getElem?_eq_getElem (by omega)] at this
                rw [List.getElem?_eq_getElem (by omega)]; simpa using this
              have := yec.2 ⟨k, q1, q2⟩
              rw [hb2] at this; cases this
        exact this _ (Nat.le_refl _)
      refine ⟨H0.set (P to.toNat).1 (AL (P to.toNat).2 (andB t s)), P, gw, T, ?_, ?_, k3, k4, k5, ?_⟩
      · simp only [y1cj, y1p, y205]
      · have : SRep f (H0.set (P to.toNat).1 (AL (P to.toNat).2 (andB t s))) ins P := by
          rw [eA, y6e hobj]; exact R0
        exact this
      · simp only [List.length_set]; omega
end Go.Vm
namespace Go.Vm
open Cel
attribute [local simp] y7 y28 yr
@[simp] theorem y2x0 (a b c d : AV) (r : List AV) (h : r.length = 4) : y13 0 [a, b, c, d] r = [a, b, c, d] := by
  simp [y13, ← h]
@[simp] theorem y2yn (h : Heap) (a b c d : Int) (o : Bool) : yc h (.tup [.agg [.int .i64 a, .int .i64 b, .int .i64 c, .int .i64 d], .bool o]) = some (exK (a, b, c, d, o)) := rfl
@[simp] theorem y304 (a b c d : Int) : y1i [.int .i64 0, .int .i64 0, .int .i64 0, .int .i64 0] [(0, 1, .int .i64 a), (1, 1, .int .i64 b), (2, 1, .int .i64 c), (3, 1, .int .i64 d)] = some (.agg [.int .i64 a, .int .i64 b, .int .i64 c, .int .i64 d]) := rfl
@[simp] theorem y2z8 : y1i [.int .i64 0, .int .i64 0, .int .i64 0, .int .i64 0] [] = some (.agg [.int .i64 0, .int .i64 0, .int .i64 0, .int .i64 0]) := rfl
@[simp] theorem y2xf (h : Heap) (a b c : Int) : fz h y18 (.tup [.int .i64 a, .int .i64 b, .int .i64 c]) = some ⟨.tup [.int .i64 a, .int .i64 b, .int .i64 c], true, []⟩ := rfl
@[simp] theorem y2w8 (h : Heap) (a b c d : Int) (o : Bool) : fz h y18 (.tup [.agg [.int .i64 a, .int .i64 b, .int .i64 c, .int .i64 d], .bool o]) = some ⟨.tup [.agg [.int .i64 a, .int .i64 b, .int .i64 c, .int .i64 d], .bool o], true, []⟩ := rfl
@[simp] theorem agg4 (a b c d : AV) : y6p true 4 [a, b, c, d] = some (.agg [a, b, c, d]) := rfl
set_option maxHeartbeats 4000000 in
theorem y2h9 (x : Ins) (h : x.op = 1 ∨ x.op = 2 ∨ x.op = 3 ∨ x.op = 4 ∨ x.op = 7 ∨ x.op = 8 ∨ x.op = 9 ∨ x.op = 10 ∨ x.op = 11 ∨ x.op = 13 ∨ x.op = 14 ∨ x.op = 15 ∨ x.op = 16 ∨ x.op = 17 ∨ x.op = 18 ∨ x.op = 19 ∨ x.op = 20 ∨ x.op = 27 ∨ x.op = 31 ∨ x.op = 32 ∨ x.op = 33) : (y8 E).p 47 [.agg (enc x)] = some (exK (yl x)) := by
  rw [y1zg]
  rcases h with h|h|h|h|h|h|h|h|h|h|h|h|h|h|h|h|h|h|h|h|h <;> simp [h, yhe, ygj, yhk, yhd, yhj, yhh, yhf, yhi, yhg, yac, yae, y9w, yaa, yah, ya0, y9x, y9p, yaf, ya2, y9v, y9n, y9i, ya9, y9s, ya7, ya8, y9f, y9d, ya3, y8e, y9k, y9h, y9r, y9u, y9q, yab, y9y, ya4, y9l, y70, y9t, y87, y9g, yad, y9e, yd, yu, meets, ids1, yl]
theorem y2id (x : Ins) (hs : x.s.length ≤ 9223372036854775807) (h : x.op = 12 ∨ x.op = 21 ∨ x.op = 22) : (y8 E).p 47 [.agg (enc x)] = some (exK (yl x)) := by
  rw [y1zg]
  have ht := y2nm x.s hs
  rcases h with h|h|h <;> simp [h, ht, yhe, ygj, yhk, yhd, yhj, yhh, yhf, yhi, yhg, yac, yae, y9w, yaa, yah, ya0, y9x, y9p, yaf, ya2, y9v, y9n, y9i, ya9, y9s, ya7, ya8, y9f, y9d, ya3, y8e, y9k, y9h, y9r, y9u, y9q, yab, y9y, ya4, y9l, y70, y9t, y87, y9g, yad, y9e, yd, yu, meets, ids1, yl]
theorem y2m5 (x : Ins) (hn : -9223372036854775808 ≤ x.n ∧ x.n < 9223372036854775808) (h : x.op = 5 ∨ x.op = 6) : (y8 E).p 47 [.agg (enc x)] = some (exK (yl x)) := by
  rw [y1zg]
  have hk := y2h5 x.n
  have hw := y2b hn.1 hn.2
  rcases h with h|h
  · simp [h, hk, hw, yhe, ygj, yhk, yhd, yhj, yhh, yhf, yhi, yhg, yac, yae, y9w, yaa, yah, ya0, y9x, y9p, yaf, ya2, y9v, y9n, y9i, ya9, y9s, ya7, ya8, y9f, y9d, ya3, y8e, y9k, y9h, y9r, y9u, y9q, yab, y9y, ya4, y9l, y70, y9t, y87, y9g, yad, y9e, yd, yu, meets, ids1, yl]
  · by_cases h0 : (numK x.n).1 = 0
    · simp [h, hk, hw, h0, yhe, ygj, yhk, yhd, yhj, yhh, yhf, yhi, yhg, yac, yae, y9w, yaa, yah, ya0, y9x, y9p, yaf, ya2, y9v, y9n, y9i, ya9, y9s, ya7, ya8, y9f, y9d, ya3, y8e, y9k, y9h, y9r, y9u, y9q, yab, y9y, ya4, y9l, y70, y9t, y87, y9g, yad, y9e, yd, yu, meets, ids1, yl]
    · simp [h, hk, hw, h0, yhe, ygj, yhk, yhd, yhj, yhh, yhf, yhi, yhg, yac, yae, y9w, yaa, yah, ya0, y9x, y9p, yaf, ya2, y9v, y9n, y9i, ya9, y9s, ya7, ya8, y9f, y9d, ya3, y8e, y9k, y9h, y9r, y9u, y9q, yab, y9y, ya4, y9l, y70, y9t, y87, y9g, yad, y9e, yd, yu, meets, ids1, yl]
theorem y2mz (x : Ins) (h : x.op = 28) : (y8 E).p 47 [.agg (enc x)] = some (exK (yl x)) := by
  rw [y1zg]
  by_cases h0 : 0 ≤ x.n
  · simp [h, h0, yhe, ygj, yhk, yhd, yhj, yhh, yhf, yhi, yhg, yac, yae, y9w, yaa, yah, ya0, y9x, y9p, yaf, ya2, y9v, y9n, y9i, ya9, y9s, ya7, ya8, y9f, y9d, ya3, y8e, y9k, y9h, y9r, y9u, y9q, yab, y9y, ya4, y9l, y70, y9t, y87, y9g, yad, y9e, yd, yu, meets, ids1, yl]
  · simp [h, h0, yhe, ygj, yhk, yhd, yhj, yhh, yhf, yhi, yhg, yac, yae, y9w, yaa, yah, ya0, y9x, y9p, yaf, ya2, y9v, y9n, y9i, ya9, y9s, ya7, ya8, y9f, y9d, ya3, y8e, y9k, y9h, y9r, y9u, y9q, yab, y9y, ya4, y9l, y70, y9t, y87, y9g, yad, y9e, yd, yu, meets, ids1, yl]
end Go.Vm
namespace Go.Vm
open Cel
attribute [local simp] y7 y28 yr
theorem y272 (x : Ins) (h : x.op = 29) : (y8 E).p 51 [.agg (enc x)] = some (exK (yl x)) := by
  rw [y245]
  by_cases h0 : x.b = -1 <;> by_cases h1 : x.n = 0 <;> simp [h, h0, h1, yyh, ytj, yx0, yx1, yu5, yy3, yxw, ys5, yxg, yiz, ycy, yjn, yj2, yl0, yiq, yl6, yk1, yk0, yd, yu, meets, yl]
theorem y21n (x : Ins) (h : x.op = 30) : (y8 E).p 51 [.agg (enc x)] = some (exK (yl x)) := by
  rw [y245]
  by_cases h0 : x.a = -1 <;> simp [h, h0, yyh, ytj, yx0, yx1, yu5, yy3, yxw, ys5, yxg, yiz, ycy, yjn, yj2, yl0, yiq, yl6, yk1, yk0, yd, yu, meets, yl]
set_option maxHeartbeats 4000000 in
theorem ypg (x : Ins) (h : x.op = 23 ∨ x.op = 24 ∨ x.op = 25 ∨ x.op = 26) : (y8 E).p 51 [.agg (enc x)] = some (exK (yl x)) := by
  rw [y245]
  have e1 : ((0 : Int) < ((lst x.args).length : Int)) = (0 < (lst x.args).length) := by simp
  have e2 : (((lst x.args).length : Int) ≤ (21 : Int)) = ((lst x.args).length ≤ 21) := by simp; omega
  by_cases h0 : x.d = -1 <;> by_cases h1 : 0 ≤ x.n <;> by_cases h2 : 0 < (lst x.args).length <;> rcases h with h|h|h|h <;> simp [h, h0, h1, h2, e1, e2, yyh, ytj, yx0, yx1, yu5, yy3, yxw, ys5, yxg, yiz, ycy, yjn, yj2, yl0, yiq, yl6, yk1, yk0, yd, yu, meets, yl]
theorem y2m2 (x : Ins) (h : x.op < 1 ∨ 33 < x.op) : (y8 E).p 51 [.agg (enc x)] = some (exK (yl x)) := by
  rw [y245, yok h]
  rcases h with h|h
  · simp [lo_f h, yyh, ytj, yx0, yx1, yu5, yy3, yxw, ys5, yxg, yiz, ycy, yjn, yj2, yl0, yiq, yl6, yk1, yk0, yd, yu, meets]
  · simp [hi_f h, yyh, ytj, yx0, yx1, yu5, yy3, yxw, ys5, yxg, yiz, ycy, yjn, yj2, yl0, yiq, yl6, yk1, yk0, yd, yu, meets]
theorem y2lq (x : Ins) (h : x.op = 29 ∨ x.op = 30 ∨ x.op = 23 ∨ x.op = 24 ∨ x.op = 25 ∨ x.op = 26 ∨ x.op < 1 ∨ 33 < x.op) : (y8 E).p 47 [.agg (enc x)] = some (exK (yl x)) := by
  have ho : (y8 E).p 51 [.agg (enc x)] = some (exK (yl x)) := by
    rcases h with h|h|h|h|h|h|h
    · exact y272 x h
    · exact y21n x h
    · exact ypg x (.inl h)
    · exact ypg x (.inr (.inl h))
    · exact ypg x (.inr (.inr (.inl h)))
    · exact ypg x (.inr (.inr (.inr h)))
    · exact y2m2 x h
  rw [y1zg]
  generalize yl x = k at ho
  obtain ⟨a, b, c, d, o⟩ := k
  simp only [exK] at ho
  rcases h with h|h|h|h|h|h|h|h
  iterate 6 (simp [h, ho, yhe, ygj, yhk, yhd, yhj, yhh, yhf, yhi, yhg, yac, yae, y9w, yaa, yah, ya0, y9x, y9p, yaf, ya2, y9v, y9n, y9i, ya9, y9s, ya7, ya8, y9f, y9d, ya3, y8e, y9k, y9h, y9r, y9u, y9q, yab, y9y, ya4, y9l, y70, y9t, y87, y9g, yad, y9e, yd, yu, meets])
  · simp [lo_f h, ho, yhe, ygj, yhk, yhd, yhj, yhh, yhf, yhi, yhg, yac, yae, y9w, yaa, yah, ya0, y9x, y9p, yaf, ya2, y9v, y9n, y9i, ya9, y9s, ya7, ya8, y9f, y9d, ya3, y8e, y9k, y9h, y9r, y9u, y9q, yab, y9y, ya4, y9l, y70, y9t, y87, y9g, yad, y9e, yd, yu, meets]
  · simp [hi_f h, ho, yhe, ygj, yhk, yhd, yhj, yhh, yhf, yhi, yhg, yac, yae, y9w, yaa, yah, ya0, y9x, y9p, yaf, ya2, y9v, y9n, y9i, ya9, y9s, ya7, ya8, y9f, y9d, ya3, y8e, y9k, y9h, y9r, y9u, y9q, yab, y9y, ya4, y9l, y70, y9t, y87, y9g, yad, y9e, yd, yu, meets]
theorem y2ep (x : Ins) (hn : -9223372036854775808 ≤ x.n ∧ x.n < 9223372036854775808) (hs : x.s.length ≤ 9223372036854775807) : (y8 E).p 47 [.agg (enc x)] = some (exK (yl x)) := by
  by_cases h1 : x.op = 1 ∨ x.op = 2 ∨ x.op = 3 ∨ x.op = 4 ∨ x.op = 7 ∨ x.op = 8 ∨ x.op = 9 ∨ x.op = 10 ∨ x.op = 11 ∨ x.op = 13 ∨ x.op = 14 ∨ x.op = 15 ∨ x.op = 16 ∨ x.op = 17 ∨ x.op = 18 ∨ x.op = 19 ∨ x.op = 20 ∨ x.op = 27 ∨ x.op = 31 ∨ x.op = 32 ∨ x.op = 33
  · exact y2h9 x h1
  by_cases h2 : x.op = 12 ∨ x.op = 21 ∨ x.op = 22
  · exact y2id x hs h2
  by_cases h3 : x.op = 5 ∨ x.op = 6
  · exact y2m5 x hn h3
  by_cases h4 : x.op = 28
  · exact y2mz x h4
  exact y2lq x (by omega)
end Go.Vm
namespace Go.Vm
open Cel
attribute [local simp] y7 y28 yr
abbrev HR (f : Fn) (x : Ins) (a b c d : Int) : Heap := [⟨1, .arr true false 5 [enc f]⟩, ⟨1, .arr true false 9 [enc x]⟩, ⟨1, .arr true false 4 [[.int .i64 a, .int .i64 b, .int .i64 c, .int .i64 d]]⟩]
abbrev P0 : AV := .lp 0 1 0 0
abbrev P1 : AV := .lp 1 1 0 0
abbrev P2 : AV := .lp 2 1 0 0
theorem yds {f : Fn} {r : Int} (h : inR (lst f.regs) r = true) : yi 1 (slA f.regs) (.int .i64 r) = some (.rp [.int .i64 (regK (lst f.regs) r)]) := by
  obtain ⟨h0, h1, h2⟩ := yw9 h
  exact ypb h0 h2 .i64
theorem yxp (f : Fn) (x : Ins) (a b c d : Int) (i : Nat) (w r : Int) (v26 : AV) (hi : i < 4) (hw : [a, b, c, d][i]? = some w) :
    yfi P0 P1 P2 (.int .i64 i) (.int .i64 r) v26 (.int .i64 i) (HR f x a b c d) =
      if y1l (lst f.regs) w r then yqs P0 P1 P2 v26 (.int .i64 i) (HR f x a b c d) else some ⟨.bool false, [], true, [], []⟩ := by
  have e1 : ypa 4 1 P2 (.int .i64 i) = some (.lp 2 1 0 i) := by
    have : ((i : Int) < (4 : Int)) := by omega
    simp [ypa, this]
  have e2 : ∀ f x, evLd false 1 (.lp 2 1 0 i) (HR f x a b c d) = some (.int .i64 w) := by
    intro f x
    simp only [y38]
    have : (ym (HR f x a b c d) 2 1) = some (false, 4, [[.int .i64 a, .int .i64 b, .int .i64 c, .int .i64 d]]) := rfl
    rw [this]
    simp only [List.getElem?_cons_zero, ybi]
    match i, hi, hw with
    | 0, _, hw => simp at hw; simp [hw]
    | 1, _, hw => simp at hw; simp [hw]
    | 2, _, hw => simp at hw; simp [hw]
    | 3, _, hw => simp at hw; simp [hw]
  have e2 := e2 f x
  by_cases hw0 : w < 0
  · simp [yfi, e1, e2, y1l, hw0]
  by_cases h0 : r < 0
  · have : ¬ 0 ≤ r := by omega
    simp [yfi, yie, e1, e2, y1l, hw0, h0, inR, this]
  by_cases h1 : r < ((lst f.regs).length : Int)
  · have h0' : 0 ≤ r := by omega
    have h1' : ¬ ((lst f.regs).length : Int) ≤ r := by omega
    have hin : inR (lst f.regs) r = true := by simp [inR, h0', h1]
    have hr := yds hin
    by_cases h2 : 0 < w
    · have h2' : ¬ w ≤ 0 := by omega
      by_cases h3 : regK (lst f.regs) r = w
      · simp [yfi, yie, e1, e2, y1l, hw0, h0, h1', h2, h2', hin, hr, h3]
      · simp [yfi, yie, e1, e2, y1l, hw0, h0, h1', h2, h2', hin, hr, h3]
    · have h2' : w ≤ 0 := by omega
      simp [yfi, yie, e1, e2, y1l, hw0, h0, h1', h2, h2', hin]
  · have h1' : ((lst f.regs).length : Int) ≤ r := by omega
    simp [yfi, yie, e1, e2, y1l, hw0, h0, h1', h1, inR]
theorem y1c1 (f : Fn) (x : Ins) (a b c d : Int) (h1 : x.op = 1 → inR (lst f.regs) x.d = true) (h4 : x.op = 4 → inR (lst f.regs) x.d = true ∧ inR (lst f.regs) x.a = true) (h7 : x.op = 7 → inR (lst f.regs) x.a = true)
    (h30 : x.op = 30 → x.a = -1 ∨ inR (lst f.regs) x.a = true) :
    yak P0 P1 (HR f x a b c d) = some ⟨.bool (y3f (lst f.regs) f.ret (lst f.code).length x), [], true, [], []⟩ := by
  by_cases o1 : x.op = 1
  · have hr := yds (h1 o1)
    by_cases k3 : regK (lst f.regs) x.d = 3
    · simp [yak, y3f, o1, hr, k3]
    · by_cases k2 : regK (lst f.regs) x.d = 2
      · simp [yak, y3f, o1, hr, k2]
      · simp [yak, y3f, o1, hr, k2, k3]
  by_cases o4 : x.op = 4
  · have hr := yds (h4 o4).1
    have hr2 := yds (h4 o4).2
    simp [yak, y3f, o4, hr, hr2]
  by_cases o7 : x.op = 7
  · have hr := yds (h7 o7)
    simp [yak, y3f, o7, hr]
  by_cases o30 : x.op = 30
  · by_cases ha : x.a = -1
    · by_cases hz : f.ret = 0
      · simp [yak, y3f, o30, ha, hz]
      · simp [yak, y3f, o30, ha, hz]
    · have hr := yds ((h30 o30).resolve_left ha)
      by_cases hz : f.ret = 0
      · simp [yak, y3f, o30, ha, hz]
      · simp [yak, y3f, o30, ha, hz, hr]
  · cases hl : leads x.op with
    | false => simp [yak, y1y5, y3f, o1, o4, o7, o30, hl]
    | true =>
      by_cases ht : 0 ≤ x.t
      · simp [yak, y1y5, y3f, o1, o4, o7, o30, hl, ht]
      · simp [yak, y1y5, y3f, o1, o4, o7, o30, hl, ht]
end Go.Vm
