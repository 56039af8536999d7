/- flow.Heads: where blocks begin. -/
import Derived.Test.YthemfgeagohdhaaLHeadM
import Derived.Test.YthemfgeagohdhaaLInsS
namespace Go.Vm
open Cel
attribute [local simp] callAny callP heapOf_nil

abbrev HH (f : Fn) (a : List Bool) (o2 o3 o4 o5 o6 : AO) : Heap := [⟨1, .arr true false 5 [enc f]⟩, ⟨1, .arr false false 1 (a.map enc)⟩, o2, o3, o4, o5, o6]
theorem ixAt {n : Nat} {p : Int} (h0 : 0 ≤ p) (h1 : p < (n : Int)) (id g : Nat) (k : IntKind) : evIxs 1 (.ls id g 1 0 n) (.int k p) = some (.lp id g p.toNat 0) := by simp [evIxs, h0, h1]
theorem stHH (f : Fn) (a : List Bool) (o2 o3 o4 o5 o6 : AO) {j : Nat} (h : j < a.length) : evSt 1 (.lp 1 1 j 0) (.bool true) (HH f a o2 o3 o4 o5 o6) = some (.tup [], HH f (a.set j true) o2 o3 o4 o5 o6) :=
  evSt_at (α := Bool) (v := .bool true) (y := true) rfl h rfl

theorem Heads_code (f : Fn) (o3 o4 o5 o6 : AO) (hl : (lst f.code).length ≤ 9223372036854775806) : ∀ (d i : Nat) (a : List Bool) (o2 : AO), i + d = (lst f.code).length → a.length = (lst f.code).length + 1 →
    ∃ o2', flow_Heads_L28 (.lp 0 1 0 0) (.ls 1 1 1 0 ((lst f.code).length + 1)) (slA f.code) (.int .i64 (lst f.code).length) (.int .i64 i) (HH f a o2 o3 o4 o5 o6) =
      flow_Heads_26 (.lp 0 1 0 0) (.ls 1 1 1 0 ((lst f.code).length + 1)) (HH f (hA1 (lst f.code).length i ((lst f.code).drop i) a) o2' o3 o4 o5 o6) := by
  intro d
  induction d with
  | zero =>
    intro i a o2 hi _
    have e1 : (lst f.code).drop i = [] := List.drop_eq_nil_of_le (by omega)
    have hn : ¬ ((i : Int) < ((lst f.code).length : Int)) := by omega
    rw [flow_Heads_L28_go, e1]
    exact ⟨o2, by simp [flow_Heads_36, flow_Heads_35, hn, hA1]⟩
  | succ d ih =>
    intro i a o2 hi ha
    have hlt : i < (lst f.code).length := by omega
    have hc : ((i : Int) < ((lst f.code).length : Int)) := by omega
    have k1 := ixs_ins (o := f.code) (i := i) (List.getElem?_eq_getElem hlt) .i64
    have hw := wrap_up hlt (by omega)
    rw [flow_Heads_L28_go, List.drop_eq_getElem_cons hlt, hA1]
    generalize (lst f.code)[i] = x at *
    generalize hN : (lst f.code).length = n at *
    have e36 : flow_Heads_36 (.lp 0 1 0 0) (.ls 1 1 1 0 (n + 1)) (slA f.code) (.int .i64 n) (.int .i64 i) (HH f a o2 o3 o4 o5 o6) =
        flow_Heads_31 (.lp 0 1 0 0) (.ls 1 1 1 0 (n + 1)) (.int .i64 i) (.lp 2 (o2.gen + 1) 0 0) (slA f.code) (.int .i64 n) (.int .i64 i) (HH f a ⟨o2.gen + 1, .arr true false 9 [enc x]⟩ o3 o4 o5 o6) := by
      simp [flow_Heads_36, flow_Heads_35, flow_Heads_32, hc, k1]
    generalize hg : (o2.gen + 1) = g at *
    have e31 : flow_Heads_31 (.lp 0 1 0 0) (.ls 1 1 1 0 (n + 1)) (.int .i64 i) (.lp 2 g 0 0) (slA f.code) (.int .i64 n) (.int .i64 i) (HH f a ⟨g, .arr true false 9 [enc x]⟩ o3 o4 o5 o6) =
        flow_Heads_30 (.lp 0 1 0 0) (.ls 1 1 1 0 (n + 1)) (.int .i64 i) (.lp 2 g 0 0) (slA f.code) (.int .i64 n) (.int .i64 i) (HH f (if leads x.op = true then putP n x.t a else a) ⟨g, .arr true false 9 [enc x]⟩ o3 o4 o5 o6) := by
      cases hd : leads x.op with
      | false => simp [flow_Heads_31, hd]
      | true =>
        rw [if_pos rfl, putP]
        by_cases h0 : 0 ≤ x.t
        rotate_left
        · rw [if_neg (fun h => h0 h.1)]
          simp [flow_Heads_31, hd, h0]
        by_cases h1 : x.t < (n : Int)
        rotate_left
        · rw [if_neg (fun h => h1 h.2)]
          simp [flow_Heads_31, hd, h0, h1, hN]
        rw [if_pos ⟨h0, h1⟩]
        have st := stHH f a ⟨g, .arr true false 9 [enc x]⟩ o3 o4 o5 o6 (j := x.t.toNat) (by omega)
        have ix := ixAt (n := n + 1) h0 (by omega) 1 1 .i64
        simp [flow_Heads_31, hd, h0, h1, hN, ix, -evSt_lp, st]
    have e30 : ∀ a : List Bool, a.length = n + 1 → flow_Heads_30 (.lp 0 1 0 0) (.ls 1 1 1 0 (n + 1)) (.int .i64 i) (.lp 2 g 0 0) (slA f.code) (.int .i64 n) (.int .i64 i) (HH f a ⟨g, .arr true false 9 [enc x]⟩ o3 o4 o5 o6) =
        flow_Heads_29 (.lp 0 1 0 0) (.ls 1 1 1 0 (n + 1)) (slA f.code) (.int .i64 n) (.int .i64 i) (HH f (if (leads x.op || ends x.op) = true then a.set (i + 1) true else a) ⟨g, .arr true false 9 [enc x]⟩ o3 o4 o5 o6) := by
      intro a ha
      have st := stHH f a ⟨g, .arr true false 9 [enc x]⟩ o3 o4 o5 o6 (j := i + 1) (by omega)
      have ix := ixAt (n := n + 1) (p := (i : Int) + 1) (by omega) (by omega) 1 1 .i64
      rw [show ((i : Int) + 1).toNat = i + 1 by omega] at ix
      cases hd : leads x.op <;> cases he : ends x.op <;> simp [flow_Heads_30, hd, he, hw, ix, -evSt_lp, st]
    obtain ⟨o2', ih⟩ := ih (i + 1) (stepI n i x a) ⟨g, .arr true false 9 [enc x]⟩ (by omega) (by simpa using ha)
    push_cast at ih
    refine ⟨o2', ?_⟩
    rw [e36, e31, e30 _ (by split <;> simp [ha]), flow_Heads_29, evBin_add, ob_some, hw, ← ih]
    rfl

theorem Heads_lit (f : Fn) (v62 v63 v64 : AV) (o2 o3 o5 o6 : AO) (g : Nat) (P : List Int) (hP : P.length = 3) : ∀ (d k : Nat) (a : List Bool), k + d = 3 → a.length = (lst f.code).length + 1 →
    flow_Heads_L13 (.lp 0 1 0 0) (.ls 1 1 1 0 ((lst f.code).length + 1)) v62 v63 v64 (.ls 4 g 1 0 3) (.int .i64 3) (.int .i64 k) (HH f a o2 o3 ⟨g, .arr false false 1 (P.map enc)⟩ o5 o6) =
      flow_Heads_12 (.lp 0 1 0 0) (.ls 1 1 1 0 ((lst f.code).length + 1)) v62 v63 v64 (HH f ((P.drop k).foldl (fun a p => putP (lst f.code).length p a) a) o2 o3 ⟨g, .arr false false 1 (P.map enc)⟩ o5 o6) := by
  intro d
  induction d with
  | zero =>
    intro k a hk _
    have e1 : P.drop k = [] := List.drop_eq_nil_of_le (by omega)
    have hn : ¬ ((k : Int) < 3) := by omega
    rw [flow_Heads_L13_go, e1]
    simp [flow_Heads_17, flow_Heads_16, hn]
  | succ d ih =>
    intro k a hk ha
    have hlt : k < P.length := by omega
    have hc : ((k : Int) < 3) := by omega
    have hw := wrap_up (n := 3) (i := k) (by omega) (by omega)
    have l1 : ∀ a, evLd false 1 (.lp 4 g k 0) (HH f a o2 o3 ⟨g, .arr false false 1 (P.map enc)⟩ o5 o6) = some (.int .i64 P[k]) := by
      intro a
      simp [evLd, rowsAt, objAt, hlt]
    have ix : evIxs 1 (.ls 4 g 1 0 3) (.int .i64 (k : Int)) = some (.lp 4 g k 0) := by
      have := ixAt (n := 3) (p := (k : Int)) (by omega) (by omega) 4 g .i64
      simpa using this
    rw [flow_Heads_L13_go, List.drop_eq_getElem_cons hlt, List.foldl_cons]
    generalize P[k] = p at *
    have ih0 := fun a ha => ih (k + 1) a (by omega) ha
    push_cast at ih0
    rw [← ih0 _ (by simpa using ha), putP]
    by_cases h0 : 0 ≤ p
    rotate_left
    · rw [if_neg (fun h => h0 h.1)]
      simp [flow_Heads_17, flow_Heads_16, flow_Heads_15, flow_Heads_14, hc, ix, -evLd_lp, l1, h0, hw]
    by_cases h1 : p < ((lst f.code).length : Int)
    rotate_left
    · rw [if_neg (fun h => h1 h.2)]
      have lb : ∀ a : List Bool, evLd false 1 (.lp 0 1 0 3) (HH f a o2 o3 ⟨g, .arr false false 1 (P.map enc)⟩ o5 o6) = some (slA f.code) := fun a => by simp
      simp [flow_Heads_17, flow_Heads_16, flow_Heads_15, flow_Heads_14, hc, ix, -evLd_lp, l1, h0, h1, hw, lb]
    rw [if_pos ⟨h0, h1⟩]
    have lb : ∀ a : List Bool, evLd false 1 (.lp 0 1 0 3) (HH f a o2 o3 ⟨g, .arr false false 1 (P.map enc)⟩ o5 o6) = some (slA f.code) := fun a => by simp
    have st := stHH f a o2 o3 ⟨g, .arr false false 1 (P.map enc)⟩ o5 o6 (j := p.toNat) (by omega)
    have ix2 := ixAt (n := (lst f.code).length + 1) h0 (by omega) 1 1 .i64
    simp [flow_Heads_17, flow_Heads_16, flow_Heads_15, flow_Heads_14, hc, ix, -evLd_lp, l1, h0, h1, hw, lb, ix2, -evSt_lp, st]

theorem Heads_rows (f : Fn) (o2 o5 o6 : AO) (hl : (lst f.rows).length ≤ 9223372036854775806) : ∀ (d k : Nat) (a : List Bool) (o3 o4 : AO), k + d = (lst f.rows).length → a.length = (lst f.code).length + 1 →
    ∃ o3' o4', flow_Heads_L11 (.lp 0 1 0 0) (.ls 1 1 1 0 ((lst f.code).length + 1)) (slA f.rows) (.int .i64 (lst f.rows).length) (.int .i64 k) (HH f a o2 o3 o4 o5 o6) =
      flow_Heads_10 (.lp 0 1 0 0) (.ls 1 1 1 0 ((lst f.code).length + 1)) (HH f (hA2 (lst f.code).length ((lst f.rows).drop k) a) o2 o3' o4' o5 o6) := by
  intro d
  induction d with
  | zero =>
    intro k a o3 o4 hk _
    have e1 : (lst f.rows).drop k = [] := List.drop_eq_nil_of_le (by omega)
    have hn : ¬ ((k : Int) < ((lst f.rows).length : Int)) := by omega
    rw [flow_Heads_L11_go, e1]
    exact ⟨o3, o4, by simp [flow_Heads_24, flow_Heads_23, hn, hA2]⟩
  | succ d ih =>
    intro k a o3 o4 hk ha
    have hlt : k < (lst f.rows).length := by omega
    have hc : ((k : Int) < ((lst f.rows).length : Int)) := by omega
    have k1 := ixs_row (o := f.rows) (i := k) (List.getElem?_eq_getElem hlt) .i64
    have hw := wrap_up hlt (by omega)
    rw [flow_Heads_L11_go, List.drop_eq_getElem_cons hlt, hA2]
    generalize (lst f.rows)[k] = r at *
    have lit := Heads_lit f (slA f.rows) (.int .i64 (lst f.rows).length) (.int .i64 k) o2 ⟨o3.gen + 1, .arr true false 4 [enc r]⟩ o5 o6 (o4.gen + 1) [r.f, r.t, r.at_] rfl 3 0 a (by omega) ha
    simp only [List.drop_zero, List.foldl_cons, List.foldl_nil, Int.ofNat_zero] at lit
    have e24 : flow_Heads_24 (.lp 0 1 0 0) (.ls 1 1 1 0 ((lst f.code).length + 1)) (slA f.rows) (.int .i64 (lst f.rows).length) (.int .i64 k) (HH f a o2 o3 o4 o5 o6) =
        flow_Heads_L13 (.lp 0 1 0 0) (.ls 1 1 1 0 ((lst f.code).length + 1)) (slA f.rows) (.int .i64 (lst f.rows).length) (.int .i64 k) (.ls 4 (o4.gen + 1) 1 0 3) (.int .i64 3) (.int .i64 0)
          (HH f a o2 ⟨o3.gen + 1, .arr true false 4 [enc r]⟩ ⟨o4.gen + 1, .arr false false 1 ([r.f, r.t, r.at_].map enc)⟩ o5 o6) := by
      simp [flow_Heads_24, flow_Heads_23, flow_Heads_20, flow_Heads_19, hc, k1, buildSC, fillRows]
    obtain ⟨o3', o4', ih⟩ := ih (k + 1) (putP (lst f.code).length r.at_ (putP (lst f.code).length r.t (putP (lst f.code).length r.f a))) ⟨o3.gen + 1, .arr true false 4 [enc r]⟩ ⟨o4.gen + 1, .arr false false 1 ([r.f, r.t, r.at_].map enc)⟩ (by omega) (by simpa using ha)
    push_cast at ih
    refine ⟨o3', o4', ?_⟩
    rw [e24, lit, flow_Heads_12, evBin_add, ob_some, hw, ih]

theorem Heads_take (f : Fn) (o2 o3 o4 : AO) (hl : (lst f.code).length ≤ 274877906944) : ∀ (d k g : Nat) (o5 : AO), k + d = (lst f.code).length →
    flow_Heads_L2 (.ls 1 1 1 0 ((lst f.code).length + 1)) (slotV Int 6 g (headsG f k)) (.int .i64 (lst f.code).length) (.int .i64 k) (HH f (hA f) o2 o3 o4 o5 (slotO g D0 (headsG f k))) = some (exO (nz (headsL f))) := by
  intro d
  induction d with
  | zero =>
    intro k g o5 hk
    have hk' : k = (lst f.code).length := by omega
    have hn : ¬ ((k : Int) < ((lst f.code).length : Int)) := by omega
    have hx := expo1_slotX (H := HH f (hA f) o2 o3 o4 o5 (slotO g D0 (headsG f k))) (j := 6) (g := g) (o := D0) (L := headsG f k) rfl
    rw [flow_Heads_L2_go, headsL, ← hk', ← hx]
    simp [flow_Heads_6, flow_Heads_5, flow_Heads_1, hk']
  | succ d ih =>
    intro k g o5 hk
    have hlt : k < (lst f.code).length := by omega
    have hc : ((k : Int) < ((lst f.code).length : Int)) := by omega
    have hw := wrap_up hlt (by omega)
    have ix := ixAt (n := (lst f.code).length + 1) (p := (k : Int)) (by omega) (by omega) 1 1 .i64
    rw [show ((k : Int)).toNat = k by omega] at ix
    have hg := hA_get f hlt
    have l1 : ∀ o5 o6, evLd false 1 (.lp 1 1 k 0) (HH f (hA f) o2 o3 o4 o5 o6) = some (.bool (isHead f k)) := by
      intro o5 o6
      simp [evLd, rowsAt, objAt, hg]
    rw [flow_Heads_L2_go]
    have ih0 := fun g o5 => ih (k + 1) g o5 (by omega)
    push_cast at ih0
    simp only [headsG] at ih0
    cases hh : isHead f k with
    | false =>
      have ih0 := ih0 g o5
      rw [hh] at ih0 l1
      simp only [Bool.false_eq_true, if_false, List.append_nil] at ih0
      simp [flow_Heads_6, flow_Heads_5, flow_Heads_4, flow_Heads_3, hc, ix, -evLd_lp, l1, hw, ih0]
    | true =>
      rw [hh] at ih0 l1
      simp only [if_true] at ih0
      obtain ⟨g', ha⟩ := app_int (H := HH f (hA f) o2 o3 o4 ⟨o5.gen + 1, .arr false false 1 [[.int .i64 k]]⟩ (slotO g D0 (headsG f k))) (fb := 0) (j := 6) (g := g) (o := D0) (y := .ls 5 (o5.gen + 1) 1 0 1) (L := headsG f k) (n := k) (by simp) rfl (by have := headsG_len f k; omega)
      have ha' : evApp 0 (some 6) 1 8 (slotV Int 6 g (headsG f k)) (.ls 5 (o5.gen + 1) 1 0 1) (HH f (hA f) o2 o3 o4 ⟨o5.gen + 1, .arr false false 1 [[.int .i64 k]]⟩ (slotO g D0 (headsG f k))) = some (slotV Int 6 g' (headsG f k ++ [(k : Int)]), HH f (hA f) o2 o3 o4 ⟨o5.gen + 1, .arr false false 1 [[.int .i64 k]]⟩ (slotO g' D0 (headsG f k ++ [(k : Int)]))) := ha
      simp [flow_Heads_6, flow_Heads_5, flow_Heads_4, flow_Heads_3, hc, ix, -evLd_lp, l1, hw, buildSC, fillRows, ha', ih0]

theorem s_Heads (f : Fn) (hc : (lst f.code).length ≤ 30000) (hr : (lst f.rows).length ≤ 1000000) : (callW E).p 102 [.agg (enc f)] = some (exO (nz (headsL f))) := by
  rw [x_flow_Heads]
  obtain ⟨o2, h1⟩ := Heads_code f D0 D0 D0 D0 (by omega) _ 0 (hA0 (lst f.code).length) D0 (Nat.zero_add _) (by simp)
  obtain ⟨o3, o4, h2⟩ := Heads_rows f o2 D0 D0 (by omega) _ 0 (hA1 (lst f.code).length 0 (lst f.code) (hA0 (lst f.code).length)) D0 D0 (Nat.zero_add _) (by rw [hA1_len, hA0_len])
  have h3 := Heads_take f o2 o3 o4 (by omega) _ 0 0 D0 (Nat.zero_add _)
  simp only [List.drop_zero, Int.ofNat_zero, headsG, slotV_nil, slotO_nil] at h1 h2 h3
  have e10 : flow_Heads_10 (.lp 0 1 0 0) (.ls 1 1 1 0 ((lst f.code).length + 1)) (HH f (hA f) o2 o3 o4 D0 D0) = some (exO (nz (headsL f))) := by
    simp [flow_Heads_10, flow_Heads_8, h3]
  have e26 : flow_Heads_26 (.lp 0 1 0 0) (.ls 1 1 1 0 ((lst f.code).length + 1)) (HH f (hA1 (lst f.code).length 0 (lst f.code) (hA0 (lst f.code).length)) o2 D0 D0 D0 D0) = some (exO (nz (headsL f))) := by
    rw [← e10, ← show _ = flow_Heads_10 _ _ (HH f (hA f) o2 o3 o4 D0 D0) from h2]
    simp [flow_Heads_26]
  have e38 : flow_Heads_38 (.lp 0 1 0 0) (.ls 1 1 1 0 ((lst f.code).length + 1)) (HH f (hA0 (lst f.code).length) D0 D0 D0 D0 D0) = some (exO (nz (headsL f))) := by
    rw [← e26, ← h1]
    simp [flow_Heads_38]
  rw [← e38]
  have b1 : ((lst f.code).length : Int) + 1 ≤ 140737488355328 := by omega
  have b2 : ((lst f.code).length : Int) + 1 ≤ 4611686018427387904 := by omega
  have b3 : (0 : Int) ≤ ((lst f.code).length : Int) + 1 := by omega
  have b4 : (((lst f.code).length : Int) + 1).toNat = (lst f.code).length + 1 := by omega
  have hw : IntKind.wrap .i64 (((lst f.code).length : Int) + 1) = ((lst f.code).length : Int) + 1 := by rw [wrap_i64] <;> omega
  have e42 : flow_Heads_42 (.agg (enc f)) [D0, D0, D0, D0, D0, D0, D0] = flow_Heads_40 (.lp 0 1 0 0) (.ls 1 1 1 0 ((lst f.code).length + 1)) (HH f (List.replicate ((lst f.code).length + 1) false) D0 D0 D0 D0 D0) := by
    simp [flow_Heads_42, flow_Heads_41, mkSC, hw, b1, b2, b3, b4, HH]
  rw [e42]
  have l1 : ∀ (a : List Bool) (o2 o3 o4 o5 o6 : AO), evLd false 1 (.lp 0 1 0 3) (HH f a o2 o3 o4 o5 o6) = some (slA f.code) := fun a o2 o3 o4 o5 o6 => by simp
  by_cases h0 : 0 < (lst f.code).length
  · have h0' : (0 : Int) < ((lst f.code).length : Int) := by omega
    have st := stHH f (List.replicate ((lst f.code).length + 1) false) D0 D0 D0 D0 D0 (j := 0) (by simp)
    have ix := ixAt (n := (lst f.code).length + 1) (p := 0) (by omega) (by omega) 1 1 .i64
    simp only [flow_Heads_40, evFa_lp, ob_some, l1, evLen_sl, evBin_gtr, h0', decide_true, cnd_t, ix, Int.toNat_zero, st, oh_some, hA0, h0, if_true, Nat.zero_add]
  · have h0' : ¬ (0 : Int) < ((lst f.code).length : Int) := by omega
    simp only [flow_Heads_40, evFa_lp, ob_some, l1, evLen_sl, evBin_gtr, h0', decide_false, cnd_f, hA0, h0, if_false, Nat.zero_add]
end Go.Vm
