/- carry.Pass on the machine: the pass itself. What the document says that the stack's instructions over numbers take and give. The document's answers for single operations: numbers in a list, ways, ends. The document's table of operations. The document's answers for single operations. The document's answers for names and types: the program's own. The document's answer whether a call, an instruction is well formed. The document's answer whether an instruction is well formed. The document's answer whether an instruction is well formed, whole. The document's answer for an instruction is the program's. The document's answer whether a function is well formed: the program's own. What a function that is handed in is fit for, for a check. A pass as laws see it. Chapter 14's anchor. -/
import Derived.Test.YtgbajicpokolcaaLX
import Derived.Test.YtgbajicpokolcaaLTd
set_option linter.unusedSimpArgs false
set_option linter.unusedVariables false
set_option linter.unusedSectionVars false
namespace Go.Vm
open Cel
theorem y1ss (H : Heap) {j : Nat} {o : AO} (h : H[j]? = some o) (n : Nat) (hn : n ≤ 1000000) : mkSC 0 (some j) 1 24 [.nils] (.int .i64 n) (.int .i64 n) H = some (.ls j (o.gen + 1) 1 0 n, H.set j ⟨o.gen + 1, .arr false false 1 (List.replicate n [.nils])⟩) := by
  have h1 : (n : Int) * 24 ≤ 2 ^ 47 := by omega
  have h2 : (n : Int) ≤ 2 ^ 62 := by omega
  have z : [AV.nils].length = 1 ∧ [AV.nils].all y11 = true ∧ (0 : Int) ≤ (n : Int) ∧ (n : Int) ≤ n ∧ (n : Int) * ((24 : Nat) : Int) ≤ 2 ^ 47 ∧ (n : Int) ≤ 2 ^ 62 := ⟨rfl, rfl, by omega, by omega, h1, h2⟩
  rw [mkSC, if_pos z, y3g, place]
  simp only [Nat.zero_add, h, Option.map_some, Int.toNat_natCast, List.length_replicate]
theorem yrd {R : Nat} : ∀ {T : FTab}, (∀ o ∈ T, wtF R o ≤ R + 1) → potF R T ≤ T.length * (R + 1)
  | [], _ => by simp [potF]
  | o :: T, h => by
    have h1 := h o (by simp)
    have h2 := yrd (T := T) (fun x hx => h x (by simp [hx]))
    unfold potF at h2 ⊢
    rw [List.map_cons, List.sum_cons, List.length_cons, Nat.succ_mul]
    omega
theorem y199 {f : Fn} (w : Wf f) : meaF f (y5t f, [0]) ≤ 1000000000 := by
  have h1 := w.n2
  have h2 := w.regs
  have hp : potF (lst f.regs).length (y5t f) ≤ (y5t f).length * ((lst f.regs).length + 1) := by
    refine yrd fun o ho => ?_
    unfold y5t at ho
    rcases List.mem_or_eq_of_mem_set ho with h | h
    · rw [(List.mem_replicate.1 h).2]; exact Nat.le_refl _
    · subst h
      have := y1du (List.replicate (lst f.regs).length (-1))
      rw [List.length_replicate] at this
      exact Nat.le_succ_of_le this
  have hl : (y5t f).length = (lst f.code).length := by simp [y5t]
  rw [hl] at hp
  have hm : (lst f.code).length * ((lst f.regs).length + 1) ≤ 20000 * 20001 := Nat.mul_le_mul h1 (by omega)
  unfold meaF
  simp only [List.length_singleton]
  omega
theorem y1a1 {f : Fn} : (List.replicate (lst f.code).length [AV.nils]).set 0 [slA (some (List.replicate (lst f.regs).length (-1 : Int)))] = tabF (y5t f) := by
  rw [y5t, ← yo0]
  congr 1
  rw [tabF, List.map_replicate]
  rfl
theorem y239 {H : Heap} {j : Nat} (h : H[j]? = some D0) : newC 0 (some j) [.nils] H = some (.lp j 1 0 0, H.set j ⟨1, .arr true false 1 [[.nils]]⟩) := by
  simp [h]
theorem y1ln {f : Fn} (w : Wf f) (hR : (lst f.regs).length ≤ 1000000) {p g : Nat → Nat} {H : Heap} (D : DSt H f p g 20) (hd : ∀ k, 10 ≤ k → k < 20 → H[k]? = some D0) :
    ∃ H', y20m V1 V2 H = yhz V1 V2 V3 V4 V5 H' ∧ CSt H' f p g (y5t f) [0] ∧ H'[15]? = some D0 ∧ H'[16]? = some D0 := by
  have hn := w.n2
  have hn1 := w.n1
  have hlen := D.len
  have lc := D.ldc
  have hov : ownV (p 2) (g 2) f.code = .ls (p 2) (g 2) 9 0 (lst f.code).length := by
    cases hc : f.code with
    | none => rw [hc] at hn1; simp at hn1
    | some L => rfl
  rw [hov] at lc
  have fa3 : evFa 3 V1 = some (.lp 0 1 0 3) := rfl
  have fa0 : evFa 0 V1 = some (.lp 0 1 0 0) := rfl
  have mk := y1ss H (j := 10) (o := D0) (hd 10 (by omega) (by omega)) (lst f.code).length (by omega)
  have D1 := D.set (a := 10) (x := ⟨D0.gen + 1, .arr false false 1 (List.replicate (lst f.code).length [.nils])⟩) (by omega)
  have a10 : (H.set 10 ⟨D0.gen + 1, .arr false false 1 (List.replicate (lst f.code).length [.nils])⟩)[10]? = some ⟨1, .arr false false 1 (List.replicate (lst f.code).length [.nils])⟩ := y35 (by omega)
  have ad : ∀ k, 11 ≤ k → k < 20 → (H.set 10 ⟨D0.gen + 1, .arr false false 1 (List.replicate (lst f.code).length [.nils])⟩)[k]? = some D0 := fun k h1 h2 => by rw [yn (by omega)]; exact hd k (by omega) h2
  generalize H.set 10 ⟨D0.gen + 1, .arr false false 1 (List.replicate (lst f.code).length [.nils])⟩ = H1 at *
  have n11 := y239 (ad 11 (by omega) (by omega))
  have hl1 := D1.len
  have s11 := y20k (H := H1.set 11 ⟨1, .arr true false 1 [[.nils]]⟩) (a := 11) (v := .nils) (w := .ls 10 (D0.gen + 1) 1 0 (lst f.code).length) (y35 (by omega)) rfl rfl
  rw [List.set_set] at s11
  have D2 := D1.set (a := 11) (x := ⟨1, .arr true false 1 [[.ls 10 (D0.gen + 1) 1 0 (lst f.code).length]]⟩) (by omega)
  have b10 : (H1.set 11 ⟨1, .arr true false 1 [[.ls 10 (D0.gen + 1) 1 0 (lst f.code).length]]⟩)[10]? = some ⟨1, .arr false false 1 (List.replicate (lst f.code).length [.nils])⟩ := by rw [yn (by omega)]; exact a10
  have b11 : (H1.set 11 ⟨1, .arr true false 1 [[.ls 10 (D0.gen + 1) 1 0 (lst f.code).length]]⟩)[11]? = some ⟨1, .arr true false 1 [[.ls 10 1 1 0 (lst f.code).length]]⟩ := y35 (by omega)
  have bd : ∀ k, 12 ≤ k → k < 20 → (H1.set 11 ⟨1, .arr true false 1 [[.ls 10 (D0.gen + 1) 1 0 (lst f.code).length]]⟩)[k]? = some D0 := fun k h1 h2 => by rw [yn (by omega)]; exact ad k (by omega) h2
  generalize H1.set 11 ⟨1, .arr true false 1 [[.ls 10 (D0.gen + 1) 1 0 (lst f.code).length]]⟩ = H2 at *
  have l11 := yg6 b11
  have hl2 := D2.len
  have b12 := yxy (H := H2) (fb := 0) (j := 12) (o := D0) (-1) (by rw [Nat.zero_add]; exact bd 12 (by omega) (by omega))
  rw [Nat.zero_add] at b12
  have D3 := D2.set (a := 12) (x := AI (D0.gen + 1) [-1]) (by omega)
  have c10 : (H2.set 12 (AI (D0.gen + 1) [-1]))[10]? = some ⟨1, .arr false false 1 (List.replicate (lst f.code).length [.nils])⟩ := by rw [yn (by omega)]; exact b10
  have c11 : (H2.set 12 (AI (D0.gen + 1) [-1]))[11]? = some ⟨1, .arr true false 1 [[.ls 10 1 1 0 (lst f.code).length]]⟩ := by rw [yn (by omega)]; exact b11
  have c12 : (H2.set 12 (AI (D0.gen + 1) [-1]))[12]? = some (AI 1 [-1]) := y35 (by omega)
  have cd : ∀ k, 13 ≤ k → k < 20 → (H2.set 12 (AI (D0.gen + 1) [-1]))[k]? = some D0 := fun k h1 h2 => by rw [yn (by omega)]; exact bd k (by omega) h2
  generalize H2.set 12 (AI (D0.gen + 1) [-1]) = H3 at *
  have lr : evLd false 1 (.lp 0 1 0 0) H3 = some (ownV (p 0) (g 0) f.regs) := yb0 D3.box rfl
  have ln : yt 1 (ownV (p 0) (g 0) f.regs) H3 = some (.int .i64 (lst f.regs).length) := yqe ..
  have hz : fz H3 y1d (.ls 12 (D0.gen + 1) 1 0 1) = some ⟨slA (some [(-1 : Int)]), true, [12]⟩ := y2jk (α := Int) (k := 10) (L := [-1]) c12
  have ha : yo (fz H3 y1d) [.ls 12 (D0.gen + 1) 1 0 1, .int .i64 ((lst f.regs).length : Int)] = some ⟨[slA (some [(-1 : Int)]), .int .i64 ((lst f.regs).length : Int)], true && (true && true), [12] ++ ([] ++ [])⟩ := by
    rw [ym, ym, hz, y1gu, yw]
  have hrep := y1t7 (n := (lst f.regs).length) hR
  have hfr : (exO (some (List.replicate (lst f.regs).length (-1 : Int)))).fresh = true := by rw [y6h]; simp
  have c150 : y4 E (y5 E) 0 none true 150 [.ls 12 (D0.gen + 1) 1 0 1, .int .i64 ((lst f.regs).length : Int)] H3 = some (slA (some (List.replicate (lst f.regs).length (-1 : Int))), H3) := yam (E := E) (C := y5 E) (fb := 0) (f := 150) rfl ha hfr hrep ⟨_, yfl _, rfl⟩
  have f150 : y38 E (y5 E) 0 none true 150 [.ls 12 (D0.gen + 1) 1 0 1, .int .i64 ((lst f.regs).length : Int)] H3 = some ([12], []) := by
    simp [y38, ha, hrep, hfr]
  have ix0 := yjo (n := (lst f.code).length) (p := 0) (by omega) (by omega) 10 1 .i64
  rw [show Int.toNat 0 = 0 from rfl] at ix0
  have hrow : (List.replicate (lst f.code).length [AV.nils])[0]? = some [AV.nils] := by
    rw [List.getElem?_replicate, if_pos (by omega)]
  have st := y1jh (v := slA (some (List.replicate (lst f.regs).length (-1 : Int)))) c10 hrow rfl rfl
  rw [y1a1] at st
  have D4 := D3.set (a := 10) (x := ⟨1, .arr false false 1 (tabF (y5t f))⟩) (by omega)
  have hl3 := D3.len
  have d10 : (H3.set 10 ⟨1, .arr false false 1 (tabF (y5t f))⟩)[10]? = some ⟨1, .arr false false 1 (tabF (y5t f))⟩ := y35 (by omega)
  have d11 : (H3.set 10 ⟨1, .arr false false 1 (tabF (y5t f))⟩)[11]? = some ⟨1, .arr true false 1 [[.ls 10 1 1 0 (lst f.code).length]]⟩ := by rw [yn (by omega)]; exact c11
  have dd : ∀ k, 13 ≤ k → k < 20 → (H3.set 10 ⟨1, .arr false false 1 (tabF (y5t f))⟩)[k]? = some D0 := fun k h1 h2 => by rw [yn (by omega)]; exact cd k (by omega) h2
  generalize H3.set 10 ⟨1, .arr false false 1 (tabF (y5t f))⟩ = H4 at *
  have hl4 := D4.len
  have b13 := yxy (H := H4) (fb := 0) (j := 13) (o := D0) 0 (by rw [Nat.zero_add]; exact dd 13 (by omega) (by omega))
  rw [Nat.zero_add] at b13
  have D5 := D4.set (a := 13) (x := AI (D0.gen + 1) [0]) (by omega)
  have e10 : (H4.set 13 (AI (D0.gen + 1) [0]))[10]? = some ⟨1, .arr false false 1 (tabF (y5t f))⟩ := by rw [yn (by omega)]; exact d10
  have e11 : (H4.set 13 (AI (D0.gen + 1) [0]))[11]? = some ⟨1, .arr true false 1 [[.ls 10 1 1 0 (lst f.code).length]]⟩ := by rw [yn (by omega)]; exact d11
  have e13 : (H4.set 13 (AI (D0.gen + 1) [0]))[13]? = some (AI 1 [0]) := y35 (by omega)
  have ed : ∀ k, 14 ≤ k → k < 20 → (H4.set 13 (AI (D0.gen + 1) [0]))[k]? = some D0 := fun k h1 h2 => by rw [yn (by omega)]; exact dd k (by omega) h2
  generalize H4.set 13 (AI (D0.gen + 1) [0]) = H5 at *
  have hl5 := D5.len
  have n14 := y239 (ed 14 (by omega) (by omega))
  have s14 := y20k (H := H5.set 14 ⟨1, .arr true false 1 [[.nils]]⟩) (a := 14) (v := .nils) (w := .ls 13 (D0.gen + 1) 1 0 1) (y35 (by omega)) rfl rfl
  rw [List.set_set] at s14
  have D6 := D5.set (a := 14) (x := ⟨1, .arr true false 1 [[.ls 13 (D0.gen + 1) 1 0 1]]⟩) (by omega)
  have hT : (y5t f).length = (lst f.code).length := by simp [y5t]
  refine ⟨_, ?_, ⟨D6, by rw [yn (by omega)]; exact e10, by rw [yn (by omega), hT]; exact e11, 1, [], by rw [yn (by omega)]; exact e13, y35 (by omega)⟩, by rw [yn (by omega)]; exact ed 15 (by omega) (by omega), by rw [yn (by omega)]; exact ed 16 (by omega) (by omega)⟩
  have hp0 : f.regs ≠ none → p 0 ≠ 12 := fun h => by
    have := D.lo 0 (by omega) (by simp only [hasL]; cases hq : f.regs with | none => exact (h hq).elim | some L => rfl)
    omega
  have hp : y9 [(ids1 V3, []), ([], [0 + 12]), ([], []), (ids1 (.lp 0 1 0 0), []), (ids1 (ownV (p 0) (g 0) f.regs), []), ([12], []), ([], []), ([], ids1 (.lp 10 1 0 0))] [(0, 1), (1, 3), (1, 4), (0, 5)] = true := by
    cases hq : f.regs with
    | none => rfl
    | some L =>
      have := hp0 (by rw [hq]; simp)
      simp [y9, yl, meets, ids1, ownV]
      omega
  rw [y20m, fa3, y2, lc, y2, y84, y2, mk, yb, n11, yb, s11, yb, y29a, l11, y2, b12, yb, fa0, y2, lr, y2, ln, y2, f150, ydp, c150, yb, ix0, y2, st, yb, y19r hp,
    y26u, b13, yb, n14, yb, s14, yb, y23d, y2]
theorem y23j (f : Fn) (hf : FnFit f) (hs : FnSm f) (hr : (lst f.rows).length ≤ 1000000) (hA : ∀ x ∈ lst f.code, (lst x.args).length ≤ 17592186043904) :
    (wf f = false → (y5 E).p 149 [.agg (enc f)] = some (y29 f)) ∧ (wf f = true → ∃ T, InvF f (T, []) ∧ (y5 E).p 149 [.agg (enc f)] = some (y29 (carF f T))) := by
  have n0 : newC 0 (some 0) (cellsOf (.agg (enc f))) (List.replicate 20 ⟨0, .dead⟩) = some (.lp 0 1 0 0, AB f :: List.replicate 19 D0) := by simp [List.replicate]
  have n1 : newC 0 (some 1) [.nils, .nils, .int .i64 0, .nils, .nils] (AB f :: List.replicate 19 D0) = some (.lp 1 1 0 0, AB f :: ⟨1, .arr true false 5 [[.nils, .nils, .int .i64 0, .nils, .nils]]⟩ :: List.replicate 18 D0) := by simp [List.replicate]
  have l0 : ∀ t : Heap, evLd true 5 (.lp 0 1 0 0) (AB f :: t) = some (.agg (enc f)) := fun t => by simp
  obtain ⟨H1, H2, p, g, e1, e2, D, hl2, hk2⟩ := y17s hs (H := AB f :: ⟨1, .arr true false 5 [[.nils, .nils, .int .i64 0, .nils, .nils]]⟩ :: List.replicate 18 D0) rfl ⟨_, rfl, rfl⟩ (n := 20) (by omega) (by simp)
  have hck := y25l f hf
  have c8 := D.call (E := E) (C := y5 E) (fb := 0) (sl := none) (k := 8) rfl rfl hck ⟨_, rfl, rfl⟩
  have e24 : (y5 E).p 149 [.agg (enc f)] = y1id V1 V2 H2 := by
    rw [x_q1]
    show y1ry _ (List.replicate 20 ⟨0, .dead⟩) = _
    rw [y1ry, n0, yb, n1, yb, y27m, l0, y2, e1, yb, e2, yb]
  refine ⟨fun hw => ?_, fun hw => ?_⟩
  · rw [hw] at c8
    obtain ⟨H3, o1, o2, o3⟩ := D.out
    have z : y3 .neq (.int .i64 (if false = true then (0 : Int) else 80)) (.int .i64 0) = some (.bool true) := rfl
    rw [e24, y1id, D.ld, y2, c8, yb, z, y2, y25, D.ld, y2, o1, yb, o2, y2, o3]
  · rw [hw] at c8
    have w := y25u hw
    have hn := w.n2
    have hR : (lst f.regs).length ≤ 1000000 := by have := w.regs; omega
    obtain ⟨L, hL⟩ : ∃ L, f.code = some L := by
      cases hc : f.code with
      | none => have := w.n1; rw [hc] at this; simp at this
      | some L => exact ⟨L, rfl⟩
    have hlL : lst f.code = L := by rw [hL]; rfl
    obtain ⟨H3, q1, S3, k15, k16⟩ := y1ln w hR D (fun k h1 h2 => by
      rw [hk2 k (by omega)]
      rw [show k = (k - 2) + 2 by omega, List.getElem?_cons_succ, List.getElem?_cons_succ, List.getElem?_replicate, if_pos (by omega)])
    obtain ⟨H4, T, q2, S4, v⟩ := y1df hR w hr _ H3 (y5t f) [0] (Nat.le_refl _) S3 (y1ka w) (y199 w)
    refine ⟨T, v, ?_⟩
    have hl4 := S4.d.len
    obtain ⟨o, ho⟩ : ∃ o, H4[0 + 15]? = some o := ⟨_, List.getElem?_eq_getElem (by omega)⟩
    have mk := y2hk vB ho
    rw [Nat.zero_add] at mk ho
    have S5 := S4.set (a := 15) (x := AM vB (o.gen + 1) []) (by omega)
    have h15 : (H4.set 15 (AM vB (o.gen + 1) []))[15]? = some (AM vB (o.gen + 1) []) := y35 (y4q ho)
    generalize H4.set 15 (AM vB (o.gen + 1) []) = H5 at *
    have hHd := y2a2 f (by omega) hr
    have hfr : (exO (nz (y5q f))).fresh = true := by rw [y6h, ydk]; simp
    have cH := S5.d.call (E := E) (C := y5 E) (fb := 0) (k := 102) rfl hfr hHd ⟨_, yfl _, rfl⟩
    have hhl : (y5q f).length ≤ 20000 := Nat.le_trans (yf3 f _) hn
    obtain ⟨H6, m', r1, r2, S6, r4⟩ := y1io (gh := o.gen + 1) (y5q f) (by omega) _ 0 H5 [] (Nat.zero_add _) (fun r => by simp [aget]) S5 h15
    have hle : yt 1 (slA (nz (y5q f))) H5 = some (.int .i64 (y5q f).length) := by rw [y6o, ydk]
    have hl6 := S6.d.len
    obtain ⟨o16, ho16⟩ : ∃ o, H6[16]? = some o := ⟨_, List.getElem?_eq_getElem (by omega)⟩
    have hp2 := S6.d.lo 2 (by omega) (by simp [hasL, hL])
    have cl := y1qq (S6.d.at_.code L hL) ho16 (by omega) (by omega) (by rw [← hlL]; omega)
    have lc := S6.d.ldc
    have hov : ownV (p 2) (g 2) f.code = .ls (p 2) (g 2) 9 0 L.length := by rw [hL]; rfl
    rw [hov] at lc
    have S7 := S6.set (a := 16) (x := ⟨o16.gen + 1 + 1, .arr false false 9 (L.map enc)⟩) (by omega)
    have h16 : (H6.set 16 ⟨o16.gen + 1 + 1, .arr false false 9 (L.map enc)⟩)[16]? = some ⟨o16.gen + 1 + 1, .arr false false 9 (L.map enc)⟩ := y35 (by omega)
    have h15' : (H6.set 16 ⟨o16.gen + 1 + 1, .arr false false 9 (L.map enc)⟩)[15]? = some (AM vB (o.gen + 1) m') := by rw [yn (by omega)]; exact r4
    generalize H6.set 16 ⟨o16.gen + 1 + 1, .arr false false 9 (L.map enc)⟩ = H7 at *
    have hself : y70 f (y5e f T 0) = f := by rw [y28g, hlL, ylg hL]
    have R0 : RSt H7 (y70 f (y5e f T 0)) p g T m' (o.gen + 1) (o16.gen + 1 + 1) (lst f.code) :=
      ⟨by rw [hself]; exact S7.d, S7.tab, S7.tbx, h15', by rw [hlL]; exact h16⟩
    obtain ⟨H8, t1, D8⟩ := y1sy w v hR hr hA r1 _ 0 (Nat.zero_add _) H7 T R0 v.ok.len (fun j => by rw [y9n, if_neg (fun h => by omega)])
    obtain ⟨H9, o1, o2, o3⟩ := D8.out
    have z : y3 .neq (.int .i64 (if true = true then (0 : Int) else 80)) (.int .i64 0) = some (.bool false) := rfl
    have fa3 : evFa 3 V1 = some (.lp 0 1 0 3) := rfl
    have z0 : ((0 : Nat) : Int) = 0 := rfl
    rw [z0] at r2 t1
    rw [hlL] at t1
    rw [e24, y1id, D.ld, y2, c8, yb, z, y2, y2e, q1, q2, y1s1, mk, yb, y28u, S5.d.ld, y2, cH, yb, hle, y2, r2, y1z2, fa3, y2, lc, y2, cl, yb, y28r, y84, y2, t1, q1_1, D8.ld, y2, o1, yb, o2, y2, o3]
end Go.Vm
namespace Go.Vm
open Cel
attribute [local simp] y4 y20 yp
theorem y262 : ((List.range 60).all fun i => yyw ((both E 30).1.p 66 [.int .i64 (95 + i)]) (numK (95 + i))) = true := by kernel_rfl
theorem y1ut (c : Int) (h1 : 0 ≤ c) (h2 : c < 1000) : (y5 E).p 66 [.int .i64 c] = some ⟨.tup [.int .i64 (numK c).1, .int .i64 (numK c).2.1, .int .i64 (numK c).2.2], [], true, [], []⟩ := by
  by_cases h : c < 96 ∨ 148 < c
  · rw [yg8 h, y2nb]
    have h2 : ∀ k : Int, 96 ≤ k → k ≤ 148 → ¬ c = k := by omega
    rcases h with h | h
    · have a1 : ¬ 96 ≤ c := by omega
      have a2 : ¬ 120 ≤ c := by omega
      have a3 : ¬ 145 ≤ c := by omega
      simp [y1uf, y1v1, y1yo, y1so, h2, a1, a2, a3]
      rfl
    · have a1 : 96 ≤ c := by omega
      have a2 : 120 ≤ c := by omega
      have a3 : 145 ≤ c := by omega
      have b1 : ¬ c ≤ 113 := by omega
      have b2 : ¬ c ≤ 131 := by omega
      have b3 : ¬ c ≤ 147 := by omega
      simp [y1uf, y1v1, y1yo, y1so, h2, a1, a2, a3, b1, b2, b3]
      rfl
  · have := yae y262 (c - 95).toNat (by omega)
    have e : (95 + ((c - 95).toNat : Int)) = c := by omega
    simp only [e] at this
    exact y154 30 (yp9 this)
end Go.Vm
namespace Go.Vm
open Cel
attribute [local simp] y4 y20 yp
theorem y27g (op : Int) (o : Option (List Int)) (hl : (lst o).length ≤ 9223372036854775807) (h : Heap) : ∀ (d i : Nat), i + d = (lst o).length →
    yix (.int .i64 op) (slA o) (.int .i64 i) h = some ⟨.bool (decide (op ∈ (lst o).drop i)), [], true, [], []⟩ := by
  intro d
  induction d with
  | zero =>
    intro i hi
    have e1 : (lst o).drop i = [] := List.drop_eq_nil_of_le (by omega)
    have hn : ¬ ((i : Int) < ((lst o).length : Int)) := by omega
    rw [yk6, e1]
    simp [yks, ylo, ym0, ykv, ylz, ykp, hn]
  | succ d ih =>
    intro i hi
    have hlt : i < (lst o).length := by omega
    have hn : ((i : Int) < ((lst o).length : Int)) := by omega
    have k1 := y2b (o := o) (i := i) (List.getElem?_eq_getElem hlt) .i64
    have hm : op ∈ (lst o).drop i ↔ op = (lst o)[i] ∨ op ∈ (lst o).drop (i + 1) := by rw [List.drop_eq_getElem_cons hlt, List.mem_cons]
    rw [yk6]
    simp only [hm]
    have ih := ih (i + 1) (by omega)
    push_cast at ih
    by_cases he : (lst o)[i] = op
    · simp [yks, ylo, ym0, ykv, ylz, ykp, hn, k1, he]
    · have he' : ¬ op = (lst o)[i] := fun h => he h.symm
      simp [yks, ylo, ym0, ykv, ylz, ykp, hn, k1, he, he', y21 hlt hl, ih]
theorem s_in (op : Int) (o : Option (List Int)) (hl : (lst o).length ≤ 9223372036854775807) : (y5 E).p 42 [.int .i64 op, slA o] = some ⟨.bool (decide (op ∈ lst o)), [], true, [], []⟩ := by
  have := y27g op o hl [] _ 0 (Nat.zero_add _)
  simp only [Int.ofNat_zero, List.drop_zero] at this
  rw [y2i9, ← this]
  simp [yks, ylo, ym0, ykv, ylz, ykp]
theorem y2j3 (op a b c : Int) : (y5 E).p 42 [.int .i64 op, .rs 1 [[.int .i64 a], [.int .i64 b], [.int .i64 c]]] = some ⟨.bool (decide (op ∈ [a, b, c])), [], true, [], []⟩ :=
  s_in op (some [a, b, c]) (by simp)
theorem y1k9 (g a b c : Nat) (x y z : Int) (t : Heap) : fz (⟨g, .arr false false 1 [[.int .i64 x], [.int .i64 y], [.int .i64 z]]⟩ :: t) y1d (.ls 0 g 1 0 3) = some ⟨.rs 1 [[.int .i64 x], [.int .i64 y], [.int .i64 z]], true, [0]⟩ := by
  rw [y1z5, ydw]; rfl
@[simp] theorem y2ke (op : Int) : (y5 E).p 23 [.int .i64 op] = some ⟨.bool (leads op), [], true, [], []⟩ := by
  rw [y2ix, y1rd]
  simp [yj, yy, y1k9 1 0 0 0, y2j3, leads, Bool.or_assoc]
@[simp] theorem y2ks (op : Int) : (y5 E).p 25 [.int .i64 op] = some ⟨.bool (ends op), [], true, [], []⟩ := by
  rw [y2cx, y1g9]
  simp [yj, yy, y1k9 1 0 0 0, y2j3, ends, Bool.or_assoc]
end Go.Vm
namespace Go.Vm
open Cel
attribute [local simp] y4 y20 yp
def rowT : List (List UInt8) := [[], [110, 45, 45, 45], [51, 45, 45, 45], [51, 45, 45, 45], [42, 61, 45, 45], [63, 63, 63, 63], [63, 63, 63, 63], [45, 110, 45, 45], [45, 51, 45, 45], [45, 51, 49, 45], [45, 49, 45, 45], [45, 51, 51, 45], [45, 51, 45, 45], [42, 51, 49, 45], [45, 51, 49, 42], [49, 51, 45, 45], [42, 51, 45, 45], [45, 51, 42, 45], [42, 45, 45, 45], [45, 42, 45, 45], [51, 45, 45, 45], [51, 49, 45, 45], [49, 51, 45, 45], [63, 63, 63, 63], [63, 63, 63, 63], [63, 63, 63, 63], [63, 63, 63, 63], [45, 45, 45, 45], [45, 49, 49, 45], [45, 51, 63, 45], [45, 63, 45, 45], [45, 51, 45, 45], [51, 45, 45, 45], [45, 45, 45, 45]]
def rowM (op : Int) : List UInt8 := if op < 1 ∨ 33 < op then [] else rowT.getD op.toNat []
def y1n0 (r : Option (Ex AV)) (s : List UInt8) : Bool :=
  match r with
  | some ⟨.str a, [], true, [], []⟩ => a == s
  | _ => false
theorem y1r7 {r : Option (Ex AV)} {s : List UInt8} (h : y1n0 r s = true) : r = some ⟨.str s, [], true, [], []⟩ := by
  unfold y1n0 at h
  split at h
  · rw [eq_of_beq h]
  · cases h
theorem y2ew : ((List.range 33).all fun i => y1n0 ((both E 30).1.p 38 [.int .i64 (1 + i)]) (rowM (1 + i))) = true := by kernel_rfl
set_option maxHeartbeats 2000000 in
theorem y2n8 (op : Int) : (y5 E).p 38 [.int .i64 op] = some ⟨.str (rowM op), [], true, [], []⟩ := by
  by_cases h : op < 1 ∨ 33 < op
  · rw [rowM, if_pos h, y2gy]
    simp only [y1jz, y1pj, y19p, y1pb]
    generalize hb : yj 0 (some 0) 1 34 _ _ _ = B
    have hB : ∃ v t, B = some (.ls 0 1 1 0 34, ⟨1, .arr false false 1 v⟩ :: t) := by
      rw [← hb]; exact ⟨_, _, rfl⟩
    obtain ⟨v, t, rfl⟩ := hB
    rcases h with h | h
    · simp [h]
    · have h1 : ¬ op < 1 := by omega
      have h2 : 34 ≤ op := by omega
      simp [h1, h2]
  · have := yae y2ew (op - 1).toNat (by omega)
    have e : (1 + ((op - 1).toNat : Int)) = op := by omega
    simp only [e] at this
    exact y154 30 (y1r7 this)
end Go.Vm
namespace Go.Vm
open Cel
attribute [local simp] y4 y20 yp
@[simp] theorem yj8 (f : Fn) (r : Int) : (y5 E).p 48 [.agg (enc f), .int .i64 r] = some ⟨.int .i64 (regK (lst f.regs) r), [], true, [], []⟩ := by
  rw [y2fn]
  by_cases h0 : r < 0
  · simp [ys6, ypy, ysu, h0, regK]
  by_cases h1 : ((lst f.regs).length : Int) ≤ r
  · have : (lst f.regs)[r.toNat]? = none := List.getElem?_eq_none (by omega)
    simp [ys6, ypy, ysu, h0, h1, regK, this]
  · have hin : inR (lst f.regs) r = true := by
      have a1 : 0 ≤ r := by omega
      have a2 : r < ((lst f.regs).length : Int) := by omega
      simp [inR, a1, a2]
    obtain ⟨a0, a1, a2⟩ := yt5 hin
    have k := yns (o := f.regs) a0 a2 .i64
    simp [ys6, ypy, ysu, h0, h1, k]
def y56 (k : Int) (c : UInt8) : Bool :=
  if c = 45 ∨ c = 63 then true else if c = 42 ∨ c = 61 then decide (0 < k) else if c = 110 then decide (k = 1) || decide (k = 2) else decide (k = (c.toNat : Int) - 48)
theorem y1vy (f : Fn) (r : Int) (c : UInt8) (hc : c = 45 ∨ c = 63 ∨ c = 42 ∨ c = 61 ∨ c = 110 ∨ c = 49 ∨ c = 50 ∨ c = 51) :
    (y5 E).p 65 [.agg (enc f), .int .i64 r, .int .u8 c.toNat] = some ⟨.bool (y56 (regK (lst f.regs) r) c), [], true, [], []⟩ := by
  rw [y2hr]
  generalize hk : regK (lst f.regs) r = k
  have hk' := yj8 f r
  rw [hk] at hk'
  rcases hc with rfl | rfl | rfl | rfl | rfl | rfl | rfl | rfl
  · simp [ybu, ya4, ybq, ya5, ybo, yc1, ybx, y6z, hk', y56]
  · simp [ybu, ya4, ybq, ya5, ybo, yc1, ybx, y6z, hk', y56]
  · simp [ybu, ya4, ybq, ya5, ybo, yc1, ybx, y6z, hk', y56]
  · simp [ybu, ya4, ybq, ya5, ybo, yc1, ybx, y6z, hk', y56]
  · by_cases h1 : k = 1 <;> simp [ybu, ya4, ybq, ya5, ybo, yc1, ybx, y6z, hk', y56, h1]
  · simp [ybu, ya4, ybq, ya5, ybo, yc1, ybx, y6z, hk', y56, IntKind.wrap, IntKind.bits, IntKind.signed]
  · simp [ybu, ya4, ybq, ya5, ybo, yc1, ybx, y6z, hk', y56, IntKind.wrap, IntKind.bits, IntKind.signed]
  · simp [ybu, ya4, ybq, ya5, ybo, yc1, ybx, y6z, hk', y56, IntKind.wrap, IntKind.bits, IntKind.signed]
@[simp] theorem y26b (f : Fn) (i : Int) : (y5 E).p 49 [.agg (enc f), .int .i64 i] = some ⟨.bool (y4x (lst f.code).length i), [], true, [], []⟩ := by
  rw [y2in]
  by_cases h0 : 0 ≤ i <;> simp [y1e7, h0, y4x]
end Go.Vm
namespace Go.Vm
open Cel
attribute [local simp] y4 y20 yp
def mayB : List UInt8 := [97, 98, 99, 100, 101, 102, 103, 104, 105, 106, 107, 108, 109, 110, 111, 112, 113, 114, 115, 116, 117, 118, 119, 120, 121, 122, 65, 66, 67, 68, 69, 70, 71, 72, 73, 74, 75, 76, 77, 78, 79, 80, 81, 82, 83, 84, 85, 86, 87, 88, 89, 90, 48, 49, 50, 51, 52, 53, 54, 55, 56, 57, 95, 36, 47]
theorem y2g9 : ((List.range 256).all fun n => mayB.contains (UInt8.ofNat n) == okB (UInt8.ofNat n)) = true := by kernel_rfl
theorem y2h7 (c : UInt8) : mayB.contains c = okB c := by
  have := yae y2g9 c.toNat c.toNat_lt
  rw [UInt8.ofNat_toNat] at this
  exact eq_of_beq this
@[simp] theorem y2nk : E.pure 53 = true := rfl
theorem y2lz (s : List UInt8) (c : UInt8) : (y5 E).p 53 [.str s, .str [c]] = some ⟨.bool (s.contains c), [], true, [], []⟩ := by
  rw [yli, y6e, show E.fn 53 = none by kernel_rfl]
  rfl
theorem y16p (s : List UInt8) (hs : s.length ≤ 9223372036854775807) (h : Heap) : ∀ (d i : Nat), i + d = s.length →
    ye8 (.str s) (.str mayB) (.int .i64 i) h = if (s.drop i).all okB then yhq (.str s) h else some ⟨.bool false, [], true, [], []⟩ := by
  intro d
  induction d with
  | zero =>
    intro i hi
    have e1 : s.drop i = [] := List.drop_eq_nil_of_le (by omega)
    have hc : ¬ ((i : Int) < (s.length : Int)) := by omega
    rw [yjz, e1]
    simp [ys7, hc]
  | succ d ih =>
    intro i hi
    have hlt : i < s.length := by omega
    have hc : ((i : Int) < (s.length : Int)) := by omega
    have ih := ih (i + 1) (by omega)
    push_cast at ih
    have e1 : (s.drop i).all okB = (okB s[i] && (s.drop (i + 1)).all okB) := by rw [List.drop_eq_getElem_cons hlt, List.all_cons]
    have hsl : yde (.str s) (some (.int .i64 (i : Int))) (some (.int .i64 ((i : Int) + 1))) = some (.str [s[i]]) := by
      have a1 : ((0 : Int) ≤ (i : Int) + 1 ∧ (i : Int) + 1 ≤ (s.length : Int)) := by omega
      have a2 : ((0 : Int) ≤ (i : Int) ∧ (i : Int) ≤ (((i : Int) + 1).toNat : Int)) := by omega
      simp only [yde, y6t, ycb, if_pos a1, if_pos a2]
      have e2 : ((i : Int) + 1).toNat = i + 1 := by omega
      rw [e2, Int.toNat_natCast, List.drop_take, show i + 1 - i = 1 by omega, List.drop_eq_getElem_cons hlt]
      rfl
    have hm := y2lz mayB s[i]
    rw [y2h7] at hm
    rw [yjz, e1]
    simp only [ys7, yd7, y2, yi, hc, decide_true, y25]
    cases hb : okB s[i] with
    | true =>
      rw [hb] at hm
      simp [yrs, y21 hlt hs, hsl, hm, y157, ih]
    | false =>
      rw [hb] at hm
      simp [yrs, y21 hlt hs, hsl, hm]
@[simp] theorem y2a1 (s : List UInt8) (hs : s.length ≤ 9223372036854775807) : (y5 E).p 69 [.str s, .bool false] = some ⟨.bool (y7b s), [], true, [], []⟩ := by
  have h0 := y16p s hs [] _ 0 (Nat.zero_add _)
  simp only [Int.ofNat_zero, List.drop_zero] at h0
  rw [y2el]
  have e : yno (.str s) (.bool false) [] = ye8 (.str s) (.str mayB) (.int .i64 0) [] := by simp [yhq, y157, yrs, ys7, yvf, y1lf, yti, yno]; rfl
  rw [e, h0, y7b]
  cases hal : s.all okB with
  | false => simp
  | true =>
    by_cases h1 : s = []
    · subst h1; simp [yhq]
    · have h2 : 1 ≤ s.length := by have := List.length_pos_iff.2 h1; omega
      by_cases h3 : s.length ≤ 60
      · have : ((s.length : Int) ≤ 60) := by omega
        simp [yhq, h1, h2, h3, this]
      · have : ¬ ((s.length : Int) ≤ 60) := by omega
        simp [yhq, h1, h2, h3, this]
def ygc (s : List UInt8) : Bool :=
  decide (lead s ≤ 8) && (decide (s.drop (lead s) = [73]) || decide (s.drop (lead s) = [74]) ||
    (decide (2 < (s.drop (lead s)).length) && decide ((s.drop (lead s))[0]? = some 76) && decide ((s.drop (lead s))[(s.drop (lead s)).length - 1]? = some 59) && y7b (((s.drop (lead s)).take ((s.drop (lead s)).length - 1)).drop 1)))
theorem y18p (s : List UInt8) (hs : s.length ≤ 9223372036854775807) (h : Heap) : ∀ (d i : Nat), i + d = lead s → yen (.str s) (.int .i64 i) h = ykc (.str s) (.int .i64 (lead s)) h := by
  intro d
  induction d with
  | zero =>
    intro i hi
    obtain rfl : i = lead s := by omega
    rw [yk0]
    have := ya9 s
    by_cases hc : lead s < s.length
    · have e := List.getElem?_eq_getElem hc
      have hne := yuj e
      have hc' : ((lead s : Int) < (s.length : Int)) := by omega
      have hb : ¬ ((s[lead s].toNat : Int) = 91) := fun hh => hne ((y5o _ 91).1 hh)
      simp [yku, hc', ixstr e, hb]
    · have hc' : ¬ ((lead s : Int) < (s.length : Int)) := by omega
      simp [yku, hc']
  | succ d ih =>
    intro i hi
    have e := yt3 (s := s) (i := i) (by omega)
    have := ya9 s
    have hc' : ((i : Int) < (s.length : Int)) := by omega
    have ih := ih (i + 1) (by omega)
    push_cast at ih
    rw [yk0]
    simp [yku, hc', ixstr e, yww, y21 (show i < s.length by omega) hs, ih]
theorem y1yt (s : List UInt8) (hs : s.length ≤ 9223372036854775807) : (y5 E).p 67 [.str s] = some ⟨.bool (ygc s), [], true, [], []⟩ := by
  have h0 := y18p s hs [] _ 0 (Nat.zero_add _)
  simp only [Int.ofNat_zero] at h0
  rw [y2ey]
  have e : yn4 (.str s) [] = yen (.str s) (.int .i64 0) [] := by simp [yjb, ye5, ysc, ykc, yww, yku, ysx, yn4]
  rw [e, h0, ygc]
  have hle := ya9 s
  have hsl : yde (.str s) (some (.int .i64 (lead s))) none = some (.str (s.drop (lead s))) := by
    have a2 : ((0 : Int) ≤ (lead s : Int) ∧ (lead s : Int) ≤ (s.length : Int)) := by omega
    simp only [yde, y6t, ycb, if_pos a2]
    simp
  by_cases h8 : 8 < lead s
  · have h8' : ((8 : Int) < (lead s : Int)) := by omega
    have : ¬ lead s ≤ 8 := by omega
    simp [ykc, hsl, ysc, h8', this]
  · have h8' : ¬ ((8 : Int) < (lead s : Int)) := by omega
    have h8n : lead s ≤ 8 := by omega
    have hrl : (s.drop (lead s)).length ≤ 9223372036854775807 := by rw [List.length_drop]; omega
    simp only [ykc, hsl, y2, ysc, y59, h8', decide_false, y2e, h8n, decide_true, Bool.true_and]
    generalize s.drop (lead s) = r at *
    by_cases c1 : r = [73]
    · simp [ye5, c1]
    by_cases c2 : r = [74]
    · simp [ye5, c2]
    by_cases c3 : 2 < r.length
    · have c3' : ((2 : Int) < (r.length : Int)) := by omega
      have k0 := List.getElem?_eq_getElem (l := r) (i := 0) (by omega)
      have k1 := List.getElem?_eq_getElem (l := r) (i := r.length - 1) (by omega)
      have i0 := ixstr k0
      have i1 := ixstr k1
      simp only [Int.ofNat_zero] at i0
      have hw : IntKind.wrap .i64 ((r.length : Int) - 1) = ((r.length - 1 : Nat) : Int) := by rw [y1a] <;> omega
      have hs2 : yde (.str r) (some (.int .i64 1)) (some (.int .i64 ((r.length - 1 : Nat) : Int))) = some (.str ((r.take (r.length - 1)).drop 1)) := by
        have a1 : ((0 : Int) ≤ ((r.length - 1 : Nat) : Int) ∧ ((r.length - 1 : Nat) : Int) ≤ (r.length : Int)) := by omega
        have a2 : ((0 : Int) ≤ (1 : Int) ∧ (1 : Int) ≤ (((r.length - 1 : Nat) : Int).toNat : Int)) := by omega
        simp only [yde, y6t, ycb, if_pos a1, if_pos a2]
        rfl
      have hn := y2a1 ((r.take (r.length - 1)).drop 1) (by rw [List.length_drop, List.length_take]; omega)
      rw [k0, k1]
      generalize r[0] = b0 at *
      generalize r[r.length - 1] = b1 at *
      generalize y7b ((r.take (r.length - 1)).drop 1) = N at *
      have hn' := hn
      simp only [List.drop_one] at hn'
      by_cases d0 : b0 = 76
      · by_cases d1 : b1 = 59
        · simp [ye5, yjb, c1, c2, c3, c3', i0, i1, hw, hs2, hn', d0, d1]
        · have d1' : ¬ ((b1.toNat : Int) = 59) := fun hh => d1 ((y5o _ 59).1 hh)
          simp [ye5, yjb, c1, c2, c3, c3', i0, i1, hw, d0, d1, d1']
      · have d0' : ¬ ((b0.toNat : Int) = 76) := fun hh => d0 ((y5o _ 76).1 hh)
        simp [ye5, yjb, c1, c2, c3, c3', i0, d0, d0']
    · have c3' : ¬ ((2 : Int) < (r.length : Int)) := by omega
      simp [ye5, yjb, c1, c2, c3, c3']
theorem ypg {l : List UInt8} (h : y7b l = true) : 59 ∉ l ∧ 1 ≤ l.length := by
  simp only [y7b, Bool.and_eq_true, decide_eq_true_eq, List.all_eq_true] at h
  refine ⟨fun hm => ?_, h.1.1⟩
  have := h.2 59 hm
  exact absurd this (by decide)
theorem y1fr (s : List UInt8) : ygc s = y7m s := by
  rw [Bool.eq_iff_iff]
  simp only [ygc, y7m, Bool.and_eq_true, Bool.or_eq_true, decide_eq_true_eq]
  have hle := ya9 s
  have hdl : (s.drop (lead s)).length = s.length - lead s := List.length_drop
  by_cases hne : s = []
  · subst hne; simp [lead, yrl]
  have hpos : 0 < s.length := List.length_pos_iff.2 hne
  simp only [hne, not_false_eq_true, true_and, ne_eq]
  unfold yrl
  by_cases h8 : 8 < lead s
  · rw [if_pos (.inl h8)]
    constructor
    · rintro ⟨h, _⟩; omega
    · intro h; omega
  by_cases hl : lead s = s.length
  · rw [if_pos (.inr hl)]
    have : s.drop (lead s) = [] := List.drop_eq_nil_of_le (by omega)
    rw [this]
    constructor
    · rintro ⟨_, h⟩; simp at h
    · intro h; omega
  rw [if_neg (by omega)]
  have hlt : lead s < s.length := by omega
  have hd : s.drop (lead s) = s[lead s] :: s.drop (lead s + 1) := List.drop_eq_getElem_cons hlt
  have h8n : lead s ≤ 8 := by omega
  rw [List.getElem?_eq_getElem hlt]
  have hrl : (s.drop (lead s + 1)).length = s.length - (lead s + 1) := List.length_drop
  have htk : ∀ j, (s.take (lead s + 1 + j)).drop (lead s + 1) = (s.drop (lead s + 1)).take j := by
    intro j; rw [List.drop_take]; congr 1; omega
  simp only [htk]
  rw [hd]
  generalize s[lead s] = c at *
  generalize hr : s.drop (lead s + 1) = r at *
  simp only [h8n, true_and, Option.some.injEq, List.cons.injEq, List.length_cons, List.getElem?_cons_zero, Nat.add_sub_cancel]
  by_cases c1 : c = 73
  · subst c1
    simp only [true_or, if_true, true_and]
    have e1 : (s.length = lead s + 1) ↔ r = [] := by rw [← List.length_eq_zero_iff, hrl]; omega
    constructor
    · rintro (h | h)
      · rcases h with h | h
        · exact (e1.2 h).symm
        · exact absurd h.1 (by decide)
      · exact absurd h.1.1.2 (by decide)
    · intro h; exact .inl (.inl (e1.1 h.symm))
  by_cases c2 : c = 74
  · subst c2
    simp only [or_true, if_true, true_and]
    have e1 : (s.length = lead s + 1) ↔ r = [] := by rw [← List.length_eq_zero_iff, hrl]; omega
    constructor
    · rintro (h | h)
      · rcases h with h | h
        · exact absurd h.1 (by decide)
        · exact (e1.2 h).symm
      · exact absurd h.1.1.2 (by decide)
    · intro h; exact .inl (.inr (e1.1 h.symm))
  simp only [c1, c2, or_self, if_false, false_and, false_or]
  by_cases c3 : c = 76
  · subst c3
    simp only [if_true, true_and, and_true]
    have idx : ∀ j, j < r.length → r[j]? = some 59 → 59 ∉ r.take j → r.findIdx (· == 59) = j := by
      intro j hj h1 h2
      rw [List.getElem?_eq_getElem hj] at h1
      rw [List.findIdx_eq hj]
      refine ⟨by simpa using h1, fun k hk => ?_⟩
      have : r[k]'(by omega) ∈ r.take j := List.mem_take_iff_getElem.2 ⟨k, by omega, rfl⟩
      simp only [beq_eq_false_iff_ne, ne_eq]
      intro he
      rw [he] at this
      exact h2 this
    constructor
    · rintro ⟨⟨h1, h2⟩, h3⟩
      have e0 : (76 :: r : List UInt8)[r.length]? = r[r.length - 1]? := by
        rw [show r.length = (r.length - 1) + 1 by omega]; simp
      rw [e0] at h2
      have e1 : ((76 :: r : List UInt8).take r.length).drop 1 = r.take (r.length - 1) := by
        rw [show r.length = (r.length - 1) + 1 by omega]; simp
      rw [e1] at h3
      have := idx (r.length - 1) (by omega) h2 (ypg h3).1
      rw [this, if_pos ⟨by omega, h3⟩]
      omega
    · intro h
      split at h
      · rename_i hc
        have hj : r.findIdx (· == 59) = r.length - 1 := by omega
        have hn := ypg hc.2
        have hlen := hn.2
        rw [List.length_take, hj] at hlen
        have h59 : r[r.length - 1]? = some 59 := by
          have := List.findIdx_getElem (w := hc.1)
          rw [List.getElem?_eq_getElem (by omega)]
          simp only [hj] at this
          simpa using this
        rw [hj] at hc
        refine ⟨⟨by omega, ?_⟩, ?_⟩
        · rw [show r.length = (r.length - 1) + 1 by omega]; simpa using h59
        · have e1 : ((76 :: r : List UInt8).take r.length).drop 1 = r.take (r.length - 1) := by
            rw [show r.length = (r.length - 1) + 1 by omega]; simp
          rw [e1]; exact hc.2
      · omega
  · simp only [c3, if_false, and_false, false_and]
    constructor
    · intro h; exact h.elim
    · intro h; omega
theorem y29n (s : List UInt8) (hs : s.length ≤ 9223372036854775807) : (y5 E).p 67 [.str s] = some ⟨.bool (y7m s), [], true, [], []⟩ := by
  rw [y1yt s hs, y1fr]
end Go.Vm
namespace Go.Vm
open Cel
attribute [local simp] y4 y20 yp y38
abbrev H2 (f : Fn) (x : Ins) : Heap := [⟨1, .arr true false 5 [enc f]⟩, ⟨1, .arr true false 9 [enc x]⟩]
abbrev H3 (f : Fn) (x : Ins) : Heap := [⟨1, .arr true false 5 [enc f]⟩, ⟨1, .arr true false 9 [enc x]⟩, ⟨1, .arr false false 1 [[.int .i64 x.d], [.int .i64 x.a], [.int .i64 x.b], [.int .i64 x.c]]⟩]
abbrev Q0 : AV := .lp 0 1 0 0
abbrev Q1 : AV := .lp 1 1 0 0
def yg0 (R : List Int) (x : Ins) : Bool :=
  (!decide (x.op = 24) && !decide (x.op = 25)) || (match lst x.args with
    | [] => false
    | r :: _ => decide (regK R r = 3))
def ynn (R : List Int) (x : Ins) : Bool :=
  !((decide (x.n < 0) && !decide (x.op = 25)) || decide (21 < (lst x.args).length) || (!decide (x.d = -1) && decide (regK R x.d = 0))) && ((lst x.args).all (fun r => !decide (regK R r = 0)) && yg0 R x)
theorem y1p5 (f : Fn) (x : Ins) : y5b Q0 Q1 (H2 f x) = some ⟨.bool (yg0 (lst f.regs) x), [], true, [], []⟩ := by
  by_cases o1 : x.op = 24
  · cases ha : lst x.args with
    | nil => simp [y5b, o1, yg0, ha, y9]
    | cons r t =>
      have k1 := y2b (o := x.args) (i := 0) (x := r) (by rw [ha]; rfl) .i64
      simp only [Int.ofNat_zero] at k1
      simp [y5b, o1, yg0, ha, k1, y9]
  · by_cases o2 : x.op = 25
    · cases ha : lst x.args with
      | nil => simp [y5b, o2, yg0, ha, y9]
      | cons r t =>
        have k1 := y2b (o := x.args) (i := 0) (x := r) (by rw [ha]; rfl) .i64
        simp only [Int.ofNat_zero] at k1
        simp [y5b, o2, yg0, ha, k1, y9]
    · simp [y5b, o1, o2, yg0, y9]
theorem y1d5 (f : Fn) (x : Ins) (hl : (lst x.args).length ≤ 9223372036854775807) : ∀ (d i : Nat), i + d = (lst x.args).length →
    ygw Q0 Q1 (.int .i64 i) (H2 f x) = some ⟨.bool (((lst x.args).drop i).all (fun r => !decide (regK (lst f.regs) r = 0)) && yg0 (lst f.regs) x), [], true, [], []⟩ := by
  intro d
  induction d with
  | zero =>
    intro i hi
    have e1 : (lst x.args).drop i = [] := List.drop_eq_nil_of_le (by omega)
    have hn : ¬ ((i : Int) < ((lst x.args).length : Int)) := by omega
    rw [ym1, e1]
    simp [y6s, hn, y1p5]
  | succ d ih =>
    intro i hi
    have hlt : i < (lst x.args).length := by omega
    have hn : ((i : Int) < ((lst x.args).length : Int)) := by omega
    have k1 := y2b (o := x.args) (i := i) (List.getElem?_eq_getElem hlt) .i64
    have e1 : ((lst x.args).drop i).all (fun r => !decide (regK (lst f.regs) r = 0)) = ((!decide (regK (lst f.regs) (lst x.args)[i] = 0)) && ((lst x.args).drop (i + 1)).all (fun r => !decide (regK (lst f.regs) r = 0))) := by
      rw [List.drop_eq_getElem_cons hlt, List.all_cons]
    have ih := ih (i + 1) (by omega)
    push_cast at ih
    rw [ym1, e1]
    generalize (lst x.args)[i] = r at *
    have hs := yj8 f r
    by_cases hz : regK (lst f.regs) r = 0
    · rw [hz] at hs
      simp [y6s, hn, y78, k1, hs, hz, y9]
    · generalize regK (lst f.regs) r = k at *
      simp [y6s, hn, y78, k1, hs, hz, y9, y8q, y21 hlt hl]
      exact ih
theorem y2hs (f : Fn) (x : Ins) (hl : (lst x.args).length ≤ 9223372036854775807) : (y5 E).p 68 [.agg (enc f), .agg (enc x)] = some ⟨.bool (ynn (lst f.regs) x), [], true, [], []⟩ := by
  rw [y2g5]
  have h0 := y1d5 f x hl _ 0 (Nat.zero_add _)
  simp only [Int.ofNat_zero, List.drop_zero] at h0
  have hs := yj8 f x.d
  have e21 : ((21 : Int) < ((lst x.args).length : Int)) ↔ 21 < (lst x.args).length := by omega
  unfold ynn
  generalize ((lst x.args).all (fun r => !decide (regK (lst f.regs) r = 0)) && yg0 (lst f.regs) x) = T at *
  generalize regK (lst f.regs) x.d = kd at *
  by_cases h21 : 21 < (lst x.args).length
  · have h21' := e21.2 h21
    by_cases hn : x.n < 0
    · by_cases o5 : x.op = 25 <;> simp [y5b, y8q, y78, y6s, y9r, yav, y5z, hn, o5, h21, h21', y9, yl, meets]
    · simp [y5b, y8q, y78, y6s, y9r, yav, y5z, hn, h21, h21', y9, yl, meets]
  · have h21' : ¬ ((21 : Int) < ((lst x.args).length : Int)) := by omega
    by_cases hn : x.n < 0
    · by_cases o5 : x.op = 25
      · by_cases hd : x.d = -1
        · simp [y5b, y8q, y78, y6s, y9r, yav, y5z, hn, o5, h21, h21', hd, h0, y9, yl, meets]
        · by_cases hk : kd = 0
          · simp [y5b, y8q, y78, y6s, y9r, yav, y5z, hn, o5, h21, h21', hd, hs, hk, h0, y9, yl, meets]
          · simp [y5b, y8q, y78, y6s, y9r, yav, y5z, hn, o5, h21, h21', hd, hs, hk, h0, y9, yl, meets]
      · simp [y5b, y8q, y78, y6s, y9r, yav, y5z, hn, o5, h21, h21', y9, yl, meets]
    · by_cases hd : x.d = -1
      · simp [y5b, y8q, y78, y6s, y9r, yav, y5z, hn, h21, h21', hd, h0, y9, yl, meets]
      · by_cases hk : kd = 0
        · simp [y5b, y8q, y78, y6s, y9r, yav, y5z, hn, h21, h21', hd, hs, hk, h0, y9, yl, meets]
        · simp [y5b, y8q, y78, y6s, y9r, yav, y5z, hn, h21, h21', hd, hs, hk, h0, y9, yl, meets]
end Go.Vm
namespace Go.Vm
open Cel
attribute [local simp] y4 y20 yp y38
def y6c (f : Fn) (x : Ins) : Bool :=
  match x.op with
  | 1 => decide (regK (lst f.regs) x.d = 2) || (decide (-2147483648 ≤ x.n) && decide (x.n < 2147483648))
  | 4 => decide (regK (lst f.regs) x.d = regK (lst f.regs) x.a)
  | 5 => decide (0 < (numK x.n).2.1) && decide (regK (lst f.regs) x.d = (numK x.n).2.2) && decide (regK (lst f.regs) x.a = (numK x.n).1) && decide (regK (lst f.regs) x.b = (numK x.n).2.1)
  | 6 => decide (0 < (numK x.n).1) && decide ((numK x.n).2.1 = 0) && decide (regK (lst f.regs) x.d = (numK x.n).2.2) && decide (regK (lst f.regs) x.a = (numK x.n).1)
  | 12 => y7m x.s
  | 21 => y7m x.s
  | 22 => y7m x.s
  | 16 => decide (0 ≤ x.n)
  | 17 => decide (0 ≤ x.n)
  | 23 => ynn (lst f.regs) x
  | 24 => ynn (lst f.regs) x
  | 25 => ynn (lst f.regs) x
  | 26 => ynn (lst f.regs) x
  | 27 => y4x (lst f.code).length x.t
  | 28 => decide (0 ≤ x.n) && decide (x.n ≤ 5) && y4x (lst f.code).length x.t
  | 29 => (decide (x.n = 0) || decide (x.n = 1)) && (decide (x.b = -1) || decide (regK (lst f.regs) x.b = 3)) && y4x (lst f.code).length x.t
  | 30 => if f.ret = 0 then decide (x.a = -1) else !decide (x.a = -1) && decide (regK (lst f.regs) x.a = f.ret)
  | _ => true
def oneM (f : Fn) (x : Ins) : Bool :=
  decide (1 ≤ x.op) && decide (x.op ≤ 33) && (y56 (regK (lst f.regs) x.d) ((rowM x.op).getD 0 0) && (y56 (regK (lst f.regs) x.a) ((rowM x.op).getD 1 0) && (y56 (regK (lst f.regs) x.b) ((rowM x.op).getD 2 0) && (y56 (regK (lst f.regs) x.c) ((rowM x.op).getD 3 0) && y6c f x))))
set_option maxHeartbeats 8000000 in
theorem y2e9 (f : Fn) (x : Ins) (hs : x.s.length ≤ 9223372036854775807) (hl : (lst x.args).length ≤ 9223372036854775807) (v55 : AV) (hv : v55 = .int .i64 x.op) :
    y16 Q0 Q1 (.int .i64 (numK x.n).1) (.int .i64 (numK x.n).2.1) (.int .i64 (numK x.n).2.2) v55 (H3 f x) = some ⟨.bool (y6c f x), [], true, [], []⟩ := by
  subst hv
  have hkd := yj8 f x.d
  have hka := yj8 f x.a
  have hkb := yj8 f x.b
  have hty := y29n x.s hs
  have hcl := y2hs f x hl
  have hpl := y26b f x.t
  unfold y6c
  generalize regK (lst f.regs) x.d = kd at *
  generalize regK (lst f.regs) x.a = ka at *
  generalize regK (lst f.regs) x.b = kb at *
  generalize y7m x.s = ty at *
  generalize ynn (lst f.regs) x = cl at *
  generalize y4x (lst f.code).length x.t = pl at *
  generalize numK x.n = k at *
  obtain ⟨a, b, d⟩ := k
  simp only
  by_cases o1 : x.op = 1
  · by_cases h2 : kd = 2
    · simp [o1, y16, y19, hkd, h2, y9, yl, meets]
    · by_cases h3 : -2147483648 ≤ x.n <;> simp [o1, y16, y19, hkd, h2, h3, y9, yl, meets]
  by_cases o4 : x.op = 4
  · simp [o4, y16, y19, y1e, y1h, hkd, hka, y9, yl, meets]
  by_cases o5 : x.op = 5
  · by_cases h1 : 0 < b
    · by_cases h2 : kd = d
      · by_cases h3 : ka = a
        · simp [o5, h1, h2, h3, hkd, hka, hkb, y16, y19, y1e, y1h, y1l, y1k, y1n, y1i, y1j, y1b, y1m, y1g, y1o, y18, y1q, y1p, y2i, y2f, y2j, y2n, y2h, y2p, y2g, y2m, y2o, y9, yl, meets]
        · simp [o5, h1, h2, h3, hkd, hka, hkb, y16, y19, y1e, y1h, y1l, y1k, y1n, y1i, y1j, y1b, y1m, y1g, y1o, y18, y1q, y1p, y2i, y2f, y2j, y2n, y2h, y2p, y2g, y2m, y2o, y9, yl, meets]
      · simp [o5, h1, h2, hkd, hka, hkb, y16, y19, y1e, y1h, y1l, y1k, y1n, y1i, y1j, y1b, y1m, y1g, y1o, y18, y1q, y1p, y2i, y2f, y2j, y2n, y2h, y2p, y2g, y2m, y2o, y9, yl, meets]
    · simp [o5, h1, y16, y19, y1e, y1h, y1l, y1k, y1n, y1i, y1j, y1b, y1m, y1g, y1o, y18, y1q, y1p, y2i, y2f, y2j, y2n, y2h, y2p, y2g, y2m, y2o, y9, yl, meets]
  by_cases o6 : x.op = 6
  · by_cases h1 : 0 < a
    · by_cases h2 : b = 0
      · by_cases h3 : kd = d
        · simp [o6, h1, h2, h3, hkd, hka, y16, y19, y1e, y1h, y1l, y1k, y1n, y1i, y1j, y1b, y1m, y1g, y1o, y18, y1q, y1p, y2i, y2f, y2j, y2n, y2h, y2p, y2g, y2m, y2o, y9, yl, meets]
        · simp [o6, h1, h2, h3, hkd, hka, y16, y19, y1e, y1h, y1l, y1k, y1n, y1i, y1j, y1b, y1m, y1g, y1o, y18, y1q, y1p, y2i, y2f, y2j, y2n, y2h, y2p, y2g, y2m, y2o, y9, yl, meets]
      · simp [o6, h1, h2, y16, y19, y1e, y1h, y1l, y1k, y1n, y1i, y1j, y1b, y1m, y1g, y1o, y18, y1q, y1p, y2i, y2f, y2j, y2n, y2h, y2p, y2g, y2m, y2o, y9, yl, meets]
    · simp [o6, h1, y16, y19, y1e, y1h, y1l, y1k, y1n, y1i, y1j, y1b, y1m, y1g, y1o, y18, y1q, y1p, y2i, y2f, y2j, y2n, y2h, y2p, y2g, y2m, y2o, y9, yl, meets]
  by_cases o12 : x.op = 12
  · simp [o12, hty, y16, y19, y1e, y1h, y1l, y1k, y1n, y1i, y1j, y1b, y1m, y1g, y1o, y18, y1q, y1p, y2i, y2f, y2j, y2n, y2h, y2p, y2g, y2m, y2o, y9, yl, meets]
  by_cases o21 : x.op = 21
  · simp [o21, hty, y16, y19, y1e, y1h, y1l, y1k, y1n, y1i, y1j, y1b, y1m, y1g, y1o, y18, y1q, y1p, y2i, y2f, y2j, y2n, y2h, y2p, y2g, y2m, y2o, y9, yl, meets]
  by_cases o22 : x.op = 22
  · simp [o22, hty, y16, y19, y1e, y1h, y1l, y1k, y1n, y1i, y1j, y1b, y1m, y1g, y1o, y18, y1q, y1p, y2i, y2f, y2j, y2n, y2h, y2p, y2g, y2m, y2o, y9, yl, meets]
  by_cases o16 : x.op = 16
  · simp [o16, y16, y19, y1e, y1h, y1l, y1k, y1n, y1i, y1j, y1b, y1m, y1g, y1o, y18, y1q, y1p, y2i, y2f, y2j, y2n, y2h, y2p, y2g, y2m, y2o, y9, yl, meets]
  by_cases o17 : x.op = 17
  · simp [o17, y16, y19, y1e, y1h, y1l, y1k, y1n, y1i, y1j, y1b, y1m, y1g, y1o, y18, y1q, y1p, y2i, y2f, y2j, y2n, y2h, y2p, y2g, y2m, y2o, y9, yl, meets]
  by_cases o23 : x.op = 23
  · simp [o23, hcl, y16, y19, y1e, y1h, y1l, y1k, y1n, y1i, y1j, y1b, y1m, y1g, y1o, y18, y1q, y1p, y2i, y2f, y2j, y2n, y2h, y2p, y2g, y2m, y2o, y9, yl, meets]
  by_cases o24 : x.op = 24
  · simp [o24, hcl, y16, y19, y1e, y1h, y1l, y1k, y1n, y1i, y1j, y1b, y1m, y1g, y1o, y18, y1q, y1p, y2i, y2f, y2j, y2n, y2h, y2p, y2g, y2m, y2o, y9, yl, meets]
  by_cases o25 : x.op = 25
  · simp [o25, hcl, y16, y19, y1e, y1h, y1l, y1k, y1n, y1i, y1j, y1b, y1m, y1g, y1o, y18, y1q, y1p, y2i, y2f, y2j, y2n, y2h, y2p, y2g, y2m, y2o, y9, yl, meets]
  by_cases o26 : x.op = 26
  · simp [o26, hcl, y16, y19, y1e, y1h, y1l, y1k, y1n, y1i, y1j, y1b, y1m, y1g, y1o, y18, y1q, y1p, y2i, y2f, y2j, y2n, y2h, y2p, y2g, y2m, y2o, y9, yl, meets]
  by_cases o28 : x.op = 28
  · by_cases h1 : 0 ≤ x.n
    · by_cases h2 : x.n ≤ 5 <;> simp [o28, h1, h2, hpl, y16, y19, y1e, y1h, y1l, y1k, y1n, y1i, y1j, y1b, y1m, y1g, y1o, y18, y1q, y1p, y2i, y2f, y2j, y2n, y2h, y2p, y2g, y2m, y2o, y9, yl, meets]
    · simp [o28, h1, y16, y19, y1e, y1h, y1l, y1k, y1n, y1i, y1j, y1b, y1m, y1g, y1o, y18, y1q, y1p, y2i, y2f, y2j, y2n, y2h, y2p, y2g, y2m, y2o, y9, yl, meets]
  by_cases o27 : x.op = 27
  · simp [o27, hpl, y16, y19, y1e, y1h, y1l, y1k, y1n, y1i, y1j, y1b, y1m, y1g, y1o, y18, y1q, y1p, y2i, y2f, y2j, y2n, y2h, y2p, y2g, y2m, y2o, y9, yl, meets]
  by_cases o29 : x.op = 29
  · by_cases h1 : x.n = 0
    · by_cases h2 : x.b = -1
      · simp [o29, h1, h2, hpl, y16, y19, y1e, y1h, y1l, y1k, y1n, y1i, y1j, y1b, y1m, y1g, y1o, y18, y1q, y1p, y2i, y2f, y2j, y2n, y2h, y2p, y2g, y2m, y2o, y9, yl, meets]
      · by_cases h3 : kb = 3 <;> simp [o29, h1, h2, h3, hpl, hkb, y16, y19, y1e, y1h, y1l, y1k, y1n, y1i, y1j, y1b, y1m, y1g, y1o, y18, y1q, y1p, y2i, y2f, y2j, y2n, y2h, y2p, y2g, y2m, y2o, y9, yl, meets]
    · by_cases h1' : x.n = 1
      · by_cases h2 : x.b = -1
        · simp [o29, h1', h2, hpl, y16, y19, y1e, y1h, y1l, y1k, y1n, y1i, y1j, y1b, y1m, y1g, y1o, y18, y1q, y1p, y2i, y2f, y2j, y2n, y2h, y2p, y2g, y2m, y2o, y9, yl, meets]
        · by_cases h3 : kb = 3 <;> simp [o29, h1', h2, h3, hpl, hkb, y16, y19, y1e, y1h, y1l, y1k, y1n, y1i, y1j, y1b, y1m, y1g, y1o, y18, y1q, y1p, y2i, y2f, y2j, y2n, y2h, y2p, y2g, y2m, y2o, y9, yl, meets]
      · simp [o29, h1, h1', y16, y19, y1e, y1h, y1l, y1k, y1n, y1i, y1j, y1b, y1m, y1g, y1o, y18, y1q, y1p, y2i, y2f, y2j, y2n, y2h, y2p, y2g, y2m, y2o, y9, yl, meets]
  by_cases o30 : x.op = 30
  · by_cases h1 : f.ret = 0
    · simp [o30, h1, y16, y19, y1e, y1h, y1l, y1k, y1n, y1i, y1j, y1b, y1m, y1g, y1o, y18, y1q, y1p, y2i, y2f, y2j, y2n, y2h, y2p, y2g, y2m, y2o, y9, yl, meets]
    · by_cases h2 : x.a = -1 <;> simp [o30, h1, h2, hka, y16, y19, y1e, y1h, y1l, y1k, y1n, y1i, y1j, y1b, y1m, y1g, y1o, y18, y1q, y1p, y2i, y2f, y2j, y2n, y2h, y2p, y2g, y2m, y2o, y9, yl, meets]
  · have e : (match x.op with
      | 1 => decide (kd = 2) || (decide (-2147483648 ≤ x.n) && decide (x.n < 2147483648))
      | 4 => decide (kd = ka)
      | 5 => decide (0 < b) && decide (kd = d) && decide (ka = a) && decide (kb = b)
      | 6 => decide (0 < a) && decide (b = 0) && decide (kd = d) && decide (ka = a)
      | 12 => ty
      | 21 => ty
      | 22 => ty
      | 16 => decide (0 ≤ x.n)
      | 17 => decide (0 ≤ x.n)
      | 23 => cl
      | 24 => cl
      | 25 => cl
      | 26 => cl
      | 27 => pl
      | 28 => decide (0 ≤ x.n) && decide (x.n ≤ 5) && pl
      | 29 => (decide (x.n = 0) || decide (x.n = 1)) && (decide (x.b = -1) || decide (kb = 3)) && pl
      | 30 => if f.ret = 0 then decide (x.a = -1) else !decide (x.a = -1) && decide (ka = f.ret)
      | _ => true) = true := by
      split <;> first | rfl | contradiction
    rw [show _ = true from e]
    simp [o1, o4, o5, o6, o12, o21, o22, o16, o17, o23, o24, o25, o26, o27, o28, o29, o30, y16, y19, y1e, y1h, y1l, y1k, y1n, y1i, y1j, y1b, y1m, y1g, y1o, y18, y1q, y1p, y2i, y2f, y2j, y2n, y2h, y2p, y2g, y2m, y2o, y9, yl, meets]
end Go.Vm
namespace Go.Vm
open Cel
attribute [local simp] y4 y20 yp y38
def y1bw (c : UInt8) : Bool := decide (c = 45) || decide (c = 63) || decide (c = 42) || decide (c = 61) || decide (c = 110) || decide (c = 49) || decide (c = 50) || decide (c = 51)
theorem y1vn {c : UInt8} (h : y1bw c = true) : c = 45 ∨ c = 63 ∨ c = 42 ∨ c = 61 ∨ c = 110 ∨ c = 49 ∨ c = 50 ∨ c = 51 := by
  simp only [y1bw, Bool.or_eq_true, decide_eq_true_eq] at h
  simp only [or_assoc] at h
  exact h
@[simp] theorem y2kc (h : Heap) (a b c : Int) : fz h y1d (.tup [.int .i64 a, .int .i64 b, .int .i64 c]) = some ⟨.tup [.int .i64 a, .int .i64 b, .int .i64 c], true, []⟩ := rfl
theorem y1qs : ((List.range 33).all fun i => decide ((rowM (1 + i)).length = 4) && (rowM (1 + i)).all y1bw) = true := by kernel_rfl
theorem y2gf {op : Int} (h1 : 1 ≤ op) (h2 : op ≤ 33) : (rowM op).length = 4 ∧ (rowM op).all y1bw = true := by
  have := yae y1qs (op - 1).toNat (by omega)
  have e : (1 + ((op - 1).toNat : Int)) = op := by omega
  simp only [e, Bool.and_eq_true, decide_eq_true_eq] at this
  exact this
theorem yd4 (f : Fn) (x : Ins) (w : List UInt8) (i : Nat) (r : Int) (c : UInt8) (hi : i < 4) (hw : w[i]? = some c) (hc : y1bw c = true) (hr : [x.d, x.a, x.b, x.c][i]? = some r) :
    y54 Q0 Q1 (.str w) (.ls 2 1 1 0 4) (.int .i64 i) (H3 f x) = if y56 (regK (lst f.regs) r) c then y54 Q0 Q1 (.str w) (.ls 2 1 1 0 4) (.int .i64 (i + 1 : Nat)) (H3 f x) else some ⟨.bool false, [], true, [], []⟩ := by
  have hn : ((i : Int) < (4 : Int)) := by omega
  have hw2 : IntKind.wrap .i64 ((i : Int) + 1) = ((i + 1 : Nat) : Int) := by rw [y1a] <;> omega
  have hs := y1vy f r c (y1vn hc)
  have k1 : yg 1 (.ls 2 1 1 0 4) (.int .i64 i) = some (.lp 2 1 i 0) := by simp [yg, hi, hn]
  have k2 : evLd false 1 (.lp 2 1 i 0) (H3 f x) = some (.int .i64 r) := by
    match i, hi, hr with
    | 0, _, hr => simp at hr; simp [hr]
    | 1, _, hr => simp at hr; simp [hr]
    | 2, _, hr => simp at hr; simp [hr]
    | 3, _, hr => simp at hr; simp [hr]
  have k3 := ixstr hw
  rw [ygk]
  generalize y56 (regK (lst f.regs) r) c = T at *
  simp only [yf1, yi, y2, hn, decide_true, y25]
  generalize hZ : y54 Q0 Q1 (.str w) (.ls 2 1 1 0 4) (.int .i64 (i + 1 : Nat)) (H3 f x) = Z
  have e32 : ymc Q0 Q1 (.str w) (.ls 2 1 1 0 4) (.int .i64 i) (H3 f x) = Z := by
    rw [← hZ]; simp only [ymc, y27, y2, hw2]
  have e5 : evLd true 5 Q0 (H3 f x) = some (.agg (enc f)) := by simp
  simp only [ytx, k1, k2, k3, e5, y2]
  cases T with
  | true => simp [hs, e32, y9]
  | false => simp [hs, y9]
set_option maxHeartbeats 1000000 in
theorem y2kk (f : Fn) (x : Ins) (hn : -9223372036854775808 ≤ x.n ∧ x.n < 9223372036854775808) (hs : x.s.length ≤ 9223372036854775807) (hl : (lst x.args).length ≤ 9223372036854775807) :
    (y5 E).p 64 [.agg (enc f), .agg (enc x)] = some ⟨.bool (oneM f x), [], true, [], []⟩ := by
  rw [y2jj]
  have hrow := y2n8 x.op
  by_cases h1 : 1 ≤ x.op
  · by_cases h2 : x.op ≤ 33
    · obtain ⟨hlen, hsg⟩ := y2gf h1 h2
      rw [oneM]
      simp only [h1, h2, decide_true, Bool.true_and]
      generalize rowM x.op = w at *
      match w, hlen, hsg with
      | [c0, c1, c2, c3], _, hsg =>
        simp only [List.all_cons, List.all_nil, Bool.and_true, Bool.and_eq_true] at hsg
        have e0 : yf4 (.agg (enc f)) (.agg (enc x)) [⟨0, .dead⟩, ⟨0, .dead⟩, ⟨0, .dead⟩] = y54 Q0 Q1 (.str [c0, c1, c2, c3]) (.ls 2 1 1 0 4) (.int .i64 0) (H3 f x) := by
          simp [yf4, ygu, yho, yt4, yt0, hrow, yj, yy]
        have s0 := yd4 f x [c0, c1, c2, c3] 0 x.d c0 (by omega) rfl hsg.1 rfl
        have s1 := yd4 f x [c0, c1, c2, c3] 1 x.a c1 (by omega) rfl hsg.2.1 rfl
        have s2 := yd4 f x [c0, c1, c2, c3] 2 x.b c2 (by omega) rfl hsg.2.2.1 rfl
        have s3 := yd4 f x [c0, c1, c2, c3] 3 x.c c3 (by omega) rfl hsg.2.2.2 rfl
        simp only [Int.ofNat_zero] at s0
        have e4 : y54 Q0 Q1 (.str [c0, c1, c2, c3]) (.ls 2 1 1 0 4) (.int .i64 (3 + 1 : Nat)) (H3 f x) = some ⟨.bool (y6c f x), [], true, [], []⟩ := by
          have h25 := y2e9 f x hs hl (.int .i64 x.op) rfl
          show y54 Q0 Q1 (.str [c0, c1, c2, c3]) (.ls 2 1 1 0 4) (.int .i64 4) (H3 f x) = _
          rw [ygk]
          by_cases hk0 : 0 ≤ x.n
          · by_cases hk1 : x.n < 1000
            · have hK := y1ut x.n hk0 hk1
              simp [yf1, yit, yid, hk0, hk1, hK, yez]
              exact h25
            · have : numK x.n = (0, 0, 0) := yg8 (by omega)
              rw [this] at h25
              simp [yf1, yit, yid, hk0, hk1, yez]
              exact h25
          · have : numK x.n = (0, 0, 0) := yg8 (by omega)
            rw [this] at h25
            simp [yf1, yit, yid, hk0, yez]
            exact h25
        rw [e0, s0]
        simp only [List.getD_cons_zero, List.getD_cons_succ]
        cases y56 (regK (lst f.regs) x.d) c0 with
        | false => simp
        | true =>
          rw [if_pos rfl, s1]
          cases y56 (regK (lst f.regs) x.a) c1 with
          | false => simp
          | true =>
            rw [if_pos rfl, s2]
            cases y56 (regK (lst f.regs) x.b) c2 with
            | false => simp
            | true =>
              rw [if_pos rfl, s3]
              cases y56 (regK (lst f.regs) x.c) c3 with
              | false => simp
              | true => rw [if_pos rfl, e4]; simp
    · have : rowM x.op = [] := by rw [rowM, if_pos (by omega)]
      rw [this] at hrow
      simp [yf4, ygu, yho, hrow, oneM, h2]
  · have : rowM x.op = [] := by rw [rowM, if_pos (by omega)]
    rw [this] at hrow
    simp [yf4, ygu, yho, hrow, oneM, h1]
end Go.Vm
namespace Go.Vm
theorem y1gq (n : Int) : 0 ≤ (numK n).1 ∧ 0 ≤ (numK n).2.1 ∧ 0 ≤ (numK n).2.2 ∧ (numK n).1 ≤ 2 ∧ (numK n).2.1 ≤ 2 ∧ (numK n).2.2 ≤ 2 ∧ (¬ (numK n).1 = 0 → ¬ (numK n).2.2 = 0) ∧ (¬ (numK n).2.1 = 0 → ¬ (numK n).1 = 0 ∧ ¬ (numK n).2.2 = 0) := by
  unfold numK
  repeat' split
  all_goals decide
theorem y4z {R : List Int} (hR : R.all (fun k => decide (1 ≤ k) && decide (k ≤ 3)) = true) (r : Int) : (inR R r = true ∧ (regK R r = 1 ∨ regK R r = 2 ∨ regK R r = 3)) ∨ (inR R r = false ∧ regK R r = 0) := by
  cases h : inR R r with
  | true =>
    obtain ⟨_, h1, h2⟩ := yt5 h
    rw [List.all_eq_true] at hR
    have := hR (regK R r) (List.mem_of_getElem? h2)
    simp only [Bool.and_eq_true, decide_eq_true_eq] at this
    refine .inl ⟨rfl, ?_⟩
    omega
  | false =>
    refine .inr ⟨rfl, ?_⟩
    simp only [inR, Bool.and_eq_false_iff, decide_eq_false_iff_not] at h
    unfold regK
    split
    · rfl
    · rw [List.getD_eq_getElem?_getD, List.getElem?_eq_none (by omega)]; rfl
theorem y2iw {n : Int} : n = IntKind.wrap .i64 (IntKind.wrap .i32 n) ↔ -2147483648 ≤ n ∧ n < 2147483648 := by
  have h : -2147483648 ≤ IntKind.wrap .i32 n ∧ IntKind.wrap .i32 n < 2147483648 := by
    simp only [IntKind.wrap, IntKind.bits, IntKind.signed]
    simp
    omega
  rw [y1a (n := IntKind.wrap .i32 n) (by omega) (by omega)]
  constructor
  · intro e; rw [e]; exact h
  · intro e
    simp only [IntKind.wrap, IntKind.bits, IntKind.signed]
    simp
    omega
theorem ymw {R : List Int} {r : Int} : y1f R (-1) r = true := by simp [y1f]
theorem y1ea {R : List Int} (hR : R.all (fun k => decide (1 ≤ k) && decide (k ≤ 3)) = true) (r : Int) : y1f R 0 r = decide (0 < regK R r) := by
  rcases y4z hR r with ⟨h1, h2⟩ | ⟨h1, h2⟩
  · simp [y1f, h1]; omega
  · simp [y1f, h1, h2]
theorem ycd {R : List Int} (hR : R.all (fun k => decide (1 ≤ k) && decide (k ≤ 3)) = true) (r k : Int) (hk : 0 < k) : y1f R k r = decide (regK R r = k) := by
  have a1 : ¬ k < 0 := by omega
  have a2 : ¬ k ≤ 0 := by omega
  rcases y4z hR r with ⟨h1, h2⟩ | ⟨h1, h2⟩
  · simp [y1f, h1, a1, a2]
  · have : ¬ 0 = k := by omega
    simp [y1f, h1, h2, a1, a2, this]
theorem y21v {R : List Int} (hR : R.all (fun k => decide (1 ≤ k) && decide (k ≤ 3)) = true) (l : List Int) : (l.all fun r => !decide (regK R r = 0)) = l.all (inR R) := by
  congr 1
  funext r
  rcases y4z hR r with ⟨h1, h2⟩ | ⟨h1, h2⟩
  · rw [h1]; simp; omega
  · rw [h1, h2]; rfl
theorem y2hg (f : Fn) (x : Ins) (hR : (lst f.regs).all (fun k => decide (1 ≤ k) && decide (k ≤ 3)) = true) (h : x.op = 5) : oneM f x = y15 f x := by
  have hk := y1gq x.n
  have Fm := fun r => ymw (R := lst f.regs) (r := r)
  simp only [oneM, y15, h, ye, rowM, rowT, y56, y4t, calls, y30, leads, y6c, Fm]
  generalize numK x.n = k at *
  obtain ⟨a, b, d⟩ := k
  simp only at hk ⊢
  by_cases hb : b = 0
  · subst hb; simp
  · rw [ycd hR x.d d (by omega), ycd hR x.a a (by omega), ycd hR x.b b (by omega)]
    rw [Bool.eq_iff_iff]
    simp
    omega
theorem y2i3 (f : Fn) (x : Ins) (hR : (lst f.regs).all (fun k => decide (1 ≤ k) && decide (k ≤ 3)) = true) (h : x.op = 6) : oneM f x = y15 f x := by
  have hk := y1gq x.n
  have Fm := fun r => ymw (R := lst f.regs) (r := r)
  simp only [oneM, y15, h, ye, rowM, rowT, y56, y4t, calls, y30, leads, y6c, Fm]
  generalize numK x.n = k at *
  obtain ⟨a, b, d⟩ := k
  simp only at hk ⊢
  by_cases ha : a = 0
  · subst ha; simp
  · rw [ycd hR x.d d (by omega), ycd hR x.a a (by omega)]
    rw [Bool.eq_iff_iff]
    simp
    omega
theorem yph (f : Fn) (x : Ins) (hR : (lst f.regs).all (fun k => decide (1 ≤ k) && decide (k ≤ 3)) = true) (h : x.op = 23 ∨ x.op = 24 ∨ x.op = 25 ∨ x.op = 26) : oneM f x = y15 f x := by
  have F0 := y1ea hR
  have Fm := fun r => ymw (R := lst f.regs) (r := r)
  have hA := y21v hR (lst x.args)
  have kd := y4z hR x.d
  have hc : ynn (lst f.regs) x = (!((decide (x.n < 0) && !decide (x.op = 25)) || decide (21 < (lst x.args).length) || (!decide (x.d = -1) && decide (regK (lst f.regs) x.d = 0))) && ((lst x.args).all (inR (lst f.regs)) && yg0 (lst f.regs) x)) := by rw [ynn, hA]
  cases ha : lst x.args with
  | nil =>
    by_cases hd : x.d = -1 <;> rcases h with h|h|h|h <;> (rw [Bool.eq_iff_iff]; simp [oneM, y15, h, ye, rowM, rowT, y56, y4t, calls, y30, leads, y6c, hc, yg0, yea, ha, hd, F0, Fm]; try omega)
  | cons r t =>
    rw [ha] at hc
    generalize hg : (r :: t).all (inR (lst f.regs)) = A at *
    generalize hl : (r :: t).length = n at *
    by_cases hd : x.d = -1 <;> rcases h with h|h|h|h <;> (rw [Bool.eq_iff_iff]; simp [oneM, y15, h, ye, rowM, rowT, y56, y4t, calls, y30, leads, y6c, hc, yg0, yea, ha, hd, F0, Fm]; first | (simp at hl hg; omega) | (simp at hl hg; grind) | skip)
theorem ynb (f : Fn) (x : Ins) (h : x.op < 1 ∨ 33 < x.op) : oneM f x = y15 f x := by
  rw [oneM, y15, ym4 h]
  rcases h with h | h
  · have : ¬ 1 ≤ x.op := by omega
    simp [this]
  · have : ¬ x.op ≤ 33 := by omega
    simp [this]
set_option maxHeartbeats 4000000 in
theorem y1g8 (f : Fn) (x : Ins) (hR : (lst f.regs).all (fun k => decide (1 ≤ k) && decide (k ≤ 3)) = true) : oneM f x = y15 f x := by
  have F0 := y1ea hR
  have F1 := fun r => ycd hR r 1 (by omega)
  have F3 := fun r => ycd hR r 3 (by omega)
  have Fm := fun r => ymw (R := lst f.regs) (r := r)
  have hA := y21v hR (lst x.args)
  have kd := y4z hR x.d
  have ka := y4z hR x.a
  have hd : 0 < regK (lst f.regs) x.d ↔ ¬ regK (lst f.regs) x.d = 0 := by rcases kd with ⟨_, h⟩ | ⟨_, h⟩ <;> omega
  have hw := @y2iw x.n
  rcases ycu x.op with h|h|h|h|h|h|h|h|h|h|h|h|h|h|h|h|h|h|h|h|h|h|h|h|h|h|h|h|h|h|h|h|h|h|h
  all_goals first
    | (simp [oneM, y15, h, ye, rowM, rowT, y56, y4t, calls, y30, leads, y6c, F0, F1, F3, Fm, y4x, Bool.and_assoc]; done)
    | skip
  all_goals first
    | exact y2hg f x hR h
    | exact y2i3 f x hR h
    | exact ynb f x (.inl h)
    | exact ynb f x (.inr h)
    | exact yph f x hR (.inl h)
    | exact yph f x hR (.inr (.inl h))
    | exact yph f x hR (.inr (.inr (.inl h)))
    | exact yph f x hR (.inr (.inr (.inr h)))
    | (rw [Bool.eq_iff_iff]; simp [oneM, y15, h, ye, rowM, rowT, y56, y4t, calls, y30, leads, y6c, F0, F1, F3, Fm, y4x]; omega)
    | (rw [Bool.eq_iff_iff]; simp [oneM, y15, h, ye, rowM, rowT, y56, y4t, calls, y30, leads, y6c, F0, F1, F3, Fm, y4x]; grind)
    | exact y2hg f x hR h
    | exact y2i3 f x hR h
    | exact ynb f x (.inl h)
    | exact ynb f x (.inr h)
    | exact yph f x hR (.inl h)
    | exact yph f x hR (.inr (.inl h))
    | exact yph f x hR (.inr (.inr (.inl h)))
    | exact yph f x hR (.inr (.inr (.inr h)))
end Go.Vm
namespace Go.Vm
open Cel
attribute [local simp] y4 y20 yp y38
theorem y27p (f : Fn) (o1 : AO) (n : Int) (hn : n = (lst f.code).length) (hl : (lst f.rows).length ≤ 9223372036854775807) : ∀ (d i : Nat) (o2 : AO), i + d = (lst f.rows).length →
    yek P0 (.int .i64 n) (.int .i64 i) (HC f o1 o2) = if ((lst f.rows).drop i).all (y43 (lst f.code)) then E0 else E80 := by
  intro d
  induction d with
  | zero =>
    intro i o2 hi
    have e1 : (lst f.rows).drop i = [] := List.drop_eq_nil_of_le (by omega)
    have hn : ¬ ((i : Int) < ((lst f.rows).length : Int)) := by omega
    rw [yl2, e1]
    simp [y6j, yj9, hn]
  | succ d ih =>
    intro i o2 hi
    have hlt : i < (lst f.rows).length := by omega
    have hc : ((i : Int) < ((lst f.rows).length : Int)) := by omega
    have k1 := yo5 (o := f.rows) (i := i) (List.getElem?_eq_getElem hlt) .i64
    rw [yl2]
    have e1 : ((lst f.rows).drop i).all (y43 (lst f.code)) = (y43 (lst f.code) (lst f.rows)[i] && ((lst f.rows).drop (i + 1)).all (y43 (lst f.code))) := by rw [List.drop_eq_getElem_cons hlt, List.all_cons]
    rw [e1]
    generalize hr : (lst f.rows)[i] = r at *
    have ih := fun o2 => ih (i + 1) o2 (by omega)
    push_cast at ih
    subst hn
    by_cases h1 : r.f < 0
    · simp [y6j, hc, y7g, k1, y43, h1]
    by_cases h2 : r.t ≤ r.f
    · simp [y6j, hc, y7g, k1, y43, h1, h2]
    by_cases h3 : ((lst f.code).length : Int) < r.t
    · simp [y6j, hc, y7g, k1, y43, h1, h2, h3]
    by_cases h4 : r.at_ < 0
    · have : ¬ 0 ≤ r.at_ := by omega
      simp [y6j, hc, y7g, k1, y43, h1, h2, h3, h4, y4x, this]
    by_cases h5 : ((lst f.code).length : Int) ≤ r.at_
    · have : ¬ r.at_ < ((lst f.code).length : Int) := by omega
      simp [y6j, hc, y7g, k1, y43, h1, h2, h3, h4, h5, y4x, this]
    · have hx : r.at_.toNat < (lst f.code).length := by omega
      have a1 : 0 ≤ r.at_ := by omega
      have a2 : r.at_ < ((lst f.code).length : Int) := by omega
      have k2 := ybd (o := f.code) (n := r.at_) (by omega) (List.getElem?_eq_getElem hx) .i64
      by_cases h6 : ((lst f.code)[r.at_.toNat]).op = 32
      · simp [y6j, hc, y7g, k1, y43, h1, h2, h3, h4, h5, y4x, a1, a2, k2, h6, hx, yhd, y21 hlt hl, ih]
      · simp [y6j, hc, y7g, k1, y43, h1, h2, h3, h4, h5, y4x, a1, a2, k2, h6, hx]
theorem y23u (f : Fn) (o1 o2 : AO) (n : Int) (hl : (lst f.regs).length ≤ 9223372036854775807) : ∀ (d i : Nat), i + d = (lst f.regs).length →
    ybf P0 (.int .i64 n) (.int .i64 i) (HC f o1 o2) = if ((lst f.regs).drop i).all (fun k => decide (1 ≤ k) && decide (k ≤ 3)) then ya7 P0 (.int .i64 n) (HC f o1 o2) else E80 := by
  intro d
  induction d with
  | zero =>
    intro i hi
    have e1 : (lst f.regs).drop i = [] := List.drop_eq_nil_of_le (by omega)
    have hn : ¬ ((i : Int) < ((lst f.regs).length : Int)) := by omega
    rw [yj6, e1]
    simp [y6x, hn]
  | succ d ih =>
    intro i hi
    have hlt : i < (lst f.regs).length := by omega
    have hc : ((i : Int) < ((lst f.regs).length : Int)) := by omega
    have k1 := y2b (o := f.regs) (i := i) (List.getElem?_eq_getElem hlt) .i64
    have e1 : ((lst f.regs).drop i).all (fun k => decide (1 ≤ k) && decide (k ≤ 3)) = ((decide (1 ≤ (lst f.regs)[i]) && decide ((lst f.regs)[i] ≤ 3)) && ((lst f.regs).drop (i + 1)).all (fun k => decide (1 ≤ k) && decide (k ≤ 3))) := by
      rw [List.drop_eq_getElem_cons hlt, List.all_cons]
    rw [yj6, e1]
    generalize hr : (lst f.regs)[i] = r at *
    have ih := ih (i + 1) (by omega)
    push_cast at ih
    by_cases h1 : r < 1
    · have : ¬ 1 ≤ r := by omega
      simp [y6x, hc, y8c, k1, h1, this]
    by_cases h2 : 3 < r
    · have : ¬ r ≤ 3 := by omega
      simp [y6x, hc, y8c, k1, h1, h2, this]
    · have a1 : 1 ≤ r := by omega
      have a2 : r ≤ 3 := by omega
      simp [y6x, hc, y8c, k1, h1, h2, a1, a2, yck, y21 hlt hl, ih]
def parR (R : List Int) : List Int → List Int → Bool
  | _, [] => true
  | seen, p :: r => (inR R p && !seen.contains p) && parR R (seen ++ [p]) r
theorem y1m5 (f : Fn) (o1 o2 : AO) (n : Int) (hR : (lst f.regs).all (fun k => decide (1 ≤ k) && decide (k ≤ 3)) = true) (hl : (lst f.params).length ≤ 9223372036854775807) : ∀ (d i : Nat), i + d = (lst f.params).length →
    yax P0 (.int .i64 n) (.int .i64 i) (HC f o1 o2) = if parR (lst f.regs) ((lst f.params).take i) ((lst f.params).drop i) then yan P0 (.int .i64 n) (HC f o1 o2) else E80 := by
  intro d
  induction d with
  | zero =>
    intro i hi
    have e1 : (lst f.params).drop i = [] := List.drop_eq_nil_of_le (by omega)
    have hn : ¬ ((i : Int) < ((lst f.params).length : Int)) := by omega
    rw [yiv, e1]
    simp [y74, hn, parR]
  | succ d ih =>
    intro i hi
    have hlt : i < (lst f.params).length := by omega
    have hc : ((i : Int) < ((lst f.params).length : Int)) := by omega
    have k1 := y2b (o := f.params) (i := i) (List.getElem?_eq_getElem hlt) .i64
    have ks := y20r (α := Int) f.params i (by omega) .i64
    simp only [y1a6] at ks
    have hlm : lst (f.params.map (List.take i)) = (lst f.params).take i := by cases f.params <;> simp
    have e1 : parR (lst f.regs) ((lst f.params).take i) ((lst f.params).drop i) = ((inR (lst f.regs) (lst f.params)[i] && !((lst f.params).take i).contains (lst f.params)[i]) && parR (lst f.regs) ((lst f.params).take (i + 1)) ((lst f.params).drop (i + 1))) := by
      rw [List.drop_eq_getElem_cons hlt, parR, List.take_append_getElem]
    rw [yiv, e1]
    have hct : (y5 E).p 42 [.int .i64 (lst f.params)[i], slA (f.params.map (List.take i))] = some ⟨.bool (((lst f.params).take i).contains (lst f.params)[i]), [], true, [], []⟩ := by
      rw [s_in _ _ (by rw [hlm, List.length_take]; omega), hlm, List.contains_eq_mem]
    generalize hr : (lst f.params)[i] = r at *
    generalize ((lst f.params).take i).contains r = B at *
    have ih := ih (i + 1) (by omega)
    push_cast at ih
    have hs := yj8 f r
    rcases y4z hR r with ⟨a1, a2⟩ | ⟨a1, a2⟩
    · have hz : ¬ regK (lst f.regs) r = 0 := by omega
      rw [a1]
      generalize regK (lst f.regs) r = k at *
      cases B with
      | true => simp [y74, hc, y8f, k1, hs, hz, ks, hct, y9]
      | false =>
        simp [y74, hc, y8f, k1, hs, hz, ks, hct, y9, yc7, y21 hlt hl]
        exact ih
    · rw [a2] at hs
      simp [y74, hc, y8f, k1, hs, a1, y9]
theorem y2hf (f : Fn) (o2 : AO) (n : Int) (x : Ins) (i g : Nat) (hR : (lst f.regs).all (fun k => decide (1 ≤ k) && decide (k ≤ 3)) = true) (fit : InsFit x) (hi : i < (lst f.code).length) (hl : (lst f.code).length ≤ 9223372036854775807) (hx : (lst f.code)[i]? = some x) (oc : OC) :
    y4h P0 (.int .i64 n) (.int .i64 i) (HC f ⟨g, oc⟩ o2) =
      if y15 f x && y3e (lst f.code) i x then y9z P0 (.int .i64 n) (.int .i64 i) (HC f ⟨g + 1, .arr true false 9 [enc x]⟩ o2) else E80 := by
  have k0 := yas (o := f.code) (i := i) hx .i64
  have h1 := y2kk f x fit.n fit.s fit.a
  rw [y1g8 f x hR] at h1
  cases hok : y15 f x with
  | false =>
    rw [hok] at h1
    simp [y4h, k0, h1]
  | true =>
    have ht := yi8 (f := f) (x := x) hok
    rw [hok] at h1
    by_cases h32 : x.op = 32
    · have hld : leads 32 = false := by simp [leads]
      by_cases h0 : i = 0
      · subst h0
        simp only [Int.ofNat_zero] at k0
        simp [y4h, k0, h1, h32, y3e]
      · have h0' : ¬ ((i : Int) = 0) := by omega
        have hp : i - 1 < (lst f.code).length := by omega
        have k1 := yas (o := f.code) (i := i - 1) (List.getElem?_eq_getElem hp) .i64
        have hw : IntKind.wrap .i64 ((i : Int) - 1) = ((i - 1 : Nat) : Int) := by rw [y1a] <;> omega
        cases he : ends ((lst f.code)[i - 1]).op with
        | true => simp [y4h, k0, h1, h32, y3e, h0, h0', hw, k1, hp, he, hld]
        | false => simp [y4h, k0, h1, h32, y3e, h0, h0', hw, k1, hp, he]
    · cases hld : leads x.op with
      | false => simp [y4h, k0, h1, h32, y3e, hld]
      | true =>
        obtain ⟨t0, t1⟩ := ht hld
        have hxt : x.t.toNat < (lst f.code).length := by omega
        have k2 := ybd (o := f.code) (n := x.t) t0 (List.getElem?_eq_getElem hxt) .i64
        by_cases h6 : ((lst f.code)[x.t.toNat]).op = 32
        · simp [y4h, k0, h1, h32, y3e, hld, k2, h6, hxt]
        · simp [y4h, k0, h1, h32, y3e, hld, k2, h6, hxt]
theorem y2c1 (f : Fn) (o2 : AO) (n : Int) (hn : n = (lst f.code).length) (hR : (lst f.regs).all (fun k => decide (1 ≤ k) && decide (k ≤ 3)) = true) (hfit : ∀ x ∈ lst f.code, InsFit x) (hl : (lst f.code).length ≤ 9223372036854775807) : ∀ (d i : Nat) (o1 : AO), i + d = (lst f.code).length →
    ∃ o1', yed P0 (.int .i64 n) (.int .i64 i) (HC f o1 o2) = if y3v f (lst f.code) i ((lst f.code).drop i) then yfr P0 (.int .i64 n) (HC f o1' o2) else E80 := by
  intro d
  induction d with
  | zero =>
    intro i o1 hi
    have e1 : (lst f.code).drop i = [] := List.drop_eq_nil_of_le (by omega)
    have hnl : ¬ ((i : Int) < n) := by omega
    rw [ylp, e1]
    exact ⟨o1, by simp [y9y, hnl, y3v]⟩
  | succ d ih =>
    intro i o1 hi
    have hlt : i < (lst f.code).length := by omega
    have hc : ((i : Int) < n) := by omega
    have e1 : y3v f (lst f.code) i ((lst f.code).drop i) = (y15 f (lst f.code)[i] && y3e (lst f.code) i (lst f.code)[i] && y3v f (lst f.code) (i + 1) ((lst f.code).drop (i + 1))) := by
      rw [List.drop_eq_getElem_cons hlt, y3v]
    have fit := hfit _ (List.getElem_mem hlt)
    have hone := y2hf f o2 n _ i o1.gen hR fit hlt hl (List.getElem?_eq_getElem hlt) o1.c
    rw [ylp, e1]
    generalize (lst f.code)[i] = x at *
    generalize (y15 f x && y3e (lst f.code) i x) = G at *
    simp only [y9y, yi, y2, hc, decide_true, y25, hone]
    cases G with
    | false => exact ⟨o1, by simp⟩
    | true =>
      obtain ⟨o1', ih⟩ := ih (i + 1) ⟨o1.gen + 1, .arr true false 9 [enc x]⟩ (by omega)
      push_cast at ih
      exact ⟨o1', by simp [y9z, y21 hlt hl, ih]⟩
theorem y11v (R : List Int) : ∀ (l : List Int) (i : Nat) (seen : List Int), i + l.length ≤ 21 → yci R i seen l = parR R seen l
  | [], _, _, _ => rfl
  | p :: r, i, seen, h => by
    simp only [List.length_cons] at h
    have : i ≤ 20 := by omega
    rw [yci, parR, y11v R r (i + 1) (seen ++ [p]) (by omega)]
    simp [this]
theorem y0l (R : List Int) : ∀ (l : List Int) (i : Nat) (seen : List Int), 21 < i + l.length → i ≤ 21 → yci R i seen l = false
  | [], i, _, h, h2 => by simp at h; omega
  | p :: r, i, seen, h, h2 => by
    simp only [List.length_cons] at h
    rw [yci]
    by_cases hi : i ≤ 20
    · rw [y0l R r (i + 1) (seen ++ [p]) (by omega) (by omega)]; simp
    · simp [hi]
set_option maxRecDepth 100000 in
set_option maxHeartbeats 1000000 in
theorem y1z0 (f : Fn) (hf : FnFit f) : (y5 E).p 29 [.agg (enc f)] = some ⟨.int .i64 (if wf f then 0 else 80), [], true, [], []⟩ := by
  rw [y2id]
  by_cases h0 : (lst f.code).length = 0
  · have h0' : ((lst f.code).length : Int) = 0 := by omega
    have : ¬ 1 ≤ (lst f.code).length := by omega
    simp [y45, y4n, y4j, h0', wf, this]
  have h0' : ¬ ((lst f.code).length : Int) = 0 := by omega
  have hne : ¬ lst f.code = [] := fun h => h0 (by rw [h]; rfl)
  have g1 : 1 ≤ (lst f.code).length := by omega
  by_cases h2 : 20000 < (lst f.code).length
  · have h2' : (20000 : Int) < ((lst f.code).length : Int) := by omega
    have : ¬ (lst f.code).length ≤ 20000 := by omega
    simp [y45, y4n, y4j, h0', hne, h2', wf, this]
  have h2' : ¬ (20000 : Int) < ((lst f.code).length : Int) := by omega
  have g2 : (lst f.code).length ≤ 20000 := by omega
  by_cases h3 : 20000 < (lst f.regs).length
  · have h3' : (20000 : Int) < ((lst f.regs).length : Int) := by omega
    have : ¬ (lst f.regs).length ≤ 20000 := by omega
    simp [y45, y4n, y4j, h0', hne, h2', h3', wf, this]
  have h3' : ¬ (20000 : Int) < ((lst f.regs).length : Int) := by omega
  have g3 : (lst f.regs).length ≤ 20000 := by omega
  by_cases hp : 21 < (lst f.params).length
  · have hp' : (21 : Int) < ((lst f.params).length : Int) := by omega
    have := y0l (lst f.regs) (lst f.params) 0 [] (by omega) (by omega)
    simp [y45, y4n, y4j, h0', hne, h2', h3', hp', wf, this]
  have hp' : ¬ (21 : Int) < ((lst f.params).length : Int) := by omega
  by_cases h4 : f.ret < 0
  · have : ¬ 0 ≤ f.ret := by omega
    simp [y45, y4n, y4j, h0', hne, h2', h3', hp', h4, wf, this]
  have g4 : 0 ≤ f.ret := by omega
  by_cases h5 : 3 < f.ret
  · have : ¬ f.ret ≤ 3 := by omega
    simp [y45, y4n, y4j, h0', hne, h2', h3', hp', h4, h5, wf, this]
  have g5 : f.ret ≤ 3 := by omega
  have hpl : (lst f.code).length - 1 < (lst f.code).length := by omega
  have k1 := yas (o := f.code) (i := (lst f.code).length - 1) (List.getElem?_eq_getElem hpl) .i64
  have hw : IntKind.wrap .i64 (((lst f.code).length : Int) - 1) = (((lst f.code).length - 1 : Nat) : Int) := by rw [y1a] <;> omega
  have hg : (lst f.code).getD ((lst f.code).length - 1) default = (lst f.code)[(lst f.code).length - 1] := by rw [List.getD_eq_getElem?_getD, List.getElem?_eq_getElem hpl]; rfl
  cases he : ends ((lst f.code)[(lst f.code).length - 1]).op with
  | false =>
    have hwf : wf f = false := by rw [wf, hg, he]; simp
    rw [hwf]
    simp [y45, y4n, y4j, h0', hne, h2', h3', hp', h4, h5, hw, k1, he]
  | true =>
    have hps := y11v (lst f.regs) (lst f.params) 0 [] (by omega)
    have hwf : wf f = ((lst f.regs).all (fun k => decide (1 ≤ k) && decide (k ≤ 3)) && parR (lst f.regs) [] (lst f.params) && y3v f (lst f.code) 0 (lst f.code) && (lst f.rows).all (y43 (lst f.code))) := by
      rw [wf, hg, he, hps]
      simp only [g1, g2, g3, g4, g5, decide_true, Bool.true_and]
    have e : y45 (.agg (enc f)) [⟨0, .dead⟩, ⟨0, .dead⟩, ⟨0, .dead⟩] = ybf P0 (.int .i64 (lst f.code).length) (.int .i64 0) (HC f ⟨0, .dead⟩ ⟨0, .dead⟩) := by
      simp [y45, y4n, y4j, h0', hne, h2', h3', hp', h4, h5, hw, k1, he, yj9, yhd, y7g, y6j, yfr, y9z, y4h, y9y, yan, yc7, y8f, y74, ya7, yck, y8c, y6x, yel, y4j, y4n, y45]
    have a1 := y23u f ⟨0, .dead⟩ ⟨0, .dead⟩ (lst f.code).length hf.regs _ 0 (Nat.zero_add _)
    simp only [Int.ofNat_zero, List.drop_zero] at a1
    rw [e, a1, hwf]
    cases hR : (lst f.regs).all (fun k => decide (1 ≤ k) && decide (k ≤ 3)) with
    | false => simp
    | true =>
      have a2 := y1m5 f ⟨0, .dead⟩ ⟨0, .dead⟩ (lst f.code).length hR hf.params _ 0 (Nat.zero_add _)
      obtain ⟨o1', a3⟩ := y2c1 f ⟨0, .dead⟩ _ rfl hR hf.ins hf.code _ 0 ⟨0, .dead⟩ (Nat.zero_add _)
      have a4 := y27p f o1' _ rfl hf.rows _ 0 ⟨0, .dead⟩ (Nat.zero_add _)
      simp only [Int.ofNat_zero, List.drop_zero, List.take_zero] at a2 a3 a4
      have e2 : ya7 P0 (.int .i64 (lst f.code).length) (HC f ⟨0, .dead⟩ ⟨0, .dead⟩) = yax P0 (.int .i64 (lst f.code).length) (.int .i64 0) (HC f ⟨0, .dead⟩ ⟨0, .dead⟩) := by simp [yj9, yhd, y7g, y6j, yfr, y9z, y4h, y9y, yan, yc7, y8f, y74, ya7, yck, y8c, y6x, yel, y4j, y4n, y45]
      have e3 : yan P0 (.int .i64 (lst f.code).length) (HC f ⟨0, .dead⟩ ⟨0, .dead⟩) = yed P0 (.int .i64 (lst f.code).length) (.int .i64 0) (HC f ⟨0, .dead⟩ ⟨0, .dead⟩) := by simp [yj9, yhd, y7g, y6j, yfr, y9z, y4h, y9y, yan, yc7, y8f, y74, ya7, yck, y8c, y6x, yel, y4j, y4n, y45]
      have e4 : yfr P0 (.int .i64 (lst f.code).length) (HC f o1' ⟨0, .dead⟩) = yek P0 (.int .i64 (lst f.code).length) (.int .i64 0) (HC f o1' ⟨0, .dead⟩) := by simp [yj9, yhd, y7g, y6j, yfr, y9z, y4h, y9y, yan, yc7, y8f, y74, ya7, yck, y8c, y6x, yel, y4j, y4n, y45]
      rw [e2, a2, e3, a3, e4, a4]
      generalize parR (lst f.regs) [] (lst f.params) = b2
      generalize y3v f (lst f.code) 0 (lst f.code) = b3
      generalize (lst f.rows).all (y43 (lst f.code)) = b4
      cases b2 <;> cases b3 <;> cases b4 <;> rfl
end Go.Vm
namespace Go.Vm
end Go.Vm
namespace Go.Vm
open Cel
theorem fz_f (f : Fn) (H : Heap) : yo (fz H y1d) [.agg (enc f)] = some ⟨[.agg (enc f)], scal f && true, []⟩ := by
  rw [ym, y7k, yw]; rfl
end Go.Vm
namespace Go.Vm
@[simp] theorem y2c0 : (y5 E).p 148 [] = some ⟨.bool true, [], true, [], []⟩ := y154 80 (by kernel_rfl)
end Go.Vm
