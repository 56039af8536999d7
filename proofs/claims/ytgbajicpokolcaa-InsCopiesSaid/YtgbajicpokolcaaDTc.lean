/- InsCopies: the law. -/
import Derived.Test.YtgbajicpokolcaaDTb
set_option linter.unusedSimpArgs false
set_option linter.unusedVariables false
set_option linter.unusedSectionVars false
namespace Go.Vm
open Cel
theorem FnIn.cp {f : Fn} (hf : FnIn f) (h : (lst f.code).length ≤ 30000) : FnCp f := by
  have e : reachBytes = 140737488351232 := rfl
  refine ⟨?_, ?_, h, ?_, fun x hx => ?_⟩
  · have := hf.regs; omega
  · have := hf.params; omega
  · have := hf.rows; omega
  · have := (hf.insI x hx).len; omega
@[simp] theorem y1g9 : (y7 E).p 4 [] = some ⟨.bool true, [], true, [], []⟩ := y181 60 (by kernel_rfl)
theorem y1k9 (f : Fn) (H : Heap) : yc (fz H y13) [.agg (enc f)] = some ⟨[.agg (enc f)], scal f && true, []⟩ := by
  rw [yk, ygg, y10]; rfl
theorem ygq (f : Fn) (hf : FnIn f) : (y7 E).p 71 [.agg (enc f)] = some ⟨.bool true, [], true, [], []⟩ := by
  have n0 : newC 0 (some 0) (cellsOf (.agg (enc f))) (List.replicate 10 D0) = some (.lp 0 1 0 0, AB f :: List.replicate 9 D0) := by simp [List.replicate]
  have ch : ∀ H : Heap, y5 E (y7 E) 0 none true 4 [] H = some (.bool true, H) := fun H => yf3 (fa := ⟨[], true, []⟩) rfl rfl rfl y1g9 ⟨_, rfl, rfl⟩
  have hp : ([⟨0, .dead⟩, ⟨0, .dead⟩, ⟨0, .dead⟩, ⟨0, .dead⟩, ⟨0, .dead⟩, ⟨0, .dead⟩, ⟨0, .dead⟩, ⟨0, .dead⟩, ⟨0, .dead⟩, ⟨0, .dead⟩] : Heap) = List.replicate 10 D0 := rfl
  have l0 : ∀ t : Heap, evLd true 5 (.lp 0 1 0 0) (AB f :: t) = some (.agg (enc f)) := fun t => ldb rfl rfl
  have l3 : ∀ t : Heap, evLd false 1 (.lp 0 1 0 3) (AB f :: t) = some (slA f.code) := fun t => ldc rfl rfl
  have lr : ∀ t : Heap, evLd false 1 (.lp 0 1 0 0) (AB f :: t) = some (slA f.regs) := fun t => ldc rfl rfl
  rw [y1i6, hp, ytq, n0, yw, yxf, ch, yw, y2z, y4, Bool.not_true, y7n, y12y]
  by_cases h1 : (30000 : Int) < ((lst f.code).length : Int)
  · simp only [fW, y4, l3, yhi, ycl, h1, decide_true, ysg, y7p, y34]
    rfl
  by_cases h2 : (30000 : Int) < ((lst f.regs).length : Int)
  · simp only [fW, y4, l3, lr, yhi, ycl, h1, h2, decide_true, decide_false, yjf, y45, y34]
    rfl
  simp only [fW, y4, l3, lr, yhi, ycl, h1, h2, decide_false, yjf, y45, y7n]
  have hcp := hf.cp (by omega)
  have hfit := hf.fit3
  -- the copy that is written to
  have hH : AB f :: List.replicate 9 D0 = mid [AB f] [D0, D0, D0, D0, D0, D0, D0] [D0, D0] := rfl
  have cI := yml hcp [AB f] [D0, D0]
  have c1 : y5 E (y7 E) 0 (some 1) true 13 [.agg (enc f)] (AB f :: List.replicate 9 D0) = some (.agg (fnJ 1 f), cpH [AB f] [D0, D0] f) := by
    rw [y5, if_neg (by simp)]
    show (y7 E).i 13 [.agg (enc f)] 1 (AB f :: List.replicate 9 D0) = _
    rw [y9k, if_neg (show ¬ 1 = (AB f :: List.replicate 9 D0).length by simp), hH]
    exact cI
  have J := cp_J (f := f) [AB f] [D0, D0]
  have hlow : ∀ a, a < 1 → (cpH [AB f] [D0, D0] f)[a]? = [AB f][a]? := fun a ha => by
    rw [cpH, mid, List.getElem?_append_left (by simpa using ha)]
  have ht8 : (cpH [AB f] [D0, D0] f)[8]? = some D0 := by
    have := ybv (P := [AB f]) (l := cpL 1 10 (lst f.code).length f (fnJ 1 f)) (S := [D0, D0] ++ (lst f.code).map argO) 0
    exact this
  have ht9 : (cpH [AB f] [D0, D0] f)[9]? = some D0 := by
    have := ybv (P := [AB f]) (l := cpL 1 10 (lst f.code).length f (fnJ 1 f)) (S := [D0, D0] ++ (lst f.code).map argO) 1
    exact this
  have hz0 := hlow 0 (by omega)
  have J' : FnJ (cpH [AB f] [D0, D0] f) 1 10 f := J
  clear J cI hlow
  generalize cpH [AB f] [D0, D0] f = H1 at *
  have new8 : ∀ (a : Nat) (H : Heap), H[a]? = some D0 → newC 0 (some a) [.nils, .nils, .int .i64 0, .nils, .nils] H = some (.lp a 1 0 0, H.set a (GBx [.nils, .nils, .int .i64 0, .nils, .nils])) := fun a H h => by
    simp [newC, y4z, place, h]
  have n8 := new8 8 H1 ht8
  have hlf : (fnJ 1 f).all yl = true := by simp
  have s8 := stb (H := H1.set 8 (GBx [.nils, .nils, .int .i64 0, .nils, .nils])) (a := 8) (d := fnJ 1 f) (ykm (yef ht8)) rfl rfl hlf
  rw [List.set_set] at s8
  have Jset : ∀ (H : Heap) (a : Nat) (x : AO), (a = 8 ∨ a = 9) → FnJ H 1 10 f → FnJ (H.set a x) 1 10 f := fun H a x ha J =>
    ⟨fun L h => by rw [y2o (by omega)]; exact J.regs L h, fun L h => by rw [y2o (by omega)]; exact J.params L h, fun L h => by rw [y2o (by omega)]; exact J.code L h, fun L h => by rw [y2o (by omega)]; exact J.rows L h, fun i x L hx hL => by rw [y2o (by omega)]; exact J.args i x L hx hL⟩
  have J2 := Jset H1 8 (GBx (fnJ 1 f)) (.inl rfl) J'
  have a0 : (H1.set 8 (GBx (fnJ 1 f)))[0]? = some (AB f) := by rw [y2o (by omega)]; exact hz0
  have a8 : (H1.set 8 (GBx (fnJ 1 f)))[8]? = some (GBx (fnJ 1 f)) := ykm (yef ht8)
  have a9 : (H1.set 8 (GBx (fnJ 1 f)))[9]? = some D0 := by rw [y2o (by omega)]; exact ht9
  generalize H1.set 8 (GBx (fnJ 1 f)) = H2 at *
  -- the copy that is kept
  have l8 := ldb a8 rfl
  obtain ⟨fr, ids, hz⟩ := J2.fz
  have hcx := y1bq hcp
  have c2 : y5 E (y7 E) 0 none true 13 [.agg (fnJ 1 f)] H2 = some (.agg (enc f), H2) := by
    obtain ⟨q, q1, q2⟩ := yt5 f
    have ha : yc (fz H2 y13) [.agg (fnJ 1 f)] = some ⟨[.agg (enc f)], fr && true, ids ++ []⟩ := by
      rw [yk, hz, y10]
    have q1' : fz (y1d (yav f).objs) y13 (yav f).v = some q := q1
    simp [y5, y1q, ha, hcx, q1', q2]
  have n9 := new8 9 H2 a9
  have s9 := stb (H := H2.set 9 (GBx [.nils, .nils, .int .i64 0, .nils, .nils])) (a := 9) (d := enc f) (ykm (yef a9)) rfl rfl (yxq f)
  rw [List.set_set] at s9
  have J3 := Jset H2 9 (GBx (enc f)) (.inr rfl) J2
  have b0 : (H2.set 9 (GBx (enc f)))[0]? = some (AB f) := by rw [y2o (by omega)]; exact a0
  have b8 : (H2.set 9 (GBx (enc f)))[8]? = some (GBx (fnJ 1 f)) := by rw [y2o (by omega)]; exact a8
  have b9 : (H2.set 9 (GBx (enc f)))[9]? = some (AB f) := ykm (yef a9)
  generalize H2.set 9 (GBx (enc f)) = H3 at *
  have m0 := ldb b0 rfl
  have m8 := ldb b8 rfl
  obtain ⟨fr3, ids3, hz3⟩ := J3.fz
  have hlen : FnLen f := ⟨by have := hfit.regs; omega, by have := hfit.params; omega, by have := hfit.code; omega, by have := hfit.rows; omega, fun x hx => (hfit.ins x hx).a⟩
  have hS := y1hj f f hlen
  rw [yl2] at hS
  have hck := y1ds f hfit
  have ha14 : yc (fz H3 y13) [.agg (enc f), .agg (fnJ 1 f)] = some ⟨[.agg (enc f), .agg (enc f)], scal f && (fr3 && true), [] ++ (ids3 ++ [])⟩ := by
    rw [yk, yk, ygg, hz3, y10]
  have ha8g : yc (fz H3 y13) [.agg (fnJ 1 f)] = some ⟨[.agg (enc f)], fr3 && true, ids3 ++ []⟩ := by
    rw [yk, hz3, y10]
  have pure_ro : ∀ {k : Nat} {args : List AV} {fa : Fz (List AV)} {v : AV}, E.pure k = true → yc (fz H3 y13) args = some fa → (y7 E).p k fa.v = some ⟨v, [], true, [], []⟩ → fz (y1d []) y13 v = some ⟨v, true, []⟩ →
      y5 E (y7 E) 0 none true k args H3 = some (v, H3) ∧ y51 E (y7 E) 0 none true k args H3 = some (fa.ids, []) := fun {k args fa v} h1 h2 h3 h4 => by
    constructor
    · simp [y5, h1, y1q, h2, h3, h4]
    · simp [y51, h1, h2, h3]
  obtain ⟨c14, f14⟩ := pure_ro rfl ha14 hS rfl
  obtain ⟨c8f, f8f⟩ := pure_ro rfl (y1k9 f H3) hck rfl
  obtain ⟨c8g, f8g⟩ := pure_ro rfl ha8g hck rfl
  have ne : y3 .neq (.int .i64 (if wf f then (0 : Int) else 80)) (.int .i64 (if wf f then (0 : Int) else 80)) = some (.bool false) := by rw [yuj]; simp
  have hpr : yi [(ids1 (.lp 0 1 0 0), []), (ids1 (.lp 8 1 0 0), []), ([] ++ (ids3 ++ []), []), ([], []), ([], []), (ids1 (.lp 0 1 0 0), []), ([], []), (ids1 (.lp 8 1 0 0), []), (ids3 ++ [], []), ([], []), ([], [])] [(6, 7)] = true := by
    simp [yi, y1f, meets]
  have S3 : GSt f H3 := by
    refine ⟨b0, b8, b9, fun L h => ⟨L, rfl, J3.regs L h⟩, fun L h => ⟨L, rfl, J3.params L h⟩, fun L h => ⟨_, y29 _ _ _, J3.code L h, fun i x hx => ?_⟩, fun L h => ⟨L.map enc, by simp, J3.rows L h, fun row hrow => ?_⟩, fun i x A hx hA => ⟨A, rfl, J3.args i x A hx hA⟩⟩
    · have hi := (List.getElem?_eq_some_iff.1 hx).1
      have := y8s (N := 10) (k := L.length) hx
      rw [if_pos hi] at this
      exact ⟨_, this, rfl, rfl⟩
    · obtain ⟨r, _, rfl⟩ := List.mem_map.1 hrow
      rfl
  obtain ⟨H4, q4, S4⟩ := y1bn (f := f) (by omega) (fun x hx => (hfit.ins x hx).a) _ 0 (Nat.zero_add _) H3 S3
  obtain ⟨H5, q5, S5⟩ := y1am (f := f) (by omega) _ 0 (Nat.zero_add _) H4 S4
  obtain ⟨H6, q6, S6⟩ := y1cf (f := f) hfit.rows _ 0 (Nat.zero_add _) H5 S5
  obtain ⟨H7, q7, S7⟩ := ytk (f := f) hfit.params _ 0 (Nat.zero_add _) H6 S6
  have z0 : ((0 : Nat) : Int) = 0 := rfl
  rw [z0] at q4 q5 q6 q7
  have e3 := S3.ld 3 _ rfl
  have e0 := S4.ld 0 _ rfl
  have e4 := S5.ld 4 _ rfl
  have e1 := S6.ld 1 _ rfl
  have r0 := ldb S7.f0 rfl
  have r9 := ldb S7.h9 rfl
  have c14' : y5 E (y7 E) 0 none true 14 [.agg (enc f), .agg (enc f)] H7 = some (.bool true, H7) := by
    refine yf3 (fa := ⟨[.agg (enc f), .agg (enc f)], scal f && (scal f && true), []⟩) rfl ?_ rfl hS ⟨_, rfl, rfl⟩
    rw [yk, yk, ygg, y10]; rfl
  rw [yu1, l0, y4, c1, yw, n8, yw, s8, yw, yv0, l8, y4, c2, yw, n9, yw, s9, yw, y13d, m0, y4, m8, y4, f14, y5h, c14, yw, y2z, y4]
  simp only [Bool.not_true, y1h6, y5h, yjf, y1ig, y4, yw, m0, m8, f8f, c8f, f8g, c8g, ne, y45]
  rw [ynx hpr, y7n, y13o]
  simp only [fW, y4, e3, y4y]
  rw [q4, yql]
  simp only [fW, y4, e0, y4y]
  rw [q5, yqm]
  simp only [fW, y4, e4, y4y]
  rw [q6, y14n]
  simp only [fW, y4, e1, y4y]
  rw [q7, y13z, r0, y4, r9, y4, c14', yw]
  rfl
end Go.Vm
