/- 'New' on the machine: names are names, nobody twice, all have parents. 'New' on the machine: all climb; the tree as an answer. Kin's laws: what they share. Kin's questions: the names, a class, who stands above. KinAbove. -/
import Derived.Sort.KeysCollected
import Derived.Test.YtkcigmgchfcpkaaATb
set_option linter.unusedSimpArgs false
set_option linter.unusedVariables false
set_option linter.unusedSectionVars false
namespace Go.Vm
open Cel
abbrev eE (k : Int) : Option (Ex AV) := some ⟨.tup [.nilp, .int .i64 k], [], true, [], []⟩
theorem y87 (k : Int) (H : Heap) : yo H (.tup [.nilp, .int .i64 k]) = eE k := rfl
abbrev T21 : AV := .lp 2 1 0 0
theorem yan {H : Heap} {j : Nat} {o : AO} (c : Cls) (h : H[j]? = some o) : ∃ H1, newC 0 (some j) zCls H = some (.lp j (o.gen + 1) 0 0, H1) ∧ evSt 7 (.lp j (o.gen + 1) 0 0) (.agg (enc c)) H1 = some (.tup [], H.set j (AC (o.gen + 1) c)) := by
  have h1 := y8v (fb := 0) (j := j) (by rw [Nat.zero_add]; exact h)
  rw [Nat.zero_add] at h1
  have h2 := y9f (H := H.set j (AC (o.gen + 1) zC)) (c := zC) (d := c) (y26 (y17 h))
  rw [List.set_set] at h2
  exact ⟨_, h1, h2⟩
theorem ypb {o : Option (List Cls)} (ok : ∀ x ∈ lst o, ClsOk x) (hL : (lst o).length ≤ 9223372036854775806) {C : CTab} {N : List Tx} {g : Nat} : ∀ (d i : Nat) (H : Heap), i + d = (lst o).length → NRep H C N g →
    ∃ H', NRep H' C N g ∧ yag (slA o) T21 (slA o) (.int .i64 (lst o).length) (.int .i64 i) H = if ((lst o).drop i).all (fun c => ybt false c.nm) = false then eE 20 else yjf (slA o) T21 H' := by
  intro d
  induction d with
  | zero =>
    intro i H hi R
    have hc : ¬ ((i : Int) < ((lst o).length : Int)) := by omega
    refine ⟨H, R, ?_⟩
    rw [ycg, List.drop_eq_nil_of_le (by omega)]
    simp only [yjb, yh, hc, decide_false, y5, ymg, y14, List.all_nil, Bool.true_eq_false, if_false]
  | succ d ih =>
    intro i H hi R
    have hlt : i < (lst o).length := by omega
    have hc : ((i : Int) < ((lst o).length : Int)) := by omega
    have hw := y38 hlt (by omega)
    have k1 := ydm (o := o) (i := i) (List.getElem?_eq_getElem hlt) .i64
    have hok := ok _ (List.getElem_mem hlt)
    rw [ycg, List.drop_eq_getElem_cons hlt, List.all_cons]
    generalize (lst o)[i] = c at *
    obtain ⟨o6, h6⟩ := R.at (j := 6) (by omega)
    obtain ⟨H1, n1, s1⟩ := yan c h6
    have hl := R.len
    have R2 := R.other (x := 6) (v := AC (o6.gen + 1) c) (by omega)
    have l1 : evLd false 1 (.lp 6 (o6.gen + 1) 0 1) (H.set 6 (AC (o6.gen + 1) c)) = some (.str c.nm) := y2p (y26 (by omega)) (cls1 c)
    have rb : reachBytes = 140737488351232 := rfl
    have hsm : Sm c.nm := by have := hok.nm; unfold Sm; omega
    have hcall : ∀ H : Heap, y7 E (y8 E) 0 none true 60 [.str c.nm, .bool false] H = some (.bool (ybt false c.nm), H) := fun H => y9e (by kernel_rfl) (by rfl) (y17m c.nm false hsm)
    simp only [yjb, yh, hc, decide_true, y5, ymg, y22, yrw, k1, y3r, ye4, n1, yb, s1, y1o, Nat.zero_add, l1, hcall, y1r]
    cases hb : ybt false c.nm with
    | false => exact ⟨H, R, by simp only [Bool.not_false, y22, Bool.false_and, if_true, y87]⟩
    | true =>
      obtain ⟨H', R', e'⟩ := ih (i + 1) _ (by omega) R2
      push_cast at e'
      refine ⟨H', R', ?_⟩
      simp only [Bool.not_true, y14, Bool.true_and, yw8, y1a, hw, y5]
      exact e'
theorem y15z {o : Option (List Cls)} (hL : (lst o).length ≤ 40) : ∀ (d i : Nat) (H : Heap) (C : CTab) (N : List Tx) (g : Nat), i + d = (lst o).length → NRep H C N g → N ≠ [] → N.length ≤ 13 + i →
    ∃ H' g', (∀ C', y35 C ((lst o).drop i) = some C' → NRep H' C' (N ++ ((lst o).drop i).map fun c => Tx.mk c.nm) g') ∧ yab (slA o) T21 (slA o) (.int .i64 (lst o).length) (.int .i64 i) H = if (y35 C ((lst o).drop i)).isNone then eE 23 else yll (slA o) T21 H' := by
  intro d
  induction d with
  | zero =>
    intro i H C N g hi R _ _
    have hc : ¬ ((i : Int) < ((lst o).length : Int)) := by omega
    rw [List.drop_eq_nil_of_le (by omega)]
    refine ⟨H, g, fun C' h => ?_, ?_⟩
    · simp only [y35, Option.some.injEq] at h
      subst h
      simpa using R
    · rw [yd0]
      simp only [yje, yh, hc, decide_false, y5, yjd, y14, y35, Option.isNone_some, Bool.false_eq_true, if_false]
  | succ d ih =>
    intro i H C N g hi R hN hNl
    have hlt : i < (lst o).length := by omega
    have hc : ((i : Int) < ((lst o).length : Int)) := by omega
    have hw := y38 hlt (by omega)
    have k1 := ydm (o := o) (i := i) (List.getElem?_eq_getElem hlt) .i64
    rw [yd0, List.drop_eq_getElem_cons hlt, y35]
    generalize (lst o)[i] = c at *
    obtain ⟨o7, h7⟩ := R.at (j := 7) (by omega)
    obtain ⟨H1, n1, s1⟩ := yan c h7
    have hl := R.len
    have R2 := R.other (x := 7) (v := AC (o7.gen + 1) c) (by omega)
    have b2 : (H.set 7 (AC (o7.gen + 1) c))[7]? = some (AC (o7.gen + 1) c) := y26 (by omega)
    have l1 : evLd false 1 (.lp 7 (o7.gen + 1) 0 1) (H.set 7 (AC (o7.gen + 1) c)) = some (.str c.nm) := y2p b2 (cls1 c)
    simp only [yje, yh, hc, decide_true, y5, yjd, y22, yw4, k1, y3r, ye4, n1, yb, s1, ypx, y1t, y1o, Nat.zero_add, R2.ld0, l1]
    generalize H.set 7 (AC (o7.gen + 1) c) = H2 at *
    have hmg := yah cV R2.h0 c.nm (.agg zCls) true
    obtain ⟨o8, h8⟩ := R2.at (j := 8) (by omega)
    rw [hmg]
    simp only [y5]
    cases hlk : tlook C c.nm with
    | some q =>
      obtain ⟨H3, n3, s3⟩ := yan q h8
      refine ⟨H, g, fun C' h => by simp at h, ?_⟩
      simp only [ypr, y1y, List.getElem?_cons_zero, List.getElem?_cons_succ, y5, n3, yb, s3]
      rw [yar (by rfl)]
      simp only [y22, Option.isSome_some, if_true, Option.isNone_none, y87]
    | none =>
      obtain ⟨H3, n3, s3⟩ := yan zC h8
      have ez : (AV.agg zCls) = .agg (enc zC) := rfl
      simp only [yve, y1y, List.getElem?_cons_zero, List.getElem?_cons_succ, y5, n3, yb]
      rw [ez, s3]
      simp only [yb]
      rw [yar (by rfl)]
      have R4 := R2.other (x := 8) (v := AC (o8.gen + 1) zC) (by omega)
      have hl2 := R2.len
      have b4 : (H2.set 8 (AC (o8.gen + 1) zC))[7]? = some (AC (o7.gen + 1) c) := by rw [yj (by omega)]; exact b2
      have l4 : evLd false 1 (.lp 7 (o7.gen + 1) 0 1) (H2.set 8 (AC (o8.gen + 1) zC)) = some (.str c.nm) := y2p b4 (cls1 c)
      have a4 : evLd true 7 (.lp 7 (o7.gen + 1) 0 0) (H2.set 8 (AC (o8.gen + 1) zC)) = some (.agg (enc c)) := ydz b4
      have hput := ydt cV R4.h0 c.nm c hlk
      simp only [y14, yqg, y1t, y5, y1o, Nat.zero_add, R4.ld0, l4, a4, hput, yb]
      have R5 := R4.put c.nm c
      have hl4 := R4.len
      have b5 : ((H2.set 8 (AC (o8.gen + 1) zC)).set 0 ⟨1, .map false (tE cV (C ++ [(c.nm, c)]))⟩)[7]? = some (AC (o7.gen + 1) c) := by rw [yj (by omega)]; exact b4
      generalize (H2.set 8 (AC (o8.gen + 1) zC)).set 0 ⟨1, .map false (tE cV (C ++ [(c.nm, c)]))⟩ = H5 at *
      have l5 : evLd false 1 (.lp 7 (o7.gen + 1) 0 1) H5 = some (.str c.nm) := y2p b5 (cls1 c)
      obtain ⟨o9, h9⟩ := R5.at (j := 9) (by omega)
      have bs : y28 0 (some 9) 1 1 [.str []] [(0, .str c.nm)] H5 = some (.ls 9 (o9.gen + 1) 1 0 1, H5.set 9 ⟨o9.gen + 1, .arr false false 1 ([Tx.mk c.nm].map enc)⟩) := by
        have := yrr (H := H5) (fb := 0) (j := 9) c.nm (by rw [Nat.zero_add]; exact h9)
        simpa using this
      have R6 := R5.other (x := 9) (v := ⟨o9.gen + 1, .arr false false 1 ([Tx.mk c.nm].map enc)⟩) (by omega)
      have hl5 := R5.len
      have hy := ydv (H := H5.set 9 ⟨o9.gen + 1, .arr false false 1 ([Tx.mk c.nm].map enc)⟩) (id := 9) (g := o9.gen + 1) (s := c.nm) (y26 (by omega))
      obtain ⟨x, N0, rfl⟩ := List.exists_cons_of_ne_nil hN
      have hbd : ((x :: N0).length + [Tx.mk c.nm].length + ((x :: N0).length + [Tx.mk c.nm].length) / 4 + 512) * 16 ≤ 2 ^ 48 := by
        have e48 : (2:Nat) ^ 48 = 281474976710656 := by decide
        have e1 : [Tx.mk c.nm].length = 1 := rfl
        rw [e48, e1]
        exact y183 _ (by omega)
      have hap : y2t 0 (some 10) 1 16 (y3a Tx 5 g (x :: N0)) (.ls 9 (o9.gen + 1) 1 0 1) (H5.set 9 ⟨o9.gen + 1, .arr false false 1 ([Tx.mk c.nm].map enc)⟩) =
          some (y3a Tx 5 (g + 1) ((x :: N0) ++ [Tx.mk c.nm]), (H5.set 9 ⟨o9.gen + 1, .arr false false 1 ([Tx.mk c.nm].map enc)⟩).set 5 (y5u (g + 1) D0 ((x :: N0) ++ [Tx.mk c.nm]))) := by
        have := yja (fb := 0) (id := 5) (g := g) (b := 16) (sl := some 10) (L := x :: N0) (M := [Tx.mk c.nm]) hy R6.h5 hbd
        exact this
      obtain ⟨st, R7⟩ := R6.name ((x :: N0) ++ [Tx.mk c.nm]) (g + 1)
      simp only [R5.ld1, l5, bs, yb, y5, hap, st]
      rw [yar (by rfl)]
      obtain ⟨H', g', h', e'⟩ := ih (i + 1) _ (C ++ [(c.nm, c)]) ((x :: N0) ++ [Tx.mk c.nm]) (g + 1) (by omega) R7 (by simp) (by rw [List.length_append]; simp only [List.length_singleton]; omega)
      push_cast at e'
      refine ⟨H', g', fun C' h => ?_, ?_⟩
      · simp only [Option.isSome_none, Bool.false_eq_true, if_false] at h
        have := h' C' h
        rw [List.append_assoc] at this
        exact this
      · simp only [yvs, y1a, hw, y5, Option.isSome_none, Bool.false_eq_true, if_false]
        exact e'
theorem ye8 (H : Heap) (k : Nat) : ∀ C : CTab, ∃ fr, yd (y5i H (k + 2)) (tE cV C) = some ⟨tE cV C, fr, []⟩
  | [] => ⟨true, rfl⟩
  | (n, c) :: C => by
    obtain ⟨fr, ih⟩ := ye8 H k C
    have e1 : y5i H (k + 2) (.str n, cV c) = some ⟨(.str n, cV c), true && scal c, []⟩ := by
      have e2 : fz H (k + 2) (.str n) = some ⟨.str n, true, []⟩ := rfl
      simp only [y5i, e2, y11g H k c, List.append_nil]
    refine ⟨(true && scal c) && fr, ?_⟩
    unfold tE at ih ⊢
    rw [List.map_cons, y1c, e1, ih]
    rfl
theorem yxy {H : Heap} {C : CTab} {N : List Tx} {g : Nat} (R : NRep H C N g) (hN : N ≠ []) : ∃ fr ids, fz H yx T21 = some ⟨y1f C (N.map (·.s)) [], fr, ids⟩ := by
  obtain ⟨fr, hc⟩ := ye8 H 8 C
  have e0 : fz H 11 (.lm 0 1) = some ⟨.rm (tE cV C), fr, [0]⟩ := by
    have hm : y2a H 0 1 = some (false, tE cV C) := by simp [y2a, y1z, R.h0]
    have : fz H 11 (.lm 0 1) = match y2a H 0 1 with
      | some (_, es) => match yd (y5i H 10) es with
        | some r => some ⟨.rm r.v, r.fresh, 0 :: r.ids⟩
        | none => none
      | none => none := rfl
    rw [this, hm]
    simp only [hc]
  have e1 : fz H 11 (.lm 1 1) = some ⟨.rm [], true, [1]⟩ := by
    have hm : y2a H 1 1 = some (false, []) := by simp [y2a, y1z, R.h1]
    have : fz H 11 (.lm 1 1) = match y2a H 1 1 with
      | some (_, es) => match yd (y5i H 10) es with
        | some r => some ⟨.rm r.v, r.fresh, 1 :: r.ids⟩
        | none => none
      | none => none := rfl
    rw [this, hm]
    rfl
  have e2 : fz H 11 (y3a Tx 5 g N) = some ⟨slA (some N), N.all scal, [5]⟩ := by
    obtain ⟨x, N0, rfl⟩ := List.exists_cons_of_ne_nil hN
    exact ys2 (k := 9) (L := x :: N0) R.h5
  have hr : yf H 2 1 = some (false, 3, [[.lm 0 1, y3a Tx 5 g N, .lm 1 1]]) := by simp [yf, y1z, R.h2]
  have et : fz H yx T21 = match yf H 2 1 with
      | some (_, _, rows) => match rows[0]? with
        | some row => match yd (fz H 11) (row.drop 0) with
          | some r => some ⟨.rp r.v, r.fresh, 2 :: r.ids⟩
          | none => none
        | none => none
      | none => none := rfl
  have em : (N.map (fun x : Tx => x.s)).map Tx.mk = N := by
    rw [List.map_map]
    exact List.map_id'' (fun _ => rfl) N
  rw [et, hr]
  simp only [List.getElem?_cons_zero, List.drop_zero, y1c, y51, e0, e1, e2]
  unfold y1f yhy
  rw [em]
  exact ⟨_, _, rfl⟩
theorem y12z {o : Option (List Cls)} (ok : ∀ x ∈ lst o, ClsOk x) (hL : (lst o).length ≤ 40) {C : CTab} {N : List Tx} {g : Nat} (hN : N ≠ []) : ∀ (d i : Nat) (H : Heap), i + d = (lst o).length → NRep H C N g →
    ∃ H', NRep H' C N g ∧ yam T21 (slA o) (.int .i64 (lst o).length) (.int .i64 i) H = if ((lst o).drop i).all (parB C) = false then eE 50 else yqy T21 H' := by
  intro d
  induction d with
  | zero =>
    intro i H hi R
    have hc : ¬ ((i : Int) < ((lst o).length : Int)) := by omega
    refine ⟨H, R, ?_⟩
    rw [ydg, List.drop_eq_nil_of_le (by omega)]
    simp only [ykq, yh, hc, decide_false, y5, yj3, y14, List.all_nil, Bool.true_eq_false, if_false]
  | succ d ih =>
    intro i H hi R
    have hlt : i < (lst o).length := by omega
    have hc : ((i : Int) < ((lst o).length : Int)) := by omega
    have hw := y38 hlt (by omega)
    have k1 := ydm (o := o) (i := i) (List.getElem?_eq_getElem hlt) .i64
    have hok := ok _ (List.getElem_mem hlt)
    rw [ydg, List.drop_eq_getElem_cons hlt, List.all_cons]
    generalize (lst o)[i] = c at *
    obtain ⟨o6, h6⟩ := R.at (j := 11) (by omega)
    obtain ⟨H1, n1, s1⟩ := yan c h6
    have hl := R.len
    have R2 := R.other (x := 11) (v := AC (o6.gen + 1) c) (by omega)
    have a1 : evLd true 7 (.lp 11 (o6.gen + 1) 0 0) (H.set 11 (AC (o6.gen + 1) c)) = some (.agg (enc c)) := ydz (y26 (by omega))
    have rb : reachBytes = 140737488351232 := rfl
    have hcall : y7 E (y8 E) 0 none true 61 [T21, .agg (enc c)] (H.set 11 (AC (o6.gen + 1) c)) = some (.bool (parB C c), H.set 11 (AC (o6.gen + 1) c)) := by
      obtain ⟨fr, ids, hf⟩ := yxy R2 hN
      have hs := yv8 C (N.map (·.s)) c (by have := hok.ifs; omega)
      have hp : E.pure 61 = true := by kernel_rfl
      simp only [y7, hp, y4i, y1c, y51, hf, y174, hs, Option.isSome_none, Bool.and_false, Bool.not_false, Bool.and_self, if_true, Bool.true_or]
      rfl
    simp only [ykq, yh, hc, decide_true, y5, yj3, y22, yqf, k1, y3r, ye4, n1, yb, s1, a1, hcall, y1r]
    cases hb : parB C c with
    | false => exact ⟨H, R, by simp only [Bool.not_false, y22, Bool.false_and, if_true, y87]⟩
    | true =>
      obtain ⟨H', R', e'⟩ := ih (i + 1) _ (by omega) R2
      push_cast at e'
      refine ⟨H', R', ?_⟩
      simp only [Bool.not_true, y14, Bool.true_and, ywt, y1a, hw, y5]
      exact e'
end Go.Vm
namespace Go.Vm
open Cel
structure KS (H : Heap) (C : CTab) (N : List Tx) (g : Nat) (P : PTab) (A : ATab) : Prop where
  h0 : H[0]? = some ⟨1, .map false (tE cV C)⟩
  h1 : H[1]? = some ⟨1, .map false (tE lmV P)⟩
  h2 : H[2]? = some ⟨1, .arr true false 3 [[.lm 0 1, .ls 5 g 1 0 N.length, .lm 1 1]]⟩
  h5 : H[5]? = some ⟨g, .arr false false 1 (N.map enc)⟩
  sets : SetsAt H P A
  far : ∀ p ∈ P, 13 ≤ p.2.1
  len : 13 ≤ H.length
abbrev KK (g n go : Nat) : KAt := ⟨2, 1, 0, 1, 1, 1, 12, go, .ls 5 g 1 0 n⟩
section
variable {H : Heap} {C : CTab} {N : List Tx} {g : Nat} {P : PTab} {A : ATab}
theorem KS.rep (R : KS H C N g P A) {o : AO} (_h : H[12]? = some o) : KRep (KK g N.length (o.gen + 1)) C (H.set 12 ⟨o.gen + 1, .map false (sE [])⟩) P A [] := by
  have hl := R.len
  have n2 : (12 : Nat) ≠ 2 := by decide
  have n0 : (12 : Nat) ≠ 0 := by decide
  have n1 : (12 : Nat) ≠ 1 := by decide
  refine ⟨(yj n2).trans R.h2, (yj n0).trans R.h0, (yj n1).trans R.h1, y26 (by omega), R.sets.mono fun p hp g fz es h => ⟨fz, ?_⟩, ⟨(by decide : (2 : Nat) ≠ 1), n2.symm, (by decide : (0 : Nat) ≠ 1), n0.symm, n1.symm⟩, fun p hp => ?_⟩
  · have := R.far p hp
    rw [yj (by omega)]
    exact h
  · have := R.far p hp
    exact ⟨(by omega : p.2.1 ≠ 2), (by omega : p.2.1 ≠ 0), (by omega : p.2.1 ≠ 1), (by omega : p.2.1 ≠ 12)⟩
theorem KS.off (R : KS H C N g P A) (go : Nat) : OffK (KK g N.length go) P 5 := ⟨(by decide : (5 : Nat) ≠ 2), (by decide : (5 : Nat) ≠ 0), (by decide : (5 : Nat) ≠ 1), (by decide : (5 : Nat) ≠ 12), fun p hp => by have := R.far p hp; omega⟩
theorem KS.next (R : KS H C N g P A) {go : Nat} {H' : Heap} {P' : PTab} {A' : ATab} {O' : List Txt} {x : AO} (R' : KRep (KK g N.length go) C H' P' A' O') (hr : Rest (KK g N.length go) P P' (H.set 12 x) H') : KS H' C N g P' A' := by
  obtain ⟨r1, r2, r3⟩ := hr
  have hl := R.len
  rw [List.length_set] at r1 r2 r3
  refine ⟨R'.cls, R'.ab, R'.tree, ?_, R'.sets, fun p hp => ?_, by omega⟩
  · rw [r2 5 (by omega) (R.off go), yj (by decide)]
    exact R.h5
  · rcases r3 p hp with h | h
    · exact R.far p h
    · omega
theorem ys3 (hC : ∀ n c, tlook C n = some c → (lst c.ifs).length * 16 ≤ reachBytes) (hN : N.length ≤ 9223372036854775806) (k : Nat) : ∀ (d i : Nat) (H : Heap) (P : PTab) (A : ATab) (b : Bool) (A' : ATab), i + d = N.length →
    y3n (upC C) k ((N.drop i).map (·.s)) A = some (b, A') → AOk (upC C) A → KS H C N g P A →
      ∃ H' P', (b = true → KS H' C N g P' A') ∧ yd5 T21 (.ls 5 g 1 0 N.length) (.int .i64 N.length) (.int .i64 i) H = if b then yw3 T21 H' else eE 51 := by
  intro d
  induction d with
  | zero =>
    intro i H P A b A' hi hc hA R
    have hcc : ¬ ((i : Int) < (N.length : Int)) := by omega
    rw [List.drop_eq_nil_of_le (by omega)] at hc
    simp only [List.map_nil, y3n, Option.some.injEq, Prod.mk.injEq] at hc
    obtain ⟨rfl, rfl⟩ := hc
    refine ⟨H, P, fun _ => R, ?_⟩
    rw [yfz]
    simp only [ywy, yh, hcc, decide_false, y5, yyi, y14, if_true]
  | succ d ih =>
    intro i H P A b A' hi hc hA R
    have hlt : i < N.length := by omega
    have hcc : ((i : Int) < (N.length : Int)) := by omega
    have hw := y38 hlt (by omega)
    have ix := yxl (n := N.length) (p := (i : Int)) (by omega) hcc 5 g .i64
    rw [show ((i : Int)).toNat = i by omega] at ix
    have hld : evLd false 1 (.lp 5 g i 0) H = some (.str N[i].s) := yj0 (es := 1) R.h5 (by simp [hlt])
    rw [List.drop_eq_getElem_cons hlt, List.map_cons, y3n] at hc
    generalize N[i].s = x at *
    have hl := R.len
    obtain ⟨o12, h12⟩ : ∃ o, H[12]? = some o := ⟨_, List.getElem?_eq_getElem (by omega)⟩
    have hm : mkmC 0 (some 12) H = some (.lm 12 (o12.gen + 1), H.set 12 ⟨o12.gen + 1, .map false (sE [])⟩) := by
      have := yrh (fb := 0) (j := 12) (H := H) (by rw [Nat.zero_add]; exact h12)
      rw [Nat.zero_add] at this
      exact this
    cases hf : y39 (upC C) k x A [] with
    | none => rw [hf] at hc; cases hc
    | some q =>
      obtain ⟨c, A1, O1⟩ := q
      rw [hf] at hc
      obtain ⟨H1, P1, e1, R1, r1⟩ := y13x hC k x A [] c A1 O1 _ P 0 hf hA (R.rep h12)
      obtain ⟨k1, _, _⟩ := y5z k x A [] c A1 O1 hf hA
      have RN := R.next R1 r1
      have e1' : y7 E (y8 E) 0 none false 62 [T21, .str x, .lm 12 (o12.gen + 1)] (H.set 12 ⟨o12.gen + 1, .map false (sE [])⟩) = some (.bool c, H1) := e1
      rw [yfz]
      simp only [ywy, yh, hcc, decide_true, y5, yyi, y22, y14e, ix, hld, hm, yb, e1', y1r]
      cases c with
      | false =>
        simp only [Option.some.injEq, Prod.mk.injEq] at hc
        obtain ⟨rfl, rfl⟩ := hc
        refine ⟨H1, P1, fun e => (by cases e), ?_⟩
        simp only [Bool.not_false, y22, Bool.false_eq_true, if_false, y87]
      | true =>
        simp only at hc
        obtain ⟨H', P', h', e'⟩ := ih (i + 1) H1 P1 A1 b A' (by omega) hc k1 RN
        push_cast at e'
        refine ⟨H', P', h', ?_⟩
        simp only [Bool.not_true, y14, y11b, y1a, hw, y5]
        exact e'
theorem yr8 {id g' k : Nat} {es : List (AV × AV)} {r : Fz (List (AV × AV))} {os : List OC} (hm : y2a H id g' = some (false, es)) (hr : yd (y5i H yx) es = some r) : expo H (k + 1) (.lm id g') os = some ⟨.lm os.length 0, os ++ [.map false r.v], r.fresh, [id], r.ids⟩ := by
  simp only [expo, hm, hr]
theorem yym {α : Type} [Cel α] {id g' k : Nat} {L : List α} {os : List OC} (hr : yf H id g' = some (false, es α, L.map enc)) : expo H (k + 1) (.ls id g' (es α) 0 L.length) os = some ⟨.ls os.length 0 (es α) 0 L.length, os ++ [.arr false false (es α) (L.map enc)], L.all scal, [id], []⟩ := by
  simp only [expo, hr]
  rw [if_pos ⟨trivial, by simp⟩]
  simp only [List.drop_zero, y8f, y162]
theorem y01 {H : Heap} {P : PTab} {A : ATab} (h : SetsAt H P A) (k : Nat) : ∃ fr, yd (y5i H (k + 2)) (tE lmV P) = some ⟨tE sV A, fr, P.map (·.2.1)⟩ := by
  induction h with
  | nil => exact ⟨true, rfl⟩
  | @cons p q P A h1 _ ih =>
    obtain ⟨fr, ih⟩ := ih
    obtain ⟨e, fz', h2⟩ := h1
    obtain ⟨n, id, g'⟩ := p
    obtain ⟨n', S⟩ := q
    simp only at e h2
    subst e
    have e1 : y5i H (k + 2) (.str n, lmV (id, g')) = some ⟨(.str n, sV S), true && true, [id]⟩ := by
      have e2 : fz H (k + 2) (.str n) = some ⟨.str n, true, []⟩ := rfl
      simp only [y5i, e2, y117 k h2, List.nil_append]
    refine ⟨(true && true) && fr, ?_⟩
    unfold tE at ih ⊢
    rw [List.map_cons, y1c, e1, ih]
    rfl
theorem y08 (H : Heap) (k : Nat) : ∀ A : ATab, ∃ fr, yd (y5i H (k + 1)) (tE sV A) = some ⟨tE sV A, fr, []⟩
  | [] => ⟨true, rfl⟩
  | (n, S) :: A => by
    obtain ⟨fr, ih⟩ := y08 H k A
    have e1 : y5i H (k + 1) (.str n, sV S) = some ⟨(.str n, sV S), true && yu (sV S), []⟩ := rfl
    refine ⟨(true && yu (sV S)) && fr, ?_⟩
    unfold tE at ih ⊢
    rw [List.map_cons, y1c, e1, ih]
    rfl
theorem ywm {l : List Nat} (h : ∀ x ∈ l, 13 ≤ x) : y2c [2, 0, 5, 1] l = true := by
  have : ∀ y < 13, l.contains y = false := by
    intro y hy
    cases hc : l.contains y with
    | false => rfl
    | true =>
      have := h y (by simpa using hc)
      omega
  simp only [y2c, this 2 (by omega), this 0 (by omega), this 5 (by omega), this 1 (by omega)]
  rfl
theorem KS.done (R : KS H C N g P A) : ∃ r, yw3 T21 H = some r ∧ yh7 r (.tup [y1f C (N.map (·.s)) A, .int .i64 0]) := by
  obtain ⟨fr1, hc⟩ := ye8 H 10 C
  obtain ⟨fr2, hs⟩ := y01 R.sets 10
  have m0 : y2a H 0 1 = some (false, tE cV C) := by simp [y2a, y1z, R.h0]
  have m1 : y2a H 1 1 = some (false, tE lmV P) := by simp [y2a, y1z, R.h1]
  have m5 : yf H 5 g = some (false, es Tx, N.map enc) := by simp [yf, y1z, R.h5]
  have m2 : yf H 2 1 = some (false, 3, [[.lm 0 1, .ls 5 g 1 0 N.length, .lm 1 1]]) := by simp [yf, y1z, R.h2]
  have x0 : ∀ os, expo H 10 (.lm 0 1) os = some ⟨.lm os.length 0, os ++ [.map false (tE cV C)], fr1, [0], []⟩ := fun os => yr8 (k := 9) m0 hc
  have x1 : ∀ os, expo H 10 (.lm 1 1) os = some ⟨.lm os.length 0, os ++ [.map false (tE sV A)], fr2, [1], P.map (·.2.1)⟩ := fun os => yr8 (k := 9) m1 hs
  have x5 : ∀ os, expo H 10 (.ls 5 g 1 0 N.length) os = some ⟨.ls os.length 0 1 0 N.length, os ++ [.arr false false 1 (N.map enc)], N.all scal, [5], []⟩ := fun os => yym (α := Tx) (k := 9) m5
  have xr : y25 (expo H 10) [.lm 0 1, .ls 5 g 1 0 N.length, .lm 1 1] [] = some ⟨[.lm 0 0, .ls 1 0 1 0 N.length, .lm 2 0], [.map false (tE cV C), .arr false false 1 (N.map enc), .map false (tE sV A)], fr1 && (N.all scal && (fr2 && true)), [0, 5, 1], P.map (·.2.1)⟩ := by
    simp only [y25, x0, x5, x1, List.length_nil, List.nil_append, List.length_append, List.length_cons, List.append_nil, List.cons_append]
  have xl : expo H 11 T21 [] = some ⟨.lp 3 0 0 0, [.map false (tE cV C), .arr false false 1 (N.map enc), .map false (tE sV A), .arr true false 3 [[.lm 0 0, .ls 1 0 1 0 N.length, .lm 2 0]]], fr1 && (N.all scal && (fr2 && true)), [2, 0, 5, 1], P.map (·.2.1)⟩ := by
    have e : expo H 11 T21 [] = match yf H 2 1 with
      | some (true, _, _) => exFz H T21 []
      | some (false, es, [row]) => if 0 = 0 ∧ 0 = 0 then (match y25 (expo H 10) row [] with
          | some r => some ⟨.lp r.objs.length 0 0 0, r.objs ++ [.arr true false es [r.v]], r.fresh, 2 :: r.xs, r.fs⟩
          | none => none) else none
      | _ => none := rfl
    rw [e, m2]
    simp only [and_self, if_true, xr]
    rfl
  have xi : ∀ os, expo H 11 (.int .i64 0) os = some ⟨.int .i64 0, os, true, [], []⟩ := fun os => rfl
  have xt : ∃ fr, expo H yx (.tup [T21, .int .i64 0]) [] = some ⟨.tup [.lp 3 0 0 0, .int .i64 0], [.map false (tE cV C), .arr false false 1 (N.map enc), .map false (tE sV A), .arr true false 3 [[.lm 0 0, .ls 1 0 1 0 N.length, .lm 2 0]]], fr, [2, 0, 5, 1], P.map (·.2.1)⟩ := by
    have e : expo H yx (.tup [T21, .int .i64 0]) [] = match y25 (expo H 11) [T21, .int .i64 0] [] with
      | some r => some ⟨.tup r.v, r.objs, r.fresh, r.xs, r.fs⟩
      | none => none := rfl
    rw [e]
    simp only [y25, xl, xi, List.append_nil]
    exact ⟨_, rfl⟩
  obtain ⟨fr, xt⟩ := xt
  have hap : y2c [2, 0, 5, 1] (P.map (·.2.1)) = true := ywm fun x hx => by
    obtain ⟨p, hp, rfl⟩ := List.mem_map.1 hx
    exact R.far p hp
  refine ⟨⟨.tup [.lp 3 0 0 0, .int .i64 0], [.map false (tE cV C), .arr false false 1 (N.map enc), .map false (tE sV A), .arr true false 3 [[.lm 0 0, .ls 1 0 1 0 N.length, .lm 2 0]]], fr, [], []⟩, ?_, ?_⟩
  · unfold yw3 yo
    rw [xt]
    simp only [hap, if_true]
  · let G : Heap := [⟨0, .map false (tE cV C)⟩, ⟨0, .arr false false 1 (N.map enc)⟩, ⟨0, .map false (tE sV A)⟩, ⟨0, .arr true false 3 [[.lm 0 0, .ls 1 0 1 0 N.length, .lm 2 0]]⟩]
    obtain ⟨f1, y1⟩ := ye8 G 7 C
    obtain ⟨f2, y2⟩ := y08 G 8 A
    have z0 : fz G 10 (.lm 0 0) = some ⟨.rm (tE cV C), f1, [0]⟩ := by
      have : fz G 10 (.lm 0 0) = match yd (y5i G 9) (tE cV C) with
        | some r => some ⟨.rm r.v, r.fresh, 0 :: r.ids⟩
        | none => none := rfl
      rw [this, y1]
    have z2 : fz G 10 (.lm 2 0) = some ⟨.rm (tE sV A), f2, [2]⟩ := by
      have : fz G 10 (.lm 2 0) = match yd (y5i G 9) (tE sV A) with
        | some r => some ⟨.rm r.v, r.fresh, 2 :: r.ids⟩
        | none => none := rfl
      rw [this, y2]
    have z1 : fz G 10 (.ls 1 0 1 0 N.length) = some ⟨slA (some N), N.all scal, [1]⟩ := ys2 (k := 8) (L := N) (H := G) rfl
    have em : (N.map (fun x : Tx => x.s)).map Tx.mk = N := by
      rw [List.map_map]
      exact List.map_id'' (fun _ => rfl) N
    have zl : ∃ q, fz G 11 (.lp 3 0 0 0) = some q ∧ q.v = y1f C (N.map (·.s)) A := by
      have : fz G 11 (.lp 3 0 0 0) = match yd (fz G 10) [.lm 0 0, .ls 1 0 1 0 N.length, .lm 2 0] with
        | some r => some ⟨.rp r.v, r.fresh, 3 :: r.ids⟩
        | none => none := rfl
      rw [this]
      simp only [y1c, y51, z0, z1, z2]
      refine ⟨_, rfl, ?_⟩
      unfold y1f yhy
      rw [em]
    obtain ⟨q, zq, hq⟩ := zl
    have zt : fz G yx (.tup [.lp 3 0 0 0, .int .i64 0]) = match yd (fz G 11) [.lp 3 0 0 0, .int .i64 0] with
        | some r => some ⟨.tup r.v, r.fresh, r.ids⟩
        | none => none := rfl
    have zi : fz G 11 (.int .i64 0) = some ⟨.int .i64 0, true, []⟩ := rfl
    show ∃ q, fz G yx (.tup [.lp 3 0 0 0, .int .i64 0]) = some q ∧ _
    rw [zt]
    simp only [y1c, y51, zq, zi]
    exact ⟨_, rfl, by rw [hq]⟩
end
theorem y7d : ∀ (l : List Cls) (C C' : CTab), y35 C l = some C' → ckeys C' = ckeys C ++ l.map (·.nm)
  | [], C, C', h => by
    injection h with h
    subst h
    simp
  | c :: r, C, C', h => by
    rw [y35] at h
    split at h
    · cases h
    · rw [y7d r _ C' h]
      simp [ckeys]
def newV : Except Int (CTab × ATab) → AV
  | .ok (C, A) => .tup [y1f C (ckeys C) A, .int .i64 0]
  | .error k => .tup [.nilp, .int .i64 k]
theorem y6f (k : Int) : yh7 ⟨.tup [.nilp, .int .i64 k], [], true, [], []⟩ (newV (.error k)) := ⟨_, rfl, rfl⟩
theorem y188 {o : Option (List Cls)} (ok : ∀ x ∈ lst o, ClsOk x) (hl : (lst o).length ≤ maxLen) : ∃ r, (y8 E).p 1 [slA o] = some r ∧ yh7 r (newV (newM (lst o))) := by
  rw [y1cd]
  unfold yse yss newM
  simp only [y2g, y5, y4f]
  by_cases h40 : 40 < (lst o).length
  · have hc : (40 : Int) < ((lst o).length : Int) := by omega
    rw [if_pos h40]
    simp only [hc, decide_true, y22, y87]
    exact ⟨_, rfl, y6f 2⟩
  have hc : ¬ (40 : Int) < ((lst o).length : Int) := by omega
  rw [if_neg h40]
  simp only [hc, decide_false, y14]
  have hL : (lst o).length ≤ 40 := by omega
  have R0 : NRep [⟨1, .map false []⟩, ⟨1, .map false []⟩, ⟨1, .arr true false 3 [[.lm 0 1, .nils, .lm 1 1]]⟩, D0, D0, D0, D0, D0, D0, D0, D0, D0, D0] (y31.take 0) ((ownP.take 0).map y8k) 0 := ⟨rfl, rfl, rfl, rfl, rfl⟩
  obtain ⟨H1, g1, R1, e1⟩ := y164 (slA o) 13 0 _ 0 (by omega) R0
  have e0 : ygh (slA o) [D0, D0, D0, D0, D0, D0, D0, D0, D0, D0, D0, D0, D0] = y92 (slA o) T21 (slA (some ownP)) (.int .i64 13) (.int .i64 ((0 : Nat) : Int)) [⟨1, .map false []⟩, ⟨1, .map false []⟩, ⟨1, .arr true false 3 [[.lm 0 1, .nils, .lm 1 1]]⟩, D0, D0, D0, D0, D0, D0, D0, D0, D0, D0] := by
    have m0 : mkmC 0 (some 0) [D0, D0, D0, D0, D0, D0, D0, D0, D0, D0, D0, D0, D0] = some (.lm 0 1, [⟨1, .map false []⟩, D0, D0, D0, D0, D0, D0, D0, D0, D0, D0, D0, D0]) := rfl
    have m1 : mkmC 0 (some 1) [⟨1, .map false []⟩, D0, D0, D0, D0, D0, D0, D0, D0, D0, D0, D0, D0] = some (.lm 1 1, [⟨1, .map false []⟩, ⟨1, .map false []⟩, D0, D0, D0, D0, D0, D0, D0, D0, D0, D0, D0]) := rfl
    have b : y2v [.nilm, .nils, .nilm] [(0, 1, .lm 0 1), (2, 1, .lm 1 1)] = some (.agg [.lm 0 1, .nils, .lm 1 1]) := rfl
    have n : newC 0 (some 2) (cellsOf (.agg [.lm 0 1, .nils, .lm 1 1])) [⟨1, .map false []⟩, ⟨1, .map false []⟩, D0, D0, D0, D0, D0, D0, D0, D0, D0, D0, D0] = some (T21, [⟨1, .map false []⟩, ⟨1, .map false []⟩, ⟨1, .arr true false 3 [[.lm 0 1, .nils, .lm 1 1]]⟩, D0, D0, D0, D0, D0, D0, D0, D0, D0, D0]) := rfl
    unfold ygh ysp
    simp only [m0, m1, yb, b, y5, n, ynl, y2g]
    rfl
  have e0' := e0.trans e1
  show ∃ r, ygh (slA o) [D0, D0, D0, D0, D0, D0, D0, D0, D0, D0, D0, D0, D0] = some r ∧ _
  rw [e0']
  unfold yif
  simp only [y2g, y5]
  obtain ⟨H2, R2, e2⟩ := ypb ok (by omega) (lst o).length 0 H1 (by omega) R1
  rw [show (AV.int .i64 0) = .int .i64 ((0 : Nat) : Int) from rfl, e2, List.drop_zero]
  by_cases hn : (lst o).all (fun c => ybt false c.nm) = false
  · rw [if_pos hn, if_pos hn]
    exact ⟨_, rfl, y6f 20⟩
  rw [if_neg hn, if_neg hn]
  unfold yjf
  simp only [y2g, y5]
  have hN0 : ownP.map y8k ≠ [] := by
    intro e
    have := congrArg List.length e
    rw [List.length_map, yaf] at this
    cases this
  obtain ⟨H3, g3, R3, e3⟩ := y15z (o := o) hL (lst o).length 0 H2 y31 (ownP.map y8k) g1 (by omega) R2 hN0 (by rw [List.length_map, yaf]; omega)
  rw [show (AV.int .i64 0) = .int .i64 ((0 : Nat) : Int) from rfl, e3, List.drop_zero]
  rw [List.drop_zero] at R3
  cases ha : y35 y31 (lst o) with
  | none =>
    simp only [Option.isNone_none, if_true]
    exact ⟨_, rfl, y6f 23⟩
  | some C =>
    have R3 := R3 C ha
    simp only [Option.isNone_some, Bool.false_eq_true, if_false, yll, y2g, y5]
    have hNC : ownP.map y8k ++ (lst o).map (fun c => Tx.mk c.nm) = (ckeys C).map Tx.mk := by
      rw [y7d _ _ _ ha, List.map_append, List.map_map]
      congr 1
    rw [hNC] at R3
    have hNe : (ckeys C).map Tx.mk ≠ [] := by
      rw [← hNC]
      intro e
      exact hN0 (List.append_eq_nil_iff.1 e).1
    obtain ⟨H4, R4, e4⟩ := y12z ok hL hNe (lst o).length 0 H3 (by omega) R3
    rw [show (AV.int .i64 0) = .int .i64 ((0 : Nat) : Int) from rfl, e4, List.drop_zero]
    by_cases hp : (lst o).all (parB C) = false
    · rw [if_pos hp, if_pos hp]
      exact ⟨_, rfl, y6f 50⟩
    rw [if_neg hp, if_neg hp]
    have hn' : (lst o).all (fun c => ybt false c.nm) = true := by simpa using hn
    have hp' : (lst o).all (parB C) = true := by simpa using hp
    obtain ⟨c1, _, _⟩ := yba hn' ha hp'
    obtain ⟨b, A, ec, g1', _, _⟩ := y59 (N := ckeys C) (k := C.length + 1) c1 (by simp [ckeys]) (ckeys C) [] (fun _ h => h) .nil (by intro x h; cases h)
    obtain ⟨M, eM, hM, _⟩ := y6u _ _ _ ha
    have hC : ∀ n c, tlook C n = some c → (lst c.ifs).length * 16 ≤ reachBytes := by
      intro n c h
      have := ya7 h
      rw [eM, List.mem_append] at this
      rcases this with h | h
      · obtain ⟨p, _, hq⟩ := List.mem_map.1 h
        injection hq with _ hb
        rw [← hb]
        exact Nat.zero_le _
      · exact (ok c (hM n c h).1).ifs
    have hlk : ((ckeys C).map Tx.mk).length = 13 + (lst o).length := by
      rw [← hNC, List.length_append, List.length_map, List.length_map, yaf]
    have KS0 : KS H4 C ((ckeys C).map Tx.mk) g3 [] [] := by
      obtain ⟨x, N0, hx⟩ := List.exists_cons_of_ne_nil hNe
      have h2 := R4.h2
      have h5 := R4.h5
      rw [hx] at h2 h5 ⊢
      exact ⟨R4.h0, R4.h1, h2, h5, .nil, fun p h => (by cases h), (by rw [R4.len]; omega)⟩
    have hmap : (((ckeys C).map Tx.mk).drop 0).map (·.s) = ckeys C := by
      rw [List.drop_zero, List.map_map]
      exact List.map_id'' (fun _ => rfl) _
    obtain ⟨H5, P5, R5, e5⟩ := ys3 hC (by omega) (C.length + 1) ((ckeys C).map Tx.mk).length 0 H4 [] [] b A (by omega) (by rw [hmap]; exact ec) .nil KS0
    have e8 : yqy T21 H4 = yd5 T21 (.ls 5 g3 1 0 ((ckeys C).map Tx.mk).length) (.int .i64 ((ckeys C).map Tx.mk).length) (.int .i64 ((0 : Nat) : Int)) H4 := by
      have l1 : evLd false 1 (.lp 2 1 0 1) H4 = some (.ls 5 g3 1 0 ((ckeys C).map Tx.mk).length) := by
        have := R4.ld1
        obtain ⟨x, N0, hx⟩ := List.exists_cons_of_ne_nil hNe
        rw [hx] at this ⊢
        exact this
      unfold yqy
      simp only [y1t, y5, y1o, Nat.zero_add, l1, y9v]
      rfl
    rw [e8, e5, ec]
    cases b with
    | false =>
      simp only [Bool.false_eq_true, if_false]
      exact ⟨_, rfl, y6f 51⟩
    | true =>
      obtain ⟨r, er, hr⟩ := (R5 rfl).done
      simp only [if_true]
      refine ⟨r, er, ?_⟩
      have hm2 : ((ckeys C).map Tx.mk).map (·.s) = ckeys C := by
        rw [List.map_map]
        exact List.map_id'' (fun _ => rfl) _
      rw [hm2] at hr
      exact hr
end Go.Vm
namespace Go.Vm
open Cel
structure Ask where
  cls : List UInt8
  nm : List UInt8
  desc : List UInt8
  typ : List UInt8
  want : List UInt8
  deriving DecidableEq, Inhabited
instance : Cel Ask := ⟨5, fun x => [.str x.cls, .str x.nm, .str x.desc, .str x.typ, .str x.want], fun _ => rfl, fun _ => rfl, fun _ => rfl⟩
structure AskOk (z : Ask) : Prop where
  cls : z.cls.length ≤ reachBytes
  nm : z.nm.length ≤ reachBytes
  desc : z.desc.length ≤ reachBytes
  typ : z.typ.length ≤ reachBytes
  want : z.want.length ≤ reachBytes
theorem yhk {E : Env} {C : Calls2} {fb f : Nat} {args : List AV} {h : Heap} {fa : Fz (List AV)} {r : Ex AV} {v : AV} (hE : E.pure f = true) (ha : yd (fz h yx) args = some fa)
    (hc : C.p f fa.v = some r) (hr : yh7 r v) : ∃ h1, y7 E C fb none true f args h = some (v, h1) := by
  obtain ⟨q, h1, h2⟩ := hr
  refine ⟨if r.fresh || fa.ids.isEmpty then h else ye fa.ids h, ?_⟩
  simp only [y7, hE, y4i, ha, hc, h1, h2, Option.isSome_none, Bool.and_false, Bool.not_false, Bool.and_self, if_true]
def ywg (A : ATab) (a b : Txt) : Bool := yn7 (upB A) a b
theorem y7m {fb : Nat} {H : Heap} (C : CTab) (N : List Txt) (A : ATab) (a b : Txt) (ha : Sm a) (hb : Sm b) : y7 E (y8 E) fb none true 3 [y1f C N A, .str a, .str b] H = some (.bool (ywg A a b), H) :=
  y9e (by kernel_rfl) (y18m ..) (y19z C N A a.length a b (Nat.le_refl _) ha hb)
def cA : Cls := ⟨0, [97], [69, 120, 99, 101, 112, 116, 105, 111, 110], none, none, none, none⟩
def tA : CTab × ATab := match newM [cA] with
  | .ok p => p
  | .error _ => ([], [])
theorem newA : newM [cA] = .ok tA := by
  have h : (match newM [cA] with | .ok _ => true | .error _ => false) = true := by kernel_rfl
  unfold tA
  cases hn : newM [cA] with
  | ok p => rfl
  | error k => rw [hn] at h; cases h
theorem okA : ∀ x ∈ lst (some [cA]), ClsOk x := by
  intro x hx
  have : x = cA := by simpa [lst] using hx
  subst this
  exact ⟨⟨by decide, by decide⟩, by decide, by decide, by decide, fun s h => (by cases h), by decide, by decide, by decide⟩
theorem fit1 : ywg tA.2 [76, 97, 59] [76, 84, 104, 114, 111, 119, 97, 98, 108, 101, 59] = true := by kernel_rfl
theorem fit2 : ywg tA.2 [91, 76, 97, 59] [91, 76, 79, 98, 106, 101, 99, 116, 59] = true := by kernel_rfl
theorem fit3 : ywg tA.2 [91, 73] [91, 76, 79, 98, 106, 101, 99, 116, 59] = false := by kernel_rfl
theorem fit4 : ywg tA.2 [76, 79, 98, 106, 101, 99, 116, 59] [76, 97, 59] = false := by kernel_rfl
theorem y1bv : ∃ r, (y8 E).p 31 [] = some r ∧ yh7 r (slA (some (ownP.map y8k))) := ⟨exO (some (ownP.map y8k)), ytl 60 (by kernel_rfl), y6k _⟩
theorem ysb : (y8 E).p 32 [.str [83, 121, 115], .str [101, 120, 105, 116], .str [40, 73, 41, 86]] = some ⟨.int .i64 3, [], true, [], []⟩ := ytl 60 (by kernel_rfl)
theorem y13c : (y8 E).p 0 [] = xB true := by
  rw [y1cg]
  unfold y15y
  have b : y2v [.int .i64 0, .str [], .str [], .nils, .nils, .nils, .nils] [(1, 1, .str [97]), (2, 1, .str [69, 120, 99, 101, 112, 116, 105, 111, 110])] = some (.agg (enc cA)) := rfl
  have bs : y28 0 (some 0) 7 1 [.int .i64 0, .str [], .str [], .nils, .nils, .nils, .nils] [(0, .agg (enc cA))] [⟨0, .dead⟩] = some (.ls 0 1 7 0 1, [⟨1, .arr false false 7 ([cA].map enc)⟩]) := rfl
  have hf : yd (fz [⟨1, .arr false false 7 ([cA].map enc)⟩] yx) [.ls 0 1 7 0 1] = some ⟨[slA (some [cA])], [cA].all scal && true, [0] ++ []⟩ := by
    have := ys2 (k := 10) (L := [cA]) (H := [⟨1, .arr false false 7 ([cA].map enc)⟩]) (id := 0) (g := 1) rfl
    rw [show 10 + 2 = yx from rfl] at this
    rw [y1c, show (AV.ls 0 1 7 0 1) = .ls 0 1 (es Cls) 0 [cA].length from rfl, this]
    rfl
  obtain ⟨r, er, hr⟩ := y188 okA (by decide)
  rw [show lst (some [cA]) = [cA] from rfl, newA] at hr
  obtain ⟨h1, hc⟩ := yhk (fb := 0) (by kernel_rfl : E.pure 1 = true) hf er hr
  obtain ⟨r2, er2, hr2⟩ := y1bv
  have hO : ∀ H, y7 E (y8 E) 0 none true 31 [] H = some (slA (some (ownP.map y8k)), H) := fun H => y30 (by kernel_rfl) (fa := ⟨[], true, []⟩) rfl rfl er2 hr2
  have hN : ∀ H, y7 E (y8 E) 0 none true 32 [.str [83, 121, 115], .str [101, 120, 105, 116], .str [40, 73, 41, 86]] H = some (.int .i64 3, H) := fun H => y9e (by kernel_rfl) rfl ysb
  have ev : newV (.ok tA) = .tup [y1f tA.1 (ckeys tA.1) tA.2, .int .i64 0] := rfl
  rw [ev] at hc
  simp only [b, y5, bs, yb, hc, y1y, List.getElem?_cons_zero, List.getElem?_cons_succ, y10, decide_true, y4h, yhs]
  rw [y7m _ _ _ _ _ (by decide) (by decide), fit1]
  simp only [yb, yr, y5, y4h, yhs]
  rw [y7m _ _ _ _ _ (by decide) (by decide), fit2]
  simp only [yb, yr, y5, y4h, yhs]
  rw [y7m _ _ _ _ _ (by decide) (by decide), fit3]
  simp only [yb, y1r, Bool.not_false, yr, y5, y4h, yhs]
  rw [y7m _ _ _ _ _ (by decide) (by decide), fit4]
  simp only [yb, y1r, Bool.not_false, yr, y5, y4h, yhs, hO, y2g, y10, hN]
  rfl
theorem yne {fb : Nat} {H : Heap} : y7 E (y8 E) fb none true 0 [] H = some (.bool true, H) := y9e (by kernel_rfl) rfl y13c
theorem yn8 {o : Option (List Cls)} (hL : (lst o).length ≤ 9223372036854775806) : ∀ (d i : Nat) (m : Int) (x : AO), i + d = (lst o).length →
    ∃ b, yfi (.int .i64 m) (slA o) (.int .i64 (lst o).length) (.int .i64 i) [x] = xB b := by
  intro d
  induction d with
  | zero =>
    intro i m x hi
    have hc : ¬ ((i : Int) < ((lst o).length : Int)) := by omega
    rw [yg7]
    simp only [yxj, yh, hc, decide_false, y5, yx9, y14, y128, y8r]
    exact ⟨_, rfl⟩
  | succ d ih =>
    intro i m x hi
    have hlt : i < (lst o).length := by omega
    have hc : ((i : Int) < ((lst o).length : Int)) := by omega
    have hw := y38 hlt (by omega)
    have k1 := ydm (o := o) (i := i) (List.getElem?_eq_getElem hlt) .i64
    rw [yg7]
    generalize (lst o)[i] = c at *
    have n1 : newC 0 (some 0) zCls [x] = some (.lp 0 (x.gen + 1) 0 0, [AC (x.gen + 1) zC]) := y8v (H := [x]) (fb := 0) (j := 0) rfl
    have s1 : evSt 7 (.lp 0 (x.gen + 1) 0 0) (.agg (enc c)) [AC (x.gen + 1) zC] = some (.tup [], [AC (x.gen + 1) c]) := y9f (H := [AC (x.gen + 1) zC]) rfl
    have l3 : evLd false 1 (.lp 0 (x.gen + 1) 0 3) [AC (x.gen + 1) c] = some (slA c.ifs) := y2p (H := [AC (x.gen + 1) c]) rfl (cls3 c)
    have l5 : evLd false 1 (.lp 0 (x.gen + 1) 0 5) [AC (x.gen + 1) c] = some (slA c.flds) := y2p (H := [AC (x.gen + 1) c]) rfl (cls5 c)
    have l6 : evLd false 1 (.lp 0 (x.gen + 1) 0 6) [AC (x.gen + 1) c] = some (slA c.mths) := y2p (H := [AC (x.gen + 1) c]) rfl (cls6 c)
    simp only [yxj, yh, hc, decide_true, y5, yx9, y22, y14f, k1, y3r, ye4, n1, yb, s1, y1o, Nat.zero_add, l3, l5, l6, y2g, y1a, y11r, hw]
    have := ih (i + 1) (IntKind.wrap .i64 (m + IntKind.wrap .i64 (IntKind.wrap .i64 (IntKind.wrap .i64 (1 + (lst c.ifs).length) + (lst c.flds).length) + (lst c.mths).length))) (AC (x.gen + 1) c) (by omega)
    push_cast at this
    exact this
theorem yu3 {o : Option (List Cls)} (hL : (lst o).length ≤ 9223372036854775806) : ∃ b, (y8 E).p 2 [slA o] = xB b := by
  rw [y1bs]
  unfold yoo ytu y15p
  simp only [y2g, y5]
  exact yn8 hL (lst o).length 0 0 _ (by omega)
theorem y17k {l : List Cls} {k : Int} (h : newM l = .error k) : k ≠ 0 := by
  unfold newM at h
  split at h
  · cases h; decide
  split at h
  · cases h; decide
  split at h
  · cases h; decide
  · split at h
    · cases h; decide
    · split at h
      · cases h
      · cases h; decide
end Go.Vm
namespace Go.Vm
open Cel
theorem yrf {f : Nat} {args : List AV} {fb : Nat} {H : Heap} (hf : E.fn f = none) : (y8 E).i f args fb H = E.xi f args fb H := by
  rw [ycm, ybz, hf]
theorem yh0 (cs : List AV) : y5t 0 false (.rp cs) .nilp = some (.bool false) := rfl
def txR (L : List Txt) : List (List AV) := L.map fun s => [.str s]
theorem yta (L : List Txt) : txR L = (L.map Tx.mk).map enc := by
  unfold txR
  rw [List.map_map]
  rfl
theorem yoh (L M : List Txt) : txR (L ++ M) = txR L ++ txR M := List.map_append
theorem yb7 (L : List Txt) : (txR L).length = L.length := List.length_map _
theorem yyt {l m : List Txt} (h : l.Perm m) : y1l l = y1l m := Go.mergeSort_of_perm h
theorem yet : ∀ L : List Txt, ygl (txR L) = some L
  | [] => rfl
  | s :: L => by
    have := yet L
    unfold txR at this ⊢
    rw [List.map_cons, ygl, this]
    rfl
def abV (n : Nat) (L : List Txt) : AV := match L with
  | [] => .nils
  | _ :: _ => .ls 1 n 1 0 L.length
def abO (n : Nat) (L : List Txt) : AO := match L with
  | [] => ⟨0, .dead⟩
  | _ :: _ => ⟨n, .arr false false 1 (txR L)⟩
def abS (L : List Txt) : St := ⟨[(5, abV L.length L)], [⟨2 * L.length, .dead⟩, abO L.length L]⟩
noncomputable def yby (q : AV × AV) (q0 : St) : Option St := ob (y4v 0 (AV.tup [q.1, q.2])) fun v19 => (yqo (tget q0.t 5) v19 q0.h)
theorem y18o {g n : Nat} {c : Txt} {L : List Txt} (hl : L.length ≤ 53) (h0 : L ≠ []) : y2t 0 (some 1) 1 16 (.ls 1 n 1 0 L.length) (.ls 0 g 1 0 1) [⟨g, .arr false false 1 [[.str c]]⟩, ⟨n, .arr false false 1 (txR L)⟩] =
    some (.ls 1 (n + 1) 1 0 (L.length + 1), [⟨g, .arr false false 1 [[.str c]]⟩, ⟨n + 1, .arr false false 1 (txR (L ++ [c]))⟩]) := by
  have hr : y19 [⟨g, .arr false false 1 [[.str c]]⟩, ⟨n, .arr false false 1 (txR L)⟩] 1 (.ls 0 g 1 0 1) = some [[.str c]] := by simp [y19, yf, y1z]
  have e48 : (2:Nat) ^ 48 = 281474976710656 := by decide
  unfold y2t
  rw [hr]
  simp only [List.getElem?_cons_succ, List.getElem?_cons_zero]
  rw [if_pos ⟨trivial, trivial, trivial, by rw [yb7]; omega, .inl (by rw [e48]; simp only [List.length_cons, List.length_nil]; omega)⟩]
  simp only [List.drop_zero, List.length_cons, List.length_nil, Nat.zero_add, List.set_cons_succ, List.set_cons_zero]
  rw [show L.length = (txR L).length from (yb7 L).symm, List.take_length, yoh]
  rfl
theorem y134 (c : Txt) (L : List Txt) (hl : L.length ≤ 53) : yby (.str c, .bool true) (abS L) = some (abS (L ++ [c])) := by
  cases L with
  | nil => rfl
  | cons a L =>
    have b : y28 0 (some 0) 1 1 [.str []] [(0, .str c)] [⟨2 * (a :: L).length, .dead⟩, ⟨(a :: L).length, .arr false false 1 (txR (a :: L))⟩] =
        some (.ls 0 (2 * (a :: L).length + 1) 1 0 1, [⟨2 * (a :: L).length + 1, .arr false false 1 [[.str c]]⟩, ⟨(a :: L).length, .arr false false 1 (txR (a :: L))⟩]) := rfl
    have ap := y18o (g := 2 * (a :: L).length + 1) (n := (a :: L).length) (c := c) hl (by simp)
    show yqo (.ls 1 (a :: L).length 1 0 (a :: L).length) (.str c) [⟨2 * (a :: L).length, .dead⟩, ⟨(a :: L).length, .arr false false 1 (txR (a :: L))⟩] = _
    unfold yqo
    rw [b]
    simp only [yb]
    rw [ap]
    simp only [yb]
    have e : (a :: L ++ [c]).length = (a :: L).length + 1 := by simp
    show some (⟨[(5, .ls 1 ((a :: L).length + 1) 1 0 ((a :: L).length + 1))], [⟨2 * (a :: L).length + 1 + 1, .dead⟩, ⟨(a :: L).length + 1, .arr false false 1 (txR (a :: L ++ [c]))⟩]⟩ : St) = some ⟨[(5, .ls 1 (a :: L ++ [c]).length 1 0 (a :: L ++ [c]).length)], [⟨2 * (a :: L ++ [c]).length, .dead⟩, ⟨(a :: L ++ [c]).length, .arr false false 1 (txR (a :: L ++ [c]))⟩]⟩
    rw [e, show 2 * (a :: L).length + 1 + 1 = 2 * ((a :: L).length + 1) by omega]
theorem yp8 : ∀ (l m : List Txt), m.length + l.length ≤ 53 → mfold (fun s q => yby q s) (sE l) (abS m) = some (abS (m ++ l))
  | [], m, _ => by rw [List.append_nil]; rfl
  | c :: l, m, h => by
    have ih := yp8 l (m ++ [c]) (by simp at h ⊢; omega)
    have hs := y134 c m (by simp at h; omega)
    simp only [sE, List.map_cons] at ih ⊢
    rw [mfold]
    simp only [hs]
    rw [ih, List.append_assoc]
    rfl
def abE (L : List Txt) : St := ⟨[(5, abV L.length L)], [⟨2 * L.length, .dead⟩, abO L.length (y1l L)]⟩
noncomputable def yee (q1 : St) : Option St := oh (y7 E (y8 E) 0 none false 180 [(tget q1.t 5)] q1.h) fun v25 h5 => some (⟨[(5, (tget q1.t 5))], h5⟩ : St)
theorem yfv : y1l [] = [] := by simp [y1l]
theorem E_xi : E.xi = xiS 180 := rfl
theorem y1a5 (L : List Txt) (hl : L.length ≤ 53) : yee (abS L) = some (abE L) := by
  cases L with
  | nil =>
    have : y7 E (y8 E) 0 none false 180 [.nils] [⟨0, .dead⟩, ⟨0, .dead⟩] = some (.tup [], [⟨0, .dead⟩, ⟨0, .dead⟩]) := by
      have h1 : E.pure 180 = false := by kernel_rfl
      simp only [y7, h1, Bool.false_and, Bool.false_eq_true, if_false]
      rw [yrf (by kernel_rfl)]
      rfl
    show yee ⟨[(5, .nils)], [⟨0, .dead⟩, ⟨0, .dead⟩]⟩ = _
    unfold yee
    show oh (y7 E (y8 E) 0 none false 180 [.nils] [⟨0, .dead⟩, ⟨0, .dead⟩]) _ = _
    rw [this]
    unfold abE
    rw [yfv]
    rfl
  | cons a L =>
    have hp := y67 (a :: L)
    obtain ⟨b, M, hs⟩ : ∃ b M, y1l (a :: L) = b :: M := by
      cases h : y1l (a :: L) with
      | nil => rw [h] at hp; simp at hp
      | cons b M => exact ⟨b, M, rfl⟩
    have : y7 E (y8 E) 0 none false 180 [.ls 1 (a :: L).length 1 0 (a :: L).length] [⟨2 * (a :: L).length, .dead⟩, ⟨(a :: L).length, .arr false false 1 (txR (a :: L))⟩] =
        some (.tup [], [⟨2 * (a :: L).length, .dead⟩, ⟨(a :: L).length, .arr false false 1 (txR (y1l (a :: L)))⟩]) := by
      have h1 : E.pure 180 = false := by kernel_rfl
      simp only [y7, h1, Bool.false_and, Bool.false_eq_true, if_false]
      rw [yrf (by kernel_rfl)]
      rw [E_xi]
      unfold xiS
      rw [if_pos rfl]
      simp only [List.getElem?_cons_succ, List.getElem?_cons_zero]
      rw [if_pos ⟨trivial, trivial, trivial, trivial, (yb7 _).symm, by simp only [List.length_cons] at hl ⊢; omega⟩, yet]
      rfl
    show oh (y7 E (y8 E) 0 none false 180 [.ls 1 (a :: L).length 1 0 (a :: L).length] [⟨2 * (a :: L).length, .dead⟩, ⟨(a :: L).length, .arr false false 1 (txR (a :: L))⟩]) _ = _
    rw [this]
    simp only [yb]
    unfold abE
    rw [hs]
    rfl
theorem y17e {l m : List Txt} (h : l.Perm m) : abE l = abE m := by
  unfold abE
  rw [yyt h, h.length_eq]
  cases l with
  | nil => rw [← List.Perm.nil_eq h]
  | cons a l =>
    cases m with
    | nil => have := h.length_eq; simp at this
    | cons b m =>
      have : abV (b :: m).length (a :: l) = abV (b :: m).length (b :: m) := by
        have e := h.length_eq
        unfold abV
        rw [e]
      rw [this]
theorem ybc.refl (s : St) : ybc s s := ⟨rfl, fun _ => yry.refl _⟩
def ybm (A : ATab) (n : Txt) : List Txt := y1l ((alook A n).getD [])
theorem yon {α : Type} (T : List Txt) (hl : T.length ≤ 53) (K : St → Option α) : orms (.rm (sE T)) yby yee [(5, .nils)] [⟨0, .dead⟩, ⟨0, .dead⟩] K = K (abE T) := by
  have hm : y9t [⟨0, .dead⟩, ⟨0, .dead⟩] (.rm (sE T)) = some (sE T, []) := rfl
  have : mall ybc (fun s q => yby q s) yee (sE T) (abS []) = some (abE T) := by
    have one : ∀ l : List Txt, l.Perm T → (mfold (fun s q => yby q s) (sE l) (abS [])).bind yee = some (abE T) := by
      intro l hp
      have hl2 : l.length ≤ 53 := by rw [hp.length_eq]; exact hl
      rw [yp8 l [] (by simpa using hl2)]
      show yee (abS l) = _
      rw [y1a5 l hl2, y17e hp]
    refine y36.2 ⟨one T (.refl _), fun π hp => ?_⟩
    obtain ⟨l, h1, rfl⟩ := y17r hp
    exact ⟨_, one l h1, ybc.refl _⟩
  unfold orms
  rw [hm]
  show (match mall ybc (fun s q => yby q s) yee (sE T) (abS []) with
    | some s' => K s'
    | none => none) = _
  rw [this]
theorem y0q (T : List Txt) : yo (abE T).h (tget (abE T).t 5) = some (exO (nz ((y1l T).map Tx.mk))) := by
  cases T with
  | nil => unfold abE; rw [yfv]; rfl
  | cons a L =>
    have hp := y67 (a :: L)
    obtain ⟨b, M, hs⟩ : ∃ b M, y1l (a :: L) = b :: M := by
      cases h : y1l (a :: L) with
      | nil => rw [h] at hp; simp at hp
      | cons b M => exact ⟨b, M, rfl⟩
    have hr : yf (abE (a :: L)).h 1 (a :: L).length = some (false, es Tx, ((y1l (a :: L)).map Tx.mk).map enc) := by
      unfold abE
      rw [hs, ← yta]
      simp [yf, y1z, abO, es]
    have := yfu (L := (y1l (a :: L)).map Tx.mk) hr
    rw [List.length_map, hp] at this
    rw [hs] at this ⊢
    exact this
theorem y14w {C : CTab} {N : List Txt} {A : ATab} (hT : TNd C A) (hA : AOk (upC C) A) (n : Txt) : (y8 E).p 179 [y1f C N A, .str n] = some (exO (nz ((ybm A n).map Tx.mk))) := by
  rw [y1cj]
  unfold y14z y120 y135 y13q y13i
  have n1 : yq (y1f C N A) = some (y1f C N A) := rfl
  have f1 : evFa 2 (y1f C N A) = some (.rp [.rm (tE sV A)]) := rfl
  have l1 : ∀ H : Heap, evLd false 1 (.rp [.rm (tE sV A)]) H = some (.rm (tE sV A)) := fun _ => rfl
  have g1 : ∀ H : Heap, yy false [2] .nilm false (.rm (tE sV A)) (.str n) H = some (mgV sV .nilm false (tlook A n)) := fun H => yeo sV H A n .nilm false
  have ha : tlook A n = alook A n := rfl
  simp only [yh0, y5, y14, n1, f1, l1, g1, ha]
  unfold ybm
  cases hk : alook A n with
  | none =>
    have h0 : ∀ K : St → Option (Ex AV), orms (mgV sV .nilm false none) yby yee [(5, .nils)] [⟨0, .dead⟩, ⟨0, .dead⟩] K = K (abE []) := fun K => by
      have := yon [] (by simp) K
      have e : y9t [⟨0, .dead⟩, ⟨0, .dead⟩] .nilm = y9t [⟨0, .dead⟩, ⟨0, .dead⟩] (.rm (sE [])) := rfl
      unfold orms at this ⊢
      rw [← this, y118, e]
    exact (h0 _).trans (y0q [])
  | some S =>
    exact (yon S (hT.small hA (y8q hk)) _).trans (y0q S)
theorem y15s (C : CTab) (N : List Txt) (A : ATab) (hN : N ≠ []) (hl : N.length ≤ 53) : (y8 E).p 177 [y1f C N A] = some (exO (some (N.map Tx.mk))) := by
  rw [y1d0]
  unfold y14t y13v y16f
  have n1 : yq (y1f C N A) = some (y1f C N A) := rfl
  have f1 : evFa 1 (y1f C N A) = some (.rp [slA (some (N.map Tx.mk)), .rm (tE sV A)]) := rfl
  have l1 : ∀ H : Heap, evLd false 1 (.rp [slA (some (N.map Tx.mk)), .rm (tE sV A)]) H = some (slA (some (N.map Tx.mk))) := fun _ => rfl
  have ap : y2t 0 (some 0) 1 16 .nils (slA (some (N.map Tx.mk))) [⟨0, .dead⟩] = some (.ls 0 1 1 0 (N.map Tx.mk).length, [⟨1, .arr false false 1 ((N.map Tx.mk).map enc)⟩]) := by
    have hr : y19 [⟨0, .dead⟩] 1 (slA (some (N.map Tx.mk))) = some ((N.map Tx.mk).map enc) := rfl
    have e48 : (2:Nat) ^ 48 = 281474976710656 := by decide
    simp only [y2t, hr]
    have h1 : ((N.map Tx.mk).map enc).isEmpty = false := by cases N with
      | nil => exact (hN rfl).elim
      | cons a N => rfl
    rw [h1, if_neg (by simp), if_pos (by rw [e48]; simp only [List.length_map]; omega)]
    simp only [y2k, place, Nat.add_zero, List.getElem?_cons_zero, List.length_map]
    rfl
  simp only [yh0, y5, y14, n1, f1, l1, ap, yb]
  exact yfu (L := N.map Tx.mk) (id := 0) (g := 1) rfl
def clsV (o : Option Cls) : AV := match o with
  | some c => .tup [.agg (enc c), .bool true]
  | none => .tup [.agg zCls, .bool false]
theorem yz6 (C : CTab) (N : List Txt) (A : ATab) (n : Txt) : ∃ fr, (y8 E).p 178 [y1f C N A, .str n] = some ⟨clsV (tlook C n), [], fr, [], []⟩ := by
  rw [y1cf]
  unfold y14y y11w y126
  have n0 : newC 0 (some 0) zCls [⟨0, .dead⟩, ⟨0, .dead⟩] = some (.lp 0 1 0 0, [AC 1 zC, ⟨0, .dead⟩]) := rfl
  have n1 : yq (y1f C N A) = some (y1f C N A) := rfl
  have f1 : evFa 0 (y1f C N A) = some (y1f C N A) := rfl
  have l1 : ∀ H : Heap, evLd false 1 (y1f C N A) H = some (.rm (tE cV C)) := fun _ => rfl
  have g1 : ∀ H : Heap, yy false [2] (.agg zCls) true (.rm (tE cV C)) (.str n) H = some (mgV cV (.agg zCls) true (tlook C n)) := fun H => yeo cV H C n _ true
  obtain ⟨c, hc, hv⟩ : ∃ c : Cls, (mgV cV (.agg zCls) true (tlook C n)) = .tup [.agg (enc c), .bool (tlook C n).isSome] ∧ clsV (tlook C n) = .tup [.agg (enc c), .bool (tlook C n).isSome] := by
    cases tlook C n with
    | none => exact ⟨zC, rfl, rfl⟩
    | some c => exact ⟨c, rfl, rfl⟩
  have n2 : newC 0 (some 1) zCls [AC 1 zC, ⟨0, .dead⟩] = some (.lp 1 1 0 0, [AC 1 zC, AC 1 zC]) := rfl
  have s1 : evSt 7 (.lp 1 1 0 0) (.agg (enc c)) [AC 1 zC, AC 1 zC] = some (.tup [], [AC 1 zC, AC 1 c]) := y9f (H := [AC 1 zC, AC 1 zC]) rfl
  have l2 : evLd true 7 (.lp 1 1 0 0) [AC 1 zC, AC 1 c] = some (.agg (enc c)) := ydz rfl
  have s2 : evSt 7 (.lp 0 1 0 0) (.agg (enc c)) [AC 1 zC, AC 1 c] = some (.tup [], [AC 1 c, AC 1 c]) := y9f (H := [AC 1 zC, AC 1 c]) rfl
  have l3 : evLd true 7 (.lp 0 1 0 0) [AC 1 c, AC 1 c] = some (.agg (enc c)) := ydz rfl
  simp only [n0, yb, yh0, y5, y14, n1, f1, l1, g1, hc, y1y, List.getElem?_cons_zero, List.getElem?_cons_succ, n2, s1, l2, s2, l3]
  rw [hv, ypa, y25, yyw (k := 9)]
  exact ⟨_, rfl⟩
end Go.Vm
namespace Go.Vm
open Cel
theorem y03 {C : CTab} {A : ATab} (K : AOk (upC C) A) {n s : Txt} {S : List Txt} (h : (n, S) ∈ A) (hs : s ∈ upC C n) : ∃ T, (s, T) ∈ A ∧ ∀ x ∈ T, x ∈ S ∧ x ≠ n := by
  have key : ∀ {A : ATab}, AOk (upC C) A → ∀ {n s : Txt} {S : List Txt}, (n, S) ∈ A → s ∈ upC C n → ∃ T, (s, T) ∈ A ∧ ∀ x ∈ T, x ∈ S := by
    intro A K
    induction K with
    | nil => intro n s S h; cases h
    | @snoc A n S hA hn hS hup hin ih =>
      intro m s U hm hs
      rcases List.mem_append.1 hm with hm | hm
      · obtain ⟨T, h1, h2⟩ := ih hm hs
        exact ⟨T, List.mem_append_left _ h1, h2⟩
      · rw [List.mem_singleton] at hm
        injection hm with e1 e2
        subst e1; subst e2
        obtain ⟨T, h1, h2⟩ := hup s hs
        exact ⟨T, List.mem_append_left _ h1, h2⟩
  obtain ⟨T, h1, h2⟩ := key K h hs
  exact ⟨T, h1, fun x hx => ⟨h2 x hx, fun e => K.apart h hs h1 (e ▸ hx)⟩⟩
theorem ylw {up : Txt → List Txt} {A : ATab} (K : AOk up A) {n : Txt} {S : List Txt} (h : (n, S) ∈ A) : alook A n = some S := by
  cases ha : alook A n with
  | none => exact (ydb ha (y6m h)).elim
  | some T => rw [K.uniq h (y8q ha)]
abbrev CntT := List (Txt × Int)
abbrev iV (n : Int) : AV := .int .i64 n
def cnt1 (L : List Txt) : CntT := L.map fun x => (x, 1)
theorem ygn (L : List Txt) (x : Txt) : tlook (cnt1 L) x = if x ∈ L then some 1 else none := by
  induction L with
  | nil => rfl
  | cons y L ih =>
    unfold tlook at ih ⊢
    simp only [cnt1, List.map_cons, List.find?_cons] at ih ⊢
    by_cases e : y = x
    · subst e; simp
    · rw [decide_eq_false e]
      simp only
      rw [ih]
      have : x ≠ y := fun h => e h.symm
      simp [this]
theorem yza (L : List Txt) (x : Txt) : cnt1 (L ++ [x]) = cnt1 L ++ [(x, 1)] := by simp [cnt1]
theorem ymu {H : Heap} {id g : Nat} {fz : Bool} {L : List Txt} (h : H[id]? = some ⟨g, .map fz (tE iV (cnt1 L))⟩) (x : Txt) : yy false [2] (.int .i64 0) false (.lm id g) (.str x) H = some (.int .i64 (if x ∈ L then 1 else 0)) := by
  rw [yah iV h, ygn]
  by_cases e : x ∈ L <;> simp [e]
theorem In6 {v3 v6 v10 v32 v33 v34 v93 v94 v95 : AV} {n : Txt} (S T : List Txt) (h6 : v6 = .str n) (hT : ∀ x ∈ T, x ∈ S ∧ x ≠ n) (hl : T.length ≤ 53) {H : Heap} {id g : Nat} (h10 : v10 = .lm id g) (hH : H[id]? = some ⟨g, .map false (tE iV (cnt1 S))⟩) : ∀ (d i : Nat), i + d = T.length →
    yfb v3 v6 v10 v32 v33 v34 v93 v94 v95 (slA (nz (T.map Tx.mk))) (.int .i64 T.length) (.int .i64 i) H = ynb v3 v6 v10 v32 v33 v34 v93 v94 v95 H := by
  intro d
  induction d with
  | zero =>
    intro i hi
    have hc : ¬ ((i : Int) < (T.length : Int)) := by omega
    rw [yfm]
    simp only [yjo, yy6, yh, hc, decide_false, y5, y14]
  | succ d ih =>
    intro i hi
    have hlt : i < T.length := by omega
    have hc : ((i : Int) < (T.length : Int)) := by omega
    have hw := y38 hlt (by omega)
    have k1 := ycf (o := nz (T.map Tx.mk)) (x := ⟨T[i]⟩) (i := i) (by simp [hlt]) .i64
    obtain ⟨t1, t2⟩ := hT T[i] (List.getElem_mem hlt)
    rw [yfm]
    generalize T[i] = x at *
    have g1 := ymu (x := x) hH
    rw [if_pos t1] at g1
    subst h6; subst h10
    have e1 : decide (x = n) = false := decide_eq_false t2
    simp only [yjo, yy6, yh, hc, decide_true, y5, y22, y12p, k1, y3r, y7c, List.head?_cons, g1, y4y, y2h, ne_eq, not_true_eq_false, decide_false, y4x, e1, yz, y14, y14m, y1a, hw]
    have := ih (i + 1) (by omega)
    push_cast at this
    exact this
theorem yto : ∀ a b : List UInt8, y32 a b = true ↔ a < b
  | a, [] => by cases a <;> simp [y32]
  | [], b :: y => by simp [y32]
  | a :: x, b :: y => by
    rw [y32, List.cons_lt_cons_iff, Bool.or_eq_true, Bool.and_eq_true, decide_eq_true_eq, beq_iff_eq, yto x y]
theorem ynt (a b : List UInt8) : y9 .geq (.str a) (.str b) = some (.bool (!(y32 a b))) := rfl
theorem yus {L : List Txt} (h : L.Nodup) : (y1l L).Pairwise (· < ·) := by
  have tr : ∀ a b c : List UInt8, decide (a ≤ b) = true → decide (b ≤ c) = true → decide (a ≤ c) = true := fun a b c h1 h2 => by simp only [decide_eq_true_eq] at *; exact List.le_trans h1 h2
  have to : ∀ a b : List UInt8, (decide (a ≤ b) || decide (b ≤ a)) = true := fun a b => by simp only [Bool.or_eq_true, decide_eq_true_eq]; exact List.le_total a b
  have h1 : (y1l L).Pairwise (fun a b => decide (a ≤ b) = true) := List.pairwise_mergeSort tr to L
  have h2 : (y1l L).Pairwise (· ≠ ·) := (y46 L).nodup_iff.2 h
  refine (List.pairwise_and_iff.2 ⟨h1, h2⟩).imp ?_
  intro a b hab
  have e1 := of_decide_eq_true hab.1
  rcases List.le_iff_lt_or_eq.1 e1 with h | h
  · exact h
  · exact (hab.2 h).elim
theorem y19f {B : List Txt} (h : B.Pairwise (· < ·)) {i : Nat} (h1 : i + 1 < B.length) : y32 (B[i]'(by omega)) B[i + 1] = true :=
  (yto _ _).2 (List.pairwise_iff_getElem.1 h i (i + 1) (by omega) h1 (by omega))
theorem y17c {fb id g b : Nat} {sl : Option Nat} {rows ys : List (List AV)} {y : AV} {H : Heap} (h : H[id]? = some ⟨g, .arr false false 1 rows⟩) (hy : y19 H 1 y = some ys) (hb : (rows.length + ys.length + (rows.length + ys.length) / 4 + 512) * b ≤ 2 ^ 48) :
    y2t fb sl 1 b (.ls id g 1 0 rows.length) y H = some (.ls id (g + 1) 1 0 (rows.length + ys.length), H.set id ⟨g + 1, .arr false false 1 (rows ++ ys)⟩) := by
  unfold y2t
  rw [hy]
  simp only [h]
  rw [if_pos ⟨trivial, trivial, trivial, by omega, .inr hb⟩]
  simp
theorem yu8 {fb j b : Nat} {o : AO} {ys : List (List AV)} {y : AV} {H : Heap} (h : H[fb + j]? = some o) (hy : y19 H 1 y = some ys) (h0 : ys ≠ []) (hb : ys.length * b ≤ 2 ^ 48) :
    y2t fb (some j) 1 b .nils y H = some (.ls (fb + j) (o.gen + 1) 1 0 ys.length, H.set (fb + j) ⟨o.gen + 1, .arr false false 1 ys⟩) := by
  unfold y2t
  rw [hy]
  have h1 : ys.isEmpty = false := by cases ys with
    | nil => exact (h0 rfl).elim
    | cons => rfl
  simp only [h1]
  rw [if_neg (by simp), if_pos hb]
  simp only [y2k, place, h]
theorem y131 {fb b : Nat} {sl : Option Nat} {y : AV} {H : Heap} (hy : y19 H 1 y = some []) : y2t fb sl 1 b .nils y H = some (.nils, H) := by
  unfold y2t
  rw [hy]
  rfl
theorem ywr {H : Heap} (o : Option (List Tx)) : y19 H 1 (slA o) = some (txR ((lst o).map (·.s))) := by
  cases o with
  | none => rfl
  | some L =>
    show some (L.map enc) = some (txR (L.map (·.s)))
    have : (L.map (·.s)).map Tx.mk = L := by rw [List.map_map]; exact List.map_id L
    rw [yta, this]
def upsL (c : Cls) : List Txt := (lst c.ifs).map (·.s) ++ [c.sup]
structure AbRep (H : Heap) (c : Cls) (g0 g1 : Nat) (S : List Txt) : Prop where
  len : H.length = 5
  cls : H[0]? = some (AC g0 c)
  cnt : H[1]? = some ⟨g1, .map false (tE iV (cnt1 S))⟩
theorem In20 {v3 v6 v10 v32 v33 v34 : AV} {H : Heap} {c : Cls} {g0 g1 : Nat} {S : List Txt} (R : AbRep H c g0 g1 S) (hb : (lst c.ifs).length * 16 ≤ reachBytes) :
    ∃ id g H', yik v3 v6 (.lp 0 g0 0 0) v10 v32 v33 v34 H = yd9 v3 v6 v10 v32 v33 v34 (.ls id g 1 0 (upsL c).length) (.int .i64 (upsL c).length) (.int .i64 0) H' ∧
      H'[id]? = some ⟨g, .arr false false 1 (txR (upsL c))⟩ ∧ AbRep H' c g0 g1 S := by
  have rb : reachBytes = 140737488351232 := rfl
  have e48 : (2:Nat) ^ 48 = 281474976710656 := by decide
  rw [rb] at hb
  obtain ⟨o2, h2⟩ : ∃ o, H[2]? = some o := ⟨_, List.getElem?_eq_getElem (by rw [R.len]; omega)⟩
  obtain ⟨o3, h3⟩ : ∃ o, H[3]? = some o := ⟨_, List.getElem?_eq_getElem (by rw [R.len]; omega)⟩
  obtain ⟨o4, h4⟩ : ∃ o, H[4]? = some o := ⟨_, List.getElem?_eq_getElem (by rw [R.len]; omega)⟩
  have l3 : evLd false 1 (.lp 0 g0 0 3) H = some (slA c.ifs) := y2p R.cls (cls3 c)
  have hB : ∀ (H : Heap) (o : AO), H[3]? = some o → y28 0 (some 3) 1 1 [.str []] [(0, .str c.sup)] H = some (.ls 3 (o.gen + 1) 1 0 1, H.set 3 ⟨o.gen + 1, .arr false false 1 [[.str c.sup]]⟩) := by
    intro H o ho
    simp only [y28, y43, y2k, place, Nat.zero_add, ho]
    rfl
  have hy : ∀ (H : Heap) (g : Nat), H[3]? = some ⟨g, .arr false false 1 [[.str c.sup]]⟩ → y19 H 1 (.ls 3 g 1 0 1) = some [[.str c.sup]] := by
    intro H g ho
    simp [y19, yf, y1z, ho]
  unfold yik
  simp only [y1o, Nat.zero_add, l3, y5, y159]
  by_cases he : (lst c.ifs).map (·.s) = []
  · have r1 := ywr (H := H) c.ifs
    rw [he] at r1
    rw [y131 (by exact r1)]
    simp only [yb]
    have l2 : evLd false 1 (.lp 0 g0 0 2) H = some (.str c.sup) := y2p R.cls (cls2 c)
    simp only [l2, y5, hB H o3 h3, yb]
    have h3' : (H.set 3 ⟨o3.gen + 1, .arr false false 1 [[.str c.sup]]⟩)[3]? = some ⟨o3.gen + 1, .arr false false 1 [[.str c.sup]]⟩ := y26 (y17 h3)
    have h4' : (H.set 3 ⟨o3.gen + 1, .arr false false 1 [[.str c.sup]]⟩)[0 + 4]? = some o4 := by rw [yj (by omega)]; exact h4
    rw [yu8 h4' (hy _ _ h3') (by simp) (by rw [e48]; simp)]
    simp only [yb, y9v, y5]
    have hu : upsL c = [c.sup] := by unfold upsL; rw [he]; rfl
    refine ⟨4, o4.gen + 1, (H.set 3 ⟨o3.gen + 1, .arr false false 1 [[.str c.sup]]⟩).set (0 + 4) ⟨o4.gen + 1, .arr false false 1 [[.str c.sup]]⟩, ?_, ?_, ⟨?_, ?_, ?_⟩⟩
    · rw [hu]; rfl
    · rw [hu]
      exact y26 (by rw [List.length_set, R.len]; omega)
    · simp [R.len]
    · rw [yj (by omega), yj (by omega)]; exact R.cls
    · rw [yj (by omega), yj (by omega)]; exact R.cnt
  · have r1 := ywr (H := H) c.ifs
    have hl : (txR ((lst c.ifs).map (·.s))).length = (lst c.ifs).length := by rw [yb7, List.length_map]
    rw [yu8 (fb := 0) (j := 2) (by exact h2) (by exact r1) (fun e => he (by unfold txR at e; exact List.map_eq_nil_iff.1 e)) (by rw [e48, hl]; omega)]
    simp only [yb, Nat.zero_add]
    generalize hH1 : H.set 2 ⟨o2.gen + 1, .arr false false 1 (txR ((lst c.ifs).map (·.s)))⟩ = H1
    have q0 : H1[0]? = some (AC g0 c) := by rw [← hH1, yj (by omega)]; exact R.cls
    have q1 : H1[1]? = some ⟨g1, .map false (tE iV (cnt1 S))⟩ := by rw [← hH1, yj (by omega)]; exact R.cnt
    have q2 : H1[2]? = some ⟨o2.gen + 1, .arr false false 1 (txR ((lst c.ifs).map (·.s)))⟩ := by rw [← hH1]; exact y26 (y17 h2)
    have q3 : H1[3]? = some o3 := by rw [← hH1, yj (by omega)]; exact h3
    have ql : H1.length = 5 := by rw [← hH1, List.length_set]; exact R.len
    have l2 : evLd false 1 (.lp 0 g0 0 2) H1 = some (.str c.sup) := y2p q0 (cls2 c)
    simp only [l2, y5, hB H1 o3 q3, yb]
    have q3' : (H1.set 3 ⟨o3.gen + 1, .arr false false 1 [[.str c.sup]]⟩)[3]? = some ⟨o3.gen + 1, .arr false false 1 [[.str c.sup]]⟩ := y26 (y17 q3)
    have q2' : (H1.set 3 ⟨o3.gen + 1, .arr false false 1 [[.str c.sup]]⟩)[2]? = some ⟨o2.gen + 1, .arr false false 1 (txR ((lst c.ifs).map (·.s)))⟩ := by rw [yj (by omega)]; exact q2
    rw [y17c q2' (hy _ _ q3') (by rw [e48, hl]; simp only [List.length_cons, List.length_nil]; omega)]
    simp only [yb, y9v, y5]
    have hu : txR (upsL c) = txR ((lst c.ifs).map (·.s)) ++ [[.str c.sup]] := by unfold upsL; rw [yoh]; rfl
    have hul : (upsL c).length = (txR ((lst c.ifs).map (·.s))).length + 1 := by rw [← yb7, hu]; simp
    refine ⟨2, o2.gen + 1 + 1, (H1.set 3 ⟨o3.gen + 1, .arr false false 1 [[.str c.sup]]⟩).set 2 ⟨o2.gen + 1 + 1, .arr false false 1 (txR ((lst c.ifs).map (·.s)) ++ [[.str c.sup]])⟩, ?_, ?_, ⟨?_, ?_, ?_⟩⟩
    · rw [hul]; rfl
    · rw [hu]
      exact y26 (by rw [List.length_set, ql]; omega)
    · simp [ql]
    · rw [yj (by omega), yj (by omega)]; exact q0
    · rw [yj (by omega), yj (by omega)]; exact q1
section
variable {C : CTab} {N : List Txt} {A : ATab} (hT : TNd C A) (hA : AOk (upC C) A)
include hT hA
theorem yd8 {fb : Nat} {H : Heap} (n : Txt) : y7 E (y8 E) fb none true 179 [y1f C N A, .str n] H = some (slA (nz ((ybm A n).map Tx.mk)), H) :=
  y30 (by kernel_rfl) (fa := ⟨[y1f C N A, .str n], false, []⟩) rfl rfl (y14w hT hA n) (y6k _)
theorem In4 {v3 v32 v33 v34 : AV} {n : Txt} {c : Cls} {S : List Txt} (hc : tlook C n = some c) (hv3 : v3 = y1f C N A) (hn : (n, S) ∈ A) {H : Heap} {g0 g1 id g : Nat} (R : AbRep H c g0 g1 (y1l S)) (hb : (lst c.ifs).length * 16 ≤ reachBytes)
    (hH : H[id]? = some ⟨g, .arr false false 1 (txR (upsL c))⟩) : ∀ (d i : Nat), i + d = (upsL c).length →
    yd9 v3 (.str n) (.lm 1 g1) v32 v33 v34 (.ls id g 1 0 (upsL c).length) (.int .i64 (upsL c).length) (.int .i64 i) H = yhu v3 v32 v33 v34 H := by
  have rb : reachBytes = 140737488351232 := rfl
  rw [rb] at hb
  have hul : (upsL c).length = (lst c.ifs).length + 1 := by unfold upsL; simp
  intro d
  induction d with
  | zero =>
    intro i hi
    have hc : ¬ ((i : Int) < ((upsL c).length : Int)) := by omega
    rw [ygk]
    simp only [yen, yfn, yh, hc, decide_false, y5, y14]
  | succ d ih =>
    intro i hi
    have hlt : i < (upsL c).length := by omega
    have hc2 : ((i : Int) < ((upsL c).length : Int)) := by omega
    have hw := y38 hlt (by omega)
    have ix := yxl (n := (upsL c).length) (p := (i : Int)) (by omega) hc2 id g .i64
    rw [show ((i : Int)).toNat = i by omega] at ix
    have hld : evLd false 1 (.lp id g i 0) H = some (.str (upsL c)[i]) := yj0 (es := 1) hH (by unfold txR; simp [hlt])
    have hmem : (upsL c)[i] ∈ upsL c := List.getElem_mem hlt
    rw [ygk]
    generalize (upsL c)[i] = p at *
    have ih := ih (i + 1) (by omega)
    push_cast at ih
    have step : ynb v3 (.str n) (.lm 1 g1) v32 v33 v34 (.ls id g 1 0 (upsL c).length) (.int .i64 (upsL c).length) (.int .i64 i) H = yhu v3 v32 v33 v34 H := by
      simp only [ynb, y1a, hw, y5]
      exact ih
    by_cases hp : p = []
    · simp only [yen, yfn, yh, hc2, decide_true, y5, y22, yms, ix, hld, ykg, y2h, hp, step]
    · have hup : p ∈ upC C n := by
        have hu : upC C n = upOf c := by unfold upC; rw [show clook C n = tlook C n from rfl, hc]
        rw [hu]
        unfold upOf
        unfold upsL at hmem
        rcases List.mem_append.1 hmem with h | h
        · exact List.mem_append_left _ h
        · rw [List.mem_singleton] at h
          rw [← h, if_neg hp]
          exact List.mem_append_right _ (by simp)
      obtain ⟨T, hT1, hT2⟩ := y03 hA hn hup
      have ea : ybm A p = y1l T := by unfold ybm; rw [ylw hA hT1]; rfl
      have hl6 := In6 (v3 := v3) (v6 := .str n) (v10 := .lm 1 g1) (v32 := v32) (v33 := v33) (v34 := v34) (v93 := .ls id g 1 0 (upsL c).length) (v94 := .int .i64 (upsL c).length) (v95 := .int .i64 i) (y1l S) (y1l T) rfl
        (fun x hx => by
          obtain ⟨a, b⟩ := hT2 x ((y46 T).mem_iff.1 hx)
          exact ⟨(y46 S).mem_iff.2 a, b⟩) (by rw [y67]; exact hT.small hA hT1) rfl R.cnt (y1l T).length 0 (by omega)
      have hcall := yd8 (N := N) hT hA (fb := 0) (H := H) p
      rw [ea] at hcall
      simp only [yen, yfn, yh, hc2, decide_true, y5, y22, yms, ix, hld, ykg, y2h, hp, decide_false, y14, yvb]
      subst hv3
      rw [hcall]
      simp only [yb, y2g, ytq, List.length_map, y5]
      exact hl6.trans step
theorem In22 {v3 v7 v32 v33 v34 : AV} {n : Txt} {B : List Txt} (hB : B.Pairwise (· < ·)) (hl : B.length ≤ 53) {c : Cls} {g0 g1 : Nat} : ∀ (d i : Nat) (H : Heap), i + d = B.length → AbRep H c g0 g1 (B.take i) →
    ∃ H', AbRep H' c g0 g1 B ∧ ybg v3 (.str n) v7 (slA (nz (B.map Tx.mk))) (.lm 1 g1) v32 v33 v34 (slA (nz (B.map Tx.mk))) (.int .i64 B.length) (.int .i64 i) H = yfo v3 (.str n) v7 (.lm 1 g1) v32 v33 v34 H' := by
  intro d
  induction d with
  | zero =>
    intro i H hi R
    have hc : ¬ ((i : Int) < (B.length : Int)) := by omega
    rw [List.take_of_length_le (by omega)] at R
    refine ⟨H, R, ?_⟩
    rw [yd3]
    simp only [yep, yg1, yh, hc, decide_false, y5, y14]
  | succ d ih =>
    intro i H hi R
    have hlt : i < B.length := by omega
    have hc : ((i : Int) < (B.length : Int)) := by omega
    have hw := y38 hlt (by omega)
    have k1 := ycf (o := nz (B.map Tx.mk)) (x := ⟨B[i]⟩) (i := i) (by simp [hlt]) .i64
    have hnew : B[i] ∉ B.take i := by
      intro hm
      obtain ⟨j, hj, e⟩ := List.mem_take_iff_getElem.1 hm
      have := List.pairwise_iff_getElem.1 hB j i (by omega) hlt (by omega)
      rw [e] at this
      exact List.lt_irrefl _ this
    have g2 := ymu (x := B[i]) R.cnt
    rw [if_neg hnew] at g2
    have hlk : tlook (cnt1 (B.take i)) B[i] = none := by rw [ygn, if_neg hnew]
    have m1 := ydt iV R.cnt B[i] 1 hlk
    rw [← yza, List.take_append_getElem hlt] at m1
    have R' : AbRep (H.set 1 ⟨g1, .map false (tE iV (cnt1 (B.take (i + 1))))⟩) c g0 g1 (B.take (i + 1)) :=
      ⟨by rw [List.length_set]; exact R.len, by rw [yj (by omega)]; exact R.cls, y26 (by rw [R.len]; omega)⟩
    obtain ⟨H', R2, e2⟩ := ih (i + 1) _ (by omega) R'
    push_cast at e2
    refine ⟨H', R2, ?_⟩
    rw [yd3]
    have w01 : IntKind.wrap .i64 (0 + 1) = 1 := by decide
    by_cases h0 : i = 0
    · subst h0
      have hz : decide ((0 : Int) < ((0 : Nat) : Int)) = false := by decide
      simp only [yep, yg1, yh, hc, decide_true, y5, y22, ymb, k1, y3r, y7c, List.head?_cons, g2, y1a, w01, m1, yb, y4f, hz, y7o, yc6, yz, y14, yke, hw]
      exact e2
    · have hp : decide ((0 : Int) < (i : Int)) = true := decide_eq_true (by omega)
      have hm1 : IntKind.wrap .i64 ((i : Int) - 1) = ((i - 1 : Nat) : Int) := by rw [yeg (by omega) (by omega)]; omega
      have k2 := ycf (o := nz (B.map Tx.mk)) (x := ⟨B[i - 1]⟩) (i := i - 1) (by rw [ytq, List.getElem?_map, List.getElem?_eq_getElem (by omega)]; rfl) .i64
      have hasc : y32 B[i - 1] B[i] = true := by
        have := y19f hB (i := i - 1) (by omega)
        have e : i - 1 + 1 = i := by omega
        simpa only [e] using this
      simp only [yep, yg1, yh, hc, decide_true, y5, y22, ymb, k1, y3r, y7c, List.head?_cons, g2, y1a, w01, m1, yb, y4f, hp, y4h, yae, hm1, k2, ynt, hasc, Bool.not_true, yr, y14, yke, hw]
      exact e2
end
theorem ynw {fb : Nat} {H : Heap} (C : CTab) (N : List Txt) (A : ATab) (hN : N ≠ []) (hl : N.length ≤ 53) : y7 E (y8 E) fb none true 177 [y1f C N A] H = some (slA (some (N.map Tx.mk)), H) :=
  y30 (by kernel_rfl) (fa := ⟨[y1f C N A], false, []⟩) rfl rfl (y15s C N A hN hl) (y6k _)
theorem y13f (o : Option Cls) : ∃ fr, fz [] yx (clsV o) = some ⟨clsV o, fr, []⟩ := by
  have key : ∀ (c : Cls) (b : Bool), ∃ fr, fz [] yx (.tup [.agg (enc c), .bool b]) = some ⟨.tup [.agg (enc c), .bool b], fr, []⟩ := fun c b => by
    have e : fz [] 11 (.agg (enc c)) = some ⟨.agg (enc c), (enc c).all yu, []⟩ := by
      rw [yaw, ya2 [] 9 (pur c)]
    have e2 : fz [] yx (.tup [.agg (enc c), .bool b]) = match yd (fz [] 11) [.agg (enc c), .bool b] with
      | some r => some ⟨.tup r.v, r.fresh, r.ids⟩
      | none => none := rfl
    rw [e2, y1c, e]
    exact ⟨_, rfl⟩
  cases o with
  | none => exact key zC false
  | some c => exact key c true
theorem yh3 {fb : Nat} {H : Heap} (C : CTab) (N : List Txt) (A : ATab) (n : Txt) : y7 E (y8 E) fb none true 178 [y1f C N A, .str n] H = some (clsV (tlook C n), H) := by
  obtain ⟨fr, h1⟩ := yz6 C N A n
  obtain ⟨fr2, h2⟩ := y13f (tlook C n)
  exact y30 (by kernel_rfl) (fa := ⟨[y1f C N A, .str n], false, []⟩) rfl rfl h1 ⟨_, h2, rfl⟩
theorem y1bp {C : CTab} {A : ATab} (T : TOk C A) {n : Txt} (hn : n ∈ ckeys C) : ∃ c S, tlook C n = some c ∧ (n, S) ∈ A := by
  obtain ⟨c, hc⟩ := y64.1 hn
  obtain ⟨S, hS⟩ := yhb (T.keys _ _ hc)
  exact ⟨c, S, hc, hS⟩
theorem yhv {C : CTab} {A : ATab} {N : List Txt} (T : TOk C A) (hT : TNd C A) (hC : ∀ n c, tlook C n = some c → (lst c.ifs).length * 16 ≤ reachBytes) {n : Txt} (hn : n ∈ ckeys C) (v32 v33 v34 : AV) (H : Heap) (hl : H.length = 5) :
    ∃ H', H'.length = 5 ∧ ymy (y1f C N A) (.str n) v32 v33 v34 H = yhu (y1f C N A) v32 v33 v34 H' := by
  obtain ⟨c, S, hc, hS⟩ := y1bp T hn
  obtain ⟨o0, h0⟩ : ∃ o, H[0]? = some o := ⟨_, List.getElem?_eq_getElem (by omega)⟩
  obtain ⟨o1, h1⟩ : ∃ o, H[1]? = some o := ⟨_, List.getElem?_eq_getElem (by omega)⟩
  have n0 : newC 0 (some 0) zCls H = some (.lp 0 (o0.gen + 1) 0 0, H.set 0 (AC (o0.gen + 1) zC)) := by
    have := y8v (H := H) (fb := 0) (j := 0) (by exact h0)
    simpa using this
  have s0 : evSt 7 (.lp 0 (o0.gen + 1) 0 0) (.agg (enc c)) (H.set 0 (AC (o0.gen + 1) zC)) = some (.tup [], H.set 0 (AC (o0.gen + 1) c)) := by
    have := y9f (H := H.set 0 (AC (o0.gen + 1) zC)) (c := zC) (d := c) (y26 (y17 h0))
    rwa [List.set_set] at this
  have ea : ybm A n = y1l S := by unfold ybm; rw [ylw T.ok hS]; rfl
  have hnd : S.Nodup := hT.nd _ hS
  have hl53 := hT.small T.ok hS
  have hself : n ∈ y1l S := (y46 S).mem_iff.2 (T.ok.self hS)
  have hobj : sObj ∈ y1l S := (y46 S).mem_iff.2 (T.ok.top T.top hS)
  have hne : (y1l S).length ≠ 0 := fun e => by
    rw [List.eq_nil_of_length_eq_zero e] at hself
    cases hself
  have hcls : clsV (tlook C n) = .tup [.agg (enc c), .bool true] := by rw [hc]; rfl
  have cA := yd8 (N := N) hT T.ok (fb := 0) (H := H.set 0 (AC (o0.gen + 1) c)) n
  rw [ea] at cA
  have h1' : (H.set 0 (AC (o0.gen + 1) c))[0 + 1]? = some o1 := by rw [yj (by omega)]; exact h1
  have m1 := yrh h1'
  have R0 : AbRep ((H.set 0 (AC (o0.gen + 1) c)).set 1 ⟨o1.gen + 1, .map false []⟩) c (o0.gen + 1) (o1.gen + 1) ((y1l S).take 0) :=
    ⟨by simp [hl], by rw [yj (by omega)]; exact y26 (y17 h0), y26 (by rw [List.length_set]; exact y17 h1)⟩
  obtain ⟨H2, R2, e2⟩ := In22 hT T.ok (v3 := y1f C N A) (v7 := .lp 0 (o0.gen + 1) 0 0) (v32 := v32) (v33 := v33) (v34 := v34) (n := n) (yus hnd) (by rw [y67]; exact hl53) (y1l S).length 0 _ (by omega) R0
  obtain ⟨id, g, H3, e3, h3, R3⟩ := In20 (v3 := y1f C N A) (v6 := .str n) (v10 := .lm 1 (o1.gen + 1)) (v32 := v32) (v33 := v33) (v34 := v34) R2 (hC n c hc)
  have e4 := In4 (N := N) hT T.ok (v32 := v32) (v33 := v33) (v34 := v34) hc rfl hS R3 (hC n c hc) h3 (upsL c).length 0 (by omega)
  refine ⟨H3, R3.len, ?_⟩
  have g1 := ymu (x := n) R2.cnt
  have g2 := ymu (x := sObj) R2.cnt
  rw [if_pos hself] at g1
  rw [if_pos hobj] at g2
  have e21 : yfo (y1f C N A) (.str n) (.lp 0 (o0.gen + 1) 0 0) (.lm 1 (o1.gen + 1)) v32 v33 v34 H2 = yhu (y1f C N A) v32 v33 v34 H3 := by
    unfold yfo
    have g2' : yy false [2] (.int .i64 0) false (.lm 1 (o1.gen + 1)) (AV.str [79, 98, 106, 101, 99, 116]) H2 = some (.int .i64 1) := g2
    simp only [g1, y5, y4y, ne_eq, not_true_eq_false, decide_false, y4x, g2', yz, y14]
    exact e3.trans e4
  unfold ymy
  simp only [yh3, hcls, yb, y1y, List.getElem?_cons_zero, List.getElem?_cons_succ, y5, n0, s0]
  unfold ys5
  rw [cA]
  have hz : ¬ (((y1l S).length : Int) = 0) := by omega
  simp only [yb, yqb, y1r, Bool.not_true, y5, y4x, y2g, ytq, List.length_map, y10, hz, decide_false, yz, y14, yte, m1, ysh]
  exact e2.trans e21
theorem ynq {C : CTab} {A : ATab} {N : List Txt} (T : TOk C A) (hT : TNd C A) (hC : ∀ n c, tlook C n = some c → (lst c.ifs).length * 16 ≤ reachBytes) (hN : ∀ n ∈ N, n ∈ ckeys C) (hl : N.length ≤ 53) : ∀ (d i : Nat) (H : Heap), i + d = N.length → H.length = 5 →
    yeu (y1f C N A) (slA (some (N.map Tx.mk))) (.int .i64 N.length) (.int .i64 i) H = xB true := by
  intro d
  induction d with
  | zero =>
    intro i H hi hH
    have hc : ¬ ((i : Int) < (N.length : Int)) := by omega
    rw [ygf]
    simp only [ym3, yjr, yh, hc, decide_false, y5, y14, y11f, y8r]
  | succ d ih =>
    intro i H hi hH
    have hlt : i < N.length := by omega
    have hc : ((i : Int) < (N.length : Int)) := by omega
    have hw := y38 hlt (by omega)
    have k1 := ycf (o := some (N.map Tx.mk)) (x := ⟨N[i]⟩) (i := i) (by simp [hlt]) .i64
    obtain ⟨H', l', e'⟩ := yhv (N := N) T hT hC (hN _ (List.getElem_mem hlt)) (slA (some (N.map Tx.mk))) (.int .i64 N.length) (.int .i64 i) H hH
    have := ih (i + 1) H' (by omega) l'
    push_cast at this
    rw [ygf]
    simp only [ym3, yjr, yh, hc, decide_true, y5, y22, yux, k1, y3r, y7c, List.head?_cons, e', yhu, y1a, hw]
    exact this
theorem yrk {o : Option (List Cls)} (ok : ∀ x ∈ lst o, ClsOk x) {C : CTab} (ha : y35 y31 (lst o) = some C) : ∀ n c, tlook C n = some c → (lst c.ifs).length * 16 ≤ reachBytes := by
  obtain ⟨M, eM, hM, _⟩ := y6u _ _ _ ha
  intro n c h
  have := ya7 h
  rw [eM, List.mem_append] at this
  rcases this with h | h
  · obtain ⟨p, _, hq⟩ := List.mem_map.1 h
    injection hq with _ hb
    rw [← hb]
    exact Nat.zero_le _
  · exact (ok c (hM n c h).1).ifs
theorem yfe (o : Option (List Cls)) (ok : ∀ x ∈ lst o, ClsOk x) (hl0 : (lst o).length * 136 ≤ reachBytes) : (y8 E).p 176 [slA o] = xB true := by
  have rb : reachBytes = 140737488351232 := rfl
  rw [rb] at hl0
  have hl : (lst o).length ≤ maxLen := Nat.le_trans (by omega : (lst o).length ≤ 140737488351232) (by decide)
  rw [y1ct]
  unfold yp5 yvm yui
  obtain ⟨r, er, hr⟩ := y188 ok hl
  have hf : yd (fz [⟨0, .dead⟩, ⟨0, .dead⟩, ⟨0, .dead⟩, ⟨0, .dead⟩, ⟨0, .dead⟩] yx) [slA o] = some ⟨[slA o], (lst o).isEmpty && true, []⟩ := by
    rw [y1c, y1d9, y51]; rfl
  have hc := y30 (fb := 0) (h := [⟨0, .dead⟩, ⟨0, .dead⟩, ⟨0, .dead⟩, ⟨0, .dead⟩, ⟨0, .dead⟩]) (by kernel_rfl : E.pure 1 = true) hf rfl er hr
  simp only [yne, yb, y1r, Bool.not_true, y5, y14]
  rw [hc]
  cases hn : newM (lst o) with
  | error k =>
    have hk := y17k hn
    simp only [newV, yb, y1y, List.getElem?_cons_zero, List.getElem?_cons_succ, y5, yj2, y4y, ne_eq, hk, not_false_eq_true, decide_true, y7o, y1c0, y9b, yr, y22, y8r]
  | ok p =>
    obtain ⟨C, A⟩ := p
    obtain ⟨T, ha⟩ := y19a hn
    have hT := y1ae hn
    obtain ⟨b, eb⟩ := yu3 (o := o) (by omega)
    have hcl : y7 E (y8 E) 0 none true 2 [slA o] [⟨0, .dead⟩, ⟨0, .dead⟩, ⟨0, .dead⟩, ⟨0, .dead⟩, ⟨0, .dead⟩] = some (.bool b, [⟨0, .dead⟩, ⟨0, .dead⟩, ⟨0, .dead⟩, ⟨0, .dead⟩, ⟨0, .dead⟩]) :=
      y30 (by kernel_rfl : E.pure 2 = true) hf rfl eb ⟨_, rfl, rfl⟩
    simp only [newV, yb, y1y, List.getElem?_cons_zero, List.getElem?_cons_succ, y5, yj2, y4y, ne_eq, not_true_eq_false, decide_false, y4x, y1cr, hcl, y1r, yz]
    cases b with
    | false => simp only [Bool.not_false, y22, y8r]
    | true =>
      have hlen : (ckeys C).length ≤ 53 := by rw [show (ckeys C).length = C.length from List.length_map _]; exact hT.len
      have hne : ckeys C ≠ [] := by
        rw [y7d _ _ _ ha, yue]
        simp [ownL]
      simp only [Bool.not_true, y14, yu1, ynw C (ckeys C) A hne hlen, yb, y2g, yjz, List.length_map, y5]
      exact ynq T hT (yrk ok ha) (fun _ h => h) hlen (ckeys C).length 0 _ (by omega) rfl
end Go.Vm
