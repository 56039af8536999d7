/- 'New' on the machine: names are names, nobody twice, all have parents. 'New' on the machine: all climb; the tree as an answer. Kin's laws: what they share. KinFits. -/
import Derived.Test.YtkcigmgchfcpkaaFTb
set_option linter.unusedSimpArgs false
set_option linter.unusedVariables false
set_option linter.unusedSectionVars false
namespace Go.Vm
open Cel
abbrev eE (k : Int) : Option (Ex AV) := some ⟨.tup [.nilp, .int .i64 k], [], true, [], []⟩
theorem y83 (k : Int) (H : Heap) : yr H (.tup [.nilp, .int .i64 k]) = eE k := rfl
abbrev T21 : AV := .lp 2 1 0 0
theorem yaq {H : Heap} {j : Nat} {o : AO} (c : Cls) (h : H[j]? = some o) : ∃ H1, newC 0 (some j) zCls H = some (.lp j (o.gen + 1) 0 0, H1) ∧ evSt 7 (.lp j (o.gen + 1) 0 0) (.agg (enc c)) H1 = some (.tup [], H.set j (AC (o.gen + 1) c)) := by
  have h1 := ya4 (fb := 0) (j := j) (by rw [Nat.zero_add]; exact h)
  rw [Nat.zero_add] at h1
  have h2 := yg7 (H := H.set j (AC (o.gen + 1) zC)) (c := zC) (d := c) (y32 (y1m h))
  rw [List.set_set] at h2
  exact ⟨_, h1, h2⟩
theorem yqk {o : Option (List Cls)} (ok : ∀ x ∈ lst o, ClsOk x) (hL : (lst o).length ≤ 9223372036854775806) {C : CTab} {N : List Tx} {g : Nat} : ∀ (d i : Nat) (H : Heap), i + d = (lst o).length → NRep H C N g →
    ∃ H', NRep H' C N g ∧ yb6 (slA o) T21 (slA o) (.int .i64 (lst o).length) (.int .i64 i) H = if ((lst o).drop i).all (fun c => y7r false c.nm) = false then eE 20 else yl4 (slA o) T21 H' := by
  intro d
  induction d with
  | zero =>
    intro i H hi R
    have hc : ¬ ((i : Int) < ((lst o).length : Int)) := by omega
    refine ⟨H, R, ?_⟩
    rw [yd4, List.drop_eq_nil_of_le (by omega)]
    simp only [yhv, yh, hc, decide_false, y3, yjn, yy, List.all_nil, Bool.true_eq_false, if_false]
  | succ d ih =>
    intro i H hi R
    have hlt : i < (lst o).length := by omega
    have hc : ((i : Int) < ((lst o).length : Int)) := by omega
    have hw := y2j hlt (by omega)
    have k1 := ydu (o := o) (i := i) (List.getElem?_eq_getElem hlt) .i64
    have hok := ok _ (List.getElem_mem hlt)
    rw [yd4, List.drop_eq_getElem_cons hlt, List.all_cons]
    generalize (lst o)[i] = c at *
    obtain ⟨o6, h6⟩ := R.at (j := 6) (by omega)
    obtain ⟨H1, n1, s1⟩ := yaq c h6
    have hl := R.len
    have R2 := R.other (x := 6) (v := AC (o6.gen + 1) c) (by omega)
    have l1 : evLd false 1 (.lp 6 (o6.gen + 1) 0 1) (H.set 6 (AC (o6.gen + 1) c)) = some (.str c.nm) := y31 (y32 (by omega)) (cls1 c)
    have rb : reachBytes = 140737488351232 := rfl
    have hsm : Sm c.nm := by have := hok.nm; unfold Sm; omega
    have hcall : ∀ H : Heap, y6 E (y8 E) 0 none true 60 [.str c.nm, .bool false] H = some (.bool (y7r false c.nm), H) := fun H => y5r (by kernel_rfl) (by rfl) (yzj c.nm false hsm)
    simp only [yhv, yh, hc, decide_true, y3, yjn, y1f, yqg, k1, y5w, yd8, n1, yc, s1, y1q, Nat.zero_add, l1, hcall, y18]
    cases hb : y7r false c.nm with
    | false => exact ⟨H, R, by simp only [Bool.not_false, y1f, Bool.false_and, if_true, y83]⟩
    | true =>
      obtain ⟨H', R', e'⟩ := ih (i + 1) _ (by omega) R2
      push_cast at e'
      refine ⟨H', R', ?_⟩
      simp only [Bool.not_true, yy, Bool.true_and, ypm, yx, hw, y3]
      exact e'
theorem y145 {o : Option (List Cls)} (hL : (lst o).length ≤ 40) : ∀ (d i : Nat) (H : Heap) (C : CTab) (N : List Tx) (g : Nat), i + d = (lst o).length → NRep H C N g → N ≠ [] → N.length ≤ 13 + i →
    ∃ H' g', (∀ C', y49 C ((lst o).drop i) = some C' → NRep H' C' (N ++ ((lst o).drop i).map fun c => Tx.mk c.nm) g') ∧ yb3 (slA o) T21 (slA o) (.int .i64 (lst o).length) (.int .i64 i) H = if (y49 C ((lst o).drop i)).isNone then eE 23 else yjm (slA o) T21 H' := by
  intro d
  induction d with
  | zero =>
    intro i H C N g hi R _ _
    have hc : ¬ ((i : Int) < ((lst o).length : Int)) := by omega
    rw [List.drop_eq_nil_of_le (by omega)]
    refine ⟨H, g, fun C' h => ?_, ?_⟩
    · simp only [y49, Option.some.injEq] at h
      subst h
      simpa using R
    · rw [yco]
      simp only [yia, yh, hc, decide_false, y3, yjj, yy, y49, Option.isNone_some, Bool.false_eq_true, if_false]
  | succ d ih =>
    intro i H C N g hi R hN hNl
    have hlt : i < (lst o).length := by omega
    have hc : ((i : Int) < ((lst o).length : Int)) := by omega
    have hw := y2j hlt (by omega)
    have k1 := ydu (o := o) (i := i) (List.getElem?_eq_getElem hlt) .i64
    rw [yco, List.drop_eq_getElem_cons hlt, y49]
    generalize (lst o)[i] = c at *
    obtain ⟨o7, h7⟩ := R.at (j := 7) (by omega)
    obtain ⟨H1, n1, s1⟩ := yaq c h7
    have hl := R.len
    have R2 := R.other (x := 7) (v := AC (o7.gen + 1) c) (by omega)
    have b2 : (H.set 7 (AC (o7.gen + 1) c))[7]? = some (AC (o7.gen + 1) c) := y32 (by omega)
    have l1 : evLd false 1 (.lp 7 (o7.gen + 1) 0 1) (H.set 7 (AC (o7.gen + 1) c)) = some (.str c.nm) := y31 b2 (cls1 c)
    simp only [yia, yh, hc, decide_true, y3, yjj, y1f, yqu, k1, y5w, yd8, n1, yc, s1, yth, y1t, y1q, Nat.zero_add, R2.ld0, l1]
    generalize H.set 7 (AC (o7.gen + 1) c) = H2 at *
    have hmg := ye7 cV R2.h0 c.nm (.agg zCls) true
    obtain ⟨o8, h8⟩ := R2.at (j := 8) (by omega)
    rw [hmg]
    simp only [y3]
    cases hlk : tlook C c.nm with
    | some q =>
      obtain ⟨H3, n3, s3⟩ := yaq q h8
      refine ⟨H, g, fun C' h => by simp at h, ?_⟩
      simp only [ypr, y2g, List.getElem?_cons_zero, List.getElem?_cons_succ, y3, n3, yc, s3]
      rw [ybr (by rfl)]
      simp only [y1f, Option.isSome_some, if_true, Option.isNone_none, y83]
    | none =>
      obtain ⟨H3, n3, s3⟩ := yaq zC h8
      have ez : (AV.agg zCls) = .agg (enc zC) := rfl
      simp only [yox, y2g, List.getElem?_cons_zero, List.getElem?_cons_succ, y3, n3, yc]
      rw [ez, s3]
      simp only [yc]
      rw [ybr (by rfl)]
      have R4 := R2.other (x := 8) (v := AC (o8.gen + 1) zC) (by omega)
      have hl2 := R2.len
      have b4 : (H2.set 8 (AC (o8.gen + 1) zC))[7]? = some (AC (o7.gen + 1) c) := by rw [yq (by omega)]; exact b2
      have l4 : evLd false 1 (.lp 7 (o7.gen + 1) 0 1) (H2.set 8 (AC (o8.gen + 1) zC)) = some (.str c.nm) := y31 b4 (cls1 c)
      have a4 : evLd true 7 (.lp 7 (o7.gen + 1) 0 0) (H2.set 8 (AC (o8.gen + 1) zC)) = some (.agg (enc c)) := yrz b4
      have hput := ygs cV R4.h0 c.nm c hlk
      simp only [yy, yo9, y1t, y3, y1q, Nat.zero_add, R4.ld0, l4, a4, hput, yc]
      have R5 := R4.put c.nm c
      have hl4 := R4.len
      have b5 : ((H2.set 8 (AC (o8.gen + 1) zC)).set 0 ⟨1, .map false (tE cV (C ++ [(c.nm, c)]))⟩)[7]? = some (AC (o7.gen + 1) c) := by rw [yq (by omega)]; exact b4
      generalize (H2.set 8 (AC (o8.gen + 1) zC)).set 0 ⟨1, .map false (tE cV (C ++ [(c.nm, c)]))⟩ = H5 at *
      have l5 : evLd false 1 (.lp 7 (o7.gen + 1) 0 1) H5 = some (.str c.nm) := y31 b5 (cls1 c)
      obtain ⟨o9, h9⟩ := R5.at (j := 9) (by omega)
      have bs : y2t 0 (some 9) 1 1 [.str []] [(0, .str c.nm)] H5 = some (.ls 9 (o9.gen + 1) 1 0 1, H5.set 9 ⟨o9.gen + 1, .arr false false 1 ([Tx.mk c.nm].map enc)⟩) := by
        have := yum (H := H5) (fb := 0) (j := 9) c.nm (by rw [Nat.zero_add]; exact h9)
        simpa using this
      have R6 := R5.other (x := 9) (v := ⟨o9.gen + 1, .arr false false 1 ([Tx.mk c.nm].map enc)⟩) (by omega)
      have hl5 := R5.len
      have hy := ydn (H := H5.set 9 ⟨o9.gen + 1, .arr false false 1 ([Tx.mk c.nm].map enc)⟩) (id := 9) (g := o9.gen + 1) (s := c.nm) (y32 (by omega))
      obtain ⟨x, N0, rfl⟩ := List.exists_cons_of_ne_nil hN
      have hbd : ((x :: N0).length + [Tx.mk c.nm].length + ((x :: N0).length + [Tx.mk c.nm].length) / 4 + 512) * 16 ≤ 2 ^ 48 := by
        have e48 : (2:Nat) ^ 48 = 281474976710656 := by decide
        have e1 : [Tx.mk c.nm].length = 1 := rfl
        rw [e48, e1]
        exact y16h _ (by omega)
      have hap : y69 0 (some 10) 1 16 (y30 Tx 5 g (x :: N0)) (.ls 9 (o9.gen + 1) 1 0 1) (H5.set 9 ⟨o9.gen + 1, .arr false false 1 ([Tx.mk c.nm].map enc)⟩) =
          some (y30 Tx 5 (g + 1) ((x :: N0) ++ [Tx.mk c.nm]), (H5.set 9 ⟨o9.gen + 1, .arr false false 1 ([Tx.mk c.nm].map enc)⟩).set 5 (y5n (g + 1) D0 ((x :: N0) ++ [Tx.mk c.nm]))) := by
        have := yjt (fb := 0) (id := 5) (g := g) (b := 16) (sl := some 10) (L := x :: N0) (M := [Tx.mk c.nm]) hy R6.h5 hbd
        exact this
      obtain ⟨st, R7⟩ := R6.name ((x :: N0) ++ [Tx.mk c.nm]) (g + 1)
      simp only [R5.ld1, l5, bs, yc, y3, hap, st]
      rw [ybr (by rfl)]
      obtain ⟨H', g', h', e'⟩ := ih (i + 1) _ (C ++ [(c.nm, c)]) ((x :: N0) ++ [Tx.mk c.nm]) (g + 1) (by omega) R7 (by simp) (by rw [List.length_append]; simp only [List.length_singleton]; omega)
      push_cast at e'
      refine ⟨H', g', fun C' h => ?_, ?_⟩
      · simp only [Option.isSome_none, Bool.false_eq_true, if_false] at h
        have := h' C' h
        rw [List.append_assoc] at this
        exact this
      · simp only [yog, yx, hw, y3, Option.isSome_none, Bool.false_eq_true, if_false]
        exact e'
theorem ye0 (H : Heap) (k : Nat) : ∀ C : CTab, ∃ fr, ye (y5b H (k + 2)) (tE cV C) = some ⟨tE cV C, fr, []⟩
  | [] => ⟨true, rfl⟩
  | (n, c) :: C => by
    obtain ⟨fr, ih⟩ := ye0 H k C
    have e1 : y5b H (k + 2) (.str n, cV c) = some ⟨(.str n, cV c), true && scal c, []⟩ := by
      have e2 : fz H (k + 2) (.str n) = some ⟨.str n, true, []⟩ := rfl
      simp only [y5b, e2, y13g H k c, List.append_nil]
    refine ⟨(true && scal c) && fr, ?_⟩
    unfold tE at ih ⊢
    rw [List.map_cons, y1p, e1, ih]
    rfl
theorem yy6 {H : Heap} {C : CTab} {N : List Tx} {g : Nat} (R : NRep H C N g) (hN : N ≠ []) : ∃ fr ids, fz H y14 T21 = some ⟨y2z C (N.map (·.s)) [], fr, ids⟩ := by
  obtain ⟨fr, hc⟩ := ye0 H 8 C
  have e0 : fz H 11 (.lm 0 1) = some ⟨.rm (tE cV C), fr, [0]⟩ := by
    have hm : y22 H 0 1 = some (false, tE cV C) := by simp [y22, y29, R.h0]
    have : fz H 11 (.lm 0 1) = match y22 H 0 1 with
      | some (_, es) => match ye (y5b H 10) es with
        | some r => some ⟨.rm r.v, r.fresh, 0 :: r.ids⟩
        | none => none
      | none => none := rfl
    rw [this, hm]
    simp only [hc]
  have e1 : fz H 11 (.lm 1 1) = some ⟨.rm [], true, [1]⟩ := by
    have hm : y22 H 1 1 = some (false, []) := by simp [y22, y29, R.h1]
    have : fz H 11 (.lm 1 1) = match y22 H 1 1 with
      | some (_, es) => match ye (y5b H 10) es with
        | some r => some ⟨.rm r.v, r.fresh, 1 :: r.ids⟩
        | none => none
      | none => none := rfl
    rw [this, hm]
    rfl
  have e2 : fz H 11 (y30 Tx 5 g N) = some ⟨slA (some N), N.all scal, [5]⟩ := by
    obtain ⟨x, N0, rfl⟩ := List.exists_cons_of_ne_nil hN
    exact ysg (k := 9) (L := x :: N0) R.h5
  have hr : yg H 2 1 = some (false, 3, [[.lm 0 1, y30 Tx 5 g N, .lm 1 1]]) := by simp [yg, y29, R.h2]
  have et : fz H y14 T21 = match yg H 2 1 with
      | some (_, _, rows) => match rows[0]? with
        | some row => match ye (fz H 11) (row.drop 0) with
          | some r => some ⟨.rp r.v, r.fresh, 2 :: r.ids⟩
          | none => none
        | none => none
      | none => none := rfl
  have em : (N.map (fun x : Tx => x.s)).map Tx.mk = N := by
    rw [List.map_map]
    exact List.map_id'' (fun _ => rfl) N
  rw [et, hr]
  simp only [List.getElem?_cons_zero, List.drop_zero, y1p, y6i, e0, e1, e2]
  unfold y2z yg4
  rw [em]
  exact ⟨_, _, rfl⟩
theorem y12o {o : Option (List Cls)} (ok : ∀ x ∈ lst o, ClsOk x) (hL : (lst o).length ≤ 40) {C : CTab} {N : List Tx} {g : Nat} (hN : N ≠ []) : ∀ (d i : Nat) (H : Heap), i + d = (lst o).length → NRep H C N g →
    ∃ H', NRep H' C N g ∧ yag T21 (slA o) (.int .i64 (lst o).length) (.int .i64 i) H = if ((lst o).drop i).all (parB C) = false then eE 50 else yni T21 H' := by
  intro d
  induction d with
  | zero =>
    intro i H hi R
    have hc : ¬ ((i : Int) < ((lst o).length : Int)) := by omega
    refine ⟨H, R, ?_⟩
    rw [yce, List.drop_eq_nil_of_le (by omega)]
    simp only [yil, yh, hc, decide_false, y3, yif, yy, List.all_nil, Bool.true_eq_false, if_false]
  | succ d ih =>
    intro i H hi R
    have hlt : i < (lst o).length := by omega
    have hc : ((i : Int) < ((lst o).length : Int)) := by omega
    have hw := y2j hlt (by omega)
    have k1 := ydu (o := o) (i := i) (List.getElem?_eq_getElem hlt) .i64
    have hok := ok _ (List.getElem_mem hlt)
    rw [yce, List.drop_eq_getElem_cons hlt, List.all_cons]
    generalize (lst o)[i] = c at *
    obtain ⟨o6, h6⟩ := R.at (j := 11) (by omega)
    obtain ⟨H1, n1, s1⟩ := yaq c h6
    have hl := R.len
    have R2 := R.other (x := 11) (v := AC (o6.gen + 1) c) (by omega)
    have a1 : evLd true 7 (.lp 11 (o6.gen + 1) 0 0) (H.set 11 (AC (o6.gen + 1) c)) = some (.agg (enc c)) := yrz (y32 (by omega))
    have rb : reachBytes = 140737488351232 := rfl
    have hcall : y6 E (y8 E) 0 none true 61 [T21, .agg (enc c)] (H.set 11 (AC (o6.gen + 1) c)) = some (.bool (parB C c), H.set 11 (AC (o6.gen + 1) c)) := by
      obtain ⟨fr, ids, hf⟩ := yy6 R2 hN
      have hs := ysw C (N.map (·.s)) c (by have := hok.ifs; omega)
      have hp : E.pure 61 = true := by kernel_rfl
      simp only [y6, hp, y4d, y1p, y6i, hf, y17o, hs, Option.isSome_none, Bool.and_false, Bool.not_false, Bool.and_self, if_true, Bool.true_or]
      rfl
    simp only [yil, yh, hc, decide_true, y3, yif, y1f, ytc, k1, y5w, yd8, n1, yc, s1, a1, hcall, y18]
    cases hb : parB C c with
    | false => exact ⟨H, R, by simp only [Bool.not_false, y1f, Bool.false_and, if_true, y83]⟩
    | true =>
      obtain ⟨H', R', e'⟩ := ih (i + 1) _ (by omega) R2
      push_cast at e'
      refine ⟨H', R', ?_⟩
      simp only [Bool.not_true, yy, Bool.true_and, ypq, yx, hw, y3]
      exact e'
end Go.Vm
namespace Go.Vm
open Cel
structure KS (H : Heap) (C : CTab) (N : List Tx) (g : Nat) (P : PTab) (A : ATab) : Prop where
  h0 : H[0]? = some ⟨1, .map false (tE cV C)⟩
  h1 : H[1]? = some ⟨1, .map false (tE lmV P)⟩
  h2 : H[2]? = some ⟨1, .arr true false 3 [[.lm 0 1, .ls 5 g 1 0 N.length, .lm 1 1]]⟩
  h5 : H[5]? = some ⟨g, .arr false false 1 (N.map enc)⟩
  sets : SetsAt H P A
  far : ∀ p ∈ P, 13 ≤ p.2.1
  len : 13 ≤ H.length
abbrev KK (g n go : Nat) : KAt := ⟨2, 1, 0, 1, 1, 1, 12, go, .ls 5 g 1 0 n⟩
section
variable {H : Heap} {C : CTab} {N : List Tx} {g : Nat} {P : PTab} {A : ATab}
theorem KS.rep (R : KS H C N g P A) {o : AO} (_h : H[12]? = some o) : KRep (KK g N.length (o.gen + 1)) C (H.set 12 ⟨o.gen + 1, .map false (sE [])⟩) P A [] := by
  have hl := R.len
  have n2 : (12 : Nat) ≠ 2 := by decide
  have n0 : (12 : Nat) ≠ 0 := by decide
  have n1 : (12 : Nat) ≠ 1 := by decide
  refine ⟨(yq n2).trans R.h2, (yq n0).trans R.h0, (yq n1).trans R.h1, y32 (by omega), R.sets.mono fun p hp g fz es h => ⟨fz, ?_⟩, ⟨(by decide : (2 : Nat) ≠ 1), n2.symm, (by decide : (0 : Nat) ≠ 1), n0.symm, n1.symm⟩, fun p hp => ?_⟩
  · have := R.far p hp
    rw [yq (by omega)]
    exact h
  · have := R.far p hp
    exact ⟨(by omega : p.2.1 ≠ 2), (by omega : p.2.1 ≠ 0), (by omega : p.2.1 ≠ 1), (by omega : p.2.1 ≠ 12)⟩
theorem KS.off (R : KS H C N g P A) (go : Nat) : OffK (KK g N.length go) P 5 := ⟨(by decide : (5 : Nat) ≠ 2), (by decide : (5 : Nat) ≠ 0), (by decide : (5 : Nat) ≠ 1), (by decide : (5 : Nat) ≠ 12), fun p hp => by have := R.far p hp; omega⟩
theorem KS.next (R : KS H C N g P A) {go : Nat} {H' : Heap} {P' : PTab} {A' : ATab} {O' : List Txt} {x : AO} (R' : KRep (KK g N.length go) C H' P' A' O') (hr : Rest (KK g N.length go) P P' (H.set 12 x) H') : KS H' C N g P' A' := by
  obtain ⟨r1, r2, r3⟩ := hr
  have hl := R.len
  rw [List.length_set] at r1 r2 r3
  refine ⟨R'.cls, R'.ab, R'.tree, ?_, R'.sets, fun p hp => ?_, by omega⟩
  · rw [r2 5 (by omega) (R.off go), yq (by decide)]
    exact R.h5
  · rcases r3 p hp with h | h
    · exact R.far p h
    · omega
theorem yrq (hC : ∀ n c, tlook C n = some c → (lst c.ifs).length * 16 ≤ reachBytes) (hN : N.length ≤ 9223372036854775806) (k : Nat) : ∀ (d i : Nat) (H : Heap) (P : PTab) (A : ATab) (b : Bool) (A' : ATab), i + d = N.length →
    y59 (upC C) k ((N.drop i).map (·.s)) A = some (b, A') → AOk (upC C) A → KS H C N g P A →
      ∃ H' P', (b = true → KS H' C N g P' A') ∧ ycg T21 (.ls 5 g 1 0 N.length) (.int .i64 N.length) (.int .i64 i) H = if b then yp2 T21 H' else eE 51 := by
  intro d
  induction d with
  | zero =>
    intro i H P A b A' hi hc hA R
    have hcc : ¬ ((i : Int) < (N.length : Int)) := by omega
    rw [List.drop_eq_nil_of_le (by omega)] at hc
    simp only [List.map_nil, y59, Option.some.injEq, Prod.mk.injEq] at hc
    obtain ⟨rfl, rfl⟩ := hc
    refine ⟨H, P, fun _ => R, ?_⟩
    rw [yfx]
    simp only [yy4, yh, hcc, decide_false, y3, yww, yy, if_true]
  | succ d ih =>
    intro i H P A b A' hi hc hA R
    have hlt : i < N.length := by omega
    have hcc : ((i : Int) < (N.length : Int)) := by omega
    have hw := y2j hlt (by omega)
    have ix := yvw (n := N.length) (p := (i : Int)) (by omega) hcc 5 g .i64
    rw [show ((i : Int)).toNat = i by omega] at ix
    have hld : evLd false 1 (.lp 5 g i 0) H = some (.str N[i].s) := yku (es := 1) R.h5 (by simp [hlt])
    rw [List.drop_eq_getElem_cons hlt, List.map_cons, y59] at hc
    generalize N[i].s = x at *
    have hl := R.len
    obtain ⟨o12, h12⟩ : ∃ o, H[12]? = some o := ⟨_, List.getElem?_eq_getElem (by omega)⟩
    have hm : mkmC 0 (some 12) H = some (.lm 12 (o12.gen + 1), H.set 12 ⟨o12.gen + 1, .map false (sE [])⟩) := by
      have := yz9 (fb := 0) (j := 12) (H := H) (by rw [Nat.zero_add]; exact h12)
      rw [Nat.zero_add] at this
      exact this
    cases hf : y46 (upC C) k x A [] with
    | none => rw [hf] at hc; cases hc
    | some q =>
      obtain ⟨c, A1, O1⟩ := q
      rw [hf] at hc
      obtain ⟨H1, P1, e1, R1, r1⟩ := y13n hC k x A [] c A1 O1 _ P 0 hf hA (R.rep h12)
      obtain ⟨k1, _, _⟩ := y6e k x A [] c A1 O1 hf hA
      have RN := R.next R1 r1
      have e1' : y6 E (y8 E) 0 none false 62 [T21, .str x, .lm 12 (o12.gen + 1)] (H.set 12 ⟨o12.gen + 1, .map false (sE [])⟩) = some (.bool c, H1) := e1
      rw [yfx]
      simp only [yy4, yh, hcc, decide_true, y3, yww, y1f, y149, ix, hld, hm, yc, e1', y18]
      cases c with
      | false =>
        simp only [Option.some.injEq, Prod.mk.injEq] at hc
        obtain ⟨rfl, rfl⟩ := hc
        refine ⟨H1, P1, fun e => (by cases e), ?_⟩
        simp only [Bool.not_false, y1f, Bool.false_eq_true, if_false, y83]
      | true =>
        simp only at hc
        obtain ⟨H', P', h', e'⟩ := ih (i + 1) H1 P1 A1 b A' (by omega) hc k1 RN
        push_cast at e'
        refine ⟨H', P', h', ?_⟩
        simp only [Bool.not_true, yy, y13z, yx, hw, y3]
        exact e'
theorem yri {id g' k : Nat} {es : List (AV × AV)} {r : Fz (List (AV × AV))} {os : List OC} (hm : y22 H id g' = some (false, es)) (hr : ye (y5b H y14) es = some r) : expo H (k + 1) (.lm id g') os = some ⟨.lm os.length 0, os ++ [.map false r.v], r.fresh, [id], r.ids⟩ := by
  simp only [expo, hm, hr]
theorem yv9 {α : Type} [Cel α] {id g' k : Nat} {L : List α} {os : List OC} (hr : yg H id g' = some (false, es α, L.map enc)) : expo H (k + 1) (.ls id g' (es α) 0 L.length) os = some ⟨.ls os.length 0 (es α) 0 L.length, os ++ [.arr false false (es α) (L.map enc)], L.all scal, [id], []⟩ := by
  simp only [expo, hr]
  rw [if_pos ⟨trivial, by simp⟩]
  simp only [List.drop_zero, y7k, y13b]
theorem yw3 {H : Heap} {P : PTab} {A : ATab} (h : SetsAt H P A) (k : Nat) : ∃ fr, ye (y5b H (k + 2)) (tE lmV P) = some ⟨tE sV A, fr, P.map (·.2.1)⟩ := by
  induction h with
  | nil => exact ⟨true, rfl⟩
  | @cons p q P A h1 _ ih =>
    obtain ⟨fr, ih⟩ := ih
    obtain ⟨e, fz', h2⟩ := h1
    obtain ⟨n, id, g'⟩ := p
    obtain ⟨n', S⟩ := q
    simp only at e h2
    subst e
    have e1 : y5b H (k + 2) (.str n, lmV (id, g')) = some ⟨(.str n, sV S), true && true, [id]⟩ := by
      have e2 : fz H (k + 2) (.str n) = some ⟨.str n, true, []⟩ := rfl
      simp only [y5b, e2, yzt k h2, List.nil_append]
    refine ⟨(true && true) && fr, ?_⟩
    unfold tE at ih ⊢
    rw [List.map_cons, y1p, e1, ih]
    rfl
theorem yzv (H : Heap) (k : Nat) : ∀ A : ATab, ∃ fr, ye (y5b H (k + 1)) (tE sV A) = some ⟨tE sV A, fr, []⟩
  | [] => ⟨true, rfl⟩
  | (n, S) :: A => by
    obtain ⟨fr, ih⟩ := yzv H k A
    have e1 : y5b H (k + 1) (.str n, sV S) = some ⟨(.str n, sV S), true && yv (sV S), []⟩ := rfl
    refine ⟨(true && yv (sV S)) && fr, ?_⟩
    unfold tE at ih ⊢
    rw [List.map_cons, y1p, e1, ih]
    rfl
theorem yn5 {l : List Nat} (h : ∀ x ∈ l, 13 ≤ x) : y3x [2, 0, 5, 1] l = true := by
  have : ∀ y < 13, l.contains y = false := by
    intro y hy
    cases hc : l.contains y with
    | false => rfl
    | true =>
      have := h y (by simpa using hc)
      omega
  simp only [y3x, this 2 (by omega), this 0 (by omega), this 5 (by omega), this 1 (by omega)]
  rfl
theorem KS.done (R : KS H C N g P A) : ∃ r, yp2 T21 H = some r ∧ ygr r (.tup [y2z C (N.map (·.s)) A, .int .i64 0]) := by
  obtain ⟨fr1, hc⟩ := ye0 H 10 C
  obtain ⟨fr2, hs⟩ := yw3 R.sets 10
  have m0 : y22 H 0 1 = some (false, tE cV C) := by simp [y22, y29, R.h0]
  have m1 : y22 H 1 1 = some (false, tE lmV P) := by simp [y22, y29, R.h1]
  have m5 : yg H 5 g = some (false, es Tx, N.map enc) := by simp [yg, y29, R.h5]
  have m2 : yg H 2 1 = some (false, 3, [[.lm 0 1, .ls 5 g 1 0 N.length, .lm 1 1]]) := by simp [yg, y29, R.h2]
  have x0 : ∀ os, expo H 10 (.lm 0 1) os = some ⟨.lm os.length 0, os ++ [.map false (tE cV C)], fr1, [0], []⟩ := fun os => yri (k := 9) m0 hc
  have x1 : ∀ os, expo H 10 (.lm 1 1) os = some ⟨.lm os.length 0, os ++ [.map false (tE sV A)], fr2, [1], P.map (·.2.1)⟩ := fun os => yri (k := 9) m1 hs
  have x5 : ∀ os, expo H 10 (.ls 5 g 1 0 N.length) os = some ⟨.ls os.length 0 1 0 N.length, os ++ [.arr false false 1 (N.map enc)], N.all scal, [5], []⟩ := fun os => yv9 (α := Tx) (k := 9) m5
  have xr : y2n (expo H 10) [.lm 0 1, .ls 5 g 1 0 N.length, .lm 1 1] [] = some ⟨[.lm 0 0, .ls 1 0 1 0 N.length, .lm 2 0], [.map false (tE cV C), .arr false false 1 (N.map enc), .map false (tE sV A)], fr1 && (N.all scal && (fr2 && true)), [0, 5, 1], P.map (·.2.1)⟩ := by
    simp only [y2n, x0, x5, x1, List.length_nil, List.nil_append, List.length_append, List.length_cons, List.append_nil, List.cons_append]
  have xl : expo H 11 T21 [] = some ⟨.lp 3 0 0 0, [.map false (tE cV C), .arr false false 1 (N.map enc), .map false (tE sV A), .arr true false 3 [[.lm 0 0, .ls 1 0 1 0 N.length, .lm 2 0]]], fr1 && (N.all scal && (fr2 && true)), [2, 0, 5, 1], P.map (·.2.1)⟩ := by
    have e : expo H 11 T21 [] = match yg H 2 1 with
      | some (true, _, _) => exFz H T21 []
      | some (false, es, [row]) => if 0 = 0 ∧ 0 = 0 then (match y2n (expo H 10) row [] with
          | some r => some ⟨.lp r.objs.length 0 0 0, r.objs ++ [.arr true false es [r.v]], r.fresh, 2 :: r.xs, r.fs⟩
          | none => none) else none
      | _ => none := rfl
    rw [e, m2]
    simp only [and_self, if_true, xr]
    rfl
  have xi : ∀ os, expo H 11 (.int .i64 0) os = some ⟨.int .i64 0, os, true, [], []⟩ := fun os => rfl
  have xt : ∃ fr, expo H y14 (.tup [T21, .int .i64 0]) [] = some ⟨.tup [.lp 3 0 0 0, .int .i64 0], [.map false (tE cV C), .arr false false 1 (N.map enc), .map false (tE sV A), .arr true false 3 [[.lm 0 0, .ls 1 0 1 0 N.length, .lm 2 0]]], fr, [2, 0, 5, 1], P.map (·.2.1)⟩ := by
    have e : expo H y14 (.tup [T21, .int .i64 0]) [] = match y2n (expo H 11) [T21, .int .i64 0] [] with
      | some r => some ⟨.tup r.v, r.objs, r.fresh, r.xs, r.fs⟩
      | none => none := rfl
    rw [e]
    simp only [y2n, xl, xi, List.append_nil]
    exact ⟨_, rfl⟩
  obtain ⟨fr, xt⟩ := xt
  have hap : y3x [2, 0, 5, 1] (P.map (·.2.1)) = true := yn5 fun x hx => by
    obtain ⟨p, hp, rfl⟩ := List.mem_map.1 hx
    exact R.far p hp
  refine ⟨⟨.tup [.lp 3 0 0 0, .int .i64 0], [.map false (tE cV C), .arr false false 1 (N.map enc), .map false (tE sV A), .arr true false 3 [[.lm 0 0, .ls 1 0 1 0 N.length, .lm 2 0]]], fr, [], []⟩, ?_, ?_⟩
  · unfold yp2 yr
    rw [xt]
    simp only [hap, if_true]
  · let G : Heap := [⟨0, .map false (tE cV C)⟩, ⟨0, .arr false false 1 (N.map enc)⟩, ⟨0, .map false (tE sV A)⟩, ⟨0, .arr true false 3 [[.lm 0 0, .ls 1 0 1 0 N.length, .lm 2 0]]⟩]
    obtain ⟨f1, y1⟩ := ye0 G 7 C
    obtain ⟨f2, y2⟩ := yzv G 8 A
    have z0 : fz G 10 (.lm 0 0) = some ⟨.rm (tE cV C), f1, [0]⟩ := by
      have : fz G 10 (.lm 0 0) = match ye (y5b G 9) (tE cV C) with
        | some r => some ⟨.rm r.v, r.fresh, 0 :: r.ids⟩
        | none => none := rfl
      rw [this, y1]
    have z2 : fz G 10 (.lm 2 0) = some ⟨.rm (tE sV A), f2, [2]⟩ := by
      have : fz G 10 (.lm 2 0) = match ye (y5b G 9) (tE sV A) with
        | some r => some ⟨.rm r.v, r.fresh, 2 :: r.ids⟩
        | none => none := rfl
      rw [this, y2]
    have z1 : fz G 10 (.ls 1 0 1 0 N.length) = some ⟨slA (some N), N.all scal, [1]⟩ := ysg (k := 8) (L := N) (H := G) rfl
    have em : (N.map (fun x : Tx => x.s)).map Tx.mk = N := by
      rw [List.map_map]
      exact List.map_id'' (fun _ => rfl) N
    have zl : ∃ q, fz G 11 (.lp 3 0 0 0) = some q ∧ q.v = y2z C (N.map (·.s)) A := by
      have : fz G 11 (.lp 3 0 0 0) = match ye (fz G 10) [.lm 0 0, .ls 1 0 1 0 N.length, .lm 2 0] with
        | some r => some ⟨.rp r.v, r.fresh, 3 :: r.ids⟩
        | none => none := rfl
      rw [this]
      simp only [y1p, y6i, z0, z1, z2]
      refine ⟨_, rfl, ?_⟩
      unfold y2z yg4
      rw [em]
    obtain ⟨q, zq, hq⟩ := zl
    have zt : fz G y14 (.tup [.lp 3 0 0 0, .int .i64 0]) = match ye (fz G 11) [.lp 3 0 0 0, .int .i64 0] with
        | some r => some ⟨.tup r.v, r.fresh, r.ids⟩
        | none => none := rfl
    have zi : fz G 11 (.int .i64 0) = some ⟨.int .i64 0, true, []⟩ := rfl
    show ∃ q, fz G y14 (.tup [.lp 3 0 0 0, .int .i64 0]) = some q ∧ _
    rw [zt]
    simp only [y1p, y6i, zq, zi]
    exact ⟨_, rfl, by rw [hq]⟩
end
theorem ybs : ∀ (l : List Cls) (C C' : CTab), y49 C l = some C' → ckeys C' = ckeys C ++ l.map (·.nm)
  | [], C, C', h => by
    injection h with h
    subst h
    simp
  | c :: r, C, C', h => by
    rw [y49] at h
    split at h
    · cases h
    · rw [ybs r _ C' h]
      simp [ckeys]
def newV : Except Int (CTab × ATab) → AV
  | .ok (C, A) => .tup [y2z C (ckeys C) A, .int .i64 0]
  | .error k => .tup [.nilp, .int .i64 k]
theorem y64 (k : Int) : ygr ⟨.tup [.nilp, .int .i64 k], [], true, [], []⟩ (newV (.error k)) := ⟨_, rfl, rfl⟩
theorem y15c {o : Option (List Cls)} (ok : ∀ x ∈ lst o, ClsOk x) (hl : (lst o).length ≤ maxLen) : ∃ r, (y8 E).p 1 [slA o] = some r ∧ ygr r (newV (newM (lst o))) := by
  rw [y18j]
  unfold yoq yqp newM
  simp only [y3d, y3, y2u]
  by_cases h40 : 40 < (lst o).length
  · have hc : (40 : Int) < ((lst o).length : Int) := by omega
    rw [if_pos h40]
    simp only [hc, decide_true, y1f, y83]
    exact ⟨_, rfl, y64 2⟩
  have hc : ¬ (40 : Int) < ((lst o).length : Int) := by omega
  rw [if_neg h40]
  simp only [hc, decide_false, yy]
  have hL : (lst o).length ≤ 40 := by omega
  have R0 : NRep [⟨1, .map false []⟩, ⟨1, .map false []⟩, ⟨1, .arr true false 3 [[.lm 0 1, .nils, .lm 1 1]]⟩, D0, D0, D0, D0, D0, D0, D0, D0, D0, D0] (y3a.take 0) ((ownP.take 0).map y8r) 0 := ⟨rfl, rfl, rfl, rfl, rfl⟩
  obtain ⟨H1, g1, R1, e1⟩ := y11x (slA o) 13 0 _ 0 (by omega) R0
  have e0 : yf1 (slA o) [D0, D0, D0, D0, D0, D0, D0, D0, D0, D0, D0, D0, D0] = y8j (slA o) T21 (slA (some ownP)) (.int .i64 13) (.int .i64 ((0 : Nat) : Int)) [⟨1, .map false []⟩, ⟨1, .map false []⟩, ⟨1, .arr true false 3 [[.lm 0 1, .nils, .lm 1 1]]⟩, D0, D0, D0, D0, D0, D0, D0, D0, D0, D0] := by
    have m0 : mkmC 0 (some 0) [D0, D0, D0, D0, D0, D0, D0, D0, D0, D0, D0, D0, D0] = some (.lm 0 1, [⟨1, .map false []⟩, D0, D0, D0, D0, D0, D0, D0, D0, D0, D0, D0, D0]) := rfl
    have m1 : mkmC 0 (some 1) [⟨1, .map false []⟩, D0, D0, D0, D0, D0, D0, D0, D0, D0, D0, D0, D0] = some (.lm 1 1, [⟨1, .map false []⟩, ⟨1, .map false []⟩, D0, D0, D0, D0, D0, D0, D0, D0, D0, D0, D0]) := rfl
    have b : y2w [.nilm, .nils, .nilm] [(0, 1, .lm 0 1), (2, 1, .lm 1 1)] = some (.agg [.lm 0 1, .nils, .lm 1 1]) := rfl
    have n : newC 0 (some 2) (cellsOf (.agg [.lm 0 1, .nils, .lm 1 1])) [⟨1, .map false []⟩, ⟨1, .map false []⟩, D0, D0, D0, D0, D0, D0, D0, D0, D0, D0, D0] = some (T21, [⟨1, .map false []⟩, ⟨1, .map false []⟩, ⟨1, .arr true false 3 [[.lm 0 1, .nils, .lm 1 1]]⟩, D0, D0, D0, D0, D0, D0, D0, D0, D0, D0]) := rfl
    unfold yf1 yqv
    simp only [m0, m1, yc, b, y3, n, ymr, y3d]
    rfl
  have e0' := e0.trans e1
  show ∃ r, yf1 (slA o) [D0, D0, D0, D0, D0, D0, D0, D0, D0, D0, D0, D0, D0] = some r ∧ _
  rw [e0']
  unfold yht
  simp only [y3d, y3]
  obtain ⟨H2, R2, e2⟩ := yqk ok (by omega) (lst o).length 0 H1 (by omega) R1
  rw [show (AV.int .i64 0) = .int .i64 ((0 : Nat) : Int) from rfl, e2, List.drop_zero]
  by_cases hn : (lst o).all (fun c => y7r false c.nm) = false
  · rw [if_pos hn, if_pos hn]
    exact ⟨_, rfl, y64 20⟩
  rw [if_neg hn, if_neg hn]
  unfold yl4
  simp only [y3d, y3]
  have hN0 : ownP.map y8r ≠ [] := by
    intro e
    have := congrArg List.length e
    rw [List.length_map, ybv] at this
    cases this
  obtain ⟨H3, g3, R3, e3⟩ := y145 (o := o) hL (lst o).length 0 H2 y3a (ownP.map y8r) g1 (by omega) R2 hN0 (by rw [List.length_map, ybv]; omega)
  rw [show (AV.int .i64 0) = .int .i64 ((0 : Nat) : Int) from rfl, e3, List.drop_zero]
  rw [List.drop_zero] at R3
  cases ha : y49 y3a (lst o) with
  | none =>
    simp only [Option.isNone_none, if_true]
    exact ⟨_, rfl, y64 23⟩
  | some C =>
    have R3 := R3 C ha
    simp only [Option.isNone_some, Bool.false_eq_true, if_false, yjm, y3d, y3]
    have hNC : ownP.map y8r ++ (lst o).map (fun c => Tx.mk c.nm) = (ckeys C).map Tx.mk := by
      rw [ybs _ _ _ ha, List.map_append, List.map_map]
      congr 1
    rw [hNC] at R3
    have hNe : (ckeys C).map Tx.mk ≠ [] := by
      rw [← hNC]
      intro e
      exact hN0 (List.append_eq_nil_iff.1 e).1
    obtain ⟨H4, R4, e4⟩ := y12o ok hL hNe (lst o).length 0 H3 (by omega) R3
    rw [show (AV.int .i64 0) = .int .i64 ((0 : Nat) : Int) from rfl, e4, List.drop_zero]
    by_cases hp : (lst o).all (parB C) = false
    · rw [if_pos hp, if_pos hp]
      exact ⟨_, rfl, y64 50⟩
    rw [if_neg hp, if_neg hp]
    have hn' : (lst o).all (fun c => y7r false c.nm) = true := by simpa using hn
    have hp' : (lst o).all (parB C) = true := by simpa using hp
    obtain ⟨c1, _, _⟩ := yei hn' ha hp'
    obtain ⟨b, A, ec, g1', _, _⟩ := y77 (N := ckeys C) (k := C.length + 1) c1 (by simp [ckeys]) (ckeys C) [] (fun _ h => h) .nil (by intro x h; cases h)
    obtain ⟨M, eM, hM, _⟩ := y95 _ _ _ ha
    have hC : ∀ n c, tlook C n = some c → (lst c.ifs).length * 16 ≤ reachBytes := by
      intro n c h
      have := yf0 h
      rw [eM, List.mem_append] at this
      rcases this with h | h
      · obtain ⟨p, _, hq⟩ := List.mem_map.1 h
        injection hq with _ hb
        rw [← hb]
        exact Nat.zero_le _
      · exact (ok c (hM n c h).1).ifs
    have hlk : ((ckeys C).map Tx.mk).length = 13 + (lst o).length := by
      rw [← hNC, List.length_append, List.length_map, List.length_map, ybv]
    have KS0 : KS H4 C ((ckeys C).map Tx.mk) g3 [] [] := by
      obtain ⟨x, N0, hx⟩ := List.exists_cons_of_ne_nil hNe
      have h2 := R4.h2
      have h5 := R4.h5
      rw [hx] at h2 h5 ⊢
      exact ⟨R4.h0, R4.h1, h2, h5, .nil, fun p h => (by cases h), (by rw [R4.len]; omega)⟩
    have hmap : (((ckeys C).map Tx.mk).drop 0).map (·.s) = ckeys C := by
      rw [List.drop_zero, List.map_map]
      exact List.map_id'' (fun _ => rfl) _
    obtain ⟨H5, P5, R5, e5⟩ := yrq hC (by omega) (C.length + 1) ((ckeys C).map Tx.mk).length 0 H4 [] [] b A (by omega) (by rw [hmap]; exact ec) .nil KS0
    have e8 : yni T21 H4 = ycg T21 (.ls 5 g3 1 0 ((ckeys C).map Tx.mk).length) (.int .i64 ((ckeys C).map Tx.mk).length) (.int .i64 ((0 : Nat) : Int)) H4 := by
      have l1 : evLd false 1 (.lp 2 1 0 1) H4 = some (.ls 5 g3 1 0 ((ckeys C).map Tx.mk).length) := by
        have := R4.ld1
        obtain ⟨x, N0, hx⟩ := List.exists_cons_of_ne_nil hNe
        rw [hx] at this ⊢
        exact this
      unfold yni
      simp only [y1t, y3, y1q, Nat.zero_add, l1, ydd]
      rfl
    rw [e8, e5, ec]
    cases b with
    | false =>
      simp only [Bool.false_eq_true, if_false]
      exact ⟨_, rfl, y64 51⟩
    | true =>
      obtain ⟨r, er, hr⟩ := (R5 rfl).done
      simp only [if_true]
      refine ⟨r, er, ?_⟩
      have hm2 : ((ckeys C).map Tx.mk).map (·.s) = ckeys C := by
        rw [List.map_map]
        exact List.map_id'' (fun _ => rfl) _
      rw [hm2] at hr
      exact hr
end Go.Vm
namespace Go.Vm
open Cel
structure Ask where
  cls : List UInt8
  nm : List UInt8
  desc : List UInt8
  typ : List UInt8
  want : List UInt8
  deriving DecidableEq, Inhabited
instance : Cel Ask := ⟨5, fun x => [.str x.cls, .str x.nm, .str x.desc, .str x.typ, .str x.want], fun _ => rfl, fun _ => rfl, fun _ => rfl⟩
abbrev y113 : Ty := .struct (.sCons .str (.sCons .str (.sCons .str (.sCons .str (.sCons .str .sNil)))))
structure AskOk (z : Ask) : Prop where
  cls : z.cls.length ≤ reachBytes
  nm : z.nm.length ≤ reachBytes
  desc : z.desc.length ≤ reachBytes
  typ : z.typ.length ≤ reachBytes
  want : z.want.length ≤ reachBytes
theorem y12r {cs : List AV} (h : y113.has cs) : ∃ x : Ask, cs = enc x ∧ AskOk x := by
  obtain ⟨_, _, rfl, h1, _, _, rfl, h2, _, _, rfl, h3, _, _, rfl, h4, _, _, rfl, h5, rfl⟩ := h
  obtain ⟨a, rfl, k1⟩ := y6r h1
  obtain ⟨b, rfl, k2⟩ := y6r h2
  obtain ⟨c, rfl, k3⟩ := y6r h3
  obtain ⟨d, rfl, k4⟩ := y6r h4
  obtain ⟨e, rfl, k5⟩ := y6r h5
  exact ⟨⟨a, b, c, d, e⟩, rfl, ⟨k1, k2, k3, k4, k5⟩⟩
theorem ygv {E : Env} {C : Calls2} {fb f : Nat} {args : List AV} {h : Heap} {fa : Fz (List AV)} {r : Ex AV} {v : AV} (hE : E.pure f = true) (ha : ye (fz h y14) args = some fa)
    (hc : C.p f fa.v = some r) (hr : ygr r v) : ∃ h1, y6 E C fb none true f args h = some (v, h1) := by
  obtain ⟨q, h1, h2⟩ := hr
  refine ⟨if r.fresh || fa.ids.isEmpty then h else yd fa.ids h, ?_⟩
  simp only [y6, hE, y4d, ha, hc, h1, h2, Option.isSome_none, Bool.and_false, Bool.not_false, Bool.and_self, if_true]
def y8d (A : ATab) (a b : Txt) : Bool := y6t (upB A) a b
theorem y3e {fb : Nat} {H : Heap} (C : CTab) (N : List Txt) (A : ATab) (a b : Txt) (ha : Sm a) (hb : Sm b) : y6 E (y8 E) fb none true 3 [y2z C N A, .str a, .str b] H = some (.bool (y8d A a b), H) :=
  y5r (by kernel_rfl) (y15i ..) (y17j C N A a.length a b (Nat.le_refl _) ha hb)
theorem ym3 {fb : Nat} {H : Heap} (C : CTab) (N : List Txt) (A : ATab) (a : Txt) (ha : Sm a) : y6 E (y8 E) fb none true 59 [y2z C N A, .str a] H = some (.bool (yaa C a), H) :=
  y5r (by kernel_rfl) (y19t ..) (y117 C N A a ha)
def cA : Cls := ⟨0, [97], [69, 120, 99, 101, 112, 116, 105, 111, 110], none, none, none, none⟩
def tA : CTab × ATab := match newM [cA] with
  | .ok p => p
  | .error _ => ([], [])
theorem newA : newM [cA] = .ok tA := by
  have h : (match newM [cA] with | .ok _ => true | .error _ => false) = true := by kernel_rfl
  unfold tA
  cases hn : newM [cA] with
  | ok p => rfl
  | error k => rw [hn] at h; cases h
theorem okA : ∀ x ∈ lst (some [cA]), ClsOk x := by
  intro x hx
  have : x = cA := by simpa [lst] using hx
  subst this
  exact ⟨⟨by decide, by decide⟩, by decide, by decide, by decide, fun s h => (by cases h), by decide, by decide, by decide⟩
theorem fit1 : y8d tA.2 [76, 97, 59] [76, 84, 104, 114, 111, 119, 97, 98, 108, 101, 59] = true := by kernel_rfl
theorem fit2 : y8d tA.2 [91, 76, 97, 59] [91, 76, 79, 98, 106, 101, 99, 116, 59] = true := by kernel_rfl
theorem fit3 : y8d tA.2 [91, 73] [91, 76, 79, 98, 106, 101, 99, 116, 59] = false := by kernel_rfl
theorem fit4 : y8d tA.2 [76, 79, 98, 106, 101, 99, 116, 59] [76, 97, 59] = false := by kernel_rfl
theorem y19y : ∃ r, (y8 E).p 31 [] = some r ∧ ygr r (slA (some (ownP.map y8r))) := ⟨exO (some (ownP.map y8r)), yp3 60 (by kernel_rfl), yav _⟩
theorem yn8 : (y8 E).p 32 [.str [83, 121, 115], .str [101, 120, 105, 116], .str [40, 73, 41, 86]] = some ⟨.int .i64 3, [], true, [], []⟩ := yp3 60 (by kernel_rfl)
theorem y143 : (y8 E).p 0 [] = xB true := by
  rw [y1ad]
  unfold y0t
  have b : y2w [.int .i64 0, .str [], .str [], .nils, .nils, .nils, .nils] [(1, 1, .str [97]), (2, 1, .str [69, 120, 99, 101, 112, 116, 105, 111, 110])] = some (.agg (enc cA)) := rfl
  have bs : y2t 0 (some 0) 7 1 [.int .i64 0, .str [], .str [], .nils, .nils, .nils, .nils] [(0, .agg (enc cA))] [⟨0, .dead⟩] = some (.ls 0 1 7 0 1, [⟨1, .arr false false 7 ([cA].map enc)⟩]) := rfl
  have hf : ye (fz [⟨1, .arr false false 7 ([cA].map enc)⟩] y14) [.ls 0 1 7 0 1] = some ⟨[slA (some [cA])], [cA].all scal && true, [0] ++ []⟩ := by
    have := ysg (k := 10) (L := [cA]) (H := [⟨1, .arr false false 7 ([cA].map enc)⟩]) (id := 0) (g := 1) rfl
    rw [show 10 + 2 = y14 from rfl] at this
    rw [y1p, show (AV.ls 0 1 7 0 1) = .ls 0 1 (es Cls) 0 [cA].length from rfl, this]
    rfl
  obtain ⟨r, er, hr⟩ := y15c okA (by decide)
  rw [show lst (some [cA]) = [cA] from rfl, newA] at hr
  obtain ⟨h1, hc⟩ := ygv (fb := 0) (by kernel_rfl : E.pure 1 = true) hf er hr
  obtain ⟨r2, er2, hr2⟩ := y19y
  have hO : ∀ H, y6 E (y8 E) 0 none true 31 [] H = some (slA (some (ownP.map y8r)), H) := fun H => y6o (by kernel_rfl) (fa := ⟨[], true, []⟩) rfl rfl er2 hr2
  have hN : ∀ H, y6 E (y8 E) 0 none true 32 [.str [83, 121, 115], .str [101, 120, 105, 116], .str [40, 73, 41, 86]] H = some (.int .i64 3, H) := fun H => y5r (by kernel_rfl) rfl yn8
  have ev : newV (.ok tA) = .tup [y2z tA.1 (ckeys tA.1) tA.2, .int .i64 0] := rfl
  rw [ev] at hc
  simp only [b, y3, bs, yc, hc, y2g, List.getElem?_cons_zero, List.getElem?_cons_succ, yi, decide_true, y3b, yam]
  rw [y3e _ _ _ _ _ (by decide) (by decide), fit1]
  simp only [yc, yj, y3, y3b, yam]
  rw [y3e _ _ _ _ _ (by decide) (by decide), fit2]
  simp only [yc, yj, y3, y3b, yam]
  rw [y3e _ _ _ _ _ (by decide) (by decide), fit3]
  simp only [yc, y18, Bool.not_false, yj, y3, y3b, yam]
  rw [y3e _ _ _ _ _ (by decide) (by decide), fit4]
  simp only [yc, y18, Bool.not_false, yj, y3, y3b, yam, hO, y3d, yi, hN]
  rfl
theorem ym7 {fb : Nat} {H : Heap} : y6 E (y8 E) fb none true 0 [] H = some (.bool true, H) := y5r (by kernel_rfl) rfl y143
theorem ymb {o : Option (List Cls)} (hL : (lst o).length ≤ 9223372036854775806) : ∀ (d i : Nat) (m : Int) (x : AO), i + d = (lst o).length →
    ∃ b, yem (.int .i64 m) (slA o) (.int .i64 (lst o).length) (.int .i64 i) [x] = xB b := by
  intro d
  induction d with
  | zero =>
    intro i m x hi
    have hc : ¬ ((i : Int) < ((lst o).length : Int)) := by omega
    rw [yf8]
    simp only [yy7, yh, hc, decide_false, y3, yws, yy, y14d, yb7]
    exact ⟨_, rfl⟩
  | succ d ih =>
    intro i m x hi
    have hlt : i < (lst o).length := by omega
    have hc : ((i : Int) < ((lst o).length : Int)) := by omega
    have hw := y2j hlt (by omega)
    have k1 := ydu (o := o) (i := i) (List.getElem?_eq_getElem hlt) .i64
    rw [yf8]
    generalize (lst o)[i] = c at *
    have n1 : newC 0 (some 0) zCls [x] = some (.lp 0 (x.gen + 1) 0 0, [AC (x.gen + 1) zC]) := ya4 (H := [x]) (fb := 0) (j := 0) rfl
    have s1 : evSt 7 (.lp 0 (x.gen + 1) 0 0) (.agg (enc c)) [AC (x.gen + 1) zC] = some (.tup [], [AC (x.gen + 1) c]) := yg7 (H := [AC (x.gen + 1) zC]) rfl
    have l3 : evLd false 1 (.lp 0 (x.gen + 1) 0 3) [AC (x.gen + 1) c] = some (slA c.ifs) := y31 (H := [AC (x.gen + 1) c]) rfl (cls3 c)
    have l5 : evLd false 1 (.lp 0 (x.gen + 1) 0 5) [AC (x.gen + 1) c] = some (slA c.flds) := y31 (H := [AC (x.gen + 1) c]) rfl (cls5 c)
    have l6 : evLd false 1 (.lp 0 (x.gen + 1) 0 6) [AC (x.gen + 1) c] = some (slA c.mths) := y31 (H := [AC (x.gen + 1) c]) rfl (cls6 c)
    simp only [yy7, yh, hc, decide_true, y3, yws, y1f, y11n, k1, y5w, yd8, n1, yc, s1, y1q, Nat.zero_add, l3, l5, l6, y3d, yx, y13p, hw]
    have := ih (i + 1) (IntKind.wrap .i64 (m + IntKind.wrap .i64 (IntKind.wrap .i64 (IntKind.wrap .i64 (1 + (lst c.ifs).length) + (lst c.flds).length) + (lst c.mths).length))) (AC (x.gen + 1) c) (by omega)
    push_cast at this
    exact this
theorem yq6 {o : Option (List Cls)} (hL : (lst o).length ≤ 9223372036854775806) : ∃ b, (y8 E).p 2 [slA o] = xB b := by
  rw [y18m]
  unfold ytl ypz y11e
  simp only [y3d, y3]
  exact ymb hL (lst o).length 0 0 _ (by omega)
end Go.Vm
namespace Go.Vm
open Cel
theorem yic : ∀ {s : Txt} {j : Nat}, semi s = some j → s[j]? = some 59
  | [], j, h => by cases h
  | b :: s, j, h => by
    simp only [semi] at h
    split at h
    · rename_i e
      injection h with h
      subst h
      rw [e]
      rfl
    · cases hs : semi s with
      | none => rw [hs] at h; cases h
      | some q =>
        rw [hs] at h
        simp only [Option.map_some, Option.some.injEq] at h
        subst h
        rw [List.getElem?_cons_succ]
        exact yic hs
theorem yyg {C : CTab} {A : ATab} (T : TOk C A) {x : Txt} (h : yaa C x = true) : x = [73] ∨ x = [74] ∨ (x.head? = some 91 ∧ 1 < x.length) ∨ (yo x ≠ [] ∧ upB A (yo x) sObj = true) := by
  unfold yaa at h
  rw [Bool.and_eq_true] at h
  obtain ⟨ht, hk⟩ := h
  have hb := yi8 ht
  unfold yfh at ht
  rw [Bool.and_eq_true, decide_eq_true_eq, decide_eq_true_eq] at ht
  obtain ⟨hne, ht⟩ := ht
  cases x with
  | nil => exact (hne rfl).elim
  | cons c r =>
    by_cases h91 : c = 91
    · refine .inr (.inr (.inl ⟨by rw [h91]; rfl, ?_⟩))
      rw [brk, if_pos h91] at hb
      simp only [List.length_cons] at hb ⊢
      omega
    · have hk0 : brk (c :: r) = 0 := by rw [brk, if_neg h91]
      unfold yby at ht
      rw [hk0] at ht hk
      simp only [Nat.not_lt_zero, List.drop_zero, Nat.zero_add] at ht hk
      rw [if_neg (by simp)] at ht
      by_cases h1 : c = 73 ∨ c = 74
      · rw [if_pos h1] at ht
        have : r = [] := List.eq_nil_of_length_eq_zero (by simp only [List.length_cons] at ht; omega)
        subst this
        rcases h1 with rfl | rfl
        · exact .inl rfl
        · exact .inr (.inl rfl)
      · rw [if_neg h1] at ht
        by_cases h2 : c = 76
        · rw [if_pos h2] at ht
          cases hs : semi r with
          | none =>
            rw [hs] at ht
            simp at ht
          | some j =>
            rw [hs] at ht
            simp only at ht
            split at ht
            · rename_i hn
              have hlen : r.length = j + 1 := by simp only [List.length_cons] at ht; omega
              have hr : r = r.take j ++ [59] := by
                have h3 := List.take_append_drop j r
                rw [List.drop_eq_getElem_cons (by omega), List.drop_eq_nil_of_le (by omega)] at h3
                have h4 := yic hs
                rw [List.getElem?_eq_getElem (by omega)] at h4
                injection h4 with h4
                rw [h4] at h3
                exact h3.symm
              have hm : r.take j ≠ [] := by
                intro e
                rw [e] at hn
                revert hn
                decide
              have hcl : yo (c :: r) = r.take j := by
                rw [hr]
                rw [yfn c (r.take j) 59 hm, if_pos ⟨h2, rfl⟩]
                rw [List.take_append_of_le_length (by rw [List.length_take]; omega), List.take_take]
                simp
              rw [hcl] at hk ⊢
              rw [decide_eq_false hm, Bool.false_or] at hk
              cases hl : tlook C (r.take j) with
              | none => rw [hl] at hk; cases hk
              | some d => exact .inr (.inr (.inr ⟨hm, y0m T.ok T.top (T.keys _ _ hl)⟩))
            · simp at ht
        · rw [if_neg h2] at ht
          simp at ht
theorem y13c {C : CTab} {A : ATab} (T : TOk C A) {c : UInt8} {r : Txt} (h : yaa C (c :: r) = true) :
    y8d A (c :: r) (c :: r) = true ∧ y8d A (c :: r) [] = true ∧ y8d A [78] (c :: r) = (decide (c = 76) || decide (c = 91)) ∧ y8d A (c :: r) tObj = (decide (c = 76) || decide (c = 91)) ∧ y8d A [] (c :: r) = false ∧ y8d A ([91] ++ (c :: r)) ([91] ++ tObj) = (decide (c = 76) || decide (c = 91)) := by
  obtain ⟨h1, h2, h3⟩ := yxb (upB A) (yyg T h)
  have e : decide ((c :: r).head? = some 76 ∨ (c :: r).head? = some 91) = (decide (c = 76) || decide (c = 91)) := by
    simp only [List.head?_cons, Option.some.injEq, Bool.decide_or]
  rw [e] at h1 h2 h3
  exact ⟨y80 _ _, yiw _ _, h1, h2, y78 _ (by simp), h3⟩
theorem yvq {C : CTab} {A : ATab} {N : List Txt} (T : TOk C A) (v68 v69 v70 : AV) (x : Txt) (hx : x.length ≤ 9223372036854775) (H : Heap) :
    yus (y2z C N A) (.str x) v68 v69 v70 H = yro (y2z C N A) v68 v69 v70 H := by
  have sx : Sm x := by unfold Sm; omega
  unfold yus
  simp only [ym3 C N A x sx, yc, y18, y3]
  cases hk : yaa C x with
  | false => simp only [Bool.not_false, y1f]
  | true =>
    simp only [Bool.not_true, yy]
    cases x with
    | nil => cases hk
    | cons c r =>
      obtain ⟨f1, f2, f3, f4, f5, f6⟩ := y13c T hk
      have sO : Sm tObj := by decide
      have sO2 : Sm ([91] ++ tObj) := by decide
      have sN : Sm [78] := by decide
      have s0 : Sm [] := by decide
      have s1 : Sm ([91] ++ (c :: r)) := by unfold Sm; simp only [List.length_append, List.length_cons, List.length_nil] at hx ⊢; omega
      have cF := fun (H : Heap) (a b : Txt) (ha : Sm a) (hb : Sm b) => y3e (fb := 0) (H := H) C N A a b ha hb
      have g1 := fun H => cF H _ _ sx sx
      have g2 := fun H => cF H _ _ sx s0
      have g3 := fun H => cF H _ _ sN sx
      have g4 := fun H => cF H _ _ sx sO
      have g5 := fun H => cF H _ _ s0 sx
      have g6 := fun H => cF H _ _ s1 sO2
      rw [f1] at g1
      rw [f2] at g2
      rw [f3] at g3
      rw [f4] at g4
      rw [f5] at g5
      rw [f6] at g6
      have eO : tObj = [76, 79, 98, 106, 101, 99, 116, 59] := rfl
      have eO2 : [91] ++ tObj = [91, 76, 79, 98, 106, 101, 99, 116, 59] := rfl
      rw [eO] at g4
      rw [eO2] at g6
      have add : y9 .add (.str [91]) (.str (c :: r)) = some (.str ([91] ++ (c :: r))) := by
        unfold y9
        simp only [yfw]
        rw [if_pos]
        simp only [List.length_cons, List.length_nil] at hx ⊢
        have e62 : (2:Nat) ^ 62 = 4611686018427387904 := by decide
        rw [e62]
        omega
      unfold y12d
      simp only [y3l, y3, yi, yya, g1, yc, y18, Bool.not_true, y3m, yt0, g2, yl]
      have hp : (gb (.bool (decide (c = 76))) false (some (.str (c :: r))) fun v82 => gb (.bool (decide (c = 76))) false (y1k v82 (.int .i64 0)) fun v83 => gb (.bool (decide (c = 76))) false (y9 .eql v83 (.int .u8 91)) fun v84 => yk (.bool (decide (c = 76))) (.bool true) v84) = some (.bool (decide (c = 76) || decide (c = 91))) := by
        cases decide (c = 76) with
        | true => rfl
        | false => simp only [y3m, y3, y3l, yi, ydc, yl, Bool.false_or]
      cases h76 : decide (c = 76) with
      | true =>
        rw [h76] at g3 g4 g6
        simp only [y6u, y4r, yj, y3, g3, Bool.true_or, yc, yop, if_true, beq_self_eq_true, Bool.not_true, y3m, yt0, yl, g4, g5, add, g6, yy]
      | false =>
        rw [h76] at g3 g4 g6
        simp only [y3m, y3, y3l, yi, ydc, yl, Bool.false_or, g3, yc, yop, if_true, beq_self_eq_true, Bool.not_true, yt0, g4, g5, add, g6, yy]
theorem yq7 {C : CTab} {A : ATab} {N : List Txt} (T : TOk C A) (L : List Tx) (hL : L.length ≤ 9223372036854775806) (hx : ∀ x ∈ L, x.s.length ≤ 9223372036854775) (H : Heap) (hH : H[1]? = some ⟨1, .arr false false 1 (L.map enc)⟩) : ∀ (d i : Nat), i + d = L.length →
    yfr (y2z C N A) (.ls 1 1 1 0 L.length) (.int .i64 L.length) (.int .i64 i) H = xB true := by
  intro d
  induction d with
  | zero =>
    intro i hi
    have hc : ¬ ((i : Int) < (L.length : Int)) := by omega
    rw [yeb]
    simp only [yl7, yh, hc, decide_false, y3, yvr, yy, y148, yb7]
  | succ d ih =>
    intro i hi
    have hlt : i < L.length := by omega
    have hc : ((i : Int) < (L.length : Int)) := by omega
    have hw := y2j hlt (by omega)
    have ix := yvw (n := L.length) (p := (i : Int)) (by omega) hc 1 1 .i64
    rw [show ((i : Int)).toNat = i by omega] at ix
    have hld : evLd false 1 (.lp 1 1 i 0) H = some (.str L[i].s) := yku (es := 1) hH (by simp [hlt])
    have hs := hx _ (List.getElem_mem hlt)
    rw [yeb]
    simp only [yl7, yh, hc, decide_true, y3, yvr, y1f, y0j, ix, hld, yvq T _ _ _ _ hs, yro, yx, hw]
    have := ih (i + 1) (by omega)
    push_cast at this
    exact this
theorem y16r {l : List Cls} {k : Int} (h : newM l = .error k) : k ≠ 0 := by
  unfold newM at h
  split at h
  · cases h; decide
  split at h
  · cases h; decide
  split at h
  · cases h; decide
  · split at h
    · cases h; decide
    · split at h
      · cases h
      · cases h; decide
theorem ygi (o : Option (List Cls)) (z : Ask) (ok : ∀ x ∈ lst o, ClsOk x) (hl0 : (lst o).length * 136 ≤ reachBytes) (hz : AskOk z) : (y8 E).p 70 [slA o, .agg (enc z)] = xB true := by
  have rb : reachBytes = 140737488351232 := rfl
  rw [rb] at hl0
  have hl : (lst o).length ≤ maxLen := Nat.le_trans (by omega : (lst o).length ≤ 140737488351232) (by decide)
  have ml : (lst o).length ≤ 9223372036854775806 := by omega
  have ha := hz.typ
  have hb := hz.want
  have hc := hz.desc
  rw [rb] at ha hb hc
  have sa : Sm z.typ := by unfold Sm; omega
  have sb : Sm z.want := by unfold Sm; omega
  have sc : Sm z.desc := by unfold Sm; omega
  rw [y1a7]
  have n0 : newC 0 (some 0) (enc z) [⟨0, .dead⟩, ⟨0, .dead⟩] = some (.lp 0 1 0 0, [⟨1, .arr true false 5 [enc z]⟩, D0]) := rfl
  have hr : yg [⟨1, .arr true false 5 [enc z]⟩, D0] 0 1 = some (false, 5, [enc z]) := rfl
  have l3 : evLd false 1 (.lp 0 1 0 3) [⟨1, .arr true false 5 [enc z]⟩, D0] = some (.str z.typ) := rfl
  have l4 : evLd false 1 (.lp 0 1 0 4) [⟨1, .arr true false 5 [enc z]⟩, D0] = some (.str z.want) := rfl
  have l2 : evLd false 1 (.lp 0 1 0 2) [⟨1, .arr true false 5 [enc z]⟩, D0] = some (.str z.desc) := rfl
  obtain ⟨r, er, hr⟩ := y15c ok hl
  have hcall : ∀ H, y6 E (y8 E) 0 none true 1 [slA o] H = some (newV (newM (lst o)), H) := fun H => y6o (by kernel_rfl) (fa := ⟨[slA o], (lst o).isEmpty && true, []⟩) (by simp) rfl er hr
  unfold yq1 yrp ymx ypy
  simp only [yb2, n0, yc, y1q, Nat.zero_add, y3, l3, l4, l2, ym7, y18, Bool.not_true, yy, hcall]
  cases hn : newM (lst o) with
  | error k =>
    have hk := y16r hn
    simp only [newV, y2g, List.getElem?_cons_zero, List.getElem?_cons_succ, y3, ykr, y8c, ne_eq, hk, not_false_eq_true, decide_true, y6u, y18v, y4r, yj, y1f, yb7]
  | ok p =>
    obtain ⟨C, A⟩ := p
    obtain ⟨T, _⟩ := y16v hn
    obtain ⟨b, hb2⟩ := yq6 ml
    have hlight : ∀ H, y6 E (y8 E) 0 none true 2 [slA o] H = some (.bool b, H) := fun H => y5r (by kernel_rfl) (fr := (lst o).isEmpty && true) (by simp) hb2
    simp only [newV, y2g, List.getElem?_cons_zero, List.getElem?_cons_succ, y3, ykr, y8c, ne_eq, not_true_eq_false, decide_false, y3m, yt0, hlight, yc, y18, yl]
    have fin : ∀ q : Bool, (cnd (.bool q) (yr [⟨1, .arr true false 5 [enc z]⟩, D0] (.bool true)) (ykq (.str z.typ) (.str z.want) (.str z.desc) (y2z C (ckeys C) A) [⟨1, .arr true false 5 [enc z]⟩, D0])) = xB true := by
      intro q
      cases q with
      | true => rfl
      | false =>
        have end_ : ykm (.str z.typ) (.str z.want) (.str z.desc) (y2z C (ckeys C) A) [⟨1, .arr true false 5 [enc z]⟩, D0] = xB true := by
          unfold ykm
          have bs : y2t 0 (some 1) 1 3 [.str []] [(0, .str z.typ), (1, .str z.want), (2, .str z.desc)] [⟨1, .arr true false 5 [enc z]⟩, D0] = some (.ls 1 1 1 0 3, [⟨1, .arr true false 5 [enc z]⟩, ⟨1, .arr false false 1 ([Tx.mk z.typ, Tx.mk z.want, Tx.mk z.desc].map enc)⟩]) := rfl
          simp only [bs, yc, ydd, y3]
          exact yq7 T [Tx.mk z.typ, Tx.mk z.want, Tx.mk z.desc] (show 3 ≤ 9223372036854775806 by decide) (by
            intro x hx
            simp only [List.mem_cons, List.not_mem_nil, or_false] at hx
            rcases hx with rfl | rfl | rfl
            · show z.typ.length ≤ _; omega
            · show z.want.length ≤ _; omega
            · show z.desc.length ≤ _; omega) _ rfl 3 0 rfl
        simp only [yy, ykq, y3e C _ A _ _ sa sb, yc]
        cases h1 : y8d A z.typ z.want with
        | false => simp only [y8q, y127, y4r, yl, y3, yy, end_]
        | true =>
          simp only [y3b, yam, y3, y3e C _ A _ _ sb sc, yc, yj]
          cases h2 : y8d A z.want z.desc with
          | false => simp only [y8q, y127, y4r, yl, y3, yy, end_]
          | true =>
            simp only [y3b, yam, y3, y1x, yj]
            by_cases h3 : z.want = []
            · simp only [h3, ne_eq, not_true_eq_false, decide_false, y8q, y127, y4r, yl, y3, yy]
              rw [h3] at end_
              exact end_
            · have h4 : y8d A z.typ z.desc = true := ymh (upB A) (yrm T.ok) (y114 T.ok T.obj) z.typ.length _ _ _ (Nat.le_refl _) h1 h2 h3
              simp only [h3, ne_eq, not_false_eq_true, decide_true, y3b, yam, y3, y3e C _ A _ _ sa sc, h4, yc, y18, Bool.not_true, yj, yy, end_]
    cases b with
    | false => simp only [Bool.not_false, y6u, y4r, yj, y3]; exact fin true
    | true =>
      simp only [Bool.not_true, y3m, y3, y1i, yx, y2u, yl]
      exact fin _
end Go.Vm
