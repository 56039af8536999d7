/- 'New' on the machine: names are names, nobody twice, all have parents. 'New' on the machine: all climb; the tree as an answer. Kin's laws: what they share. Kin's questions: the names, a class, who stands above. A thing as a variable of its own. Kin's fields: the class itself ahead of its parents. Kin's methods: the class and its parents, then all that stand above. A line of classes, each the parent of the next: names, chains, sets. A line of classes is taken, and who stands above whom there. -/
import Derived.Sort.KeysCollected
import Derived.Test.YtkcigmgchfcpkaaNTb
set_option linter.unusedSimpArgs false
set_option linter.unusedVariables false
set_option linter.unusedSectionVars false
namespace Go.Vm
open Cel
abbrev eE (k : Int) : Option (Ex AV) := some ⟨.tup [.nilp, .int .i64 k], [], true, [], []⟩
theorem y80 (k : Int) (H : Heap) : yq H (.tup [.nilp, .int .i64 k]) = eE k := rfl
abbrev T21 : AV := .lp 2 1 0 0
theorem ybq {H : Heap} {j : Nat} {o : AO} (c : Cls) (h : H[j]? = some o) : ∃ H1, newC 0 (some j) zCls H = some (.lp j (o.gen + 1) 0 0, H1) ∧ evSt 7 (.lp j (o.gen + 1) 0 0) (.agg (enc c)) H1 = some (.tup [], H.set j (AC (o.gen + 1) c)) := by
  have h1 := y9e (fb := 0) (j := j) (by rw [Nat.zero_add]; exact h)
  rw [Nat.zero_add] at h1
  have h2 := ydj (H := H.set j (AC (o.gen + 1) zC)) (c := zC) (d := c) (y22 (yz h))
  rw [List.set_set] at h2
  exact ⟨_, h1, h2⟩
theorem yt2 {o : Option (List Cls)} (ok : ∀ x ∈ lst o, ClsOk x) (hL : (lst o).length ≤ 9223372036854775806) {C : CTab} {N : List Tx} {g : Nat} : ∀ (d i : Nat) (H : Heap), i + d = (lst o).length → NRep H C N g →
    ∃ H', NRep H' C N g ∧ ybc (slA o) T21 (slA o) (.int .i64 (lst o).length) (.int .i64 i) H = if ((lst o).drop i).all (fun c => y7x false c.nm) = false then eE 20 else ykz (slA o) T21 H' := by
  intro d
  induction d with
  | zero =>
    intro i H hi R
    have hc : ¬ ((i : Int) < ((lst o).length : Int)) := by omega
    refine ⟨H, R, ?_⟩
    rw [ydb, List.drop_eq_nil_of_le (by omega)]
    simp only [yl2, yh, hc, decide_false, y4, yly, y10, List.all_nil, Bool.true_eq_false, if_false]
  | succ d ih =>
    intro i H hi R
    have hlt : i < (lst o).length := by omega
    have hc : ((i : Int) < ((lst o).length : Int)) := by omega
    have hw := y3e hlt (by omega)
    have k1 := yj1 (o := o) (i := i) (List.getElem?_eq_getElem hlt) .i64
    have hok := ok _ (List.getElem_mem hlt)
    rw [ydb, List.drop_eq_getElem_cons hlt, List.all_cons]
    generalize (lst o)[i] = c at *
    obtain ⟨o6, h6⟩ := R.at (j := 6) (by omega)
    obtain ⟨H1, n1, s1⟩ := ybq c h6
    have hl := R.len
    have R2 := R.other (x := 6) (v := AC (o6.gen + 1) c) (by omega)
    have l1 : evLd false 1 (.lp 6 (o6.gen + 1) 0 1) (H.set 6 (AC (o6.gen + 1) c)) = some (.str c.nm) := y3t (y22 (by omega)) (cls1 c)
    have rb : reachBytes = 140737488351232 := rfl
    have hsm : Sm c.nm := by have := hok.nm; unfold Sm; omega
    have hcall : ∀ H : Heap, y7 E (y6 E) 0 none true 60 [.str c.nm, .bool false] H = some (.bool (y7x false c.nm), H) := fun H => y8l (by kernel_rfl) (by rfl) (y1br c.nm false hsm)
    simp only [yl2, yh, hc, decide_true, y4, yly, y1q, yxw, k1, y4s, yih, n1, yc, s1, y1f, Nat.zero_add, l1, hcall, y2b]
    cases hb : y7x false c.nm with
    | false => exact ⟨H, R, by simp only [Bool.not_false, y1q, Bool.false_and, if_true, y80]⟩
    | true =>
      obtain ⟨H', R', e'⟩ := ih (i + 1) _ (by omega) R2
      push_cast at e'
      refine ⟨H', R', ?_⟩
      simp only [Bool.not_true, y10, Bool.true_and, yqn, y1b, hw, y4]
      exact e'
theorem y18t {o : Option (List Cls)} (hL : (lst o).length ≤ 40) : ∀ (d i : Nat) (H : Heap) (C : CTab) (N : List Tx) (g : Nat), i + d = (lst o).length → NRep H C N g → N ≠ [] → N.length ≤ 13 + i →
    ∃ H' g', (∀ C', y1s C ((lst o).drop i) = some C' → NRep H' C' (N ++ ((lst o).drop i).map fun c => Tx.mk c.nm) g') ∧ yb5 (slA o) T21 (slA o) (.int .i64 (lst o).length) (.int .i64 i) H = if (y1s C ((lst o).drop i)).isNone then eE 23 else yn6 (slA o) T21 H' := by
  intro d
  induction d with
  | zero =>
    intro i H C N g hi R _ _
    have hc : ¬ ((i : Int) < ((lst o).length : Int)) := by omega
    rw [List.drop_eq_nil_of_le (by omega)]
    refine ⟨H, g, fun C' h => ?_, ?_⟩
    · simp only [y1s, Option.some.injEq] at h
      subst h
      simpa using R
    · rw [ye6]
      simp only [ykg, yh, hc, decide_false, y4, yli, y10, y1s, Option.isNone_some, Bool.false_eq_true, if_false]
  | succ d ih =>
    intro i H C N g hi R hN hNl
    have hlt : i < (lst o).length := by omega
    have hc : ((i : Int) < ((lst o).length : Int)) := by omega
    have hw := y3e hlt (by omega)
    have k1 := yj1 (o := o) (i := i) (List.getElem?_eq_getElem hlt) .i64
    rw [ye6, List.drop_eq_getElem_cons hlt, y1s]
    generalize (lst o)[i] = c at *
    obtain ⟨o7, h7⟩ := R.at (j := 7) (by omega)
    obtain ⟨H1, n1, s1⟩ := ybq c h7
    have hl := R.len
    have R2 := R.other (x := 7) (v := AC (o7.gen + 1) c) (by omega)
    have b2 : (H.set 7 (AC (o7.gen + 1) c))[7]? = some (AC (o7.gen + 1) c) := y22 (by omega)
    have l1 : evLd false 1 (.lp 7 (o7.gen + 1) 0 1) (H.set 7 (AC (o7.gen + 1) c)) = some (.str c.nm) := y3t b2 (cls1 c)
    simp only [ykg, yh, hc, decide_true, y4, yli, y1q, ywc, k1, y4s, yih, n1, yc, s1, ypw, y1x, y1f, Nat.zero_add, R2.ld0, l1]
    generalize H.set 7 (AC (o7.gen + 1) c) = H2 at *
    have hmg := yeo cV R2.h0 c.nm (.agg zCls) true
    obtain ⟨o8, h8⟩ := R2.at (j := 8) (by omega)
    rw [hmg]
    simp only [y4]
    cases hlk : tlook C c.nm with
    | some q =>
      obtain ⟨H3, n3, s3⟩ := ybq q h8
      refine ⟨H, g, fun C' h => by simp at h, ?_⟩
      simp only [ywo, y2w, List.getElem?_cons_zero, List.getElem?_cons_succ, y4, n3, yc, s3]
      rw [ybz (by rfl)]
      simp only [y1q, Option.isSome_some, if_true, Option.isNone_none, y80]
    | none =>
      obtain ⟨H3, n3, s3⟩ := ybq zC h8
      have ez : (AV.agg zCls) = .agg (enc zC) := rfl
      simp only [yrz, y2w, List.getElem?_cons_zero, List.getElem?_cons_succ, y4, n3, yc]
      rw [ez, s3]
      simp only [yc]
      rw [ybz (by rfl)]
      have R4 := R2.other (x := 8) (v := AC (o8.gen + 1) zC) (by omega)
      have hl2 := R2.len
      have b4 : (H2.set 8 (AC (o8.gen + 1) zC))[7]? = some (AC (o7.gen + 1) c) := by rw [yi (by omega)]; exact b2
      have l4 : evLd false 1 (.lp 7 (o7.gen + 1) 0 1) (H2.set 8 (AC (o8.gen + 1) zC)) = some (.str c.nm) := y3t b4 (cls1 c)
      have a4 : evLd true 7 (.lp 7 (o7.gen + 1) 0 0) (H2.set 8 (AC (o8.gen + 1) zC)) = some (.agg (enc c)) := yt8 b4
      have hput := yig cV R4.h0 c.nm c hlk
      simp only [y10, yz6, y1x, y4, y1f, Nat.zero_add, R4.ld0, l4, a4, hput, yc]
      have R5 := R4.put c.nm c
      have hl4 := R4.len
      have b5 : ((H2.set 8 (AC (o8.gen + 1) zC)).set 0 ⟨1, .map false (tE cV (C ++ [(c.nm, c)]))⟩)[7]? = some (AC (o7.gen + 1) c) := by rw [yi (by omega)]; exact b4
      generalize (H2.set 8 (AC (o8.gen + 1) zC)).set 0 ⟨1, .map false (tE cV (C ++ [(c.nm, c)]))⟩ = H5 at *
      have l5 : evLd false 1 (.lp 7 (o7.gen + 1) 0 1) H5 = some (.str c.nm) := y3t b5 (cls1 c)
      obtain ⟨o9, h9⟩ := R5.at (j := 9) (by omega)
      have bs : y19 0 (some 9) 1 1 [.str []] [(0, .str c.nm)] H5 = some (.ls 9 (o9.gen + 1) 1 0 1, H5.set 9 ⟨o9.gen + 1, .arr false false 1 ([Tx.mk c.nm].map enc)⟩) := by
        have := yl3 (H := H5) (fb := 0) (j := 9) c.nm (by rw [Nat.zero_add]; exact h9)
        simpa using this
      have R6 := R5.other (x := 9) (v := ⟨o9.gen + 1, .arr false false 1 ([Tx.mk c.nm].map enc)⟩) (by omega)
      have hl5 := R5.len
      have hy := yaf (H := H5.set 9 ⟨o9.gen + 1, .arr false false 1 ([Tx.mk c.nm].map enc)⟩) (id := 9) (g := o9.gen + 1) (s := c.nm) (y22 (by omega))
      obtain ⟨x, N0, rfl⟩ := List.exists_cons_of_ne_nil hN
      have hbd : ((x :: N0).length + [Tx.mk c.nm].length + ((x :: N0).length + [Tx.mk c.nm].length) / 4 + 512) * 16 ≤ 2 ^ 48 := by
        have e48 : (2:Nat) ^ 48 = 281474976710656 := by decide
        have e1 : [Tx.mk c.nm].length = 1 := rfl
        rw [e48, e1]
        exact y1di _ (by omega)
      have hap : y2d 0 (some 10) 1 16 (y2l Tx 5 g (x :: N0)) (.ls 9 (o9.gen + 1) 1 0 1) (H5.set 9 ⟨o9.gen + 1, .arr false false 1 ([Tx.mk c.nm].map enc)⟩) =
          some (y2l Tx 5 (g + 1) ((x :: N0) ++ [Tx.mk c.nm]), (H5.set 9 ⟨o9.gen + 1, .arr false false 1 ([Tx.mk c.nm].map enc)⟩).set 5 (y38 (g + 1) D0 ((x :: N0) ++ [Tx.mk c.nm]))) := by
        have := yky (fb := 0) (id := 5) (g := g) (b := 16) (sl := some 10) (L := x :: N0) (M := [Tx.mk c.nm]) hy R6.h5 hbd
        exact this
      obtain ⟨st, R7⟩ := R6.name ((x :: N0) ++ [Tx.mk c.nm]) (g + 1)
      simp only [R5.ld1, l5, bs, yc, y4, hap, st]
      rw [ybz (by rfl)]
      obtain ⟨H', g', h', e'⟩ := ih (i + 1) _ (C ++ [(c.nm, c)]) ((x :: N0) ++ [Tx.mk c.nm]) (g + 1) (by omega) R7 (by simp) (by rw [List.length_append]; simp only [List.length_singleton]; omega)
      push_cast at e'
      refine ⟨H', g', fun C' h => ?_, ?_⟩
      · simp only [Option.isSome_none, Bool.false_eq_true, if_false] at h
        have := h' C' h
        rw [List.append_assoc] at this
        exact this
      · simp only [yre, y1b, hw, y4, Option.isSome_none, Bool.false_eq_true, if_false]
        exact e'
theorem yef (H : Heap) (k : Nat) : ∀ C : CTab, ∃ fr, yb (y62 H (k + 2)) (tE cV C) = some ⟨tE cV C, fr, []⟩
  | [] => ⟨true, rfl⟩
  | (n, c) :: C => by
    obtain ⟨fr, ih⟩ := yef H k C
    have e1 : y62 H (k + 2) (.str n, cV c) = some ⟨(.str n, cV c), true && scal c, []⟩ := by
      have e2 : fz H (k + 2) (.str n) = some ⟨.str n, true, []⟩ := rfl
      simp only [y62, e2, y14f H k c, List.append_nil]
    refine ⟨(true && scal c) && fr, ?_⟩
    unfold tE at ih ⊢
    rw [List.map_cons, yr, e1, ih]
    rfl
theorem y11q {H : Heap} {C : CTab} {N : List Tx} {g : Nat} (R : NRep H C N g) (hN : N ≠ []) : ∃ fr ids, fz H yu T21 = some ⟨y11 C (N.map (·.s)) [], fr, ids⟩ := by
  obtain ⟨fr, hc⟩ := yef H 8 C
  have e0 : fz H 11 (.lm 0 1) = some ⟨.rm (tE cV C), fr, [0]⟩ := by
    have hm : y2f H 0 1 = some (false, tE cV C) := by simp [y2f, y1p, R.h0]
    have : fz H 11 (.lm 0 1) = match y2f H 0 1 with
      | some (_, es) => match yb (y62 H 10) es with
        | some r => some ⟨.rm r.v, r.fresh, 0 :: r.ids⟩
        | none => none
      | none => none := rfl
    rw [this, hm]
    simp only [hc]
  have e1 : fz H 11 (.lm 1 1) = some ⟨.rm [], true, [1]⟩ := by
    have hm : y2f H 1 1 = some (false, []) := by simp [y2f, y1p, R.h1]
    have : fz H 11 (.lm 1 1) = match y2f H 1 1 with
      | some (_, es) => match yb (y62 H 10) es with
        | some r => some ⟨.rm r.v, r.fresh, 1 :: r.ids⟩
        | none => none
      | none => none := rfl
    rw [this, hm]
    rfl
  have e2 : fz H 11 (y2l Tx 5 g N) = some ⟨slA (some N), N.all scal, [5]⟩ := by
    obtain ⟨x, N0, rfl⟩ := List.exists_cons_of_ne_nil hN
    exact yn1 (k := 9) (L := x :: N0) R.h5
  have hr : ye H 2 1 = some (false, 3, [[.lm 0 1, y2l Tx 5 g N, .lm 1 1]]) := by simp [ye, y1p, R.h2]
  have et : fz H yu T21 = match ye H 2 1 with
      | some (_, _, rows) => match rows[0]? with
        | some row => match yb (fz H 11) (row.drop 0) with
          | some r => some ⟨.rp r.v, r.fresh, 2 :: r.ids⟩
          | none => none
        | none => none
      | none => none := rfl
  have em : (N.map (fun x : Tx => x.s)).map Tx.mk = N := by
    rw [List.map_map]
    exact List.map_id'' (fun _ => rfl) N
  rw [et, hr]
  simp only [List.getElem?_cons_zero, List.drop_zero, yr, y3i, e0, e1, e2]
  unfold y11 yhm
  rw [em]
  exact ⟨_, _, rfl⟩
theorem y166 {o : Option (List Cls)} (ok : ∀ x ∈ lst o, ClsOk x) (hL : (lst o).length ≤ 40) {C : CTab} {N : List Tx} {g : Nat} (hN : N ≠ []) : ∀ (d i : Nat) (H : Heap), i + d = (lst o).length → NRep H C N g →
    ∃ H', NRep H' C N g ∧ ycn T21 (slA o) (.int .i64 (lst o).length) (.int .i64 i) H = if ((lst o).drop i).all (parB C) = false then eE 50 else ytz T21 H' := by
  intro d
  induction d with
  | zero =>
    intro i H hi R
    have hc : ¬ ((i : Int) < ((lst o).length : Int)) := by omega
    refine ⟨H, R, ?_⟩
    rw [ydf, List.drop_eq_nil_of_le (by omega)]
    simp only [ynj, yh, hc, decide_false, y4, ym2, y10, List.all_nil, Bool.true_eq_false, if_false]
  | succ d ih =>
    intro i H hi R
    have hlt : i < (lst o).length := by omega
    have hc : ((i : Int) < ((lst o).length : Int)) := by omega
    have hw := y3e hlt (by omega)
    have k1 := yj1 (o := o) (i := i) (List.getElem?_eq_getElem hlt) .i64
    have hok := ok _ (List.getElem_mem hlt)
    rw [ydf, List.drop_eq_getElem_cons hlt, List.all_cons]
    generalize (lst o)[i] = c at *
    obtain ⟨o6, h6⟩ := R.at (j := 11) (by omega)
    obtain ⟨H1, n1, s1⟩ := ybq c h6
    have hl := R.len
    have R2 := R.other (x := 11) (v := AC (o6.gen + 1) c) (by omega)
    have a1 : evLd true 7 (.lp 11 (o6.gen + 1) 0 0) (H.set 11 (AC (o6.gen + 1) c)) = some (.agg (enc c)) := yt8 (y22 (by omega))
    have rb : reachBytes = 140737488351232 := rfl
    have hcall : y7 E (y6 E) 0 none true 61 [T21, .agg (enc c)] (H.set 11 (AC (o6.gen + 1) c)) = some (.bool (parB C c), H.set 11 (AC (o6.gen + 1) c)) := by
      obtain ⟨fr, ids, hf⟩ := y11q R2 hN
      have hs := ywe C (N.map (·.s)) c (by have := hok.ifs; omega)
      have hp : E.pure 61 = true := by kernel_rfl
      simp only [y7, hp, y4n, yr, y3i, hf, y1ag, hs, Option.isSome_none, Bool.and_false, Bool.not_false, Bool.and_self, if_true, Bool.true_or]
      rfl
    simp only [ynj, yh, hc, decide_true, y4, ym2, y1q, yyg, k1, y4s, yih, n1, yc, s1, a1, hcall, y2b]
    cases hb : parB C c with
    | false => exact ⟨H, R, by simp only [Bool.not_false, y1q, Bool.false_and, if_true, y80]⟩
    | true =>
      obtain ⟨H', R', e'⟩ := ih (i + 1) _ (by omega) R2
      push_cast at e'
      refine ⟨H', R', ?_⟩
      simp only [Bool.not_true, y10, Bool.true_and, yqf, y1b, hw, y4]
      exact e'
end Go.Vm
namespace Go.Vm
open Cel
structure KS (H : Heap) (C : CTab) (N : List Tx) (g : Nat) (P : PTab) (A : ATab) : Prop where
  h0 : H[0]? = some ⟨1, .map false (tE cV C)⟩
  h1 : H[1]? = some ⟨1, .map false (tE lmV P)⟩
  h2 : H[2]? = some ⟨1, .arr true false 3 [[.lm 0 1, .ls 5 g 1 0 N.length, .lm 1 1]]⟩
  h5 : H[5]? = some ⟨g, .arr false false 1 (N.map enc)⟩
  sets : SetsAt H P A
  far : ∀ p ∈ P, 13 ≤ p.2.1
  len : 13 ≤ H.length
abbrev KK (g n go : Nat) : KAt := ⟨2, 1, 0, 1, 1, 1, 12, go, .ls 5 g 1 0 n⟩
section
variable {H : Heap} {C : CTab} {N : List Tx} {g : Nat} {P : PTab} {A : ATab}
theorem KS.rep (R : KS H C N g P A) {o : AO} (_h : H[12]? = some o) : KRep (KK g N.length (o.gen + 1)) C (H.set 12 ⟨o.gen + 1, .map false (sE [])⟩) P A [] := by
  have hl := R.len
  have n2 : (12 : Nat) ≠ 2 := by decide
  have n0 : (12 : Nat) ≠ 0 := by decide
  have n1 : (12 : Nat) ≠ 1 := by decide
  refine ⟨(yi n2).trans R.h2, (yi n0).trans R.h0, (yi n1).trans R.h1, y22 (by omega), R.sets.mono fun p hp g fz es h => ⟨fz, ?_⟩, ⟨(by decide : (2 : Nat) ≠ 1), n2.symm, (by decide : (0 : Nat) ≠ 1), n0.symm, n1.symm⟩, fun p hp => ?_⟩
  · have := R.far p hp
    rw [yi (by omega)]
    exact h
  · have := R.far p hp
    exact ⟨(by omega : p.2.1 ≠ 2), (by omega : p.2.1 ≠ 0), (by omega : p.2.1 ≠ 1), (by omega : p.2.1 ≠ 12)⟩
theorem KS.off (R : KS H C N g P A) (go : Nat) : OffK (KK g N.length go) P 5 := ⟨(by decide : (5 : Nat) ≠ 2), (by decide : (5 : Nat) ≠ 0), (by decide : (5 : Nat) ≠ 1), (by decide : (5 : Nat) ≠ 12), fun p hp => by have := R.far p hp; omega⟩
theorem KS.next (R : KS H C N g P A) {go : Nat} {H' : Heap} {P' : PTab} {A' : ATab} {O' : List Txt} {x : AO} (R' : KRep (KK g N.length go) C H' P' A' O') (hr : Rest (KK g N.length go) P P' (H.set 12 x) H') : KS H' C N g P' A' := by
  obtain ⟨r1, r2, r3⟩ := hr
  have hl := R.len
  rw [List.length_set] at r1 r2 r3
  refine ⟨R'.cls, R'.ab, R'.tree, ?_, R'.sets, fun p hp => ?_, by omega⟩
  · rw [r2 5 (by omega) (R.off go), yi (by decide)]
    exact R.h5
  · rcases r3 p hp with h | h
    · exact R.far p h
    · omega
theorem yrk (hC : ∀ n c, tlook C n = some c → (lst c.ifs).length * 16 ≤ reachBytes) (hN : N.length ≤ 9223372036854775806) (k : Nat) : ∀ (d i : Nat) (H : Heap) (P : PTab) (A : ATab) (b : Bool) (A' : ATab), i + d = N.length →
    y2a (upC C) k ((N.drop i).map (·.s)) A = some (b, A') → AOk (upC C) A → KS H C N g P A →
      ∃ H' P', (b = true → KS H' C N g P' A') ∧ ye9 T21 (.ls 5 g 1 0 N.length) (.int .i64 N.length) (.int .i64 i) H = if b then yyd T21 H' else eE 51 := by
  intro d
  induction d with
  | zero =>
    intro i H P A b A' hi hc hA R
    have hcc : ¬ ((i : Int) < (N.length : Int)) := by omega
    rw [List.drop_eq_nil_of_le (by omega)] at hc
    simp only [List.map_nil, y2a, Option.some.injEq, Prod.mk.injEq] at hc
    obtain ⟨rfl, rfl⟩ := hc
    refine ⟨H, P, fun _ => R, ?_⟩
    rw [yhg]
    simp only [y0i, yh, hcc, decide_false, y4, y0f, y10, if_true]
  | succ d ih =>
    intro i H P A b A' hi hc hA R
    have hlt : i < N.length := by omega
    have hcc : ((i : Int) < (N.length : Int)) := by omega
    have hw := y3e hlt (by omega)
    have ix := y12o (n := N.length) (p := (i : Int)) (by omega) hcc 5 g .i64
    rw [show ((i : Int)).toNat = i by omega] at ix
    have hld : evLd false 1 (.lp 5 g i 0) H = some (.str N[i].s) := yn7 (es := 1) R.h5 (by simp [hlt])
    rw [List.drop_eq_getElem_cons hlt, List.map_cons, y2a] at hc
    generalize N[i].s = x at *
    have hl := R.len
    obtain ⟨o12, h12⟩ : ∃ o, H[12]? = some o := ⟨_, List.getElem?_eq_getElem (by omega)⟩
    have hm : mkmC 0 (some 12) H = some (.lm 12 (o12.gen + 1), H.set 12 ⟨o12.gen + 1, .map false (sE [])⟩) := by
      have := y14c (fb := 0) (j := 12) (H := H) (by rw [Nat.zero_add]; exact h12)
      rw [Nat.zero_add] at this
      exact this
    cases hf : y3d (upC C) k x A [] with
    | none => rw [hf] at hc; cases hc
    | some q =>
      obtain ⟨c, A1, O1⟩ := q
      rw [hf] at hc
      obtain ⟨H1, P1, e1, R1, r1⟩ := y159 hC k x A [] c A1 O1 _ P 0 hf hA (R.rep h12)
      obtain ⟨k1, _, _⟩ := y6k k x A [] c A1 O1 hf hA
      have RN := R.next R1 r1
      have e1' : y7 E (y6 E) 0 none false 62 [T21, .str x, .lm 12 (o12.gen + 1)] (H.set 12 ⟨o12.gen + 1, .map false (sE [])⟩) = some (.bool c, H1) := e1
      rw [yhg]
      simp only [y0i, yh, hcc, decide_true, y4, y0f, y1q, y14m, ix, hld, hm, yc, e1', y2b]
      cases c with
      | false =>
        simp only [Option.some.injEq, Prod.mk.injEq] at hc
        obtain ⟨rfl, rfl⟩ := hc
        refine ⟨H1, P1, fun e => (by cases e), ?_⟩
        simp only [Bool.not_false, y1q, Bool.false_eq_true, if_false, y80]
      | true =>
        simp only at hc
        obtain ⟨H', P', h', e'⟩ := ih (i + 1) H1 P1 A1 b A' (by omega) hc k1 RN
        push_cast at e'
        refine ⟨H', P', h', ?_⟩
        simp only [Bool.not_true, y10, y155, y1b, hw, y4]
        exact e'
theorem yri {id g' k : Nat} {es : List (AV × AV)} {r : Fz (List (AV × AV))} {os : List OC} (hm : y2f H id g' = some (false, es)) (hr : yb (y62 H yu) es = some r) : expo H (k + 1) (.lm id g') os = some ⟨.lm os.length 0, os ++ [.map false r.v], r.fresh, [id], r.ids⟩ := by
  simp only [expo, hm, hr]
theorem y11b {α : Type} [Cel α] {id g' k : Nat} {L : List α} {os : List OC} (hr : ye H id g' = some (false, es α, L.map enc)) : expo H (k + 1) (.ls id g' (es α) 0 L.length) os = some ⟨.ls os.length 0 (es α) 0 L.length, os ++ [.arr false false (es α) (L.map enc)], L.all scal, [id], []⟩ := by
  simp only [expo, hr]
  rw [if_pos ⟨trivial, by simp⟩]
  simp only [List.drop_zero, y8s, y19g]
theorem y12k {H : Heap} {P : PTab} {A : ATab} (h : SetsAt H P A) (k : Nat) : ∃ fr, yb (y62 H (k + 2)) (tE lmV P) = some ⟨tE sV A, fr, P.map (·.2.1)⟩ := by
  induction h with
  | nil => exact ⟨true, rfl⟩
  | @cons p q P A h1 _ ih =>
    obtain ⟨fr, ih⟩ := ih
    obtain ⟨e, fz', h2⟩ := h1
    obtain ⟨n, id, g'⟩ := p
    obtain ⟨n', S⟩ := q
    simp only at e h2
    subst e
    have e1 : y62 H (k + 2) (.str n, lmV (id, g')) = some ⟨(.str n, sV S), true && true, [id]⟩ := by
      have e2 : fz H (k + 2) (.str n) = some ⟨.str n, true, []⟩ := rfl
      simp only [y62, e2, y13b k h2, List.nil_append]
    refine ⟨(true && true) && fr, ?_⟩
    unfold tE at ih ⊢
    rw [List.map_cons, yr, e1, ih]
    rfl
theorem y13z (H : Heap) (k : Nat) : ∀ A : ATab, ∃ fr, yb (y62 H (k + 1)) (tE sV A) = some ⟨tE sV A, fr, []⟩
  | [] => ⟨true, rfl⟩
  | (n, S) :: A => by
    obtain ⟨fr, ih⟩ := y13z H k A
    have e1 : y62 H (k + 1) (.str n, sV S) = some ⟨(.str n, sV S), true && yw (sV S), []⟩ := rfl
    refine ⟨(true && yw (sV S)) && fr, ?_⟩
    unfold tE at ih ⊢
    rw [List.map_cons, yr, e1, ih]
    rfl
theorem yx6 {l : List Nat} (h : ∀ x ∈ l, 13 ≤ x) : y2o [2, 0, 5, 1] l = true := by
  have : ∀ y < 13, l.contains y = false := by
    intro y hy
    cases hc : l.contains y with
    | false => rfl
    | true =>
      have := h y (by simpa using hc)
      omega
  simp only [y2o, this 2 (by omega), this 0 (by omega), this 5 (by omega), this 1 (by omega)]
  rfl
theorem KS.done (R : KS H C N g P A) : ∃ r, yyd T21 H = some r ∧ yg6 r (.tup [y11 C (N.map (·.s)) A, .int .i64 0]) := by
  obtain ⟨fr1, hc⟩ := yef H 10 C
  obtain ⟨fr2, hs⟩ := y12k R.sets 10
  have m0 : y2f H 0 1 = some (false, tE cV C) := by simp [y2f, y1p, R.h0]
  have m1 : y2f H 1 1 = some (false, tE lmV P) := by simp [y2f, y1p, R.h1]
  have m5 : ye H 5 g = some (false, es Tx, N.map enc) := by simp [ye, y1p, R.h5]
  have m2 : ye H 2 1 = some (false, 3, [[.lm 0 1, .ls 5 g 1 0 N.length, .lm 1 1]]) := by simp [ye, y1p, R.h2]
  have x0 : ∀ os, expo H 10 (.lm 0 1) os = some ⟨.lm os.length 0, os ++ [.map false (tE cV C)], fr1, [0], []⟩ := fun os => yri (k := 9) m0 hc
  have x1 : ∀ os, expo H 10 (.lm 1 1) os = some ⟨.lm os.length 0, os ++ [.map false (tE sV A)], fr2, [1], P.map (·.2.1)⟩ := fun os => yri (k := 9) m1 hs
  have x5 : ∀ os, expo H 10 (.ls 5 g 1 0 N.length) os = some ⟨.ls os.length 0 1 0 N.length, os ++ [.arr false false 1 (N.map enc)], N.all scal, [5], []⟩ := fun os => y11b (α := Tx) (k := 9) m5
  have xr : y1z (expo H 10) [.lm 0 1, .ls 5 g 1 0 N.length, .lm 1 1] [] = some ⟨[.lm 0 0, .ls 1 0 1 0 N.length, .lm 2 0], [.map false (tE cV C), .arr false false 1 (N.map enc), .map false (tE sV A)], fr1 && (N.all scal && (fr2 && true)), [0, 5, 1], P.map (·.2.1)⟩ := by
    simp only [y1z, x0, x5, x1, List.length_nil, List.nil_append, List.length_append, List.length_cons, List.append_nil, List.cons_append]
  have xl : expo H 11 T21 [] = some ⟨.lp 3 0 0 0, [.map false (tE cV C), .arr false false 1 (N.map enc), .map false (tE sV A), .arr true false 3 [[.lm 0 0, .ls 1 0 1 0 N.length, .lm 2 0]]], fr1 && (N.all scal && (fr2 && true)), [2, 0, 5, 1], P.map (·.2.1)⟩ := by
    have e : expo H 11 T21 [] = match ye H 2 1 with
      | some (true, _, _) => exFz H T21 []
      | some (false, es, [row]) => if 0 = 0 ∧ 0 = 0 then (match y1z (expo H 10) row [] with
          | some r => some ⟨.lp r.objs.length 0 0 0, r.objs ++ [.arr true false es [r.v]], r.fresh, 2 :: r.xs, r.fs⟩
          | none => none) else none
      | _ => none := rfl
    rw [e, m2]
    simp only [and_self, if_true, xr]
    rfl
  have xi : ∀ os, expo H 11 (.int .i64 0) os = some ⟨.int .i64 0, os, true, [], []⟩ := fun os => rfl
  have xt : ∃ fr, expo H yu (.tup [T21, .int .i64 0]) [] = some ⟨.tup [.lp 3 0 0 0, .int .i64 0], [.map false (tE cV C), .arr false false 1 (N.map enc), .map false (tE sV A), .arr true false 3 [[.lm 0 0, .ls 1 0 1 0 N.length, .lm 2 0]]], fr, [2, 0, 5, 1], P.map (·.2.1)⟩ := by
    have e : expo H yu (.tup [T21, .int .i64 0]) [] = match y1z (expo H 11) [T21, .int .i64 0] [] with
      | some r => some ⟨.tup r.v, r.objs, r.fresh, r.xs, r.fs⟩
      | none => none := rfl
    rw [e]
    simp only [y1z, xl, xi, List.append_nil]
    exact ⟨_, rfl⟩
  obtain ⟨fr, xt⟩ := xt
  have hap : y2o [2, 0, 5, 1] (P.map (·.2.1)) = true := yx6 fun x hx => by
    obtain ⟨p, hp, rfl⟩ := List.mem_map.1 hx
    exact R.far p hp
  refine ⟨⟨.tup [.lp 3 0 0 0, .int .i64 0], [.map false (tE cV C), .arr false false 1 (N.map enc), .map false (tE sV A), .arr true false 3 [[.lm 0 0, .ls 1 0 1 0 N.length, .lm 2 0]]], fr, [], []⟩, ?_, ?_⟩
  · unfold yyd yq
    rw [xt]
    simp only [hap, if_true]
  · let G : Heap := [⟨0, .map false (tE cV C)⟩, ⟨0, .arr false false 1 (N.map enc)⟩, ⟨0, .map false (tE sV A)⟩, ⟨0, .arr true false 3 [[.lm 0 0, .ls 1 0 1 0 N.length, .lm 2 0]]⟩]
    obtain ⟨f1, y1⟩ := yef G 7 C
    obtain ⟨f2, y2⟩ := y13z G 8 A
    have z0 : fz G 10 (.lm 0 0) = some ⟨.rm (tE cV C), f1, [0]⟩ := by
      have : fz G 10 (.lm 0 0) = match yb (y62 G 9) (tE cV C) with
        | some r => some ⟨.rm r.v, r.fresh, 0 :: r.ids⟩
        | none => none := rfl
      rw [this, y1]
    have z2 : fz G 10 (.lm 2 0) = some ⟨.rm (tE sV A), f2, [2]⟩ := by
      have : fz G 10 (.lm 2 0) = match yb (y62 G 9) (tE sV A) with
        | some r => some ⟨.rm r.v, r.fresh, 2 :: r.ids⟩
        | none => none := rfl
      rw [this, y2]
    have z1 : fz G 10 (.ls 1 0 1 0 N.length) = some ⟨slA (some N), N.all scal, [1]⟩ := yn1 (k := 8) (L := N) (H := G) rfl
    have em : (N.map (fun x : Tx => x.s)).map Tx.mk = N := by
      rw [List.map_map]
      exact List.map_id'' (fun _ => rfl) N
    have zl : ∃ q, fz G 11 (.lp 3 0 0 0) = some q ∧ q.v = y11 C (N.map (·.s)) A := by
      have : fz G 11 (.lp 3 0 0 0) = match yb (fz G 10) [.lm 0 0, .ls 1 0 1 0 N.length, .lm 2 0] with
        | some r => some ⟨.rp r.v, r.fresh, 3 :: r.ids⟩
        | none => none := rfl
      rw [this]
      simp only [yr, y3i, z0, z1, z2]
      refine ⟨_, rfl, ?_⟩
      unfold y11 yhm
      rw [em]
    obtain ⟨q, zq, hq⟩ := zl
    have zt : fz G yu (.tup [.lp 3 0 0 0, .int .i64 0]) = match yb (fz G 11) [.lp 3 0 0 0, .int .i64 0] with
        | some r => some ⟨.tup r.v, r.fresh, r.ids⟩
        | none => none := rfl
    have zi : fz G 11 (.int .i64 0) = some ⟨.int .i64 0, true, []⟩ := rfl
    show ∃ q, fz G yu (.tup [.lp 3 0 0 0, .int .i64 0]) = some q ∧ _
    rw [zt]
    simp only [yr, y3i, zq, zi]
    exact ⟨_, rfl, by rw [hq]⟩
end
theorem ycj : ∀ (l : List Cls) (C C' : CTab), y1s C l = some C' → ckeys C' = ckeys C ++ l.map (·.nm)
  | [], C, C', h => by
    injection h with h
    subst h
    simp
  | c :: r, C, C', h => by
    rw [y1s] at h
    split at h
    · cases h
    · rw [ycj r _ C' h]
      simp [ckeys]
def newV : Except Int (CTab × ATab) → AV
  | .ok (C, A) => .tup [y11 C (ckeys C) A, .int .i64 0]
  | .error k => .tup [.nilp, .int .i64 k]
theorem y6j (k : Int) : yg6 ⟨.tup [.nilp, .int .i64 k], [], true, [], []⟩ (newV (.error k)) := ⟨_, rfl, rfl⟩
theorem y1at {o : Option (List Cls)} (ok : ∀ x ∈ lst o, ClsOk x) (hl : (lst o).length ≤ maxLen) : ∃ r, (y6 E).p 1 [slA o] = some r ∧ yg6 r (newV (newM (lst o))) := by
  rw [y1ga]
  unfold yt4 yvx newM
  simp only [y2c, y4, y3y]
  by_cases h40 : 40 < (lst o).length
  · have hc : (40 : Int) < ((lst o).length : Int) := by omega
    rw [if_pos h40]
    simp only [hc, decide_true, y1q, y80]
    exact ⟨_, rfl, y6j 2⟩
  have hc : ¬ (40 : Int) < ((lst o).length : Int) := by omega
  rw [if_neg h40]
  simp only [hc, decide_false, y10]
  have hL : (lst o).length ≤ 40 := by omega
  have R0 : NRep [⟨1, .map false []⟩, ⟨1, .map false []⟩, ⟨1, .arr true false 3 [[.lm 0 1, .nils, .lm 1 1]]⟩, D0, D0, D0, D0, D0, D0, D0, D0, D0, D0] (y26.take 0) ((ownP.take 0).map y95) 0 := ⟨rfl, rfl, rfl, rfl, rfl⟩
  obtain ⟨H1, g1, R1, e1⟩ := y17k (slA o) 13 0 _ 0 (by omega) R0
  have e0 : ygu (slA o) [D0, D0, D0, D0, D0, D0, D0, D0, D0, D0, D0, D0, D0] = y92 (slA o) T21 (slA (some ownP)) (.int .i64 13) (.int .i64 ((0 : Nat) : Int)) [⟨1, .map false []⟩, ⟨1, .map false []⟩, ⟨1, .arr true false 3 [[.lm 0 1, .nils, .lm 1 1]]⟩, D0, D0, D0, D0, D0, D0, D0, D0, D0, D0] := by
    have m0 : mkmC 0 (some 0) [D0, D0, D0, D0, D0, D0, D0, D0, D0, D0, D0, D0, D0] = some (.lm 0 1, [⟨1, .map false []⟩, D0, D0, D0, D0, D0, D0, D0, D0, D0, D0, D0, D0]) := rfl
    have m1 : mkmC 0 (some 1) [⟨1, .map false []⟩, D0, D0, D0, D0, D0, D0, D0, D0, D0, D0, D0, D0] = some (.lm 1 1, [⟨1, .map false []⟩, ⟨1, .map false []⟩, D0, D0, D0, D0, D0, D0, D0, D0, D0, D0, D0]) := rfl
    have b : y12 [.nilm, .nils, .nilm] [(0, 1, .lm 0 1), (2, 1, .lm 1 1)] = some (.agg [.lm 0 1, .nils, .lm 1 1]) := rfl
    have n : newC 0 (some 2) (cellsOf (.agg [.lm 0 1, .nils, .lm 1 1])) [⟨1, .map false []⟩, ⟨1, .map false []⟩, D0, D0, D0, D0, D0, D0, D0, D0, D0, D0, D0] = some (T21, [⟨1, .map false []⟩, ⟨1, .map false []⟩, ⟨1, .arr true false 3 [[.lm 0 1, .nils, .lm 1 1]]⟩, D0, D0, D0, D0, D0, D0, D0, D0, D0, D0]) := rfl
    unfold ygu yuc
    simp only [m0, m1, yc, b, y4, n, yoq, y2c]
    rfl
  have e0' := e0.trans e1
  show ∃ r, ygu (slA o) [D0, D0, D0, D0, D0, D0, D0, D0, D0, D0, D0, D0, D0] = some r ∧ _
  rw [e0']
  unfold yji
  simp only [y2c, y4]
  obtain ⟨H2, R2, e2⟩ := yt2 ok (by omega) (lst o).length 0 H1 (by omega) R1
  rw [show (AV.int .i64 0) = .int .i64 ((0 : Nat) : Int) from rfl, e2, List.drop_zero]
  by_cases hn : (lst o).all (fun c => y7x false c.nm) = false
  · rw [if_pos hn, if_pos hn]
    exact ⟨_, rfl, y6j 20⟩
  rw [if_neg hn, if_neg hn]
  unfold ykz
  simp only [y2c, y4]
  have hN0 : ownP.map y95 ≠ [] := by
    intro e
    have := congrArg List.length e
    rw [List.length_map, yca] at this
    cases this
  obtain ⟨H3, g3, R3, e3⟩ := y18t (o := o) hL (lst o).length 0 H2 y26 (ownP.map y95) g1 (by omega) R2 hN0 (by rw [List.length_map, yca]; omega)
  rw [show (AV.int .i64 0) = .int .i64 ((0 : Nat) : Int) from rfl, e3, List.drop_zero]
  rw [List.drop_zero] at R3
  cases ha : y1s y26 (lst o) with
  | none =>
    simp only [Option.isNone_none, if_true]
    exact ⟨_, rfl, y6j 23⟩
  | some C =>
    have R3 := R3 C ha
    simp only [Option.isNone_some, Bool.false_eq_true, if_false, yn6, y2c, y4]
    have hNC : ownP.map y95 ++ (lst o).map (fun c => Tx.mk c.nm) = (ckeys C).map Tx.mk := by
      rw [ycj _ _ _ ha, List.map_append, List.map_map]
      congr 1
    rw [hNC] at R3
    have hNe : (ckeys C).map Tx.mk ≠ [] := by
      rw [← hNC]
      intro e
      exact hN0 (List.append_eq_nil_iff.1 e).1
    obtain ⟨H4, R4, e4⟩ := y166 ok hL hNe (lst o).length 0 H3 (by omega) R3
    rw [show (AV.int .i64 0) = .int .i64 ((0 : Nat) : Int) from rfl, e4, List.drop_zero]
    by_cases hp : (lst o).all (parB C) = false
    · rw [if_pos hp, if_pos hp]
      exact ⟨_, rfl, y6j 50⟩
    rw [if_neg hp, if_neg hp]
    have hn' : (lst o).all (fun c => y7x false c.nm) = true := by simpa using hn
    have hp' : (lst o).all (parB C) = true := by simpa using hp
    obtain ⟨c1, _, _⟩ := yap hn' ha hp'
    obtain ⟨b, A, ec, g1', _, _⟩ := y60 (N := ckeys C) (k := C.length + 1) c1 (by simp [ckeys]) (ckeys C) [] (fun _ h => h) .nil (by intro x h; cases h)
    obtain ⟨M, eM, hM, _⟩ := y8w _ _ _ ha
    have hC : ∀ n c, tlook C n = some c → (lst c.ifs).length * 16 ≤ reachBytes := by
      intro n c h
      have := yav h
      rw [eM, List.mem_append] at this
      rcases this with h | h
      · obtain ⟨p, _, hq⟩ := List.mem_map.1 h
        injection hq with _ hb
        rw [← hb]
        exact Nat.zero_le _
      · exact (ok c (hM n c h).1).ifs
    have hlk : ((ckeys C).map Tx.mk).length = 13 + (lst o).length := by
      rw [← hNC, List.length_append, List.length_map, List.length_map, yca]
    have KS0 : KS H4 C ((ckeys C).map Tx.mk) g3 [] [] := by
      obtain ⟨x, N0, hx⟩ := List.exists_cons_of_ne_nil hNe
      have h2 := R4.h2
      have h5 := R4.h5
      rw [hx] at h2 h5 ⊢
      exact ⟨R4.h0, R4.h1, h2, h5, .nil, fun p h => (by cases h), (by rw [R4.len]; omega)⟩
    have hmap : (((ckeys C).map Tx.mk).drop 0).map (·.s) = ckeys C := by
      rw [List.drop_zero, List.map_map]
      exact List.map_id'' (fun _ => rfl) _
    obtain ⟨H5, P5, R5, e5⟩ := yrk hC (by omega) (C.length + 1) ((ckeys C).map Tx.mk).length 0 H4 [] [] b A (by omega) (by rw [hmap]; exact ec) .nil KS0
    have e8 : ytz T21 H4 = ye9 T21 (.ls 5 g3 1 0 ((ckeys C).map Tx.mk).length) (.int .i64 ((ckeys C).map Tx.mk).length) (.int .i64 ((0 : Nat) : Int)) H4 := by
      have l1 : evLd false 1 (.lp 2 1 0 1) H4 = some (.ls 5 g3 1 0 ((ckeys C).map Tx.mk).length) := by
        have := R4.ld1
        obtain ⟨x, N0, hx⟩ := List.exists_cons_of_ne_nil hNe
        rw [hx] at this ⊢
        exact this
      unfold ytz
      simp only [y1x, y4, y1f, Nat.zero_add, l1, yak]
      rfl
    rw [e8, e5, ec]
    cases b with
    | false =>
      simp only [Bool.false_eq_true, if_false]
      exact ⟨_, rfl, y6j 51⟩
    | true =>
      obtain ⟨r, er, hr⟩ := (R5 rfl).done
      simp only [if_true]
      refine ⟨r, er, ?_⟩
      have hm2 : ((ckeys C).map Tx.mk).map (·.s) = ckeys C := by
        rw [List.map_map]
        exact List.map_id'' (fun _ => rfl) _
      rw [hm2] at hr
      exact hr
end Go.Vm
namespace Go.Vm
open Cel
structure Ask where
  cls : List UInt8
  nm : List UInt8
  desc : List UInt8
  typ : List UInt8
  want : List UInt8
  deriving DecidableEq, Inhabited
instance : Cel Ask := ⟨5, fun x => [.str x.cls, .str x.nm, .str x.desc, .str x.typ, .str x.want], fun _ => rfl, fun _ => rfl, fun _ => rfl⟩
structure AskOk (z : Ask) : Prop where
  cls : z.cls.length ≤ reachBytes
  nm : z.nm.length ≤ reachBytes
  desc : z.desc.length ≤ reachBytes
  typ : z.typ.length ≤ reachBytes
  want : z.want.length ≤ reachBytes
theorem yix {E : Env} {C : Calls2} {fb f : Nat} {args : List AV} {h : Heap} {fa : Fz (List AV)} {r : Ex AV} {v : AV} (hE : E.pure f = true) (ha : yb (fz h yu) args = some fa)
    (hc : C.p f fa.v = some r) (hr : yg6 r v) : ∃ h1, y7 E C fb none true f args h = some (v, h1) := by
  obtain ⟨q, h1, h2⟩ := hr
  refine ⟨if r.fresh || fa.ids.isEmpty then h else yf fa.ids h, ?_⟩
  simp only [y7, hE, y4n, ha, hc, h1, h2, Option.isSome_none, Bool.and_false, Bool.not_false, Bool.and_self, if_true]
def yeq (A : ATab) (a b : Txt) : Bool := ypl (upB A) a b
theorem y5j {fb : Nat} {H : Heap} (C : CTab) (N : List Txt) (A : ATab) (a b : Txt) (ha : Sm a) (hb : Sm b) : y7 E (y6 E) fb none true 3 [y11 C N A, .str a, .str b] H = some (.bool (yeq A a b), H) :=
  y8l (by kernel_rfl) (y1cd ..) (y1b5 C N A a.length a b (Nat.le_refl _) ha hb)
def cA : Cls := ⟨0, [97], [69, 120, 99, 101, 112, 116, 105, 111, 110], none, none, none, none⟩
def tA : CTab × ATab := match newM [cA] with
  | .ok p => p
  | .error _ => ([], [])
theorem newA : newM [cA] = .ok tA := by
  have h : (match newM [cA] with | .ok _ => true | .error _ => false) = true := by kernel_rfl
  unfold tA
  cases hn : newM [cA] with
  | ok p => rfl
  | error k => rw [hn] at h; cases h
theorem okA : ∀ x ∈ lst (some [cA]), ClsOk x := by
  intro x hx
  have : x = cA := by simpa [lst] using hx
  subst this
  exact ⟨⟨by decide, by decide⟩, by decide, by decide, by decide, fun s h => (by cases h), by decide, by decide, by decide⟩
theorem fit1 : yeq tA.2 [76, 97, 59] [76, 84, 104, 114, 111, 119, 97, 98, 108, 101, 59] = true := by kernel_rfl
theorem fit2 : yeq tA.2 [91, 76, 97, 59] [91, 76, 79, 98, 106, 101, 99, 116, 59] = true := by kernel_rfl
theorem fit3 : yeq tA.2 [91, 73] [91, 76, 79, 98, 106, 101, 99, 116, 59] = false := by kernel_rfl
theorem fit4 : yeq tA.2 [76, 79, 98, 106, 101, 99, 116, 59] [76, 97, 59] = false := by kernel_rfl
theorem y1fm : ∃ r, (y6 E).p 31 [] = some r ∧ yg6 r (slA (some (ownP.map y95))) := ⟨exO (some (ownP.map y95)), yrm 60 (by kernel_rfl), y84 _⟩
theorem yrp : (y6 E).p 32 [.str [83, 121, 115], .str [101, 120, 105, 116], .str [40, 73, 41, 86]] = some ⟨.int .i64 3, [], true, [], []⟩ := yrm 60 (by kernel_rfl)
theorem y15j : (y6 E).p 0 [] = xB true := by
  rw [y1g2]
  unfold y14i
  have b : y12 [.int .i64 0, .str [], .str [], .nils, .nils, .nils, .nils] [(1, 1, .str [97]), (2, 1, .str [69, 120, 99, 101, 112, 116, 105, 111, 110])] = some (.agg (enc cA)) := rfl
  have bs : y19 0 (some 0) 7 1 [.int .i64 0, .str [], .str [], .nils, .nils, .nils, .nils] [(0, .agg (enc cA))] [⟨0, .dead⟩] = some (.ls 0 1 7 0 1, [⟨1, .arr false false 7 ([cA].map enc)⟩]) := rfl
  have hf : yb (fz [⟨1, .arr false false 7 ([cA].map enc)⟩] yu) [.ls 0 1 7 0 1] = some ⟨[slA (some [cA])], [cA].all scal && true, [0] ++ []⟩ := by
    have := yn1 (k := 10) (L := [cA]) (H := [⟨1, .arr false false 7 ([cA].map enc)⟩]) (id := 0) (g := 1) rfl
    rw [show 10 + 2 = yu from rfl] at this
    rw [yr, show (AV.ls 0 1 7 0 1) = .ls 0 1 (es Cls) 0 [cA].length from rfl, this]
    rfl
  obtain ⟨r, er, hr⟩ := y1at okA (by decide)
  rw [show lst (some [cA]) = [cA] from rfl, newA] at hr
  obtain ⟨h1, hc⟩ := yix (fb := 0) (by kernel_rfl : E.pure 1 = true) hf er hr
  obtain ⟨r2, er2, hr2⟩ := y1fm
  have hO : ∀ H, y7 E (y6 E) 0 none true 31 [] H = some (slA (some (ownP.map y95)), H) := fun H => y5c (by kernel_rfl) (fa := ⟨[], true, []⟩) rfl rfl er2 hr2
  have hN : ∀ H, y7 E (y6 E) 0 none true 32 [.str [83, 121, 115], .str [101, 120, 105, 116], .str [40, 73, 41, 86]] H = some (.int .i64 3, H) := fun H => y8l (by kernel_rfl) rfl yrp
  have ev : newV (.ok tA) = .tup [y11 tA.1 (ckeys tA.1) tA.2, .int .i64 0] := rfl
  rw [ev] at hc
  simp only [b, y4, bs, yc, hc, y2w, List.getElem?_cons_zero, List.getElem?_cons_succ, y13, decide_true, y4d, yfv]
  rw [y5j _ _ _ _ _ (by decide) (by decide), fit1]
  simp only [yc, yo, y4, y4d, yfv]
  rw [y5j _ _ _ _ _ (by decide) (by decide), fit2]
  simp only [yc, yo, y4, y4d, yfv]
  rw [y5j _ _ _ _ _ (by decide) (by decide), fit3]
  simp only [yc, y2b, Bool.not_false, yo, y4, y4d, yfv]
  rw [y5j _ _ _ _ _ (by decide) (by decide), fit4]
  simp only [yc, y2b, Bool.not_false, yo, y4, y4d, yfv, hO, y2c, y13, hN]
  rfl
theorem yob {fb : Nat} {H : Heap} : y7 E (y6 E) fb none true 0 [] H = some (.bool true, H) := y8l (by kernel_rfl) rfl y15j
end Go.Vm
namespace Go.Vm
open Cel
theorem yqi {f : Nat} {args : List AV} {fb : Nat} {H : Heap} (hf : E.fn f = none) : (y6 E).i f args fb H = E.xi f args fb H := by
  rw [ye4, ybx, hf]
theorem yhp (cs : List AV) : y66 0 false (.rp cs) .nilp = some (.bool false) := rfl
def txR (L : List Txt) : List (List AV) := L.map fun s => [.str s]
theorem yid (L : List Txt) : txR L = (L.map Tx.mk).map enc := by
  unfold txR
  rw [List.map_map]
  rfl
theorem yqp (L M : List Txt) : txR (L ++ M) = txR L ++ txR M := List.map_append
theorem y55 (L : List Txt) : (txR L).length = L.length := List.length_map _
theorem yzb {l m : List Txt} (h : l.Perm m) : y3w l = y3w m := Go.mergeSort_of_perm h
theorem ygq : ∀ L : List Txt, yh3 (txR L) = some L
  | [] => rfl
  | s :: L => by
    have := ygq L
    unfold txR at this ⊢
    rw [List.map_cons, yh3, this]
    rfl
def abV (n : Nat) (L : List Txt) : AV := match L with
  | [] => .nils
  | _ :: _ => .ls 1 n 1 0 L.length
def abO (n : Nat) (L : List Txt) : AO := match L with
  | [] => ⟨0, .dead⟩
  | _ :: _ => ⟨n, .arr false false 1 (txR L)⟩
def abS (L : List Txt) : St := ⟨[(5, abV L.length L)], [⟨2 * L.length, .dead⟩, abO L.length L]⟩
noncomputable def yaz (q : AV × AV) (q0 : St) : Option St := ob (y4u 0 (AV.tup [q.1, q.2])) fun v19 => (ytx (tget q0.t 5) v19 q0.h)
theorem y1bu {g n : Nat} {c : Txt} {L : List Txt} (hl : L.length ≤ 53) (h0 : L ≠ []) : y2d 0 (some 1) 1 16 (.ls 1 n 1 0 L.length) (.ls 0 g 1 0 1) [⟨g, .arr false false 1 [[.str c]]⟩, ⟨n, .arr false false 1 (txR L)⟩] =
    some (.ls 1 (n + 1) 1 0 (L.length + 1), [⟨g, .arr false false 1 [[.str c]]⟩, ⟨n + 1, .arr false false 1 (txR (L ++ [c]))⟩]) := by
  have hr : y15 [⟨g, .arr false false 1 [[.str c]]⟩, ⟨n, .arr false false 1 (txR L)⟩] 1 (.ls 0 g 1 0 1) = some [[.str c]] := by simp [y15, ye, y1p]
  have e48 : (2:Nat) ^ 48 = 281474976710656 := by decide
  unfold y2d
  rw [hr]
  simp only [List.getElem?_cons_succ, List.getElem?_cons_zero]
  rw [if_pos ⟨trivial, trivial, trivial, by rw [y55]; omega, .inl (by rw [e48]; simp only [List.length_cons, List.length_nil]; omega)⟩]
  simp only [List.drop_zero, List.length_cons, List.length_nil, Nat.zero_add, List.set_cons_succ, List.set_cons_zero]
  rw [show L.length = (txR L).length from (y55 L).symm, List.take_length, yqp]
  rfl
theorem y19b (c : Txt) (L : List Txt) (hl : L.length ≤ 53) : yaz (.str c, .bool true) (abS L) = some (abS (L ++ [c])) := by
  cases L with
  | nil => rfl
  | cons a L =>
    have b : y19 0 (some 0) 1 1 [.str []] [(0, .str c)] [⟨2 * (a :: L).length, .dead⟩, ⟨(a :: L).length, .arr false false 1 (txR (a :: L))⟩] =
        some (.ls 0 (2 * (a :: L).length + 1) 1 0 1, [⟨2 * (a :: L).length + 1, .arr false false 1 [[.str c]]⟩, ⟨(a :: L).length, .arr false false 1 (txR (a :: L))⟩]) := rfl
    have ap := y1bu (g := 2 * (a :: L).length + 1) (n := (a :: L).length) (c := c) hl (by simp)
    show ytx (.ls 1 (a :: L).length 1 0 (a :: L).length) (.str c) [⟨2 * (a :: L).length, .dead⟩, ⟨(a :: L).length, .arr false false 1 (txR (a :: L))⟩] = _
    unfold ytx
    rw [b]
    simp only [yc]
    rw [ap]
    simp only [yc]
    have e : (a :: L ++ [c]).length = (a :: L).length + 1 := by simp
    show some (⟨[(5, .ls 1 ((a :: L).length + 1) 1 0 ((a :: L).length + 1))], [⟨2 * (a :: L).length + 1 + 1, .dead⟩, ⟨(a :: L).length + 1, .arr false false 1 (txR (a :: L ++ [c]))⟩]⟩ : St) = some ⟨[(5, .ls 1 (a :: L ++ [c]).length 1 0 (a :: L ++ [c]).length)], [⟨2 * (a :: L ++ [c]).length, .dead⟩, ⟨(a :: L ++ [c]).length, .arr false false 1 (txR (a :: L ++ [c]))⟩]⟩
    rw [e, show 2 * (a :: L).length + 1 + 1 = 2 * ((a :: L).length + 1) by omega]
theorem ytt : ∀ (l m : List Txt), m.length + l.length ≤ 53 → mfold (fun s q => yaz q s) (sE l) (abS m) = some (abS (m ++ l))
  | [], m, _ => by rw [List.append_nil]; rfl
  | c :: l, m, h => by
    have ih := ytt l (m ++ [c]) (by simp at h ⊢; omega)
    have hs := y19b c m (by simp at h; omega)
    simp only [sE, List.map_cons] at ih ⊢
    rw [mfold]
    simp only [hs]
    rw [ih, List.append_assoc]
    rfl
def abE (L : List Txt) : St := ⟨[(5, abV L.length L)], [⟨2 * L.length, .dead⟩, abO L.length (y3w L)]⟩
noncomputable def yf2 (q1 : St) : Option St := oh (y7 E (y6 E) 0 none false 180 [(tget q1.t 5)] q1.h) fun v25 h5 => some (⟨[(5, (tget q1.t 5))], h5⟩ : St)
theorem ygw : y3w [] = [] := by simp [y3w]
theorem E_xi : E.xi = xiS 180 := rfl
theorem y1c7 (L : List Txt) (hl : L.length ≤ 53) : yf2 (abS L) = some (abE L) := by
  cases L with
  | nil =>
    have : y7 E (y6 E) 0 none false 180 [.nils] [⟨0, .dead⟩, ⟨0, .dead⟩] = some (.tup [], [⟨0, .dead⟩, ⟨0, .dead⟩]) := by
      have h1 : E.pure 180 = false := by kernel_rfl
      simp only [y7, h1, Bool.false_and, Bool.false_eq_true, if_false]
      rw [yqi (by kernel_rfl)]
      rfl
    show yf2 ⟨[(5, .nils)], [⟨0, .dead⟩, ⟨0, .dead⟩]⟩ = _
    unfold yf2
    show oh (y7 E (y6 E) 0 none false 180 [.nils] [⟨0, .dead⟩, ⟨0, .dead⟩]) _ = _
    rw [this]
    unfold abE
    rw [ygw]
    rfl
  | cons a L =>
    have hp := y8g (a :: L)
    obtain ⟨b, M, hs⟩ : ∃ b M, y3w (a :: L) = b :: M := by
      cases h : y3w (a :: L) with
      | nil => rw [h] at hp; simp at hp
      | cons b M => exact ⟨b, M, rfl⟩
    have : y7 E (y6 E) 0 none false 180 [.ls 1 (a :: L).length 1 0 (a :: L).length] [⟨2 * (a :: L).length, .dead⟩, ⟨(a :: L).length, .arr false false 1 (txR (a :: L))⟩] =
        some (.tup [], [⟨2 * (a :: L).length, .dead⟩, ⟨(a :: L).length, .arr false false 1 (txR (y3w (a :: L)))⟩]) := by
      have h1 : E.pure 180 = false := by kernel_rfl
      simp only [y7, h1, Bool.false_and, Bool.false_eq_true, if_false]
      rw [yqi (by kernel_rfl)]
      rw [E_xi]
      unfold xiS
      rw [if_pos rfl]
      simp only [List.getElem?_cons_succ, List.getElem?_cons_zero]
      rw [if_pos ⟨trivial, trivial, trivial, trivial, (y55 _).symm, by simp only [List.length_cons] at hl ⊢; omega⟩, ygq]
      rfl
    show oh (y7 E (y6 E) 0 none false 180 [.ls 1 (a :: L).length 1 0 (a :: L).length] [⟨2 * (a :: L).length, .dead⟩, ⟨(a :: L).length, .arr false false 1 (txR (a :: L))⟩]) _ = _
    rw [this]
    simp only [yc]
    unfold abE
    rw [hs]
    rfl
theorem y1cg {l m : List Txt} (h : l.Perm m) : abE l = abE m := by
  unfold abE
  rw [yzb h, h.length_eq]
  cases l with
  | nil => rw [← List.Perm.nil_eq h]
  | cons a l =>
    cases m with
    | nil => have := h.length_eq; simp at this
    | cons b m =>
      have : abV (b :: m).length (a :: l) = abV (b :: m).length (b :: m) := by
        have e := h.length_eq
        unfold abV
        rw [e]
      rw [this]
theorem yc5.refl (s : St) : yc5 s s := ⟨rfl, fun _ => yu3.refl _⟩
def y51 (A : ATab) (n : Txt) : List Txt := y3w ((alook A n).getD [])
theorem yz3 {α : Type} (T : List Txt) (hl : T.length ≤ 53) (K : St → Option α) : orms (.rm (sE T)) yaz yf2 [(5, .nils)] [⟨0, .dead⟩, ⟨0, .dead⟩] K = K (abE T) := by
  have hm : yac [⟨0, .dead⟩, ⟨0, .dead⟩] (.rm (sE T)) = some (sE T, []) := rfl
  have : mall yc5 (fun s q => yaz q s) yf2 (sE T) (abS []) = some (abE T) := by
    have one : ∀ l : List Txt, l.Perm T → (mfold (fun s q => yaz q s) (sE l) (abS [])).bind yf2 = some (abE T) := by
      intro l hp
      have hl2 : l.length ≤ 53 := by rw [hp.length_eq]; exact hl
      rw [ytt l [] (by simpa using hl2)]
      show yf2 (abS l) = _
      rw [y1c7 l hl2, y1cg hp]
    refine y39.2 ⟨one T (.refl _), fun π hp => ?_⟩
    obtain ⟨l, h1, rfl⟩ := y1cx hp
    exact ⟨_, one l h1, yc5.refl _⟩
  unfold orms
  rw [hm]
  show (match mall yc5 (fun s q => yaz q s) yf2 (sE T) (abS []) with
    | some s' => K s'
    | none => none) = _
  rw [this]
theorem y136 (T : List Txt) : yq (abE T).h (tget (abE T).t 5) = some (exO (nz ((y3w T).map Tx.mk))) := by
  cases T with
  | nil => unfold abE; rw [ygw]; rfl
  | cons a L =>
    have hp := y8g (a :: L)
    obtain ⟨b, M, hs⟩ : ∃ b M, y3w (a :: L) = b :: M := by
      cases h : y3w (a :: L) with
      | nil => rw [h] at hp; simp at hp
      | cons b M => exact ⟨b, M, rfl⟩
    have hr : ye (abE (a :: L)).h 1 (a :: L).length = some (false, es Tx, ((y3w (a :: L)).map Tx.mk).map enc) := by
      unfold abE
      rw [hs, ← yid]
      simp [ye, y1p, abO, es]
    have := ywz (L := (y3w (a :: L)).map Tx.mk) hr
    rw [List.length_map, hp] at this
    rw [hs] at this ⊢
    exact this
theorem y16v {C : CTab} {N : List Txt} {A : ATab} (hT : TNd C A) (hA : AOk (upC C) A) (n : Txt) : (y6 E).p 179 [y11 C N A, .str n] = some (exO (nz ((y51 A n).map Tx.mk))) := by
  rw [y1fw]
  unfold y18k y19a y16j y188 y176
  have n1 : yn (y11 C N A) = some (y11 C N A) := rfl
  have f1 : evFa 2 (y11 C N A) = some (.rp [.rm (tE sV A)]) := rfl
  have l1 : ∀ H : Heap, evLd false 1 (.rp [.rm (tE sV A)]) H = some (.rm (tE sV A)) := fun _ => rfl
  have g1 : ∀ H : Heap, y16 false [2] .nilm false (.rm (tE sV A)) (.str n) H = some (mgV sV .nilm false (tlook A n)) := fun H => ybs sV H A n .nilm false
  have ha : tlook A n = alook A n := rfl
  simp only [yhp, y4, y10, n1, f1, l1, g1, ha]
  unfold y51
  cases hk : alook A n with
  | none =>
    have h0 : ∀ K : St → Option (Ex AV), orms (mgV sV .nilm false none) yaz yf2 [(5, .nils)] [⟨0, .dead⟩, ⟨0, .dead⟩] K = K (abE []) := fun K => by
      have := yz3 [] (by simp) K
      have e : yac [⟨0, .dead⟩, ⟨0, .dead⟩] .nilm = yac [⟨0, .dead⟩, ⟨0, .dead⟩] (.rm (sE [])) := rfl
      unfold orms at this ⊢
      rw [← this, y143, e]
    exact (h0 _).trans (y136 [])
  | some S =>
    exact (yz3 S (hT.small hA (y9g hk)) _).trans (y136 S)
theorem y1d4 {fb id g b : Nat} {sl : Option Nat} {rows ys : List (List AV)} {y : AV} {H : Heap} (h : H[id]? = some ⟨g, .arr false false 1 rows⟩) (hy : y15 H 1 y = some ys) (hb : (rows.length + ys.length + (rows.length + ys.length) / 4 + 512) * b ≤ 2 ^ 48) :
    y2d fb sl 1 b (.ls id g 1 0 rows.length) y H = some (.ls id (g + 1) 1 0 (rows.length + ys.length), H.set id ⟨g + 1, .arr false false 1 (rows ++ ys)⟩) := by
  unfold y2d
  rw [hy]
  simp only [h]
  rw [if_pos ⟨trivial, trivial, trivial, by omega, .inr hb⟩]
  simp
theorem y16n {fb j b : Nat} {o : AO} {ys : List (List AV)} {y : AV} {H : Heap} (h : H[fb + j]? = some o) (hy : y15 H 1 y = some ys) (h0 : ys ≠ []) (hb : ys.length * b ≤ 2 ^ 48) :
    y2d fb (some j) 1 b .nils y H = some (.ls (fb + j) (o.gen + 1) 1 0 ys.length, H.set (fb + j) ⟨o.gen + 1, .arr false false 1 ys⟩) := by
  unfold y2d
  rw [hy]
  have h1 : ys.isEmpty = false := by cases ys with
    | nil => exact (h0 rfl).elim
    | cons => rfl
  simp only [h1]
  rw [if_neg (by simp), if_pos hb]
  simp only [y2s, place, h]
theorem y172 {fb b : Nat} {sl : Option Nat} {y : AV} {H : Heap} (hy : y15 H 1 y = some []) : y2d fb sl 1 b .nils y H = some (.nils, H) := by
  unfold y2d
  rw [hy]
  rfl
theorem y17m {H : Heap} (o : Option (List Tx)) : y15 H 1 (slA o) = some (txR ((lst o).map (·.s))) := by
  cases o with
  | none => rfl
  | some L =>
    show some (L.map enc) = some (txR (L.map (·.s)))
    have : (L.map (·.s)).map Tx.mk = L := by rw [List.map_map]; exact List.map_id L
    rw [yid, this]
section
variable {C : CTab} {N : List Txt} {A : ATab} (hT : TNd C A) (hA : AOk (upC C) A)
include hT hA
theorem yox {fb : Nat} {H : Heap} (n : Txt) : y7 E (y6 E) fb none true 179 [y11 C N A, .str n] H = some (slA (nz ((y51 A n).map Tx.mk)), H) :=
  y5c (by kernel_rfl) (fa := ⟨[y11 C N A, .str n], false, []⟩) rfl rfl (y16v hT hA n) (y84 _)
theorem yi8 (n : Txt) : (y51 A n).length ≤ 53 := by
  unfold y51
  rw [y8g]
  cases h : alook A n with
  | none => simp
  | some S => exact hT.small hA (y9g h)
end
end Go.Vm
namespace Go.Vm
open Cel
abbrev AG {α : Type} [Cel α] (g : Nat) (x : α) : AO := ⟨g, .arr true false (es α) [enc x]⟩
section
variable {α : Type} [Cel α]
theorem ypg {H : Heap} {fb j : Nat} {o : AO} (x : α) (h : H[fb + j]? = some o) : newC fb (some j) (enc x) H = some (.lp (fb + j) (o.gen + 1) 0 0, H.set (fb + j) (AG (o.gen + 1) x)) := by
  unfold newC
  rw [if_pos (y5t x)]
  simp only [y4j, place, h, len]
theorem y1fr {H : Heap} {id g : Nat} {c d : α} {v : AV} (h : H[id]? = some (AG g c)) (hv : cellsOf v = enc d) : evSt (es α) (.lp id g 0 0) v H = some (.tup [], H.set id (AG g d)) := by
  have hr : ye H id g = some (false, es α, [enc c]) := by simp [ye, y1p, h]
  simp only [evSt, hr, List.getElem?_cons_zero, hv]
  rw [if_pos ⟨len d, by rw [len]; omega, y5t d⟩]
  have e : ym 0 (enc d) (enc c) = enc d := by
    unfold ym
    rw [List.take_zero, List.nil_append, Nat.zero_add, List.drop_of_length_le (by rw [len, len]; omega), List.append_nil]
  rw [e]
  simp [y1e, h]
theorem st_g {H : Heap} {id g : Nat} {c d : α} (h : H[id]? = some (AG g c)) : evSt (es α) (.lp id g 0 0) (.agg (enc d)) H = some (.tup [], H.set id (AG g d)) := y1fr h rfl
theorem ld_g {H : Heap} {id g k : Nat} {c : α} {v : AV} (h : H[id]? = some (AG g c)) (hv : ((enc c).drop k).head? = some v) : evLd false 1 (.lp id g 0 k) H = some v := by
  have hr : ye H id g = some (false, es α, [enc c]) := by simp [ye, y1p, h]
  simp only [evLd, hr, List.getElem?_cons_zero, y3h]
  exact hv
theorem yok {H : Heap} {id g : Nat} {c : α} (h : H[id]? = some (AG g c)) : evLd true (es α) (.lp id g 0 0) H = some (.agg (enc c)) := by
  have hr : ye H id g = some (false, es α, [enc c]) := by simp [ye, y1p, h]
  simp only [evLd, hr, List.getElem?_cons_zero, List.drop_zero]
  exact y3v c
end
end Go.Vm
namespace Go.Vm
open Cel
def clsD (C : CTab) (n : Txt) : Cls := (tlook C n).getD zC
def chn (C : CTab) : Nat → Txt → Option (List Txt)
  | 0, _ => none
  | k + 1, n => if n = [] then some [] else (chn C k (clsD C n).sup).map (n :: ·)
def hitM (nm d : Txt) (f : Fld) : Bool := decide (f.name = nm) && decide (f.desc = d)
abbrev zF : Fld := ⟨0, [], []⟩
def y5h (C : CTab) (nm d : Txt) : List Txt → Txt × Fld × Bool
  | [] => ([], zF, false)
  | n :: r => match (lst (clsD C n).flds).find? (hitM nm d) with
    | some f => (n, f, true)
    | none => y5h C nm d r
def fR (q : Txt × Fld × Bool) : AV := .tup [.str q.1, .agg (enc q.2.1), .bool q.2.2]
theorem yer {α : Type} [Cel α] (H : Heap) (s : Txt) (f : α) (b : Bool) : ∃ fr, yq H (.tup [.str s, .agg (enc f), .bool b]) = some ⟨.tup [.str s, .agg (enc f), .bool b], [], fr, [], []⟩ := by
  rw [ysn]
  have h1 : expo H 11 (.str s) [] = some ⟨.str s, [], true, [], []⟩ := rfl
  rw [y1z, h1]
  simp only
  rw [y1z, y127 (k := 9)]
  exact ⟨_, rfl⟩
theorem fld1 (x : Fld) : ((enc x).drop 1).head? = some (.str x.name) := rfl
theorem fld2 (x : Fld) : ((enc x).drop 2).head? = some (.str x.desc) := rfl
theorem y11a {T : AV} {n nm dd : Txt} {g0 g1 : Nat} {b : AO} {fl : Option (List Fld)} (hl : (lst fl).length ≤ 9223372036854775806) : ∀ (d i : Nat) (x : AO), i + d = (lst fl).length →
    (∃ f fr, ((lst fl).drop i).find? (hitM nm dd) = some f ∧ ye3 T (.str n) (.str nm) (.str dd) (.lp 0 g0 0 0) (.lp 1 g1 0 0) (slA fl) (.int .i64 (lst fl).length) (.int .i64 i) [AG g0 zF, b, x] = some ⟨fR (n, f, true), [], fr, [], []⟩) ∨
    (((lst fl).drop i).find? (hitM nm dd) = none ∧ ∃ x', ye3 T (.str n) (.str nm) (.str dd) (.lp 0 g0 0 0) (.lp 1 g1 0 0) (slA fl) (.int .i64 (lst fl).length) (.int .i64 i) [AG g0 zF, b, x] = y132 T (.str nm) (.str dd) (.lp 0 g0 0 0) (.lp 1 g1 0 0) [AG g0 zF, b, x']) := by
  intro d
  induction d with
  | zero =>
    intro i x hi
    have hc : ¬ ((i : Int) < ((lst fl).length : Int)) := by omega
    right
    refine ⟨by rw [List.drop_of_length_le (by omega)]; rfl, x, ?_⟩
    rw [ygs]
    simp only [y0d, y11p, yh, hc, decide_false, y4, y10]
  | succ d ih =>
    intro i x hi
    have hlt : i < (lst fl).length := by omega
    have hc : ((i : Int) < ((lst fl).length : Int)) := by omega
    have hw := y3e hlt (by omega)
    have hdrop : (lst fl).drop i = (lst fl)[i] :: (lst fl).drop (i + 1) := List.drop_eq_getElem_cons hlt
    have k1 : y21 3 (slA fl) (.int .i64 i) = some (.rp (enc (lst fl)[i])) := y5u (List.getElem?_eq_getElem hlt) .i64
    rw [ygs, hdrop]
    generalize (lst fl)[i] = f at *
    have n1 : newC 0 (some 2) [.int .i64 0, .str [], .str []] [AG g0 zF, b, x] = some (.lp 2 (x.gen + 1) 0 0, [AG g0 zF, b, AG (x.gen + 1) zF]) := ypg (H := [AG g0 zF, b, x]) (fb := 0) (j := 2) zF rfl
    have s1 : evSt 3 (.lp 2 (x.gen + 1) 0 0) (.agg (enc f)) [AG g0 zF, b, AG (x.gen + 1) zF] = some (.tup [], [AG g0 zF, b, AG (x.gen + 1) f]) := st_g (H := [AG g0 zF, b, AG (x.gen + 1) zF]) rfl
    have l1 : evLd false 1 (.lp 2 (x.gen + 1) 0 1) [AG g0 zF, b, AG (x.gen + 1) f] = some (.str f.name) := ld_g (H := [AG g0 zF, b, AG (x.gen + 1) f]) rfl (fld1 f)
    have l2 : evLd false 1 (.lp 2 (x.gen + 1) 0 2) [AG g0 zF, b, AG (x.gen + 1) f] = some (.str f.desc) := ld_g (H := [AG g0 zF, b, AG (x.gen + 1) f]) rfl (fld2 f)
    have lA : evLd true 3 (.lp 2 (x.gen + 1) 0 0) [AG g0 zF, b, AG (x.gen + 1) f] = some (.agg (enc f)) := yok (α := Fld) rfl
    have s9 : evSt 3 (.lp 0 g0 0 0) (.agg (enc f)) [AG g0 zF, b, AG (x.gen + 1) f] = some (.tup [], [AG g0 f, b, AG (x.gen + 1) f]) := st_g (H := [AG g0 zF, b, AG (x.gen + 1) f]) rfl
    have l9 : evLd true 3 (.lp 0 g0 0 0) [AG g0 f, b, AG (x.gen + 1) f] = some (.agg (enc f)) := yok (α := Fld) rfl
    have ga : y3h true 3 (enc f) = some (.agg (enc f)) := y3v f
    have hpick : ∀ K : AV → Option (Ex AV), (gb (.bool (decide (f.name = nm))) true (some (.lp 2 (x.gen + 1) 0 2)) fun v37 => gb (.bool (decide (f.name = nm))) true (evLd false 1 v37 [AG g0 zF, b, AG (x.gen + 1) f]) fun v38 =>
        gb (.bool (decide (f.name = nm))) true (some (.str dd)) fun v39 => gb (.bool (decide (f.name = nm))) true (y9 .eql v38 v39) fun v40 => ob (yk (.bool (decide (f.name = nm))) v40 (.bool false)) K) = K (.bool (hitM nm dd f)) := fun K => by
      unfold hitM
      cases decide (f.name = nm) with
      | true => simp only [y4d, y4, l2, y25, yo, Bool.true_and]
      | false => simp only [yab, yy, y4, Bool.false_and]
    simp only [y0d, y11p, yh, hc, decide_true, y4, y1q, y16k, k1, y4s, ga, n1, yc, s1, y1f, Nat.zero_add, l1, y25, hpick]
    rw [List.find?_cons]
    cases hh : hitM nm dd f with
    | true =>
      left
      obtain ⟨fr, he⟩ := yer [AG g0 f, b, AG (x.gen + 1) f] n f true
      refine ⟨f, fr, rfl, ?_⟩
      simp only [y1q, lA, y4, s9, yc, l9]
      exact he
    | false =>
      simp only [y10, y184, y1b, hw, y4]
      have := ih (i + 1) (AG (x.gen + 1) f) (by omega)
      push_cast at this
      exact this
theorem yee (C : CTab) (n : Txt) : mgV cV (.agg zCls) false (tlook C n) = .agg (enc (clsD C n)) := by
  unfold clsD
  cases tlook C n with
  | none => rfl
  | some c => rfl
theorem ydp {C : CTab} {N : List Txt} {A : ATab} (hF : ∀ n, (lst (clsD C n).flds).length ≤ 9223372036854775806) {nm dd : Txt} {g0 : Nat} : ∀ (k : Nat) (n : Txt) (L : List Txt) (b x : AO), chn C k n = some L →
    ∃ fr, ygp (y11 C N A) (.str n) (.str nm) (.str dd) (.lp 0 g0 0 0) [AG g0 zF, b, x] = some ⟨fR (y5h C nm dd L), [], fr, [], []⟩
  | 0, _, _, _, _, h => by cases h
  | k + 1, n, L, b, x, h => by
    rw [chn] at h
    rw [ypn]
    unfold yql
    by_cases e : n = []
    · rw [if_pos e] at h
      injection h with h
      subst h; subst e
      have b0 : y12 [.int .i64 0, .str [], .str []] [] = some (.agg (enc zF)) := rfl
      have s9 : evSt 3 (.lp 0 g0 0 0) (.agg (enc zF)) [AG g0 zF, b, x] = some (.tup [], [AG g0 zF, b, x]) := st_g (H := [AG g0 zF, b, x]) rfl
      have l9 : evLd true 3 (.lp 0 g0 0 0) [AG g0 zF, b, x] = some (.agg (enc zF)) := yok (α := Fld) rfl
      simp only [y1k, ne_eq, not_true_eq_false, decide_false, y4, y10, y17y, b0, s9, yc, l9]
      exact yer _ [] zF false
    · rw [if_neg e] at h
      obtain ⟨M, h1, h2⟩ := Option.map_eq_some_iff.1 h
      subst h2
      have n1 : yn (y11 C N A) = some (y11 C N A) := rfl
      have f1 : evFa 0 (y11 C N A) = some (y11 C N A) := rfl
      have l1 : ∀ H : Heap, evLd false 1 (y11 C N A) H = some (.rm (tE cV C)) := fun _ => rfl
      have g1 : ∀ H : Heap, y16 false [2] (.agg zCls) false (.rm (tE cV C)) (.str n) H = some (.agg (enc (clsD C n))) := fun H => by
        rw [ybs cV H C n _ false, yee]
      have n2 : newC 0 (some 1) zCls [AG g0 zF, b, x] = some (.lp 1 (b.gen + 1) 0 0, [AG g0 zF, AC (b.gen + 1) zC, x]) := y9e (H := [AG g0 zF, b, x]) (fb := 0) (j := 1) rfl
      have s1 : evSt 7 (.lp 1 (b.gen + 1) 0 0) (.agg (enc (clsD C n))) [AG g0 zF, AC (b.gen + 1) zC, x] = some (.tup [], [AG g0 zF, AC (b.gen + 1) (clsD C n), x]) := ydj (H := [AG g0 zF, AC (b.gen + 1) zC, x]) rfl
      have l5 : evLd false 1 (.lp 1 (b.gen + 1) 0 5) [AG g0 zF, AC (b.gen + 1) (clsD C n), x] = some (slA (clsD C n).flds) := y3t (H := [AG g0 zF, AC (b.gen + 1) (clsD C n), x]) rfl (cls5 _)
      simp only [y1k, ne_eq, e, not_false_eq_true, decide_true, y4, y1q, yw7, n1, f1, l1, g1, n2, yc, s1, yy2, y1f, Nat.zero_add, l5, y2c]
      rcases y11a (T := y11 C N A) (n := n) (nm := nm) (dd := dd) (g0 := g0) (g1 := b.gen + 1) (b := AC (b.gen + 1) (clsD C n)) (hF n) (lst (clsD C n).flds).length 0 x (by omega) with ⟨f, fr, hf, he⟩ | ⟨hf, x', he⟩
      · rw [List.drop_zero] at hf
        refine ⟨fr, ?_⟩
        rw [y5h, hf]
        exact he
      · rw [List.drop_zero] at hf
        have l2 : evLd false 1 (.lp 1 (b.gen + 1) 0 2) [AG g0 zF, AC (b.gen + 1) (clsD C n), x'] = some (.str (clsD C n).sup) := y3t (H := [AG g0 zF, AC (b.gen + 1) (clsD C n), x']) rfl (cls2 _)
        obtain ⟨fr, ih⟩ := ydp (N := N) (A := A) hF (nm := nm) (dd := dd) (g0 := g0) k (clsD C n).sup M (AC (b.gen + 1) (clsD C n)) x' h1
        refine ⟨fr, ?_⟩
        rw [y5h, hf]
        refine Eq.trans he ?_
        simp only [y132, y1f, Nat.zero_add, l2, y4]
        exact ih
theorem y14p {C : CTab} {N : List Txt} {A : ATab} (hF : ∀ n, (lst (clsD C n).flds).length ≤ 9223372036854775806) {k : Nat} {n nm dd : Txt} {L : List Txt} (h : chn C k n = some L) :
    ∃ fr, (y6 E).p 211 [y11 C N A, .str n, .str nm, .str dd] = some ⟨fR (y5h C nm dd L), [], fr, [], []⟩ := by
  rw [y1fq]
  unfold ytq ysq
  have n0 : newC 0 (some 0) [.int .i64 0, .str [], .str []] [⟨0, .dead⟩, ⟨0, .dead⟩, ⟨0, .dead⟩] = some (.lp 0 1 0 0, [AG 1 zF, ⟨0, .dead⟩, ⟨0, .dead⟩]) := ypg (H := [⟨0, .dead⟩, ⟨0, .dead⟩, ⟨0, .dead⟩]) (fb := 0) (j := 0) zF rfl
  simp only [n0, yc, yhp, y4, y10]
  exact ydp hF k n L _ _ h
end Go.Vm
namespace Go.Vm
open Cel
def yaa (nm d : Txt) (f : Mth) : Bool := decide (f.name = nm) && decide (f.desc = d)
abbrev zMt : Mth := ⟨0, [], [], 0, 0, none, none, none⟩
def y40 (C : CTab) (nm d : Txt) : List Txt → Txt × Mth × Bool
  | [] => ([], zMt, false)
  | n :: r => match (lst (clsD C n).mths).find? (yaa nm d) with
    | some f => (n, f, true)
    | none => y40 C nm d r
def mR (q : Txt × Mth × Bool) : AV := .tup [.str q.1, .agg (enc q.2.1), .bool q.2.2]
theorem mth1 (x : Mth) : ((enc x).drop 1).head? = some (.str x.name) := rfl
theorem mth2 (x : Mth) : ((enc x).drop 2).head? = some (.str x.desc) := rfl
abbrev zMC : List AV := [.int .i64 0, .str [], .str [], .int .i64 0, .int .i64 0, .nils, .nils, .nils]
abbrev MH (g0 : Nat) (p q r x : AO) : Heap := [AG g0 zMt, p, q, r, x]
theorem y17v {T v38 v39 v40 : AV} {n nm dd : Txt} {g0 : Nat} {p q r : AO} {fl : Option (List Mth)} (hl : (lst fl).length ≤ 9223372036854775806) : ∀ (d i : Nat) (x : AO), i + d = (lst fl).length →
    (∃ f fr, ((lst fl).drop i).find? (yaa nm dd) = some f ∧ ye5 T (.str nm) (.str dd) (.lp 0 g0 0 0) (.str n) v38 v39 v40 (slA fl) (.int .i64 (lst fl).length) (.int .i64 i) (MH g0 p q r x) = some ⟨mR (n, f, true), [], fr, [], []⟩) ∨
    (((lst fl).drop i).find? (yaa nm dd) = none ∧ ∃ x', ye5 T (.str nm) (.str dd) (.lp 0 g0 0 0) (.str n) v38 v39 v40 (slA fl) (.int .i64 (lst fl).length) (.int .i64 i) (MH g0 p q r x) = y131 T (.str nm) (.str dd) (.lp 0 g0 0 0) v38 v39 v40 (MH g0 p q r x')) := by
  intro d
  induction d with
  | zero =>
    intro i x hi
    have hc : ¬ ((i : Int) < ((lst fl).length : Int)) := by omega
    right
    refine ⟨by rw [List.drop_of_length_le (by omega)]; rfl, x, ?_⟩
    rw [ygn]
    simp only [y0z, y125, yh, hc, decide_false, y4, y10]
  | succ d ih =>
    intro i x hi
    have hlt : i < (lst fl).length := by omega
    have hc : ((i : Int) < ((lst fl).length : Int)) := by omega
    have hw := y3e hlt (by omega)
    have hdrop : (lst fl).drop i = (lst fl)[i] :: (lst fl).drop (i + 1) := List.drop_eq_getElem_cons hlt
    have k1 : y21 8 (slA fl) (.int .i64 i) = some (.rp (enc (lst fl)[i])) := y5u (List.getElem?_eq_getElem hlt) .i64
    rw [ygn, hdrop]
    generalize (lst fl)[i] = f at *
    have n1 : newC 0 (some 4) zMC (MH g0 p q r x) = some (.lp 4 (x.gen + 1) 0 0, MH g0 p q r (AG (x.gen + 1) zMt)) := ypg (H := MH g0 p q r x) (fb := 0) (j := 4) zMt rfl
    have s1 : evSt 8 (.lp 4 (x.gen + 1) 0 0) (.agg (enc f)) (MH g0 p q r (AG (x.gen + 1) zMt)) = some (.tup [], MH g0 p q r (AG (x.gen + 1) f)) := st_g (H := MH g0 p q r (AG (x.gen + 1) zMt)) rfl
    have l1 : evLd false 1 (.lp 4 (x.gen + 1) 0 1) (MH g0 p q r (AG (x.gen + 1) f)) = some (.str f.name) := ld_g (H := MH g0 p q r (AG (x.gen + 1) f)) rfl (mth1 f)
    have l2 : evLd false 1 (.lp 4 (x.gen + 1) 0 2) (MH g0 p q r (AG (x.gen + 1) f)) = some (.str f.desc) := ld_g (H := MH g0 p q r (AG (x.gen + 1) f)) rfl (mth2 f)
    have lA : evLd true 8 (.lp 4 (x.gen + 1) 0 0) (MH g0 p q r (AG (x.gen + 1) f)) = some (.agg (enc f)) := yok (α := Mth) rfl
    have s9 : evSt 8 (.lp 0 g0 0 0) (.agg (enc f)) (MH g0 p q r (AG (x.gen + 1) f)) = some (.tup [], [AG g0 f, p, q, r, AG (x.gen + 1) f]) := st_g (H := MH g0 p q r (AG (x.gen + 1) f)) rfl
    have l9 : evLd true 8 (.lp 0 g0 0 0) [AG g0 f, p, q, r, AG (x.gen + 1) f] = some (.agg (enc f)) := yok (α := Mth) rfl
    have ga : y3h true 8 (enc f) = some (.agg (enc f)) := y3v f
    have hpick : ∀ K : AV → Option (Ex AV), (gb (.bool (decide (f.name = nm))) true (some (.lp 4 (x.gen + 1) 0 2)) fun v37 => gb (.bool (decide (f.name = nm))) true (evLd false 1 v37 (MH g0 p q r (AG (x.gen + 1) f))) fun v38 =>
        gb (.bool (decide (f.name = nm))) true (some (.str dd)) fun v39 => gb (.bool (decide (f.name = nm))) true (y9 .eql v38 v39) fun v40 => ob (yk (.bool (decide (f.name = nm))) v40 (.bool false)) K) = K (.bool (yaa nm dd f)) := fun K => by
      unfold yaa
      cases decide (f.name = nm) with
      | true => simp only [y4d, y4, l2, y25, yo, Bool.true_and]
      | false => simp only [yab, yy, y4, Bool.false_and]
    simp only [y0z, y125, yh, hc, decide_true, y4, y1q, y15i, k1, y4s, ga, n1, yc, s1, y1f, Nat.zero_add, l1, y25, hpick]
    rw [List.find?_cons]
    cases hh : yaa nm dd f with
    | true =>
      left
      obtain ⟨fr, he⟩ := yer [AG g0 f, p, q, r, AG (x.gen + 1) f] n f true
      refine ⟨f, fr, rfl, ?_⟩
      simp only [y1q, lA, y4, s9, yc, l9]
      exact he
    | false =>
      simp only [y10, y16i, y1b, hw, y4]
      have := ih (i + 1) (AG (x.gen + 1) f) (by omega)
      push_cast at this
      exact this
theorem ycd {C : CTab} {N : List Txt} {A : ATab} (hF : ∀ n, (lst (clsD C n).mths).length ≤ 9223372036854775806) {nm dd : Txt} {g0 : Nat} (L : List Txt) (hl : L.length ≤ 9223372036854775806) {p q r : AO} {v38 : AV}
    (hv : ∀ (i : Nat) (h : i < L.length) (H : Heap) (_ : ∃ x, H = MH g0 p q r x), ∃ a, y21 1 v38 (.int .i64 (i : Int)) = some a ∧ evLd false 1 a H = some (.str L[i])) : ∀ (d i : Nat) (x : AO), i + d = L.length →
    ∃ fr, ygz (y11 C N A) (.str nm) (.str dd) (.lp 0 g0 0 0) v38 (.int .i64 L.length) (.int .i64 i) (MH g0 p q r x) = some ⟨mR (y40 C nm dd (L.drop i)), [], fr, [], []⟩ := by
  intro d
  induction d with
  | zero =>
    intro i x hi
    have hc : ¬ ((i : Int) < (L.length : Int)) := by omega
    rw [yfy, List.drop_of_length_le (by omega)]
    have b0 : y12 zMC [] = some (.agg (enc zMt)) := rfl
    have s9 : evSt 8 (.lp 0 g0 0 0) (.agg (enc zMt)) (MH g0 p q r x) = some (.tup [], MH g0 p q r x) := st_g (H := MH g0 p q r x) rfl
    have l9 : evLd true 8 (.lp 0 g0 0 0) (MH g0 p q r x) = some (.agg (enc zMt)) := yok (α := Mth) rfl
    simp only [yn9, ymg, yh, hc, decide_false, y4, y10, y16w, b0, s9, yc, l9]
    exact yer _ [] zMt false
  | succ d ih =>
    intro i x hi
    have hlt : i < L.length := by omega
    have hc : ((i : Int) < (L.length : Int)) := by omega
    have hw := y3e hlt (by omega)
    have hdrop : L.drop i = L[i] :: L.drop (i + 1) := List.drop_eq_getElem_cons hlt
    obtain ⟨a, a1, a2⟩ := hv i hlt (MH g0 p q r x) ⟨x, rfl⟩
    rw [yfy, hdrop]
    generalize L[i] = n at *
    have n1 : yn (y11 C N A) = some (y11 C N A) := rfl
    have f1 : evFa 0 (y11 C N A) = some (y11 C N A) := rfl
    have l1 : ∀ H : Heap, evLd false 1 (y11 C N A) H = some (.rm (tE cV C)) := fun _ => rfl
    have g1 : ∀ H : Heap, y16 false [2] (.agg zCls) false (.rm (tE cV C)) (.str n) H = some (.agg (enc (clsD C n))) := fun H => by
      rw [ybs cV H C n _ false, yee]
    have f6 : yom false 6 1 (.agg (enc (clsD C n))) = some (slA (clsD C n).mths) := rfl
    simp only [yn9, ymg, yh, hc, decide_true, y4, y1q, yq2, a1, a2, yws, n1, f1, l1, g1, f6, y2c]
    rcases y17v (T := y11 C N A) (v38 := v38) (v39 := .int .i64 L.length) (v40 := .int .i64 i) (n := n) (nm := nm) (dd := dd) (g0 := g0) (p := p) (q := q) (r := r) (hF n) (lst (clsD C n).mths).length 0 x (by omega) with ⟨f, fr, hf, he⟩ | ⟨hf, x', he⟩
    · rw [List.drop_zero] at hf
      refine ⟨fr, ?_⟩
      rw [y40, hf]
      exact he
    · rw [List.drop_zero] at hf
      obtain ⟨fr, ih⟩ := ih (i + 1) x' (by omega)
      push_cast at ih
      refine ⟨fr, ?_⟩
      rw [y40, hf]
      refine Eq.trans he ?_
      simp only [y131, y1b, hw, y4]
      exact ih
theorem yg3 {C : CTab} {N : List Txt} {A : ATab} {v1 v2 v3 v9 : AV} {a : AO} {r x : AO} : ∀ (k : Nat) (n : Txt) (L M : List Txt) (p : AO) (g : Nat), chn C k n = some L → M.length + L.length ≤ 1000 →
    ∃ p' g', y9i (y11 C N A) v1 v2 v3 v9 (y2l Tx 2 g (M.map Tx.mk)) (.str n) [a, p, y38 g D0 (M.map Tx.mk), r, x] = ylp (y11 C N A) v1 v2 v3 v9 (y2l Tx 2 g' ((M ++ L).map Tx.mk)) [a, p', y38 g' D0 ((M ++ L).map Tx.mk), r, x]
  | 0, _, _, _, _, _, h, _ => by cases h
  | k + 1, n, L, M, p, g, h, hb => by
    rw [chn] at h
    rw [ypd]
    unfold yrv
    by_cases e : n = []
    · rw [if_pos e] at h
      injection h with h
      subst h; subst e
      refine ⟨p, g, ?_⟩
      simp only [y1k, ne_eq, not_true_eq_false, decide_false, y4, y10, List.append_nil]
    · rw [if_neg e] at h
      obtain ⟨L', h1, h2⟩ := Option.map_eq_some_iff.1 h
      subst h2
      simp only [List.length_cons] at hb
      have e48 : (2:Nat) ^ 48 = 281474976710656 := by decide
      have b1 : y19 0 (some 1) 1 1 [.str []] [(0, .str n)] [a, p, y38 g D0 (M.map Tx.mk), r, x] = some (.ls 1 (p.gen + 1) 1 0 1, [a, ⟨p.gen + 1, .arr false false 1 ([Tx.mk n].map enc)⟩, y38 g D0 (M.map Tx.mk), r, x]) :=
        yl3 (H := [a, p, y38 g D0 (M.map Tx.mk), r, x]) (fb := 0) (j := 1) n rfl
      have hy : y15 [a, ⟨p.gen + 1, .arr false false 1 ([Tx.mk n].map enc)⟩, y38 g D0 (M.map Tx.mk), r, x] (es Tx) (.ls 1 (p.gen + 1) 1 0 1) = some ([Tx.mk n].map enc) :=
        yaf (H := [a, ⟨p.gen + 1, .arr false false 1 ([Tx.mk n].map enc)⟩, y38 g D0 (M.map Tx.mk), r, x]) rfl
      obtain ⟨g', a1⟩ := yae (fb := 0) (j := 2) (b := 16) hy rfl (by rw [e48]; simp only [List.length_map, List.length_cons, List.length_nil]; omega)
      obtain ⟨p', g2, ih⟩ := yg3 (N := N) (A := A) (v1 := v1) (v2 := v2) (v3 := v3) (v9 := v9) (a := a) (r := r) (x := x) k (clsD C n).sup L' (M ++ [n]) ⟨p.gen + 1, .arr false false 1 ([Tx.mk n].map enc)⟩ g' h1 (by simp; omega)
      refine ⟨p', g2, ?_⟩
      have n1 : yn (y11 C N A) = some (y11 C N A) := rfl
      have f1 : evFa 0 (y11 C N A) = some (y11 C N A) := rfl
      have l1 : ∀ H : Heap, evLd false 1 (y11 C N A) H = some (.rm (tE cV C)) := fun _ => rfl
      have m1 : ∀ H : Heap, y16 false [2] (.agg zCls) false (.rm (tE cV C)) (.str n) H = some (.agg (enc (clsD C n))) := fun H => by
        rw [ybs cV H C n _ false, yee]
      have f6 : yom false 2 1 (.agg (enc (clsD C n))) = some (.str (clsD C n).sup) := rfl
      have a1' : y2d 0 (some 2) 1 16 (y2l Tx 2 g (M.map Tx.mk)) (.ls 1 (p.gen + 1) 1 0 1) [a, ⟨p.gen + 1, .arr false false 1 ([Tx.mk n].map enc)⟩, y38 g D0 (M.map Tx.mk), r, x] =
          some (y2l Tx 2 g' ((M ++ [n]).map Tx.mk), [a, ⟨p.gen + 1, .arr false false 1 ([Tx.mk n].map enc)⟩, y38 g' D0 ((M ++ [n]).map Tx.mk), r, x]) := by
        rw [List.map_append]
        exact a1
      simp only [y1k, ne_eq, e, not_false_eq_true, decide_true, y4, y1q, yz8, b1, yc, a1', yxf, n1, f1, l1, m1, f6]
      rw [ih, List.append_assoc]
      rfl
theorem y11r {C : CTab} {N : List Txt} {A : ATab} (T : TOk C A) (hT : TNd C A) (hF : ∀ n, (lst (clsD C n).mths).length ≤ 9223372036854775806) {k : Nat} {n nm dd : Txt} {L : List Txt} (h : chn C k n = some L) (hl : L.length ≤ 60) :
    ∃ fr, (y6 E).p 213 [y11 C N A, .str n, .str nm, .str dd] = some ⟨mR (y40 C nm dd (L ++ y51 A n)), [], fr, [], []⟩ := by
  rw [y1ei]
  unfold ysl yug yyl
  have n0 : newC 0 (some 0) zMC [D0, D0, D0, D0, D0] = some (.lp 0 1 0 0, [AG 1 zMt, D0, D0, D0, D0]) := ypg (H := [D0, D0, D0, D0, D0]) (fb := 0) (j := 0) zMt rfl
  obtain ⟨p', g', e1⟩ := yg3 (C := C) (N := N) (A := A) (v1 := .str n) (v2 := .str nm) (v3 := .str dd) (v9 := .lp 0 1 0 0) (a := AG 1 zMt) (r := D0) (x := D0) k n L [] D0 0 h (by simp; omega)
  have e0 : yr4 (y11 C N A) (.str n) (.str nm) (.str dd) (.lp 0 1 0 0) .nils [AG 1 zMt, D0, D0, D0, D0] = y9i (y11 C N A) (.str n) (.str nm) (.str dd) (.lp 0 1 0 0) (y2l Tx 2 0 (([] : List Txt).map Tx.mk)) (.str n) [AG 1 zMt, D0, y38 0 D0 (([] : List Txt).map Tx.mk), D0, D0] := rfl
  simp only [n0, yc, yhp, y4, y10]
  rw [e0, e1, List.nil_append]
  have hB : (y51 A n).length ≤ 53 := yi8 hT T.ok n
  have e48 : (2:Nat) ^ 48 = 281474976710656 := by decide
  have cA := yox (N := N) hT T.ok (fb := 0) (H := [AG 1 zMt, p', y38 g' D0 (L.map Tx.mk), D0, D0]) n
  unfold ylp
  rw [cA]
  have hr : ∀ H : Heap, y15 H 1 (slA (nz ((y51 A n).map Tx.mk))) = some (txR (y51 A n)) := fun H => by
    rw [y17m, y1bi, List.map_map, show ((fun x : Tx => x.s) ∘ Tx.mk) = id from rfl, List.map_id]
  simp only [yc]
  generalize y51 A n = B at hB hr ⊢
  have ldr : ∀ (W : List Txt) (H : Heap) (id g : Nat), H[id]? = some ⟨g, .arr false false 1 (txR W)⟩ → ∀ (i : Nat) (hi : i < W.length), ∃ a, y21 1 (.ls id g 1 0 W.length) (.int .i64 (i : Int)) = some a ∧ evLd false 1 a H = some (.str W[i]) := by
    intro W H id g hH i hi
    have ix := y12o (n := W.length) (p := (i : Int)) (by omega) (by omega) id g .i64
    rw [show ((i : Int)).toNat = i by omega] at ix
    exact ⟨_, ix, yn7 (es := 1) hH (by unfold txR; simp [hi])⟩
  cases L with
  | nil =>
    show ∃ fr, (oh (y2d 0 (some 3) 1 16 .nils (slA (nz (B.map Tx.mk))) [AG 1 zMt, p', D0, D0, D0]) _) = _
    cases B with
    | nil =>
      rw [y172 (hr _)]
      simp only [yc, yos, y4]
      exact ycd hF [] (by simp) (p := p') (q := D0) (r := D0) (fun i hi => absurd hi (Nat.not_lt_zero _)) 0 0 D0 rfl
    | cons b B =>
      rw [y16n (fb := 0) (j := 3) (o := D0) rfl (hr _) (by simp [txR]) (by rw [e48, y55]; omega)]
      rw [y55]
      simp only [yc, yak, y4]
      exact ycd hF (b :: B) (by omega) (p := p') (q := D0) (r := ⟨1, .arr false false 1 (txR (b :: B))⟩) (fun i hi H hH => by
        obtain ⟨x, rfl⟩ := hH
        exact ldr (b :: B) _ 3 1 rfl i hi) (b :: B).length 0 D0 (by omega)
  | cons a L =>
    have hs : y2l Tx 2 g' ((a :: L).map Tx.mk) = .ls 2 g' 1 0 (txR (a :: L)).length := by
      rw [y55]
      show AV.ls 2 g' 1 0 ((L.map Tx.mk).length + 1) = _
      rw [List.length_map]
      rfl
    have ho : y38 g' D0 ((a :: L).map Tx.mk) = ⟨g', .arr false false 1 (txR (a :: L))⟩ := by
      rw [yid]
      rfl
    rw [hs, ho, y1d4 (id := 2) rfl (hr _) (by rw [e48, y55, y55]; omega), ← yqp, y55, y55, ← List.length_append]
    simp only [yc, yak, y4]
    exact ycd hF (a :: L ++ B) (by simp only [List.length_append]; omega) (p := p') (q := ⟨g' + 1, .arr false false 1 (txR (a :: L ++ B))⟩) (r := D0) (fun i hi H hH => by
      obtain ⟨x, rfl⟩ := hH
      exact ldr (a :: L ++ B) _ 2 (g' + 1) rfl i hi) (a :: L ++ B).length 0 D0 (by omega)
end Go.Vm
namespace Go.Vm
open Cel
def yv (i : Nat) : Txt := [107, UInt8.ofNat (97 + i / 10), UInt8.ofNat (48 + i % 10)]
def supN : Nat → Txt
  | 0 => sObj
  | i + 1 => yv i
abbrev oneF (d : Txt) : Fld := ⟨0, [102], d⟩
abbrev oneM (d : Txt) : Mth := ⟨0, [109], d, 0, 0, none, none, none⟩
def clsN (d : Txt) (b : Bool) (i : Nat) : Cls := ⟨0, yv i, supN i, none, none, if b then some [oneF d] else none, if b then some [oneM d] else none⟩
def y37 (d : Txt) (hs : List Bool) : Nat → List Cls
  | 0 => []
  | n + 1 => y37 d hs n ++ [clsN d (hs.getD n false) n]
def tabN (d : Txt) (hs : List Bool) (n : Nat) : CTab := y26 ++ (y37 d hs n).map fun c => (c.nm, c)
def y2v : Nat → List Txt
  | 0 => [yv 0, sObj]
  | i + 1 => yv (i + 1) :: y2v i
def tyN (i : Nat) : Txt := [76] ++ yv i ++ [59]
def okN (n : Nat) : Bool := match y2a (upC (tabN [] [] n)) ((tabN [] [] n).length + 1) (ckeys (tabN [] [] n)) [] with
  | some (true, A) => (List.range n).all fun i => yeq A (tyN i) (tyN 0) && (decide (i = 0) || !yeq A (tyN 0) (tyN i)) && decide (chn (tabN [] [] n) 60 (yv i) = some (y2v i)) && ((alook A (yv i)).getD []).all fun x => (y2v i).contains x
  | _ => false
def okN2 (n : Nat) : Bool := decide (y1s y26 (y37 [] [] n) = some (tabN [] [] n)) && (y37 [] [] n).all (parB (tabN [] [] n)) && (y37 [] [] n).all fun c => y7x false c.nm
set_option maxRecDepth 100000 in
theorem y116 : ((List.range 36).all okN2) = true := by kernel_rfl
set_option maxRecDepth 100000 in
theorem y14t : ((List.range 36).all okN) = true := by kernel_rfl
end Go.Vm
namespace Go.Vm
open Cel
def sk (c : Cls) : Cls := ⟨c.fl, c.nm, c.sup, c.ifs, none, none, none⟩
def skT (C : CTab) : CTab := C.map fun p => (p.1, sk p.2)
theorem y91 (C : CTab) (x : Txt) : tlook (skT C) x = (tlook C x).map sk := by
  unfold tlook skT
  rw [List.find?_map]
  cases h : C.find? ((fun p => decide (p.1 = x)) ∘ fun p => (p.1, sk p.2)) with
  | none =>
    have h' : C.find? (fun p => decide (p.1 = x)) = none := h
    rw [h']; rfl
  | some q =>
    have h' : C.find? (fun p => decide (p.1 = x)) = some q := h
    rw [h']; rfl
theorem y148 (C : CTab) : ckeys (skT C) = ckeys C := by
  unfold ckeys skT
  rw [List.map_map]
  rfl
theorem y1cq (C : CTab) : upC (skT C) = upC C := by
  funext x
  unfold upC
  rw [show clook (skT C) x = tlook (skT C) x from rfl, show clook C x = tlook C x from rfl, y91]
  cases tlook C x <;> rfl
theorem y1bm (C : CTab) (x : Txt) : (clsD (skT C) x).sup = (clsD C x).sup := by
  unfold clsD
  rw [y91]
  cases tlook C x <;> rfl
theorem yqg (C : CTab) : ∀ (k : Nat) (x : Txt), chn (skT C) k x = chn C k x
  | 0, _ => rfl
  | k + 1, x => by rw [chn, chn, y1bm, yqg C k]
theorem y149 (C : CTab) : ∀ (l pre : List Tx), ifsB (skT C) pre l = ifsB C pre l
  | [], _ => rfl
  | s :: l, pre => by
    rw [ifsB, ifsB, y149 C l, y91]
    cases tlook C s.s <;> rfl
theorem y1bv (C : CTab) (c : Cls) : parB (skT C) (sk c) = parB C c := by
  unfold parB
  rw [show (sk c).sup = c.sup from rfl, show (sk c).ifs = c.ifs from rfl, y149, y91]
  cases tlook C c.sup <;> rfl
theorem ycc (d : Txt) (hs : List Bool) : ∀ n, (y37 d hs n).map sk = (y37 [] [] n).map sk
  | 0 => rfl
  | n + 1 => by
    rw [y37, y37, List.map_append, List.map_append, ycc d hs n]
    rfl
theorem yw5 (d : Txt) (hs : List Bool) (n : Nat) : skT (tabN d hs n) = skT (tabN [] [] n) := by
  unfold tabN skT
  rw [List.map_append, List.map_append, List.map_map, List.map_map]
  have h := ycc d hs n
  have e : ∀ l : List Cls, (l.map ((fun p : Txt × Cls => (p.1, sk p.2)) ∘ fun c => (c.nm, c))) = (l.map sk).map fun c => (c.nm, c) := fun l => by
    rw [List.map_map]; rfl
  rw [e, e, h]
theorem y30 (d : Txt) (hs : List Bool) : ∀ n, (y37 d hs n).length = n
  | 0 => rfl
  | n + 1 => by rw [y37, List.length_append, y30 d hs n]; rfl
theorem yad (d : Txt) (hs : List Bool) : ∀ n i, i < n → (y37 d hs n)[i]? = some (clsN d (hs.getD i false) i)
  | n + 1, i, h => by
    rw [y37]
    by_cases e : i < n
    · rw [List.getElem?_append_left (by rw [y30]; exact e)]
      exact yad d hs n i e
    · have : i = n := by omega
      subst this
      rw [List.getElem?_append_right (by rw [y30]; exact Nat.le_refl _), y30]
      simp
theorem yar : ∀ (l : List Cls) (C C' : CTab), y1s C l = some C' → C' = C ++ l.map fun c => (c.nm, c)
  | [], C, C', h => by injection h with h; rw [← h]; simp
  | c :: r, C, C', h => by
    rw [y1s] at h
    split at h
    · cases h
    · rw [yar r _ C' h, List.append_assoc]
      rfl
theorem yhi : ∀ (l l' : List Cls) (C C' : CTab), l.map sk = l'.map sk → skT C = skT C' → (y1s C l).isSome = (y1s C' l').isSome
  | [], [], _, _, _, _ => rfl
  | [], _ :: _, _, _, h, _ => by cases h
  | _ :: _, [], _, _, h, _ => by cases h
  | c :: r, c' :: r', C, C', h, hC => by
    rw [List.map_cons, List.map_cons] at h
    obtain ⟨h1, h2⟩ := List.cons.inj h
    have hn : c.nm = c'.nm := by
      have : (sk c).nm = (sk c').nm := by rw [h1]
      exact this
    have hk : (tlook C c.nm).isSome = (tlook C' c'.nm).isSome := by
      have a := y91 C c.nm
      have b := y91 C' c'.nm
      rw [hC, hn, b] at a
      rw [hn]
      have a := congrArg Option.isSome a
      rw [Option.isSome_map, Option.isSome_map] at a
      exact a.symm
    rw [y1s, y1s, hk]
    split
    · rfl
    · exact yhi r r' _ _ h2 (by
        unfold skT at hC ⊢
        rw [List.map_append, List.map_append, hC]
        simp [h1, hn])
structure LineOk (d : Txt) (hs : List Bool) (n : Nat) (A : ATab) : Prop where
  new : newM (y37 d hs n) = .ok (tabN d hs n, A)
  up : ∀ i < n, yeq A (tyN i) (tyN 0) = true
  down : ∀ i < n, i ≠ 0 → yeq A (tyN 0) (tyN i) = false
  chn : ∀ i < n, chn (tabN d hs n) 60 (yv i) = some (y2v i)
  above : ∀ i < n, ∀ x ∈ (alook A (yv i)).getD [], x ∈ y2v i
theorem y170 (d : Txt) (hs : List Bool) {n : Nat} (hn : n ≤ 35) : ∃ A, LineOk d hs n A := by
  have h1 := List.all_eq_true.1 y14t n (List.mem_range.2 (by omega))
  have h2 := List.all_eq_true.1 y116 n (List.mem_range.2 (by omega))
  unfold okN2 at h2
  rw [Bool.and_eq_true, Bool.and_eq_true] at h2
  obtain ⟨⟨a1, a2⟩, a3⟩ := h2
  have a1 := of_decide_eq_true a1
  have e1 : (y37 d hs n).all (fun c => y7x false c.nm) = true := by
    have key : ∀ l : List Cls, l.all (fun c => y7x false c.nm) = (l.map sk).all fun c => y7x false c.nm := fun l => by rw [List.all_map]; rfl
    rw [key, ycc, ← key]
    exact a3
  have e2 : (y37 d hs n).all (parB (tabN d hs n)) = true := by
    have key : ∀ (l : List Cls) (C : CTab), l.all (parB C) = (l.map sk).all (parB (skT C)) := fun l C => by
      rw [List.all_map]
      congr 1
      funext c
      exact (y1bv C c).symm
    rw [key, ycc, yw5, ← key]
    exact a2
  have e3 : y1s y26 (y37 d hs n) = some (tabN d hs n) := by
    have := yhi (y37 d hs n) (y37 [] [] n) y26 y26 (ycc d hs n) rfl
    rw [a1] at this
    cases h : y1s y26 (y37 d hs n) with
    | none => rw [h] at this; cases this
    | some C => rw [yar _ _ _ h]; rfl
  have e4 : y2a (upC (tabN d hs n)) ((tabN d hs n).length + 1) (ckeys (tabN d hs n)) [] = y2a (upC (tabN [] [] n)) ((tabN [] [] n).length + 1) (ckeys (tabN [] [] n)) [] := by
    have hl : (tabN d hs n).length = (tabN [] [] n).length := by unfold tabN; simp [y30]
    rw [← y1cq (tabN d hs n), ← y1cq (tabN [] [] n), ← y148 (tabN d hs n), ← y148 (tabN [] [] n), yw5, hl]
  unfold okN at h1
  cases hc : y2a (upC (tabN [] [] n)) ((tabN [] [] n).length + 1) (ckeys (tabN [] [] n)) [] with
  | none => rw [hc] at h1; cases h1
  | some p =>
    obtain ⟨b, A⟩ := p
    rw [hc] at h1
    cases b with
    | false => cases h1
    | true =>
      simp only at h1
      have hall := fun i (hi : i < n) => List.all_eq_true.1 h1 i (List.mem_range.2 hi)
      simp only [Bool.and_eq_true, Bool.or_eq_true, decide_eq_true_eq, Bool.not_eq_true', List.all_eq_true, List.contains_eq_mem] at hall
      refine ⟨A, ?_, fun i hi => (hall i hi).1.1.1, fun i hi h0 => ?_, fun i hi => ?_, fun i hi => (hall i hi).2⟩
      · unfold newM
        have h40 : ¬ 40 < (y37 d hs n).length := by rw [y30]; omega
        rw [if_neg h40, e1, e3]
        simp only
        rw [e2, e4, hc]
        simp
      · exact (hall i hi).1.1.2.resolve_left h0
      · rw [← yqg, yw5, yqg]
        exact (hall i hi).1.2
theorem yzl : ∀ i < 35, ∀ j < 35, yv i = yv j → i = j := by decide +kernel
theorem y0p : ∀ i < 35, yv i ∉ ckeys y26 := by decide +kernel
theorem yzr (d : Txt) (hs : List Bool) {n i : Nat} (hi : i < n) (hn : n ≤ 35) : tlook (tabN d hs n) (yv i) = some (clsN d (hs.getD i false) i) := by
  unfold tabN tlook
  have h0 : y26.find? (fun p => decide (p.1 = yv i)) = none := by
    rw [List.find?_eq_none]
    intro p hp e
    exact y0p i (by omega) ((of_decide_eq_true e) ▸ List.mem_map_of_mem hp)
  rw [List.find?_append, h0, Option.none_or]
  have key : ∀ n, i < n → n ≤ 35 → ((y37 d hs n).map fun c => (c.nm, c)).find? (fun p => decide (p.1 = yv i)) = some (yv i, clsN d (hs.getD i false) i) := by
    intro n
    induction n with
    | zero => intro h; omega
    | succ n ih =>
      intro h1 h2
      rw [y37, List.map_append, List.find?_append]
      by_cases e : i < n
      · rw [ih e (by omega)]; rfl
      · have : i = n := by omega
        subst this
        have hno : ((y37 d hs i).map fun c => (c.nm, c)).find? (fun p => decide (p.1 = yv i)) = none := by
          rw [List.find?_eq_none]
          intro p hp e2
          obtain ⟨c, hc, rfl⟩ := List.mem_map.1 hp
          obtain ⟨j, hj⟩ := List.getElem?_of_mem hc
          have hjl : j < i := by have := (List.getElem?_eq_some_iff.1 hj).1; rwa [y30] at this
          rw [yad d hs i j hjl] at hj
          injection hj with hj
          subst hj
          have := yzl j (by omega) i (by omega) (of_decide_eq_true e2)
          omega
        rw [hno, Option.none_or]
        simp [clsN]
  rw [key n hi hn]
  rfl
def y3x (hs : List Bool) : Nat → Txt
  | 0 => []
  | i + 1 => if hs.getD i false then yv i else y3x hs i
theorem yud (d : Txt) (hs : List Bool) (n : Nat) : clsD (tabN d hs n) sObj = ownC (sObj, []) := by
  unfold clsD tabN
  rw [ybg (v := ownC (sObj, [])) rfl]
  rfl
theorem y13c (d : Txt) (hs : List Bool) {n i : Nat} (hi : i < n) (hn : n ≤ 35) : clsD (tabN d hs n) (yv i) = clsN d (hs.getD i false) i := by
  unfold clsD
  rw [yzr d hs hi hn]
  rfl
theorem yvc (d : Txt) (hs : List Bool) {n : Nat} (hn : n ≤ 35) : ∀ i, i < n → (y5h (tabN d hs n) [102] d (y2v i)).1 = y3x hs (i + 1) ∧ (y5h (tabN d hs n) [102] d (y2v i)).2.2 = decide (y3x hs (i + 1) ≠ [])
  | i, hi => by
    have hit : hitM [102] d (oneF d) = true := by simp [hitM]
    have hne : yv i ≠ [] := by simp [yv]
    have step : ∀ r, y5h (tabN d hs n) [102] d (yv i :: r) = if hs.getD i false then (yv i, oneF d, true) else y5h (tabN d hs n) [102] d r := by
      intro r
      rw [y5h, y13c d hs hi hn]
      cases hs.getD i false with
      | true => simp [clsN, lst, hit]
      | false => simp [clsN, lst]
    cases i with
    | zero =>
      rw [y2v, step, y3x]
      have h0 : y5h (tabN d hs n) [102] d [sObj] = ([], zF, false) := by
        rw [y5h, yud]
        rfl
      rw [h0]
      cases hs.getD 0 false with
      | true => simp [hne]
      | false => simp [y3x]
    | succ i =>
      have ih := yvc d hs hn i (by omega)
      rw [y2v, step, y3x]
      cases hs.getD (i + 1) false with
      | true => simp [hne]
      | false => simpa using ih
theorem ykk (C : CTab) (nm d : Txt) : ∀ (L B : List Txt), y40 C nm d (L ++ B) = if (y40 C nm d L).2.2 then y40 C nm d L else y40 C nm d B
  | [], B => rfl
  | n :: L, B => by
    rw [List.cons_append, y40, y40]
    cases (lst (clsD C n).mths).find? (yaa nm d) with
    | some f => rfl
    | none => exact ykk C nm d L B
theorem y134 (d : Txt) (hs : List Bool) {n : Nat} (hn : n ≤ 35) : ∀ i, i < n → (y40 (tabN d hs n) [109] d (y2v i)).1 = y3x hs (i + 1) ∧ (y40 (tabN d hs n) [109] d (y2v i)).2.2 = decide (y3x hs (i + 1) ≠ [])
  | i, hi => by
    have hit : yaa [109] d (oneM d) = true := by simp [yaa]
    have hne : yv i ≠ [] := by simp [yv]
    have step : ∀ r, y40 (tabN d hs n) [109] d (yv i :: r) = if hs.getD i false then (yv i, oneM d, true) else y40 (tabN d hs n) [109] d r := by
      intro r
      rw [y40, y13c d hs hi hn]
      cases hs.getD i false with
      | true => simp [clsN, lst, hit]
      | false => simp [clsN, lst]
    cases i with
    | zero =>
      rw [y2v, step, y3x]
      have h0 : y40 (tabN d hs n) [109] d [sObj] = ([], zMt, false) := by
        rw [y40, yud]
        rfl
      rw [h0]
      cases hs.getD 0 false with
      | true => simp [hne]
      | false => simp [y3x]
    | succ i =>
      have ih := y134 d hs hn i (by omega)
      rw [y2v, step, y3x]
      cases hs.getD (i + 1) false with
      | true => simp [hne]
      | false => simpa using ih
theorem yh8 {C : CTab} {nm d : Txt} : ∀ {L : List Txt}, (y40 C nm d L).2.2 = false → ∀ x ∈ L, (lst (clsD C x).mths).find? (yaa nm d) = none
  | [], _, x, hx => by cases hx
  | n :: L, h, x, hx => by
    rw [y40] at h
    cases hf : (lst (clsD C n).mths).find? (yaa nm d) with
    | some f => rw [hf] at h; cases h
    | none =>
      rw [hf] at h
      rcases List.mem_cons.1 hx with rfl | hx
      · exact hf
      · exact yh8 h x hx
theorem ya8 {C : CTab} {nm d : Txt} : ∀ {L : List Txt}, (∀ x ∈ L, (lst (clsD C x).mths).find? (yaa nm d) = none) → y40 C nm d L = ([], zMt, false)
  | [], _ => rfl
  | n :: L, h => by
    rw [y40, h n List.mem_cons_self]
    exact ya8 fun x hx => h x (List.mem_cons_of_mem _ hx)
theorem yzg (d : Txt) (hs : List Bool) {n i : Nat} {A : ATab} (K : LineOk d hs n A) (hn : n ≤ 35) (hi : i < n) :
    (y40 (tabN d hs n) [109] d (y2v i ++ y51 A (yv i))).1 = y3x hs (i + 1) ∧ (y40 (tabN d hs n) [109] d (y2v i ++ y51 A (yv i))).2.2 = decide (y3x hs (i + 1) ≠ []) := by
  have h := y134 d hs hn i hi
  rw [ykk]
  cases hb : (y40 (tabN d hs n) [109] d (y2v i)).2.2 with
  | true => exact h
  | false =>
    have h0 := h.2
    rw [hb] at h0
    have hw : y3x hs (i + 1) = [] := by simpa using h0.symm
    have := ya8 (C := tabN d hs n) (nm := [109]) (d := d) (L := y51 A (yv i)) fun x hx => yh8 hb x (K.above i hi x ((ycx _).mem_iff.1 hx))
    rw [if_neg (by simp), this, hw]
    simp
end Go.Vm
