/- KinNearest. -/
import Derived.Test.YtkcigmgchfcpkaaNTc
set_option linter.unusedSimpArgs false
set_option linter.unusedVariables false
set_option linter.unusedSectionVars false
namespace Go.Vm
open Cel
theorem y1ad {i : Nat} (hi : i < 35) : (y6 E).p 228 [.int .i64 (i : Int)] = some ⟨.str (yv i), [], true, [], []⟩ := by
  rw [y1fd]
  unfold y175
  have q : y9 .quo (.int .i64 (i : Int)) (.int .i64 10) = some (.int .i64 ((i / 10 : Nat) : Int)) := by
    have : IntKind.wrap .i64 ((i : Int).tdiv 10) = ((i / 10 : Nat) : Int) := by
      rw [y74] <;> (rw [show ((i : Int).tdiv 10) = ((i / 10 : Nat) : Int) from rfl]; try omega)
    show (if ((10 : Int) = 0) then none else some (AV.int .i64 (IntKind.wrap .i64 ((i : Int).tdiv 10)))) = _
    rw [if_neg (by decide), this]
  have r : y9 .rem (.int .i64 (i : Int)) (.int .i64 10) = some (.int .i64 ((i % 10 : Nat) : Int)) := by
    show (if ((10 : Int) = 0) then none else some (AV.int .i64 ((i : Int).tmod 10))) = _
    rw [if_neg (by decide)]
    rfl
  have w1 : IntKind.wrap .i64 (97 + ((i / 10 : Nat) : Int)) = ((97 + i / 10 : Nat) : Int) := by rw [y74 (by omega) (by omega)]; omega
  have w2 : IntKind.wrap .i64 (48 + ((i % 10 : Nat) : Int)) = ((48 + i % 10 : Nat) : Int) := by rw [y74 (by omega) (by omega)]; omega
  have u : ∀ n : Nat, n < 256 → IntKind.wrap .u8 (n : Int) = (n : Int) := fun n hn => by
    simp [IntKind.wrap, IntKind.bits, IntKind.signed]; omega
  simp only [q, y4, y1b, w1, ytr, u _ (by omega : 97 + i / 10 < 256), r, w2, u _ (by omega : 48 + i % 10 < 256)]
  have b : y19 0 (some 0) 1 3 [.int .u8 0] [(0, .int .u8 107), (1, .int .u8 ((97 + i / 10 : Nat) : Int)), (2, .int .u8 ((48 + i % 10 : Nat) : Int))] [⟨0, .dead⟩] =
      some (.ls 0 1 1 0 3, [⟨1, .arr false false 1 [[.int .u8 107], [.int .u8 ((97 + i / 10 : Nat) : Int)], [.int .u8 ((48 + i % 10 : Nat) : Int)]]⟩]) := rfl
  rw [b]
  rfl
theorem y5b {fb : Nat} {H : Heap} {i : Nat} (hi : i < 35) : y65 E (y6 E) fb none true (.fn 228 []) [.int .i64 (i : Int)] H = some (.str (yv i), H) := by
  show y7 E (y6 E) fb none true 228 [.int .i64 (i : Int)] H = _
  exact y8l (by kernel_rfl) (show yb (fz H yu) [.int .i64 (i : Int)] = some ⟨[.int .i64 (i : Int)], true, []⟩ from rfl) (y1ad hi)
theorem ycy {a b : Txt} (h : a.length + b.length ≤ 1000) : y9 .add (.str a) (.str b) = some (.str (a ++ b)) := by
  have e : (2:Nat) ^ 62 = 4611686018427387904 := by decide
  unfold y9
  simp only [ygf]
  rw [if_pos (by rw [e]; omega)]
theorem y147 {i : Nat} : ∃ s, y9 .add (.str [76]) (.str (yv i)) = some (.str s) ∧ y9 .add (.str s) (.str [59]) = some (.str (tyN i)) :=
  ⟨[76] ++ yv i, ycy (by simp [yv]), ycy (by simp [yv])⟩
def yiv {α : Type} [Cel α] (H : Heap) (v : AV) (o : Option (List α)) : Prop := (o = none ∧ v = .nils) ∨ ∃ L id, o = some L ∧ v = .ls id 0 (es α) 0 L.length ∧ 5 ≤ id ∧ H[id]? = some ⟨0, .arr false false (es α) (L.map enc)⟩
def yr5 (H H' : Heap) : Prop := ∀ id, 5 ≤ id → id < H.length → H'[id]? = H[id]?
theorem yiv.keep {α : Type} [Cel α] {H H' : Heap} {v : AV} {o : Option (List α)} (h : yiv H v o) (hs : yr5 H H') : yiv H' v o := by
  rcases h with h | ⟨L, id, h1, h2, h3, h4⟩
  · exact .inl h
  · exact .inr ⟨L, id, h1, h2, h3, by rw [hs id h3 (yz h4)]; exact h4⟩
def yhr (H : Heap) (r : List AV) (c : Cls) : Prop := ∃ fv mv, r = [.int .i64 0, .str c.nm, .str c.sup, .nils, .nils, fv, mv] ∧ c.fl = 0 ∧ c.ifs = none ∧ c.pool = none ∧ yiv H fv c.flds ∧ yiv H mv c.mths
theorem yhr.keep {H H' : Heap} {r : List AV} {c : Cls} (h : yhr H r c) (hs : yr5 H H') : yhr H' r c := by
  obtain ⟨fv, mv, h1, h2, h3, h4, h5, h6⟩ := h
  exact ⟨fv, mv, h1, h2, h3, h4, h5.keep hs, h6.keep hs⟩
inductive RowsAt (H : Heap) : List (List AV) → List Cls → Prop
  | nil : RowsAt H [] []
  | snoc {R : List (List AV)} {L : List Cls} {r : List AV} {c : Cls} : RowsAt H R L → yhr H r c → RowsAt H (R ++ [r]) (L ++ [c])
theorem RowsAt.keep {H H' : Heap} {R : List (List AV)} {L : List Cls} (h : RowsAt H R L) (hs : yr5 H H') : RowsAt H' R L := by
  induction h with
  | nil => exact .nil
  | snoc _ hr ih => exact .snoc ih (hr.keep hs)
theorem RowsAt.len {H : Heap} {R : List (List AV)} {L : List Cls} (h : RowsAt H R L) : R.length = L.length := by
  induction h with
  | nil => rfl
  | snoc _ _ ih => simp [ih]
theorem y13m {α : Type} [Cel α] {H : Heap} {v : AV} {o : Option (List α)} (h : yiv H v o) : ∃ fr ids, fz H 11 v = some ⟨slA o, fr, ids⟩ := by
  rcases h with ⟨h1, h2⟩ | ⟨L, id, h1, h2, _, h4⟩
  · subst h1; subst h2; exact ⟨_, _, rfl⟩
  · subst h1; subst h2; exact ⟨_, _, yn1 (k := 9) h4⟩
theorem y11m {H : Heap} {r : List AV} {c : Cls} (h : yhr H r c) : ∃ fr ids, yb (fz H 11) r = some ⟨enc c, fr, ids⟩ := by
  obtain ⟨fv, mv, rfl, h2, h3, h4, h5, h6⟩ := h
  obtain ⟨a1, b1, e1⟩ := y13m h5
  obtain ⟨a2, b2, e2⟩ := y13m h6
  have z1 : fz H 11 (.int .i64 0) = some ⟨.int .i64 0, true, []⟩ := rfl
  have z2 : ∀ s, fz H 11 (.str s) = some ⟨.str s, true, []⟩ := fun _ => rfl
  have z3 : fz H 11 .nils = some ⟨.nils, true, []⟩ := rfl
  have e : enc c = [.int .i64 0, .str c.nm, .str c.sup, .nils, .nils, slA c.flds, slA c.mths] := by
    rw [yq3, h2, h3, h4]
    rfl
  simp only [yr, z1, z2, z3, e1, e2, y3i]
  rw [e]
  exact ⟨_, _, rfl⟩
theorem ycz {α β : Type} (f : α → Option (Fz β)) : ∀ (l m : List α) {a b : Fz (List β)}, yb f l = some a → yb f m = some b → ∃ fr ids, yb f (l ++ m) = some ⟨a.v ++ b.v, fr, ids⟩
  | [], m, a, b, h1, h2 => by
    injection h1 with h1
    subst h1
    exact ⟨b.fresh, b.ids, h2⟩
  | x :: l, m, a, b, h1, h2 => by
    rw [yr] at h1
    cases hx : f x with
    | none => rw [hx] at h1; cases h1
    | some y =>
      cases hl : yb f l with
      | none => rw [hx, hl] at h1; cases h1
      | some z =>
        rw [hx, hl] at h1
        injection h1 with h1
        subst h1
        obtain ⟨fr, ids, e⟩ := ycz f l m hl h2
        rw [List.cons_append, yr, hx, e]
        exact ⟨_, _, rfl⟩
theorem yrt {H : Heap} {R : List (List AV)} {L : List Cls} (h : RowsAt H R L) : ∃ fr ids, yb (yb (fz H 11)) R = some ⟨L.map enc, fr, ids⟩ := by
  induction h with
  | nil => exact ⟨_, _, rfl⟩
  | @snoc R L r c _ hr ih =>
    obtain ⟨fr, ids, e⟩ := ih
    obtain ⟨fr2, ids2, e2⟩ := y11m hr
    have e3 : yb (yb (fz H 11)) [r] = some ⟨[enc c], fr2 && true, ids2 ++ []⟩ := by rw [yr, e2, y3i]
    obtain ⟨fr4, ids4, e4⟩ := ycz _ _ _ e e3
    exact ⟨fr4, ids4, by rw [e4, List.map_append]; rfl⟩
structure NLRep (H : Heap) (v5 : AV) (L : List Cls) : Prop where
  len : 5 ≤ H.length
  at2 : (L = [] ∧ v5 = .nils) ∨ ∃ g R, v5 = .ls 2 g 7 0 R.length ∧ H[2]? = some ⟨g, .arr false false 7 R⟩ ∧ RowsAt H R L
theorem y18c {fb id g b es : Nat} {sl : Option Nat} {rows ys : List (List AV)} {y : AV} {H : Heap} (h : H[id]? = some ⟨g, .arr false false es rows⟩) (hy : y15 H es y = some ys) (hb : (rows.length + ys.length + (rows.length + ys.length) / 4 + 512) * b ≤ 2 ^ 48) :
    y2d fb sl es b (.ls id g es 0 rows.length) y H = some (.ls id (g + 1) es 0 (rows.length + ys.length), H.set id ⟨g + 1, .arr false false es (rows ++ ys)⟩) := by
  unfold y2d
  rw [hy]
  simp only [h]
  rw [if_pos ⟨trivial, trivial, trivial, by omega, .inr hb⟩]
  simp
theorem y12s {fb j b es : Nat} {o : AO} {ys : List (List AV)} {y : AV} {H : Heap} (h : H[fb + j]? = some o) (hy : y15 H es y = some ys) (h0 : ys ≠ []) (hb : ys.length * b ≤ 2 ^ 48) :
    y2d fb (some j) es b .nils y H = some (.ls (fb + j) (o.gen + 1) es 0 ys.length, H.set (fb + j) ⟨o.gen + 1, .arr false false es ys⟩) := by
  unfold y2d
  rw [hy]
  have h1 : ys.isEmpty = false := by cases ys with
    | nil => exact (h0 rfl).elim
    | cons => rfl
  simp only [h1]
  rw [if_neg (by simp), if_pos hb]
  simp only [y2s, place, h]
abbrev AR (g : Nat) (r : List AV) : AO := ⟨g, .arr true false 7 [r]⟩
theorem yxq {H : Heap} {g k : Nat} {r : List AV} {v : AV} (h : H[0]? = some (AR g r)) (hv : cellsOf v = [v]) (hl : yj v = true) (hk : k + 1 ≤ r.length) : evSt 1 (.lp 0 g 0 k) v H = some (.tup [], H.set 0 (AR g (ym k [v] r))) := by
  have hr : ye H 0 g = some (false, 7, [r]) := by simp [ye, y1p, h]
  simp only [evSt, hr, List.getElem?_cons_zero, hv]
  rw [if_pos ⟨rfl, hk, by simp [hl]⟩]
  simp [y1e, h]
theorem yny {v0 v1 v31 v32 v33 v5 : AV} {H : Heap} {L : List Cls} {c : Cls} {g : Nat} {r : List AV} (K : NLRep H v5 L) (hL : L.length ≤ 35) (h0 : H[0]? = some (AR g r)) (hr : yhr H r c) :
    ∃ v5' H', NLRep H' v5' (L ++ [c]) ∧ yfr v0 v1 v5 (.fn 228 []) (.lp 0 g 0 0) v31 v32 v33 H = ydg v0 v1 v5' (.fn 228 []) v31 v32 v33 H' := by
  have e48 : (2:Nat) ^ 48 = 281474976710656 := by decide
  obtain ⟨o1, h1⟩ : ∃ o, H[1]? = some o := ⟨_, List.getElem?_eq_getElem (by have := K.len; omega)⟩
  obtain ⟨o2, h2⟩ : ∃ o, H[2]? = some o := ⟨_, List.getElem?_eq_getElem (by have := K.len; omega)⟩
  have hlen : r.length = 7 := by obtain ⟨fv, mv, rfl, _⟩ := hr; rfl
  have hleaf : r.all yj = true := by
    obtain ⟨fv, mv, rfl, _, _, _, h5, h6⟩ := hr
    have a : ∀ {α : Type} [Cel α] {v : AV} {o : Option (List α)}, yiv H v o → yj v = true := fun h => by
      rcases h with ⟨_, rfl⟩ | ⟨_, _, _, rfl, _⟩ <;> rfl
    simp only [List.all_cons, List.all_nil, a h5, a h6]
    rfl
  have lA : evLd true 7 (.lp 0 g 0 0) H = some (.agg r) := by
    have hr2 : ye H 0 g = some (false, 7, [r]) := by simp [ye, y1p, h0]
    simp only [evLd, hr2, List.getElem?_cons_zero, List.drop_zero, y3h]
    rw [if_pos trivial, if_pos (by omega), List.take_of_length_le (by omega)]
  have b1 : y19 0 (some 1) 7 1 zCls [(0, .agg r)] H = some (.ls 1 (o1.gen + 1) 7 0 1, H.set 1 ⟨o1.gen + 1, .arr false false 7 [r]⟩) := by
    have hfill : y3s 7 [(0, .agg r)] (List.replicate 1 zCls) = some [r] := by
      unfold y3s
      rw [if_pos ⟨hlen, by simp, hleaf⟩]
      rfl
    unfold y19
    rw [if_pos ⟨rfl, rfl⟩, hfill]
    simp only [y2s, place, Nat.zero_add, h1, List.length_cons, List.length_nil]
  have hy : y15 (H.set 1 ⟨o1.gen + 1, .arr false false 7 [r]⟩) 7 (.ls 1 (o1.gen + 1) 7 0 1) = some [r] := by
    have : (H.set 1 ⟨o1.gen + 1, .arr false false 7 [r]⟩)[1]? = some ⟨o1.gen + 1, .arr false false 7 [r]⟩ := y22 (yz h1)
    simp [y15, ye, y1p, this]
  have same : ∀ x, yr5 H ((H.set 1 ⟨o1.gen + 1, .arr false false 7 [r]⟩).set 2 x) := fun x id h5 _ => by
    rw [yi (by omega), yi (by omega)]
  have h2' : (H.set 1 ⟨o1.gen + 1, .arr false false 7 [r]⟩)[2]? = some o2 := by rw [yi (by omega)]; exact h2
  unfold yfr
  simp only [lA, y4, b1, yc]
  rcases K.at2 with ⟨rfl, rfl⟩ | ⟨g2, R, rfl, hR, hRows⟩
  · rw [y12s (fb := 0) (j := 2) (by exact h2') hy (by simp) (by rw [e48]; simp)]
    refine ⟨.ls 2 (o2.gen + 1) 7 0 1, (H.set 1 ⟨o1.gen + 1, .arr false false 7 [r]⟩).set 2 ⟨o2.gen + 1, .arr false false 7 [r]⟩, ⟨by simp; exact K.len, .inr ⟨o2.gen + 1, [r], rfl, y22 (by simp; exact yz h2), ?_⟩⟩, rfl⟩
    exact RowsAt.snoc .nil (hr.keep (same _))
  · rw [hR] at h2
    injection h2 with h2
    subst h2
    rw [y18c (by exact h2') hy (by rw [e48, hRows.len]; simp only [List.length_cons, List.length_nil]; omega)]
    refine ⟨.ls 2 (g2 + 1) 7 0 (R.length + 1), (H.set 1 ⟨o1.gen + 1, .arr false false 7 [r]⟩).set 2 ⟨g2 + 1, .arr false false 7 (R ++ [r])⟩, ⟨by simp; exact K.len, .inr ⟨g2 + 1, R ++ [r], by simp, y22 (by simp; exact yz hR), ?_⟩⟩, rfl⟩
    exact RowsAt.snoc (hRows.keep (same _)) (hr.keep (same _))
theorem NLRep.keep {H H' : Heap} {v5 : AV} {L : List Cls} (K : NLRep H v5 L) (hl : 5 ≤ H'.length) (h2 : H'[2]? = H[2]?) (hs : yr5 H H') : NLRep H' v5 L :=
  ⟨hl, K.at2.imp id fun ⟨g, R, a, b, c⟩ => ⟨g, R, a, by rw [h2]; exact b, c.keep hs⟩⟩
theorem ymr {v0 v31 v32 v33 v5 : AV} {d : Txt} {H : Heap} {L : List Cls} {g i : Nat} (b : Bool) (K : NLRep H v5 L) (hL : L.length ≤ 35) (h0 : H[0]? = some (AR g [.int .i64 0, .str (yv i), .str (supN i), .nils, .nils, .nils, .nils])) :
    ∃ v5' H', NLRep H' v5' (L ++ [clsN d b i]) ∧ yfp v0 (.str d) v5 (.fn 228 []) (.bool b) (.lp 0 g 0 0) v31 v32 v33 H = ydg v0 (.str d) v5' (.fn 228 []) v31 v32 v33 H' := by
  unfold yfp
  have hl := K.len
  cases b with
  | false =>
    simp only [y10]
    exact yny (c := clsN d false i) K hL h0 ⟨.nils, .nils, rfl, rfl, rfl, rfl, .inl ⟨rfl, rfl⟩, .inl ⟨rfl, rfl⟩⟩
  | true =>
    have b1 : y12 [.int .i64 0, .str [], .str []] [(1, 1, .str [102]), (2, 1, .str d)] = some (.agg (enc (oneF d))) := rfl
    have b2 : y12 zMC [(1, 1, .str [109]), (2, 1, .str d)] = some (.agg (enc (oneM d))) := rfl
    have c1 : y19 0 none 3 1 [.int .i64 0, .str [], .str []] [(0, .agg (enc (oneF d)))] H = some (.ls H.length 0 3 0 1, H ++ [⟨0, .arr false false 3 [enc (oneF d)]⟩]) := rfl
    have g0 : (H ++ [(⟨0, .arr false false 3 [enc (oneF d)]⟩ : AO)])[0]? = some (AR g [.int .i64 0, .str (yv i), .str (supN i), .nils, .nils, .nils, .nils]) := by
      rw [List.getElem?_append_left (by omega)]; exact h0
    have s1 : evSt 1 (.lp 0 g 0 5) (.ls H.length 0 3 0 1) (H ++ [(⟨0, .arr false false 3 [enc (oneF d)]⟩ : AO)]) = some (.tup [], (H ++ [(⟨0, .arr false false 3 [enc (oneF d)]⟩ : AO)]).set 0 (AR g [.int .i64 0, .str (yv i), .str (supN i), .nils, .nils, .ls H.length 0 3 0 1, .nils])) :=
      yxq (k := 5) g0 rfl rfl (by simp)
    generalize hH1 : (H ++ [(⟨0, .arr false false 3 [enc (oneF d)]⟩ : AO)]).set 0 (AR g [.int .i64 0, .str (yv i), .str (supN i), .nils, .nils, .ls H.length 0 3 0 1, .nils]) = H1 at s1
    have l1 : H1.length = H.length + 1 := by rw [← hH1]; simp
    have c2 : y19 0 none 8 1 zMC [(0, .agg (enc (oneM d)))] H1 = some (.ls H1.length 0 8 0 1, H1 ++ [⟨0, .arr false false 8 [enc (oneM d)]⟩]) := rfl
    have q0 : (H1 ++ [(⟨0, .arr false false 8 [enc (oneM d)]⟩ : AO)])[0]? = some (AR g [.int .i64 0, .str (yv i), .str (supN i), .nils, .nils, .ls H.length 0 3 0 1, .nils]) := by
      rw [List.getElem?_append_left (by omega), ← hH1]
      exact y22 (by simp)
    have s2 : evSt 1 (.lp 0 g 0 6) (.ls H1.length 0 8 0 1) (H1 ++ [(⟨0, .arr false false 8 [enc (oneM d)]⟩ : AO)]) = some (.tup [], (H1 ++ [(⟨0, .arr false false 8 [enc (oneM d)]⟩ : AO)]).set 0 (AR g [.int .i64 0, .str (yv i), .str (supN i), .nils, .nils, .ls H.length 0 3 0 1, .ls H1.length 0 8 0 1])) :=
      yxq (k := 6) q0 rfl rfl (by simp)
    generalize hH2 : (H1 ++ [(⟨0, .arr false false 8 [enc (oneM d)]⟩ : AO)]).set 0 (AR g [.int .i64 0, .str (yv i), .str (supN i), .nils, .nils, .ls H.length 0 3 0 1, .ls H1.length 0 8 0 1]) = H2 at s2
    have l2 : H2.length = H.length + 2 := by rw [← hH2]; simp [l1]
    have k0 : H2[0]? = some (AR g [.int .i64 0, .str (yv i), .str (supN i), .nils, .nils, .ls H.length 0 3 0 1, .ls H1.length 0 8 0 1]) := by rw [← hH2]; exact y22 (by simp [l1])
    have hsame : ∀ id, id ≠ 0 → id < H.length → H2[id]? = H[id]? := fun id h1 h2 => by
      rw [← hH2, yi (by omega), List.getElem?_append_left (by omega), ← hH1, yi (by omega), List.getElem?_append_left (by omega)]
    have hf : H2[H.length]? = some ⟨0, .arr false false 3 [enc (oneF d)]⟩ := by
      rw [← hH2, yi (by omega), List.getElem?_append_left (by omega), ← hH1, yi (by omega)]
      simp
    have hm : H2[H1.length]? = some ⟨0, .arr false false 8 [enc (oneM d)]⟩ := by
      rw [← hH2, yi (by omega)]
      simp
    have K2 : NLRep H2 v5 L := K.keep (by omega) (hsame 2 (by omega) (by omega)) fun id h5 h6 => hsame id (by omega) h6
    have hrow : yhr H2 [.int .i64 0, .str (yv i), .str (supN i), .nils, .nils, .ls H.length 0 3 0 1, .ls H1.length 0 8 0 1] (clsN d true i) :=
      ⟨_, _, rfl, rfl, rfl, rfl, .inr ⟨[oneF d], H.length, rfl, rfl, by omega, hf⟩, .inr ⟨[oneM d], H1.length, rfl, rfl, by omega, hm⟩⟩
    obtain ⟨v5', H', K', e'⟩ := yny (v0 := v0) (v1 := .str d) (v31 := v31) (v32 := v32) (v33 := v33) (c := clsN d true i) K2 hL k0 hrow
    refine ⟨v5', H', K', ?_⟩
    simp only [y1q, b1, y4, c1, yc, y1f, Nat.zero_add, s1, b2, c2, s2]
    exact e'
theorem ypb {v0 v31 v32 v33 v5 : AV} {d : Txt} {H : Heap} {L : List Cls} {i : Nat} (b : Bool) (hi : i < 35) (K : NLRep H v5 L) (hL : L.length ≤ 35) :
    ∃ v5' H', NLRep H' v5' (L ++ [clsN d b i]) ∧ yle v0 (.str d) v5 (.fn 228 []) (.int .i64 i) (.bool b) v31 v32 v33 H = ydg v0 (.str d) v5' (.fn 228 []) v31 v32 v33 H' := by
  have hl := K.len
  obtain ⟨o0, h0⟩ : ∃ o, H[0]? = some o := ⟨_, List.getElem?_eq_getElem (by omega)⟩
  have bb : y12 zCls [(1, 1, .str (yv i)), (2, 1, .str [79, 98, 106, 101, 99, 116])] = some (.agg [.int .i64 0, .str (yv i), .str sObj, .nils, .nils, .nils, .nils]) := rfl
  have n0 : newC 0 (some 0) zCls H = some (.lp 0 (o0.gen + 1) 0 0, H.set 0 (AC (o0.gen + 1) zC)) := by
    have := y9e (H := H) (fb := 0) (j := 0) (by exact h0)
    simpa using this
  have s0 : evSt 7 (.lp 0 (o0.gen + 1) 0 0) (.agg [.int .i64 0, .str (yv i), .str sObj, .nils, .nils, .nils, .nils]) (H.set 0 (AC (o0.gen + 1) zC)) = some (.tup [], H.set 0 (AR (o0.gen + 1) [.int .i64 0, .str (yv i), .str sObj, .nils, .nils, .nils, .nils])) := by
    have := ydj (H := H.set 0 (AC (o0.gen + 1) zC)) (c := zC) (d := ⟨0, yv i, sObj, none, none, none, none⟩) (y22 (yz h0))
    rw [List.set_set] at this
    exact this
  have keep : ∀ x, NLRep (H.set 0 x) v5 L := fun x => K.keep (by simp; exact hl) (by rw [yi (by omega)]) fun id h5 _ => by rw [yi (by omega)]
  unfold yle
  simp only [y5b hi, yc, bb, y4, n0, s0, yss, y3y]
  cases i with
  | zero =>
    have : decide ((0 : Int) < ((0 : Nat) : Int)) = false := by decide
    simp only [this, y10]
    exact ymr b (keep _) hL (y22 (yz h0))
  | succ i =>
    have : decide ((0 : Int) < ((i + 1 : Nat) : Int)) = true := decide_eq_true (by omega)
    have w : IntKind.wrap .i64 (((i + 1 : Nat) : Int) - 1) = ((i : Nat) : Int) := by rw [y74 (by omega) (by omega)]; omega
    have s1 := yxq (k := 2) (v := .str (yv i)) (H := H.set 0 (AR (o0.gen + 1) [.int .i64 0, .str (yv (i + 1)), .str sObj, .nils, .nils, .nils, .nils])) (y22 (yz h0)) rfl rfl (by simp)
    rw [List.set_set] at s1
    simp only [this, y1q, yba, w, y4, y5b (show i < 35 by omega), yc, y1f, Nat.zero_add, s1]
    exact ymr b (keep _) hL (y22 (yz h0))
theorem yue {d : Txt} {o : Option (List Bool)} (hn : (lst o).length ≤ 35) : ∀ (k i : Nat) (H : Heap) (v5 : AV), i + k = (lst o).length → NLRep H v5 (y37 d (lst o) i) →
    ∃ v5' H', NLRep H' v5' (y37 d (lst o) (lst o).length) ∧ ybt (slA o) (.str d) v5 (.fn 228 []) (slA o) (.int .i64 (lst o).length) (.int .i64 i) H = ynb (slA o) (.str d) v5' (.fn 228 []) H' := by
  intro k
  induction k with
  | zero =>
    intro i H v5 hi K
    have hc : ¬ ((i : Int) < ((lst o).length : Int)) := by omega
    have : i = (lst o).length := by omega
    rw [this] at K
    refine ⟨v5, H, K, ?_⟩
    rw [ydh]
    simp only [yll, ylj, yh, hc, decide_false, y4, y10]
  | succ k ih =>
    intro i H v5 hi K
    have hlt : i < (lst o).length := by omega
    have hc : ((i : Int) < ((lst o).length : Int)) := by omega
    have hw := y3e hlt (by omega)
    have k1 : y21 1 (slA o) (.int .i64 i) = some (.rp [.bool ((lst o).getD i false)]) := by
      have := y5u (o := o) (x := (lst o)[i]) (List.getElem?_eq_getElem hlt) .i64
      rw [show (lst o).getD i false = (lst o)[i] by simp [List.getD_eq_getElem?_getD, hlt]]
      exact this
    obtain ⟨v5', H', K', e'⟩ := ypb (v0 := slA o) (v31 := slA o) (v32 := .int .i64 (lst o).length) (v33 := .int .i64 i) (d := d) ((lst o).getD i false) (show i < 35 by omega) K (by rw [y30]; omega)
    obtain ⟨v6, H2, K2, e2⟩ := ih (i + 1) H' v5' (by omega) K'
    push_cast at e2
    refine ⟨v6, H2, K2, ?_⟩
    rw [ydh]
    simp only [yll, ylj, yh, hc, decide_true, y4, y1q, yy0, k1, y4s, ybk, List.head?_cons, e', ydg, y1b, hw]
    exact e2
theorem ylf {fb f : Nat} {args : List AV} {v : AV} {H : Heap} {fa fr fr' : Bool} (hE : E.pure f = true) (ha : yb (fz H yu) args = some ⟨args, fa, []⟩) (hc : (y6 E).p f args = some ⟨v, [], fr, [], []⟩) (hv : fz [] yu v = some ⟨v, fr', []⟩) :
    y7 E (y6 E) fb none true f args H = some (v, H) := y5c hE ha rfl hc ⟨_, hv, rfl⟩
theorem y1cc {α : Type} [Cel α] (s : Txt) (f : α) (b : Bool) : ∃ fr, fz [] yu (.tup [.str s, .agg (enc f), .bool b]) = some ⟨.tup [.str s, .agg (enc f), .bool b], fr, []⟩ := by
  have e : fz [] 11 (.agg (enc f)) = some ⟨.agg (enc f), (enc f).all yw, []⟩ := by
    rw [yay, yam [] 9 (pur f)]
  have e0 : fz [] 11 (.str s) = some ⟨.str s, true, []⟩ := rfl
  have e2 : fz [] yu (.tup [.str s, .agg (enc f), .bool b]) = match yb (fz [] 11) [.str s, .agg (enc f), .bool b] with
    | some r => some ⟨.tup r.v, r.fresh, r.ids⟩
    | none => none := rfl
  rw [e2, yr, e0, yr, e]
  exact ⟨_, rfl⟩
theorem yup {d : Txt} {o : Option (List Bool)} {A : ATab} {N : List Txt} (hn : (lst o).length ≤ 35) (K : LineOk d (lst o) (lst o).length A) : ∀ (k i : Nat) (H : Heap), i + k = (lst o).length → 5 ≤ H.length →
    yh1 (.str d) (.fn 228 []) (y11 (tabN d (lst o) (lst o).length) N A) (.str (y3x (lst o) i)) (slA o) (.int .i64 (lst o).length) (.int .i64 i) H = xB true := by
  obtain ⟨T, hadd⟩ := y1bs K.new
  have hT := y1dj K.new
  have cl : ∀ n, clsD (tabN d (lst o) (lst o).length) n = zC ∨ (∃ p, clsD (tabN d (lst o) (lst o).length) n = ownC p) ∨ ∃ i b, clsD (tabN d (lst o) (lst o).length) n = clsN d b i := by
    intro n
    unfold clsD
    cases h : tlook (tabN d (lst o) (lst o).length) n with
    | none => exact .inl rfl
    | some c =>
      right
      have := yav h
      unfold tabN at this
      rcases List.mem_append.1 this with h | h
      · obtain ⟨p, _, hq⟩ := List.mem_map.1 h
        injection hq with _ hb
        exact .inl ⟨p, hb.symm⟩
      · obtain ⟨c', hc', hq⟩ := List.mem_map.1 h
        injection hq with _ hb
        subst hb
        obtain ⟨j, hj⟩ := List.getElem?_of_mem hc'
        have hjl : j < (lst o).length := by have := (List.getElem?_eq_some_iff.1 hj).1; rwa [y30] at this
        rw [yad d (lst o) _ j hjl] at hj
        injection hj with hj
        exact .inr ⟨j, _, hj.symm⟩
  have hF : ∀ n, (lst (clsD (tabN d (lst o) (lst o).length) n).flds).length ≤ 9223372036854775806 := fun n => by
    rcases cl n with h | ⟨p, h⟩ | ⟨i, b, h⟩ <;> rw [h]
    · simp [lst]
    · simp [ownC, lst]
    · cases b <;> simp [clsN, lst]
  have nl : ∀ n, (lst (yel n)).length ≤ 4 := fun n => by
    unfold yel
    split
    · simp [lst]
    · split <;> simp [lst]
  have hM : ∀ n, (lst (clsD (tabN d (lst o) (lst o).length) n).mths).length ≤ 9223372036854775806 := fun n => by
    rcases cl n with h | ⟨p, h⟩ | ⟨i, b, h⟩ <;> rw [h]
    · simp [lst]
    · have := nl p.1
      unfold ownC
      simp only
      omega
    · cases b <;> simp [clsN, lst]
  intro k
  induction k with
  | zero =>
    intro i H hi hH
    have hc : ¬ ((i : Int) < ((lst o).length : Int)) := by omega
    rw [yfq]
    simp only [yj7, y0b, yh, hc, decide_false, y4, y10, y164, ybw]
  | succ k ih =>
    intro i H hi hH
    have hlt : i < (lst o).length := by omega
    have h35 : i < 35 := by omega
    have hc : ((i : Int) < ((lst o).length : Int)) := by omega
    have hw := y3e hlt (by omega)
    have k1 : y21 1 (slA o) (.int .i64 i) = some (.rp [.bool ((lst o).getD i false)]) := by
      have := y5u (o := o) (x := (lst o)[i]) (List.getElem?_eq_getElem hlt) .i64
      rw [show (lst o).getD i false = (lst o)[i] by simp [List.getD_eq_getElem?_getD, hlt]]
      exact this
    obtain ⟨o3, h3⟩ : ∃ x, H[3]? = some x := ⟨_, List.getElem?_eq_getElem (by omega)⟩
    obtain ⟨f1, f2⟩ := yvc d (lst o) hn i hlt
    obtain ⟨m1, m2⟩ := yzg d (lst o) K hn hlt
    have hch : (y2v i).length ≤ 60 := by
      have : ∀ i, (y2v i).length = i + 2 := fun i => by
        induction i with
        | zero => rfl
        | succ i ih => rw [y2v, List.length_cons, ih]
      rw [this]; omega
    obtain ⟨fr1, sF⟩ := y14p (N := N) (A := A) hF (nm := [102]) (dd := d) (K.chn i hlt)
    obtain ⟨fr2, sM⟩ := y11r (N := N) (A := A) T hT hM (nm := [109]) (dd := d) (K.chn i hlt) hch
    generalize y5h (tabN d (lst o) (lst o).length) [102] d (y2v i) = q at f1 f2 sF
    generalize y40 (tabN d (lst o) (lst o).length) [109] d (y2v i ++ y51 A (yv i)) = p at m1 m2 sM
    obtain ⟨q1, q2, q3⟩ := q
    obtain ⟨p1, p2, p3⟩ := p
    simp only at f1 f2 m1 m2
    subst f1; subst f2; subst m1; subst m2
    obtain ⟨fz1, hz1⟩ := y1cc (y3x (lst o) (i + 1)) q2 (decide (y3x (lst o) (i + 1) ≠ []))
    obtain ⟨fz2, hz2⟩ := y1cc (y3x (lst o) (i + 1)) p2 (decide (y3x (lst o) (i + 1) ≠ []))
    have cF : ∀ H : Heap, y7 E (y6 E) 0 none true 211 [y11 (tabN d (lst o) (lst o).length) N A, .str (yv i), .str [102], .str d] H = some (fR (y3x (lst o) (i + 1), q2, decide (y3x (lst o) (i + 1) ≠ [])), H) := fun H =>
      ylf (by kernel_rfl) (show yb (fz H yu) _ = some ⟨_, false, []⟩ from rfl) sF hz1
    have cM : ∀ H : Heap, y7 E (y6 E) 0 none true 213 [y11 (tabN d (lst o) (lst o).length) N A, .str (yv i), .str [109], .str d] H = some (mR (y3x (lst o) (i + 1), p2, decide (y3x (lst o) (i + 1) ≠ [])), H) := fun H =>
      ylf (by kernel_rfl) (show yb (fz H yu) _ = some ⟨_, false, []⟩ from rfl) sM hz2
    -- the places of the answers
    have n3 : newC 0 (some 3) [.int .i64 0, .str [], .str []] H = some (.lp 3 (o3.gen + 1) 0 0, H.set 3 (AG (o3.gen + 1) zF)) := by
      have := ypg (H := H) (fb := 0) (j := 3) zF (by exact h3)
      rw [Nat.zero_add] at this
      exact this
    have t3 : evSt 3 (.lp 3 (o3.gen + 1) 0 0) (.agg (enc q2)) (H.set 3 (AG (o3.gen + 1) zF)) = some (.tup [], H.set 3 (AG (o3.gen + 1) q2)) := by
      have := st_g (H := H.set 3 (AG (o3.gen + 1) zF)) (d := q2) (y22 (yz h3))
      rwa [List.set_set] at this
    generalize hH1 : H.set 3 (AG (o3.gen + 1) q2) = H1 at t3
    have hl1 : H1.length = H.length := by rw [← hH1]; simp
    obtain ⟨o4, h4⟩ : ∃ x, H1[4]? = some x := ⟨_, List.getElem?_eq_getElem (by omega)⟩
    have n4 : newC 0 (some 4) zMC H1 = some (.lp 4 (o4.gen + 1) 0 0, H1.set 4 (AG (o4.gen + 1) zMt)) := by
      have := ypg (H := H1) (fb := 0) (j := 4) zMt (by exact h4)
      rw [Nat.zero_add] at this
      exact this
    have t4 : evSt 8 (.lp 4 (o4.gen + 1) 0 0) (.agg (enc p2)) (H1.set 4 (AG (o4.gen + 1) zMt)) = some (.tup [], H1.set 4 (AG (o4.gen + 1) p2)) := by
      have := st_g (H := H1.set 4 (AG (o4.gen + 1) zMt)) (d := p2) (y22 (yz h4))
      rwa [List.set_set] at this
    generalize hH2 : H1.set 4 (AG (o4.gen + 1) p2) = H2 at t4
    have hl2 : H2.length = H.length := by rw [← hH2]; simp [hl1]
    obtain ⟨si, ai, bi⟩ := y147 (i := i)
    obtain ⟨s0, a0, b0⟩ := y147 (i := 0)
    have sm : ∀ j, Sm (tyN j) := fun j => by unfold Sm; simp [tyN, yv]
    have up : ∀ H : Heap, y7 E (y6 E) 0 none true 3 [y11 (tabN d (lst o) (lst o).length) N A, .str (tyN i), .str (tyN 0)] H = some (.bool true, H) := fun H => by
      rw [y5j _ _ _ _ _ (sm i) (sm 0), K.up i hlt]
    have c0 : ∀ H : Heap, y65 E (y6 E) 0 none true (.fn 228 []) [.int .i64 0] H = some (.str (yv 0), H) := fun H => y5b (i := 0) (by omega)
    have next := ih (i + 1) H2 (by omega) (by omega)
    push_cast at next
    have e4 : yt5 (.str d) (.fn 228 []) (y11 (tabN d (lst o) (lst o).length) N A) (.str (y3x (lst o) (i + 1))) (.int .i64 i) (slA o) (.int .i64 (lst o).length) (.int .i64 i) H = xB true := by
      unfold yt5
      simp only [y5b h35, yc, cF, fR, y2w, List.getElem?_cons_zero, List.getElem?_cons_succ, y4, n3, t3, cM, mR, n4, t4, y1k, ne_eq, not_true_eq_false, decide_false, y6a, yy, y18x, if_true, beq_self_eq_true, Bool.not_true, y1gf, ai, bi, c0, a0, b0, up, y2b, y3y]
      by_cases hz : i = 0
      · subst hz
        have : decide ((0 : Int) < ((0 : Nat) : Int)) = false := by decide
        simp only [this, yab, y1el, yy, y4, y10, y12w, y1b, hw]
        exact next
      · have : decide ((0 : Int) < (i : Int)) = true := decide_eq_true (by omega)
        have down : ∀ H : Heap, y7 E (y6 E) 0 none true 3 [y11 (tabN d (lst o) (lst o).length) N A, .str (tyN 0), .str (tyN i)] H = some (.bool false, H) := fun H => by
          rw [y5j _ _ _ _ _ (sm 0) (sm i), K.down i hlt hz]
        simp only [this, y4d, yfv, yc, y4, c0, a0, b0, y5b h35, ai, bi, down, yo, yy, y10, y12w, y1b, hw]
        exact next
    rw [yfq]
    simp only [yj7, y0b, yh, hc, decide_true, y4, y1q, y19n, k1, y4s, ybk, List.head?_cons, y14z]
    have hwant : y3x (lst o) (i + 1) = if (lst o).getD i false then yv i else y3x (lst o) i := rfl
    cases hb : (lst o).getD i false with
    | true =>
      rw [hb] at hwant
      simp only [y1q, y5b h35, yc]
      rw [if_pos rfl] at hwant
      rw [← hwant]
      exact e4
    | false =>
      rw [hb] at hwant
      simp only [y10]
      rw [if_neg (by simp)] at hwant
      rw [← hwant]
      exact e4
theorem yim {C : Calls2} {fb f : Nat} {args : List AV} {h : Heap} {fa : Fz (List AV)} {r : Ex AV} {v : AV} (hE : E.pure f = true) (ha : yb (fz h yu) args = some fa)
    (hc : C.p f fa.v = some r) (hr : yg6 r v) : ∃ h1, h1.length = h.length ∧ y7 E C fb none true f args h = some (v, h1) := by
  obtain ⟨q, h1, h2⟩ := hr
  refine ⟨if r.fresh || fa.ids.isEmpty then h else yf fa.ids h, ?_, ?_⟩
  · split
    · rfl
    · exact y1j _ _
  · simp only [y7, hE, y4n, ha, hc, h1, h2, Option.isSome_none, Bool.and_false, Bool.not_false, Bool.and_self, if_true]
theorem yp5 {d : Txt} (hd : d.length ≤ reachBytes) (hs : List Bool) (n : Nat) (hn : n ≤ 35) : ∀ x ∈ lst (some (y37 d hs n)), ClsOk x := by
  intro x hx
  obtain ⟨j, hj⟩ := List.getElem?_of_mem hx
  have hjl : j < n := by
    have := (List.getElem?_eq_some_iff.1 hj).1
    rw [y82, y30] at this
    exact this
  rw [y82, yad d hs n j hjl] at hj
  injection hj with hj
  subst hj
  have rb : reachBytes = 140737488351232 := rfl
  have n3 : (yv j).length = 3 := rfl
  have s3 : (supN j).length ≤ 6 := by cases j <;> simp [supN, sObj, yv]
  refine ⟨⟨(by decide : (-9223372036854775808 : Int) ≤ 0), (by decide : (0 : Int) ≤ 9223372036854775807)⟩, ?_, ?_, Nat.zero_le _, fun s hs => (by cases hs), Nat.zero_le _, ?_, ?_⟩
  · show (yv j).length ≤ _
    rw [n3, rb]; omega
  · show (supN j).length ≤ _
    rw [rb]; omega
  · cases hs.getD j false
    · exact Nat.zero_le _
    · exact (by decide : 1 ≤ maxLen)
  · cases hs.getD j false
    · exact Nat.zero_le _
    · exact (by decide : 1 ≤ maxLen)
theorem ycu (o : Option (List Bool)) (d : Txt) (hd : d.length ≤ reachBytes) (hl : (lst o).length ≤ reachBytes) : (y6 E).p 202 [slA o, .str d] = xB true := by
  have rb : reachBytes = 140737488351232 := rfl
  rw [rb] at hl
  rw [y1gp]
  unfold ywj yvb yxu
  simp only [yob, yc, y2b, Bool.not_true, y4, y10, y2c, y3y]
  by_cases h35 : (35 : Int) < ((lst o).length : Int)
  · simp only [h35, decide_true, y9c, y9x, yo, y4, y1q, ybw]
  · simp only [h35, decide_false, y6a, y2c, y4, y13, yy]
    by_cases h0 : ((lst o).length : Int) = 0
    · simp only [h0, decide_true, y1q, ybw]
    · simp only [h0, decide_false, y10, yvi, yqd, ys9, y2c, y4]
      have hn : (lst o).length ≤ 35 := by omega
      obtain ⟨v5, H, K, e⟩ := yue (d := d) hn (lst o).length 0 [⟨0, .dead⟩, ⟨0, .dead⟩, ⟨0, .dead⟩, ⟨0, .dead⟩, ⟨0, .dead⟩] .nils (by omega) ⟨by simp, .inl ⟨rfl, rfl⟩⟩
      refine Eq.trans e ?_
      obtain ⟨A, hA⟩ := y170 d (lst o) hn
      have hne : y37 d (lst o) (lst o).length ≠ [] := fun h => by
        have := y30 d (lst o) (lst o).length
        rw [h] at this
        simp at this
        omega
      rcases K.at2 with ⟨h1, _⟩ | ⟨g, R, rfl, h2, h3⟩
      · exact (hne h1).elim
      · obtain ⟨fr, ids, ef⟩ := yrt h3
        have hr : ye H 2 g = some (false, 7, R) := by simp [ye, y1p, h2]
        have e11 : fz H yu (.ls 2 g 7 0 R.length) = some ⟨slA (some (y37 d (lst o) (lst o).length)), fr, 2 :: ids⟩ := by
          rw [y1bw, hr]
          simp only
          rw [if_pos ⟨trivial, by omega⟩, List.drop_zero, List.take_length, ef]
          rfl
        have hf : yb (fz H yu) [.ls 2 g 7 0 R.length] = some ⟨[slA (some (y37 d (lst o) (lst o).length))], fr && true, 2 :: ids ++ []⟩ := by rw [yr, e11, y3i]
        obtain ⟨r, er, hrd⟩ := y1at (yp5 hd (lst o) (lst o).length hn) (by rw [y82, y30]; exact Nat.le_trans hn (by decide))
        rw [y82, hA.new] at hrd
        obtain ⟨h1, hl1, hc⟩ := yim (fb := 0) (by kernel_rfl : E.pure 1 = true) hf er hrd
        unfold ynb
        rw [hc]
        simp only [newV, yc, y2w, List.getElem?_cons_zero, List.getElem?_cons_succ, y4, yyq, ybh, ne_eq, not_true_eq_false, decide_false, y10, ytm, yqz, y2c]
        exact yup hn hA (lst o).length 0 h1 (by omega) (by rw [hl1]; exact K.len)
end Go.Vm
