/- fold.Pass on the machine. fold.Pass on the machine: the pass itself. What a function that is handed in is fit for, for a check. A pass as laws see it. Chapter 15's anchor. The machine's signed numbers as words of 64 bits. What the pass 'fold' leaves is fit. A chain of numbers, and what the pass 'fold' leaves of it. The document's numbers, bit by bit, on the machine. FoldChains: a chain of numbers in one block is one number. -/
import Derived.Test.YtgbajicpokolcaaNX
import Derived.KernelRfl
import Derived.Test.YtgbajicpokolcaaNTc
set_option linter.unusedSimpArgs false
set_option linter.unusedVariables false
set_option linter.unusedSectionVars false
namespace Go.Vm
open Cel
abbrev y13k : List AV := [.int .i64 0, .int .i64 0, .int .i64 0, .int .i64 0, .int .i64 0, .int .i64 0, .int .i64 0, .str [], .nils]
theorem y96 (H : Heap) (a b : AO) : (H ++ [a, b])[H.length]? = some a := by simp
theorem ymq (H : Heap) (a b : AO) : (H ++ [a, b])[H.length + 1]? = some b := by
  rw [List.getElem?_append_right (by omega), Nat.add_sub_cancel_left]; rfl
theorem ld_x {H : Heap} {id g k : Nat} {x : Ins} {v : AV} (h : H[id]? = some (AX g x)) (hv : (enc x)[k]? = some v) : evLd false 1 (.lp id g 0 k) H = some v := by
  have hr : yk H id g = some (false, 9, [enc x]) := by simp [yk, y2x, h]
  rw [y2l, hr]
  simp only [List.getElem?_cons_zero, y7m, List.head?_drop, hv]
theorem y1g3 {H : Heap} {id g : Nat} {x : Ins} (h : H[id]? = some (AX g x)) : evLd true 9 (.lp id g 0 0) H = some (.agg (enc x)) := by
  have hr : yk H id g = some (false, 9, [enc x]) := by simp [yk, y2x, h]
  simp [y2l, hr]
theorem y28d {H : Heap} {id g : Nat} {x y : Ins} {v : AV} (h : H[id]? = some (AX g x)) (hv : cellsOf v = enc y) : evSt 9 (.lp id g 0 0) v H = some (.tup [], H.set id (AX g y)) := by
  have hr : yk H id g = some (false, 9, [enc x]) := by simp [yk, y2x, h]
  rw [y40, hr]
  simp only [List.getElem?_cons_zero, hv]
  rw [if_pos ⟨rfl, by rw [ynu]; exact Nat.le_refl _, yso y⟩, ybm (by rw [ynu, ynu]), y1g, h]
  rfl
theorem st_x {H : Heap} {id g : Nat} {x y : Ins} (h : H[id]? = some (AX g x)) : evSt 9 (.lp id g 0 0) (.agg (enc y)) H = some (.tup [], H.set id (AX g y)) := y28d h rfl
theorem y1zo {H : Heap} {fb j : Nat} {o : AO} (h : H[fb + j]? = some o) : newC fb (some j) y13k H = some (.lp (fb + j) (o.gen + 1) 0 0, H.set (fb + j) (AX (o.gen + 1) default)) := by
  simp [h]
  rfl
theorem yrp (H : Heap) (a b c : AO) : (H ++ [a, b]).set (H.length + 1) c = H ++ [a, c] := by
  rw [List.set_append_right _ _ (by omega), Nat.add_sub_cancel_left]; rfl
section
variable {H : Heap} {id g : Nat} {kn : Kn} (hm : H[id]? = some (AM vI g kn)) (x : Ins)
include hm
theorem y19m (z : Ins) (k : Int) : y3s false [0] (.int .i64 0) true (.lm id g) (.int .i64 k) (H ++ [AX 1 x, AX 1 z]) = some (match aget k kn with | some v => .tup [vI v, .bool true] | none => .tup [.int .i64 0, .bool false]) := by
  rw [y1pu (yfp hm)]
  cases aget k kn <;> rfl
theorem yyt (z y : Ins) : evSt 9 (.lp (H.length + 1) 1 0 0) (.agg (enc y)) (H ++ [AX 1 x, AX 1 z]) = some (.tup [], H ++ [AX 1 x, AX 1 y]) := by
  rw [st_x (ymq H _ _), yrp]
theorem y1k3 (fb : Nat) : y4 E (y6 E) fb none false 126 [.agg (enc x), .lm id g] H = some (.agg (enc (y3k x kn)), H ++ [AX 1 x, AX 1 (y3k x kn)]) := by
  have c0 : y4 E (y6 E) fb none false 126 [.agg (enc x), .lm id g] H = (y6 E).i 126 [.agg (enc x), .lm id g] H.length H := rfl
  rw [c0, y297, if_pos rfl]
  have n0 : newC H.length (some 0) (cellsOf (.agg (enc x))) (H ++ yr 2) = some (.lp H.length 1 0 0, H ++ [AX 1 x, D0]) := by
    have h0 : (H ++ yr 2)[H.length]? = some D0 := by simp [yr]
    have e : (H ++ yr 2).set H.length (AX 1 x) = H ++ [AX 1 x, D0] := by
      rw [List.set_append_right _ _ (Nat.le_refl _), Nat.sub_self]; rfl
    simp only [newC, y6i, yoi, yso, if_true, place, Nat.add_zero, h0]
    rw [show (⟨0 + 1, OC.arr true false (enc x).length [enc x]⟩ : AO) = AX 1 x from rfl, e]
  have n1 : newC H.length (some 1) y13k (H ++ [AX 1 x, D0]) = some (.lp (H.length + 1) 1 0 0, H ++ [AX 1 x, AX 1 default]) := by
    rw [y1zo (ymq H _ _), yrp]
  have mg := y19m hm x
  have out := fun y => yyt hm x default y
  have lo := ld_x (k := 0) (v := .int .i64 x.op) (y96 H (AX 1 x) (AX 1 default)) rfl
  have ld := ld_x (k := 1) (v := .int .i64 x.d) (y96 H (AX 1 x) (AX 1 default)) rfl
  have la := ld_x (k := 2) (v := .int .i64 x.a) (y96 H (AX 1 x) (AX 1 default)) rfl
  have lb := ld_x (k := 3) (v := .int .i64 x.b) (y96 H (AX 1 x) (AX 1 default)) rfl
  have ln := ld_x (k := 5) (v := .int .i64 x.n) (y96 H (AX 1 x) (AX 1 default)) rfl
  have lt := ld_x (k := 6) (v := .int .i64 x.t) (y96 H (AX 1 x) (AX 1 default)) rfl
  have lx := y1g3 (y96 H (AX 1 x) (AX 1 default))
  have lr := fun y => y1g3 (ymq H (AX 1 x) (AX 1 y))
  have same : yku H.length (.lp H.length 1 0 0) (.lp (H.length + 1) 1 0 0) (H ++ [AX 1 x, AX 1 default]) = some (.agg (enc x), H ++ [AX 1 x, AX 1 x]) := by
    simp only [yku, lx, y3, out, yc, lr]
  have c1 : ∀ (a : Int) (H' : Heap), y4 E (y6 E) H.length none true 127 [.int .i64 x.n, .int .i64 a] H' = some (.int .i64 (yuj x.n a), H') := fun a H' => yp (fa := ⟨[.int .i64 x.n, .int .i64 a], true, []⟩) rfl rfl rfl (y205 _ _) ⟨_, rfl, rfl⟩
  have f1 : ∀ (a : Int) (H' : Heap), y4s E (y6 E) H.length none true 127 [.int .i64 x.n, .int .i64 a] H' = some ([], []) := fun a H' => yis (fa := ⟨[.int .i64 x.n, .int .i64 a], true, []⟩) rfl rfl rfl (y205 _ _)
  have c2 : ∀ (a b : Int) (H' : Heap), y4 E (y6 E) H.length none true 128 [.int .i64 x.n, .int .i64 a, .int .i64 b] H' = some (.int .i64 (twoM x.n a b), H') := fun a b H' => yp (fa := ⟨[.int .i64 x.n, .int .i64 a, .int .i64 b], true, []⟩) rfl rfl rfl (y24y _ _ _) ⟨_, rfl, rfl⟩
  have f2 : ∀ (a b : Int) (H' : Heap), y4s E (y6 E) H.length none true 128 [.int .i64 x.n, .int .i64 a, .int .i64 b] H' = some ([], []) := fun a b H' => yis (fa := ⟨[.int .i64 x.n, .int .i64 a, .int .i64 b], true, []⟩) rfl rfl rfl (y24y _ _ _)
  have c3 : ∀ (a b : Int) (H' : Heap), y4 E (y6 E) H.length none true 129 [.int .i64 x.n, .int .i64 a, .int .i64 b] H' = some (.bool (yl3 x.n a b), H') := fun a b H' => yp (fa := ⟨[.int .i64 x.n, .int .i64 a, .int .i64 b], true, []⟩) rfl rfl rfl (y1si _ _ _) ⟨_, rfl, rfl⟩
  have bc : ∀ d v : Int, yh y13k [(0, 1, .int .i64 1), (1, 1, .int .i64 d), (5, 1, .int .i64 v)] = some (.agg (enc (yb d v))) := fun d v => rfl
  have bg : ∀ t : Int, yh y13k [(0, 1, .int .i64 27), (6, 1, .int .i64 t)] = some (.agg (enc (y251 t))) := fun t => rfl
  have bn : yh y13k [(0, 1, .int .i64 33)] = some (.agg (enc nopI)) := rfl
  have st : yol H.length (.agg (enc x)) (.lm id g) (H ++ yr 2) = y3f H.length (.lm id g) (.lp H.length 1 0 0) (.lp (H.length + 1) 1 0 0) (H ++ [AX 1 x, AX 1 default]) := by
    simp only [yol, n0, yc, n1]
  rw [st]
  unfold y3k
  cases ha : aget x.a kn with
  | none =>
    have mga := mg default x.a
    rw [ha] at mga
    by_cases h6 : x.op = 6
    · simp only [y3f, y14, Nat.zero_add, y3, la, mga, y1l, List.getElem?_cons_zero, List.getElem?_cons_succ, y3m, lo, y3r, y9, h6, decide_true, y3q, yx, y15, same, if_true]
    by_cases h5 : x.op = 5
    · have mgb := mg default x.b
      cases hb : aget x.b kn with
      | none =>
        rw [hb] at mgb
        simp only [y3f, y14, Nat.zero_add, y3, la, lb, mga, mgb, y1l, List.getElem?_cons_zero, List.getElem?_cons_succ, y3m, lo, y3r, y9, h5, decide_true, decide_false, y3q, y4f, y4k, ycs, y25, yx, y15, same, if_true, show ¬ (5 : Int) = 6 by decide, if_false]
      | some b =>
        rw [hb] at mgb
        simp only [y3f, y14, Nat.zero_add, y3, la, lb, mga, mgb, y1l, List.getElem?_cons_zero, List.getElem?_cons_succ, y3m, lo, y3r, y9, h5, decide_true, decide_false, y3q, y4f, y4k, ycs, y25, yx, y15, same, if_true, show ¬ (5 : Int) = 6 by decide, if_false]
    by_cases h4 : x.op = 4
    · simp only [y3f, y14, Nat.zero_add, y3, la, mga, y1l, List.getElem?_cons_zero, List.getElem?_cons_succ, y3m, lo, y3r, y9, h4, decide_true, decide_false, y3q, y4f, y4k, y7n, yf7, yx, y15, same, if_true, show ¬ (4 : Int) = 6 by decide, show ¬ (4 : Int) = 5 by decide, if_false]
    by_cases h28 : x.op = 28
    · have mgb := mg default x.b
      cases hb : aget x.b kn with
      | none =>
        rw [hb] at mgb
        simp only [y3f, y14, Nat.zero_add, y3, la, lb, mga, mgb, y1l, List.getElem?_cons_zero, List.getElem?_cons_succ, y3m, lo, y3r, y9, h28, decide_true, decide_false, y3q, y4f, y4k, y7n, yf7, yig, yim, ynp, yo0, ynf, ycs, y25, yx, y15, same, if_true, show ¬ (28 : Int) = 6 by decide, show ¬ (28 : Int) = 5 by decide, show ¬ (28 : Int) = 4 by decide, if_false]
      | some b =>
        rw [hb] at mgb
        simp only [y3f, y14, Nat.zero_add, y3, la, lb, mga, mgb, y1l, List.getElem?_cons_zero, List.getElem?_cons_succ, y3m, lo, y3r, y9, h28, decide_true, decide_false, y3q, y4f, y4k, y7n, yf7, yig, yim, ynp, yo0, ynf, ycs, y25, yx, y15, same, if_true, show ¬ (28 : Int) = 6 by decide, show ¬ (28 : Int) = 5 by decide, show ¬ (28 : Int) = 4 by decide, if_false]
    simp only [y3f, y14, Nat.zero_add, y3, la, mga, y1l, List.getElem?_cons_zero, List.getElem?_cons_succ, y3m, lo, y3r, y9, h6, h5, h4, h28, decide_false, y3q, y4f, y4k, y7n, yf7, yig, yim, y15, same, if_false]
  | some a =>
    have mga := mg default x.a
    rw [ha] at mga
    by_cases h6 : x.op = 6
    · simp only [y3f, y14, Nat.zero_add, y3, la, mga, y1l, List.getElem?_cons_zero, List.getElem?_cons_succ, y3m, lo, y3r, y9, h6, decide_true, y3q, yx, ld, ln, f1, yd1, c1, yc, bc, out, lr, if_true]
      exact y1rs rfl _
    by_cases h5 : x.op = 5
    · have mgb := mg default x.b
      cases hb : aget x.b kn with
      | none =>
        rw [hb] at mgb
        simp only [y3f, y14, Nat.zero_add, y3, la, lb, mga, mgb, y1l, List.getElem?_cons_zero, List.getElem?_cons_succ, y3m, lo, y3r, y9, h5, decide_true, decide_false, y3q, y4f, y4k, yb9, y2i, yx, y15, same, if_true, show ¬ (5 : Int) = 6 by decide, if_false]
      | some b =>
        rw [hb] at mgb
        simp only [y3f, y14, Nat.zero_add, y3, la, lb, mga, mgb, y1l, List.getElem?_cons_zero, List.getElem?_cons_succ, y3m, lo, y3r, y9, h5, decide_true, decide_false, y3q, y4f, y4k, yb9, y2i, yx, y15, ld, ln, f2, yd1, c2, yc, bc, out, lr, if_true, show ¬ (5 : Int) = 6 by decide, if_false]
        exact y1rs rfl _
    by_cases h4 : x.op = 4
    · simp only [y3f, y14, Nat.zero_add, y3, la, mga, y1l, List.getElem?_cons_zero, List.getElem?_cons_succ, y3m, lo, y3r, y9, h4, decide_true, decide_false, y3q, y4f, y4k, y7n, yf7, yx, y15, ld, bc, out, yc, lr, if_true, show ¬ (4 : Int) = 6 by decide, show ¬ (4 : Int) = 5 by decide, if_false]
    by_cases h28 : x.op = 28
    · have mgb := mg default x.b
      cases hb : aget x.b kn with
      | none =>
        rw [hb] at mgb
        simp only [y3f, y14, Nat.zero_add, y3, la, lb, mga, mgb, y1l, List.getElem?_cons_zero, List.getElem?_cons_succ, y3m, lo, y3r, y9, h28, decide_true, decide_false, y3q, y4f, y4k, y7n, yf7, yig, yim, ynp, yo0, ynf, yb9, y2i, yx, y15, same, if_true, show ¬ (28 : Int) = 6 by decide, show ¬ (28 : Int) = 5 by decide, show ¬ (28 : Int) = 4 by decide, if_false]
      | some b =>
        rw [hb] at mgb
        have c3' := c3 a b
        cases hh : yl3 x.n a b with
        | true =>
          rw [hh] at c3'
          simp only [y3f, y14, Nat.zero_add, y3, la, lb, mga, mgb, y1l, List.getElem?_cons_zero, List.getElem?_cons_succ, y3m, lo, y3r, y9, h28, decide_true, decide_false, y3q, y4f, y4k, y7n, yf7, yig, yim, ynp, yo0, ynf, yb9, y2i, yx, y15, y1ju, ln, c3', hh, yc, lt, bg, out, lr, if_true, show ¬ (28 : Int) = 6 by decide, show ¬ (28 : Int) = 5 by decide, show ¬ (28 : Int) = 4 by decide, if_false]
        | false =>
          rw [hh] at c3'
          simp only [y3f, y14, Nat.zero_add, y3, la, lb, mga, mgb, y1l, List.getElem?_cons_zero, List.getElem?_cons_succ, y3m, lo, y3r, y9, h28, decide_true, decide_false, y3q, y4f, y4k, y7n, yf7, yig, yim, ynp, yo0, ynf, yb9, y2i, yx, y15, y1ju, ln, c3', hh, yc, y1xs, bn, out, lr, Bool.false_eq_true, if_true, show ¬ (28 : Int) = 6 by decide, show ¬ (28 : Int) = 5 by decide, show ¬ (28 : Int) = 4 by decide, if_false]
    simp only [y3f, y14, Nat.zero_add, y3, la, mga, y1l, List.getElem?_cons_zero, List.getElem?_cons_succ, y3m, lo, y3r, y9, h6, h5, h4, h28, decide_false, y3q, y4f, y4k, y7n, yf7, yig, yim, y15, same, if_false]
end
end Go.Vm
namespace Go.Vm
open Cel
theorem y1cp {α : Type} (y : α) : ∀ (ys : List α) (x : α) (l : List α), (ys ++ x :: l).set ys.length y = (ys ++ [y]) ++ l
  | [], _, _ => rfl
  | a :: ys, x, l => by simp [y1cp y ys x l]
theorem y1o6 {α : Type} (ys : List α) (x : α) (l : List α) : (ys ++ x :: l)[ys.length]? = some x := by simp
structure FSt (H : Heap) (f : Fn) (p g : Nat → Nat) (hm : List (Int × Bool)) (gh gk : Nat) (kn : Kn) : Prop where
  d : DSt H f p g 13
  hm : H[10]? = some (AM vB gh hm)
  kn : H[11]? = some (AM vI gk kn)
section
variable {f : Fn} (w : Wf f) (p g : Nat → Nat) (hm : List (Int × Bool)) (gh gk : Nat) (hh : ∀ i : Int, aget i hm = if i ∈ y5j f then some true else none)
include w hh
theorem y1gd : ∀ (l : List Ins) (ys : List Ins) (H : Heap) (kn : Kn), lst f.code = l ∨ True → ys.length + l.length = (lst f.code).length → FSt H (y7e f (ys ++ l)) p g hm gh gk kn →
    ∃ H', yge (.lp 0 1 0 0) (.lp 1 1 0 0) (.lm 10 gh) (.lm 11 gk) (.ls (p 2) (g 2) 9 0 (lst f.code).length) (.int .i64 (lst f.code).length) (.int .i64 ys.length) H = y1dk (.lp 0 1 0 0) (.lp 1 1 0 0) H' ∧
      DSt H' (y7e f (ys ++ y8l (yfn f) ys.length kn l)) p g 13 := by
  have hn := w.n2
  intro l
  induction l with
  | nil =>
    intro ys H kn _ hl S
    have hc : ¬ (ys.length : Int) < ((lst f.code).length : Int) := by simp at hl; omega
    refine ⟨H, ?_, S.d⟩
    rw [yl9]
    simp only [yt7, yf, y3, hc, decide_false, y1pr, y15]
  | cons x l ih =>
    intro ys H kn _ hl S
    simp only [List.length_cons] at hl
    have hlt : ys.length < (lst f.code).length := by omega
    have hc : (ys.length : Int) < ((lst f.code).length : Int) := by omega
    have hw := y2b hlt (by omega)
    have hcode : (y7e f (ys ++ x :: l)).code = some (ys ++ x :: l) := rfl
    have hlen : (ys ++ x :: l).length = (lst f.code).length := by simp; omega
    have kx := y260 hlt (p 2) (g 2) 9 .i64
    have lx := S.d.ix hcode (y1o6 ys x l)
    have h13 := S.d.len
    obtain ⟨o, ho⟩ : ∃ o, H[0 + 12]? = some o := ⟨_, List.getElem?_eq_getElem (by omega)⟩
    have nx := y1zo ho
    rw [Nat.zero_add] at nx
    have sx := st_x (H := H.set 12 (AX (o.gen + 1) default)) (id := 12) (g := o.gen + 1) (y := x) (ybg (by omega))
    rw [List.set_set] at sx
    have D1 := S.d.set (a := 12) (x := AX (o.gen + 1) x) (by omega)
    have hX : (H.set 12 (AX (o.gen + 1) x))[12]? = some (AX (o.gen + 1) x) := ybg (by omega)
    have m1 : (H.set 12 (AX (o.gen + 1) x))[10]? = some (AM vB gh hm) := by rw [y33 (by omega)]; exact S.hm
    have k1 : (H.set 12 (AX (o.gen + 1) x))[11]? = some (AM vI gk kn) := by rw [y33 (by omega)]; exact S.kn
    generalize H.set 12 (AX (o.gen + 1) x) = H1 at *
    -- the head of a block
    have e5 : ∃ H2, y186 (.lp 0 1 0 0) (.lp 1 1 0 0) (.lm 10 gh) (.lm 11 gk) (.int .i64 ys.length) (.lp 12 (o.gen + 1) 0 0) (.ls (p 2) (g 2) 9 0 (lst f.code).length) (.int .i64 (lst f.code).length) (.int .i64 ys.length) H1 =
        yoh (.lp 0 1 0 0) (.lp 1 1 0 0) (.lm 10 gh) (.lm 11 gk) (.int .i64 ys.length) (.lp 12 (o.gen + 1) 0 0) (.ls (p 2) (g 2) 9 0 (lst f.code).length) (.int .i64 (lst f.code).length) (.int .i64 ys.length) H2 ∧
        DSt H2 (y7e f (ys ++ x :: l)) p g 13 ∧ H2[12]? = some (AX (o.gen + 1) x) ∧ H2[10]? = some (AM vB gh hm) ∧ H2[11]? = some (AM vI gk (if yfn f ys.length then [] else kn)) := by
      have mg := y1yn (vf := vB) m1 (.bool false) (ys.length : Int)
      rw [hh] at mg
      by_cases hd : (ys.length : Int) ∈ y5j f
      · rw [if_pos hd] at mg
        simp only [Option.map_some, Option.getD_some] at mg
        have mc := y1t1 (vf := vI) k1
        refine ⟨H1.set 11 (AM vI gk []), ?_, D1.set (by omega), by rw [y33 (by omega)]; exact hX, by rw [y33 (by omega)]; exact m1, ?_⟩
        · simp only [y186, mg, y3, yx, mc, yc]
        · rw [ybg (y90 k1), yfn, decide_eq_true hd]; rfl
      · rw [if_neg hd] at mg
        simp only [Option.map_none, Option.getD_none] at mg
        refine ⟨H1, ?_, D1, hX, m1, ?_⟩
        · simp only [y186, mg, y3, y15]
        · rw [k1, yfn, decide_eq_false hd]; rfl
    obtain ⟨H2, e5, D2, hX2, m2, k2⟩ := e5
    rw [y8l]
    generalize hkn : (if yfn f (ys.length : Int) = true then [] else kn) = k0 at *
    -- what it becomes
    have cf := y1k3 k2 x 0
    have D3 := D2.grow [AX 1 x, AX 1 (y3k x k0)]
    have hX3 := yfp (T := [AX 1 x, AX 1 (y3k x k0)]) hX2
    have m3 := yfp (T := [AX 1 x, AX 1 (y3k x k0)]) m2
    have k3 := yfp (T := [AX 1 x, AX 1 (y3k x k0)]) k2
    generalize hy : y3k x k0 = y at *
    generalize H2 ++ [AX 1 x, AX 1 y] = H3 at *
    have s4 := st_x (y := y) hX3
    have D4 := D3.set (a := 12) (x := AX (o.gen + 1) y) (by omega)
    have hX4 : (H3.set 12 (AX (o.gen + 1) y))[12]? = some (AX (o.gen + 1) y) := ybg (y90 hX3)
    have m4 : (H3.set 12 (AX (o.gen + 1) y))[10]? = some (AM vB gh hm) := by rw [y33 (by omega)]; exact m3
    have k4 : (H3.set 12 (AX (o.gen + 1) y))[11]? = some (AM vI gk k0) := by rw [y33 (by omega)]; exact k3
    generalize H3.set 12 (AX (o.gen + 1) y) = H4 at *
    have lc4 := D4.ldc
    have hov : ownV (p 2) (g 2) (y7e f (ys ++ x :: l)).code = .ls (p 2) (g 2) 9 0 (lst f.code).length := by
      show ownV (p 2) (g 2) (some (ys ++ x :: l)) = _
      rw [ownV, hlen]; rfl
    rw [hov] at lc4
    have s5 := D4.st hcode (i := ys.length) (by omega) y
    rw [y1cp] at s5
    have hp2 := D4.lo 2 (by omega) rfl
    have D5 : DSt (H4.set (p 2) ⟨g 2, .arr false false 9 (((ys ++ [y]) ++ l).map enc)⟩) (y7e f ((ys ++ [y]) ++ l)) p g 13 := D4.setCode (L' := (ys ++ [y]) ++ l) hcode (by simp)
    have hX5 : (H4.set (p 2) ⟨g 2, .arr false false 9 (((ys ++ [y]) ++ l).map enc)⟩)[12]? = some (AX (o.gen + 1) y) := by rw [y33 (by omega)]; exact hX4
    have m5 : (H4.set (p 2) ⟨g 2, .arr false false 9 (((ys ++ [y]) ++ l).map enc)⟩)[10]? = some (AM vB gh hm) := by rw [y33 (by omega)]; exact m4
    have k5 : (H4.set (p 2) ⟨g 2, .arr false false 9 (((ys ++ [y]) ++ l).map enc)⟩)[11]? = some (AM vI gk k0) := by rw [y33 (by omega)]; exact k4
    generalize H4.set (p 2) ⟨g 2, .arr false false 9 (((ys ++ [y]) ++ l).map enc)⟩ = H5 at *
    have ay : ∀ H : Heap, yj (fz H y1i) [.agg (enc y)] = some ⟨[.agg (enc y)], scal y && true, []⟩ := fun H => by
      rw [y10, ygp, y1c]; rfl
    have cD : ∀ H, y4 E (y6 E) 0 none true 9 [.agg (enc y)] H = some (.int .i64 (defr y), H) := fun H => yp rfl (ay H) rfl (y27w y) ⟨_, rfl, rfl⟩
    have lx2 := y1g3 hX2
    have lx4 := y1g3 hX4
    have lx5 := y1g3 hX5
    have next : ∀ (H' : Heap) (kn' : Kn), FSt H' (y7e f ((ys ++ [y]) ++ l)) p g hm gh gk kn' → kn' = y9t y k0 →
        ∃ H'', yi4 (.lp 0 1 0 0) (.lp 1 1 0 0) (.lm 10 gh) (.lm 11 gk) (.ls (p 2) (g 2) 9 0 (lst f.code).length) (.int .i64 (lst f.code).length) (.int .i64 ys.length) H' = y1dk (.lp 0 1 0 0) (.lp 1 1 0 0) H'' ∧
          DSt H'' (y7e f (ys ++ y :: y8l (yfn f) (ys.length + 1) (y9t y k0) l)) p g 13 := by
      intro H' kn' S' e
      subst e
      obtain ⟨H'', h1, h2⟩ := ih (ys ++ [y]) H' (y9t y k0) (.inr trivial) (by simp; omega) S'
      have e1 : ((ys ++ [y]).length : Int) = ((ys.length : Int) + 1) := by simp
      have e2 : (ys ++ [y]).length = ys.length + 1 := by simp
      rw [e2] at h1 h2
      refine ⟨H'', ?_, by rw [List.append_assoc] at h2; exact h2⟩
      rw [← h1]
      simp only [yi4, yn, y3, hw]
      rfl
    have e4 : yoh (.lp 0 1 0 0) (.lp 1 1 0 0) (.lm 10 gh) (.lm 11 gk) (.int .i64 ys.length) (.lp 12 (o.gen + 1) 0 0) (.ls (p 2) (g 2) 9 0 (lst f.code).length) (.int .i64 (lst f.code).length) (.int .i64 ys.length) H2 =
        cnd (.bool (decide (0 ≤ defr y)))
         (oh (y84 false [0] (.lm 11 gk) (.int .i64 (defr y)) H5) fun _ h6 =>
          ob (evFa 0 (.lp 12 (o.gen + 1) 0 0)) fun v54 =>
          ob (evLd false 1 v54 h6) fun v55 =>
          ob (y2 .eql v55 (.int .i64 1)) fun v56 =>
          cnd v56
           (ob (evFa 5 (.lp 12 (o.gen + 1) 0 0)) fun v59 =>
            ob (evLd false 1 v59 h6) fun v60 =>
            oh (y6s false [0] (.lm 11 gk) (.int .i64 (defr y)) v60 h6) fun _ h7 =>
            (yi4 (.lp 0 1 0 0) (.lp 1 1 0 0) (.lm 10 gh) (.lm 11 gk) (.ls (p 2) (g 2) 9 0 (lst f.code).length) (.int .i64 (lst f.code).length) (.int .i64 ys.length) h7))
           ((yi4 (.lp 0 1 0 0) (.lp 1 1 0 0) (.lm 10 gh) (.lm 11 gk) (.ls (p 2) (g 2) 9 0 (lst f.code).length) (.int .i64 (lst f.code).length) (.int .i64 ys.length) h6)))
         ((yi4 (.lp 0 1 0 0) (.lp 1 1 0 0) (.lm 10 gh) (.lm 11 gk) (.ls (p 2) (g 2) 9 0 (lst f.code).length) (.int .i64 (lst f.code).length) (.int .i64 ys.length) H5)) := by
      simp only [yoh, lx2, y3, cf, yc, s4, y14, Nat.zero_add, lc4, lx4, kx, s5, lx5, cD, y3b]
    have e10 : yge (.lp 0 1 0 0) (.lp 1 1 0 0) (.lm 10 gh) (.lm 11 gk) (.ls (p 2) (g 2) 9 0 (lst f.code).length) (.int .i64 (lst f.code).length) (.int .i64 ys.length) H = yoh (.lp 0 1 0 0) (.lp 1 1 0 0) (.lm 10 gh) (.lm 11 gk) (.int .i64 ys.length) (.lp 12 (o.gen + 1) 0 0) (.ls (p 2) (g 2) 9 0 (lst f.code).length) (.int .i64 (lst f.code).length) (.int .i64 ys.length) H2 := by
      rw [yl9, ← e5]
      simp only [yt7, yf, y3, hc, decide_true, y1pr, yx, y1yw, kx, lx, nx, yc, sx]
    rw [e10, e4]
    by_cases hd : 0 ≤ defr y
    · rw [decide_eq_true hd, yx, y1ti (vf := vI) k5, yc]
      have lop := ld_x (k := 0) (v := .int .i64 y.op) (show (H5.set 11 (AM vI gk (adel (defr y) k0)))[12]? = some (AX (o.gen + 1) y) by rw [y33 (by omega)]; exact hX5) rfl
      have lon := ld_x (k := 5) (v := .int .i64 y.n) (show (H5.set 11 (AM vI gk (adel (defr y) k0)))[12]? = some (AX (o.gen + 1) y) by rw [y33 (by omega)]; exact hX5) rfl
      have D6 := D5.set (a := 11) (x := AM vI gk (adel (defr y) k0)) (by omega)
      have m6 : (H5.set 11 (AM vI gk (adel (defr y) k0)))[10]? = some (AM vB gh hm) := by rw [y33 (by omega)]; exact m5
      have k6 : (H5.set 11 (AM vI gk (adel (defr y) k0)))[11]? = some (AM vI gk (adel (defr y) k0)) := ybg (y90 k5)
      generalize H5.set 11 (AM vI gk (adel (defr y) k0)) = H6 at *
      by_cases h1 : y.op = 1
      · have mp := y156 (vf := vI) k6 (defr y) y.n
        obtain ⟨H'', q1, q2⟩ := next (H6.set 11 (AM vI gk (aset (defr y) y.n (adel (defr y) k0)))) _ ⟨D6.set (by omega), by rw [y33 (by omega)]; exact m6, ybg (y90 k6)⟩ (by rw [y9t, if_pos hd, if_pos h1])
        refine ⟨H'', ?_, q2⟩
        simp only [y14, Nat.zero_add, y3, lop, y9, h1, decide_true, yx, lon, mp, yc, q1]
      · obtain ⟨H'', q1, q2⟩ := next H6 _ ⟨D6, m6, k6⟩ (by rw [y9t, if_pos hd, if_neg h1])
        refine ⟨H'', ?_, q2⟩
        simp only [y14, Nat.zero_add, y3, lop, y9, h1, decide_false, y15, q1]
    · rw [decide_eq_false hd, y15]
      exact next H5 k0 ⟨D5, m5, k5⟩ (by rw [y9t, if_neg hd])
omit hh w in
theorem yxz (v19 : AV) (hs : List Int) (hl : hs.length ≤ 1000000) (F : Fn) : ∀ (d j : Nat) (H : Heap) (m : List (Int × Bool)), j + d = hs.length → (∀ r : Int, aget r m = if r ∈ hs.take j then some true else none) → DSt H F p g 13 → H[10]? = some (AM vB gh m) →
    ∃ H' m', (∀ r : Int, aget r m' = if r ∈ hs then some true else none) ∧ ydg (.lp 0 1 0 0) (.lp 1 1 0 0) (.lm 10 gh) (slA (nz hs)) (.int .i64 hs.length) (.int .i64 j) H = yoo (.lp 0 1 0 0) (.lp 1 1 0 0) (.lm 10 gh) H' ∧ DSt H' F p g 13 ∧ H'[10]? = some (AM vB gh m') := by
  intro d
  induction d with
  | zero =>
    intro j H m hd hm D h10
    have hc : ¬ (j : Int) < (hs.length : Int) := by omega
    refine ⟨H, m, by rw [List.take_of_length_le (by omega)] at hm; exact hm, ?_, D, h10⟩
    rw [ygl]
    simp only [ypc, yf, y3, hc, decide_false, yp8, y15]
  | succ d ih =>
    intro j H m hd hm D h10
    have hlt : j < hs.length := by omega
    have hc : (j : Int) < (hs.length : Int) := by omega
    have hw := y2b hlt (by omega)
    have kx := y59 (o := nz hs) (i := j) (by rw [y1gz]; exact List.getElem?_eq_getElem hlt) .i64
    have htk : hs.take (j + 1) = hs.take j ++ [hs[j]] := List.take_succ_eq_append_getElem hlt
    generalize hs[j] = u at *
    have lx : ∀ H : Heap, evLd false 1 (.rp [.int .i64 u]) H = some (.int .i64 u) := fun H => by simp
    have mp := y156 (vf := vB) h10 u true
    obtain ⟨H', m', h1, h2, h3, h4⟩ := ih (j + 1) (H.set 10 (AM vB gh (aset u true m))) (aset u true m) (by omega) (fun r => by
      rw [y5e, htk, hm]
      by_cases e : r = u
      · simp [e]
      · simp [e]) (D.set (by omega)) (ybg (y90 h10))
    refine ⟨H', m', h1, ?_, h3, h4⟩
    rw [ygl, ← h2]
    simp only [ypc, yf, y3, hc, decide_true, yp8, yx, y1fp, kx, lx, mp, yc, y11k, yn, hw]
    rfl
end
theorem y1xf (f : Fn) (hf : FnFit f) (hs : FnSm f) (hr : (lst f.rows).length ≤ 1000000) :
    (wf f = false → (y6 E).p 125 [.agg (enc f)] = some (y1k f)) ∧ (wf f = true → (y6 E).p 125 [.agg (enc f)] = some (y1k (y7e f (y220 f)))) := by
  have n0 : newC 0 (some 0) (cellsOf (.agg (enc f))) [⟨0, .dead⟩, ⟨0, .dead⟩, ⟨0, .dead⟩, ⟨0, .dead⟩, ⟨0, .dead⟩, ⟨0, .dead⟩, ⟨0, .dead⟩, ⟨0, .dead⟩, ⟨0, .dead⟩, ⟨0, .dead⟩, ⟨0, .dead⟩, ⟨0, .dead⟩, ⟨0, .dead⟩] = some (.lp 0 1 0 0, [AB f, D0, D0, D0, D0, D0, D0, D0, D0, D0, D0, D0, D0]) := by simp
  have n1 : newC 0 (some 1) [.nils, .nils, .int .i64 0, .nils, .nils] [AB f, D0, D0, D0, D0, D0, D0, D0, D0, D0, D0, D0, D0] = some (.lp 1 1 0 0, [AB f, ⟨1, .arr true false 5 [[.nils, .nils, .int .i64 0, .nils, .nils]]⟩, D0, D0, D0, D0, D0, D0, D0, D0, D0, D0, D0]) := by simp
  have l0 : ∀ t : Heap, evLd true 5 (.lp 0 1 0 0) (AB f :: t) = some (.agg (enc f)) := fun t => by simp
  obtain ⟨H1, H2, p, g, e1, e2, D, hl2, hk2⟩ := yz4 hs (H := [AB f, ⟨1, .arr true false 5 [[.nils, .nils, .int .i64 0, .nils, .nils]]⟩, D0, D0, D0, D0, D0, D0, D0, D0, D0, D0, D0]) rfl ⟨_, rfl, rfl⟩ (n := 13) (by omega) (by simp)
  have hck := y1v3 f hf
  have c8 := D.call (E := E) (C := y6 E) (fb := 0) (sl := none) (k := 8) rfl rfl hck ⟨_, rfl, rfl⟩
  have e24 : (y6 E).p 125 [.agg (enc f)] = yl1 (.lp 0 1 0 0) (.lp 1 1 0 0) H2 := by
    rw [y28u]
    simp only [y191, n0, yc, n1, y1da, l0, y3, e1, e2]
  refine ⟨fun hw => ?_, fun hw => ?_⟩
  · rw [hw] at c8
    obtain ⟨H3, o1, o2, o3⟩ := D.out
    rw [e24]
    simp only [yl1, D.ld, y3, c8, Bool.false_eq_true, if_false, yc, yl7, show decide ((80 : Int) ≠ 0) = true from rfl, yx, o1, o2, o3]
  · rw [hw] at c8
    have w := y23b hw
    have hn := w.n2
    obtain ⟨L, hL⟩ : ∃ L, f.code = some L := by
      cases hc : f.code with
      | none => have := w.n1; rw [hc] at this; simp at this
      | some L => exact ⟨L, rfl⟩
    have hlL : lst f.code = L := by rw [hL]; rfl
    have h10 : H2[0 + 10]? = some D0 := by rw [Nat.zero_add, hk2 10 (by omega)]; rfl
    have mk1 := y1q5 vB h10
    rw [Nat.zero_add] at mk1
    have D3 := D.set (a := 10) (x := AM vB (D0.gen + 1) []) (by omega)
    have hh3 : (H2.set 10 (AM vB (D0.gen + 1) []))[10]? = some (AM vB 1 []) := ybg (by rw [hl2]; simp)
    have h11 : (H2.set 10 (AM vB (D0.gen + 1) []))[11]? = some D0 := by rw [y33 (by omega), hk2 11 (by omega)]; rfl
    have hHd := y1s6 f (by omega) hr
    have hfr : (exO (nz (y5j f))).fresh = true := by rw [y1e1, y1gz]; simp
    have cH := D3.call (E := E) (C := y6 E) (fb := 0) (sl := none) (k := 102) rfl hfr hHd ⟨_, y1q3 _, rfl⟩
    have hhl : (y5j f).length ≤ 20000 := Nat.le_trans (ybd f _) hn
    obtain ⟨H4, m', q1, q2, D4, q4⟩ := yxz p g 1 (.int .i64 0) (y5j f) (by omega) f _ 0 _ [] (Nat.zero_add _) (fun r => by simp [aget]) D3 hh3
    have hle := y2u (nz (y5j f))
    rw [y1gz] at hle
    obtain ⟨o, ho⟩ : ∃ o, H4[0 + 11]? = some o := ⟨_, List.getElem?_eq_getElem (by have := D4.len; omega)⟩
    have mk2 := y1q5 vI ho
    rw [Nat.zero_add] at mk2 ho
    have D5 := D4.set (a := 11) (x := AM vI (o.gen + 1) []) (by omega)
    have hh5 : (H4.set 11 (AM vI (o.gen + 1) []))[10]? = some (AM vB 1 m') := by rw [y33 (by omega)]; exact q4
    have hk5 : (H4.set 11 (AM vI (o.gen + 1) []))[11]? = some (AM vI (o.gen + 1) []) := ybg (y90 ho)
    have lc := D5.ldc
    have hov : ownV (p 2) (g 2) f.code = .ls (p 2) (g 2) 9 0 (lst f.code).length := by rw [hL]; rfl
    rw [hov] at lc
    have D5' : DSt (H4.set 11 (AM vI (o.gen + 1) [])) (y7e f ([] ++ lst f.code)) p g 13 := by
      rw [List.nil_append, hlL, yhx hL]; exact D5
    obtain ⟨H6, r1, D6⟩ := y1gd w p g m' 1 (o.gen + 1) q1 (lst f.code) [] _ [] (.inl rfl) (by simp) ⟨D5', hh5, hk5⟩
    obtain ⟨H7, o1, o2, o3⟩ := D6.out
    rw [e24]
    simp only [List.length_nil, Int.ofNat_zero] at r1
    have e21 : ∀ H, y11f (.lp 0 1 0 0) (.lp 1 1 0 0) H = oh (mkmC 0 (some 10) H) fun v16 h14 => yro (.lp 0 1 0 0) (.lp 1 1 0 0) v16 h14 := fun H => rfl
    have hc0 : ((0 : Nat) : Int) = 0 := rfl
    rw [hc0] at q2
    simp only [yl1, D.ld, y3, c8, if_true, yc, yl7, show decide ((0 : Int) ≠ 0) = false from rfl, y15, e21, mk1, yro, D3.ld, cH, hle, q2, yoo, mk2, y1ec, y14, Nat.zero_add, lc, y1hd, r1, y1dk, D6.ld, o1, o2, o3]
    rfl
end Go.Vm
namespace Go.Vm
end Go.Vm
namespace Go.Vm
open Cel
theorem fz_f (f : Fn) (H : Heap) : yj (fz H y1i) [.agg (enc f)] = some ⟨[.agg (enc f)], scal f && true, []⟩ := by
  rw [y10, ygp, y1c]; rfl
abbrev AFn (f : Fn) : AO := ⟨1, .arr true false 5 [enc f]⟩
end Go.Vm
namespace Go.Vm
@[simp] theorem y1vy : (y6 E).p 124 [] = some ⟨.bool true, [], true, [], []⟩ := y1py 60 (by kernel_rfl)
end Go.Vm
namespace Go.Vm
open Cel
abbrev iV (x : BitVec 64) : AV := .int .i64 x.toInt
theorem y39 (n : Int) : IntKind.wrap .i64 n = (BitVec.ofInt 64 n).toInt := by
  rw [BitVec.toInt_ofInt, Int.bmod]
  have e : ((2 ^ 64 : Nat) : Int) = 18446744073709551616 := by decide
  rw [e]
  simp only [IntKind.wrap, IntKind.bits, IntKind.signed]
  simp
  split <;> split <;> omega
theorem y1i2 {n : Int} (h : y1j n) : (BitVec.ofInt 64 n).toInt = n := by rw [← y39, ylx h]
theorem y1h (x : BitVec 64) : BitVec.ofInt 64 x.toInt = x := BitVec.ofInt_toInt
theorem yhc (x : BitVec 64) : BitVec.ofInt 64 (x.toNat : Int) = x := by simp
theorem y1o9 (x y : BitVec 64) : y2 .and (iV x) (iV y) = some (iV (x &&& y)) := by
  show some (AV.int .i64 (IntKind.wrap .i64 ((BitVec.ofInt 64 x.toInt &&& BitVec.ofInt 64 y.toInt).toNat : Int))) = _
  rw [y1h, y1h, y39, yhc]
theorem y1xz (x y : BitVec 64) : y2 .or (iV x) (iV y) = some (iV (x ||| y)) := by
  show some (AV.int .i64 (IntKind.wrap .i64 ((BitVec.ofInt 64 x.toInt ||| BitVec.ofInt 64 y.toInt).toNat : Int))) = _
  rw [y1h, y1h, y39, yhc]
theorem y1ue (x y : BitVec 64) : bI .and .i64 x.toInt y.toInt = (x &&& y).toInt := by
  show IntKind.wrap .i64 ((BitVec.ofInt 64 x.toInt &&& BitVec.ofInt 64 y.toInt).toNat : Int) = _
  rw [y1h, y1h, y39, yhc]
theorem y20c (x y : BitVec 64) : bI .or .i64 x.toInt y.toInt = (x ||| y).toInt := by
  show IntKind.wrap .i64 ((BitVec.ofInt 64 x.toInt ||| BitVec.ofInt 64 y.toInt).toNat : Int) = _
  rw [y1h, y1h, y39, yhc]
theorem y1vc (x y : BitVec 64) : bI .xor .i64 x.toInt y.toInt = (x ^^^ y).toInt := by
  show IntKind.wrap .i64 ((BitVec.ofInt 64 x.toInt ^^^ BitVec.ofInt 64 y.toInt).toNat : Int) = _
  rw [y1h, y1h, y39, yhc]
theorem y1wr (x y : BitVec 64) : bI .add .i64 x.toInt y.toInt = (x + y).toInt := by
  show IntKind.wrap .i64 (x.toInt + y.toInt) = _
  rw [y39, BitVec.ofInt_add, y1h, y1h]
theorem y1tg (x y : BitVec 64) : bI .sub .i64 x.toInt y.toInt = (x - y).toInt := by
  show IntKind.wrap .i64 (x.toInt - y.toInt) = _
  rw [y39, Int.sub_eq_add_neg, BitVec.ofInt_add, BitVec.ofInt_neg, y1h, y1h, BitVec.sub_eq_add_neg]
theorem y1vk (x y : BitVec 64) : bI .mul .i64 x.toInt y.toInt = (x * y).toInt := by
  show IntKind.wrap .i64 (x.toInt * y.toInt) = _
  rw [y39, BitVec.ofInt_mul, y1h, y1h]
theorem yri (x : BitVec 64) : evUn .xor (iV x) = some (iV (~~~ x)) := by
  show some (AV.int .i64 (IntKind.wrap .i64 ((BitVec.ofInt 64 (-1) ^^^ BitVec.ofInt 64 x.toInt).toNat : Int))) = _
  have : BitVec.ofInt 64 (-1) = BitVec.allOnes 64 := by decide
  rw [y39, y1h, yhc, this, BitVec.allOnes_xor]
theorem y1rt (x : BitVec 64) : IntKind.wrap .i64 (-x.toInt) = (-x).toInt := by rw [y39, BitVec.ofInt_neg, y1h]
theorem y1p1 (x : BitVec 64) {k : Nat} (h : k < 64) : y2 .shl (iV x) (.int .i64 k) = some (iV (x <<< k)) := by
  have h0 : ¬ (k : Int) < 0 := by omega
  have hm : min k 64 = k := by omega
  show (if (k : Int) < 0 then none else some (AV.int .i64 (IntKind.wrap .i64 (x.toInt * 2 ^ (min (k : Int).toNat 64))))) = _
  have e2 : ((2 : Int) ^ k) = ((2 ^ k : Nat) : Int) := by simp
  have e3 : BitVec.ofNat 64 (2 ^ k) = BitVec.twoPow 64 k := BitVec.eq_of_toNat_eq (by rw [BitVec.toNat_twoPow, BitVec.toNat_ofNat])
  rw [if_neg h0, Int.toNat_natCast, hm, y39, BitVec.ofInt_mul, y1h, BitVec.shiftLeft_eq_mul_twoPow, e2, BitVec.ofInt_natCast, e3]
def b01 (b : Bool) : Int := if b then 1 else 0
theorem y1re (b : Bool) : b01 b = (BitVec.setWidth 64 (BitVec.ofBool b)).toInt := by cases b <;> decide
theorem y28i (x : BitVec 64) {k : Nat} (h : k < 64) : ∃ v, y2 .shr (iV x) (.int .i64 k) = some v ∧ y2 .and v (.int .i64 1) = some (.int .i64 (b01 (x.getLsbD k))) := by
  have h0 : ¬ (k : Int) < 0 := by omega
  have hm : min k 64 = k := by omega
  refine ⟨iV (x.sshiftRight k), ?_, ?_⟩
  · show (if (k : Int) < 0 then none else some (AV.int .i64 (Int.fdiv x.toInt (2 ^ (min (k : Int).toNat 64))))) = _
    show _ = some (AV.int .i64 (x.sshiftRight k).toInt)
    rw [if_neg h0, Int.toNat_natCast, hm, BitVec.toInt_sshiftRight, Int.shiftRight_eq_div_pow]
    have e2 : ((2 : Int) ^ k) = ((2 ^ k : Nat) : Int) := by simp
    rw [e2, Int.fdiv_eq_ediv_of_nonneg _ (Int.natCast_nonneg _)]
  · have e1 : (AV.int .i64 1) = iV 1#64 := rfl
    rw [e1, y1o9, y1re]
    congr 3
    refine BitVec.eq_of_getLsbD_eq fun i hi => ?_
    rw [BitVec.getLsbD_and, BitVec.getLsbD_sshiftRight, BitVec.getLsbD_setWidth, BitVec.getLsbD_one, BitVec.getLsbD_ofBool]
    by_cases e : i = 0
    · subst e; simp [h]
    · simp [e, Ne.symm e]
def upB (x : BitVec 64) : Nat → BitVec 64
  | 0 => 0
  | k + 1 => upB x k ||| (BitVec.setWidth 64 (BitVec.ofBool (x.getLsbD k)) <<< k)
theorem y1d6 (x : BitVec 64) : ∀ k i, (upB x k).getLsbD i = (decide (i < k) && x.getLsbD i)
  | 0, i => by simp [upB]
  | k + 1, i => by
    by_cases h64 : 64 ≤ i
    · rw [BitVec.getLsbD_of_ge _ _ h64, BitVec.getLsbD_of_ge _ _ h64, Bool.and_false]
    rw [upB, BitVec.getLsbD_or, y1d6 x k i, BitVec.getLsbD_shiftLeft, BitVec.getLsbD_setWidth, BitVec.getLsbD_ofBool]
    by_cases e : i = k
    · subst e
      have : i < 64 := by omega
      simp [this]
    · by_cases l : i < k
      · have : i < k + 1 := by omega
        simp [l, this]
      · have h1 : ¬ i < k + 1 := by omega
        have h2 : ¬ i - k = 0 := by omega
        simp [l, h1, h2]
theorem y20v (x : BitVec 64) : upB x 64 = x := BitVec.eq_of_getLsbD_eq fun i hi => by rw [y1d6]; simp [hi]
def y1f (x : BitVec 64) (k : Nat) : List Int := (List.range k).map fun i => b01 (x.getLsbD i)
theorem y4l (x : BitVec 64) (k : Nat) : (y1f x k).length = k := by simp [y1f]
theorem y1if (x : BitVec 64) {k i : Nat} (h : i < k) : (y1f x k)[i]? = some (b01 (x.getLsbD i)) := by simp [y1f, h]
theorem y5f (x : BitVec 64) (k : Nat) : y1f x (k + 1) = y1f x k ++ [b01 (x.getLsbD k)] := by simp [y1f, List.range_succ]
def prB (x y : BitVec 64) : Nat → BitVec 64
  | 0 => 0
  | k + 1 => if y.getLsbD k then prB x y k + x <<< k else prB x y k
theorem ysa (x y : BitVec 64) : ∀ k, prB x y (k + 1) = BitVec.mulRec x y k
  | 0 => by
    rw [BitVec.mulRec_zero_eq, prB, prB]
    split <;> simp
  | k + 1 => by
    rw [BitVec.mulRec_succ_eq, ← ysa x y k, prB]
    split <;> simp
theorem y210 (x y : BitVec 64) : prB x y 64 = x * y := by
  rw [ysa, BitVec.mulRec_eq_mul_signExtend_setWidth]
  simp
theorem y1ol {Z Y q r b : Nat} (hZ : Z = Y * q + r) (hr : r < Y) : (r * 2 + b < Y → 2 * Z + b = Y * (q * 2) + (r * 2 + b)) ∧ (Y ≤ r * 2 + b → b < 2 → 2 * Z + b = Y * (q * 2 + 1) + (r * 2 + b - Y) ∧ r * 2 + b - Y < Y) := by
  have e : Y * (q * 2) = 2 * (Y * q) := by rw [← Nat.mul_assoc, Nat.mul_comm]
  refine ⟨fun _ => ?_, fun h hb => ⟨?_, ?_⟩⟩
  · rw [e]; omega
  · rw [Nat.mul_add, e, Nat.mul_one]; omega
  · omega
theorem y1mz (a b : Int) : a.tdiv b = if (a < 0) ≠ (b < 0) then -((a.natAbs / b.natAbs : Nat) : Int) else ((a.natAbs / b.natAbs : Nat) : Int) := by
  by_cases ha : a < 0 <;> by_cases hb : b < 0
  · obtain ⟨m, rfl⟩ : ∃ m : Nat, a = -(m : Int) := ⟨a.natAbs, by omega⟩
    obtain ⟨n, rfl⟩ : ∃ n : Nat, b = -(n : Int) := ⟨b.natAbs, by omega⟩
    rw [if_neg (by simp; omega), Int.neg_tdiv_neg, Int.natAbs_neg, Int.natAbs_neg]; rfl
  · obtain ⟨m, rfl⟩ : ∃ m : Nat, a = -(m : Int) := ⟨a.natAbs, by omega⟩
    obtain ⟨n, rfl⟩ : ∃ n : Nat, b = (n : Int) := ⟨b.natAbs, by omega⟩
    rw [if_pos (by simp; omega), Int.neg_tdiv, Int.natAbs_neg]; rfl
  · obtain ⟨m, rfl⟩ : ∃ m : Nat, a = (m : Int) := ⟨a.natAbs, by omega⟩
    obtain ⟨n, rfl⟩ : ∃ n : Nat, b = -(n : Int) := ⟨b.natAbs, by omega⟩
    rw [if_pos (by simp; omega), Int.tdiv_neg, Int.natAbs_neg]; rfl
  · obtain ⟨m, rfl⟩ : ∃ m : Nat, a = (m : Int) := ⟨a.natAbs, by omega⟩
    obtain ⟨n, rfl⟩ : ∃ n : Nat, b = (n : Int) := ⟨b.natAbs, by omega⟩
    rw [if_neg (by simp [ha, hb])]; rfl
end Go.Vm
namespace Go.Vm
theorem FnFit.num {f : Fn} (hf : FnFit f) : ∀ x ∈ lst f.code, y1j x.n ∧ x.s.length ≤ 9223372036854775807 := fun x hx => ⟨(hf.ins x hx).n, (hf.ins x hx).s⟩
theorem FoldOk.mem {f g : Fn} (k : FoldOk f g) {y : Ins} (hy : y ∈ lst g.code) : ∃ x ∈ lst f.code, Fold1 f x y := by
  obtain ⟨i, hi, e⟩ := List.getElem_of_mem hy
  have hi' : i < (lst f.code).length := by rw [← k.swap.len]; exact hi
  have F := k.at_ i hi'
  have ey : y1a g i = y := by rw [y1a, List.getD_eq_getElem?_getD, List.getElem?_eq_getElem hi, e]; rfl
  rw [ey] at F
  exact ⟨_, List.mem_of_getElem? (yd5 hi'), F⟩
theorem FoldOk.fit {f g : Fn} (k : FoldOk f g) (hf : FnFit f) : FnFit g := by
  refine ⟨fun y hy => ?_, by rw [k.swap.len]; exact hf.code, by rw [k.swap.regs]; exact hf.regs, by rw [k.swap.params]; exact hf.params, by rw [k.swap.rows]; exact hf.rows⟩
  obtain ⟨x, hx, F⟩ := k.mem hy
  refine ⟨F.n, F.s, ?_⟩
  rcases F.args with e | e
  · rw [e]; exact (hf.ins x hx).a
  · rw [e]; exact Nat.zero_le _
theorem FoldOk.args {f g : Fn} (k : FoldOk f g) (hx : y1qh f) : y1qh g := fun y hy => by
  obtain ⟨x, hx2, F⟩ := k.mem hy
  rcases F.args with e | e
  · rw [e]; exact hx x hx2
  · rw [e]; exact Nat.zero_le _
end Go.Vm
namespace Go.Vm
def binI (c : Int) : Ins := ⟨5, 0, 0, 1, 0, c, 0, [], none⟩
def ret0 : Ins := ⟨30, 0, 0, 0, 0, 0, 0, [], none⟩
def y9u (c : Int) : Prop := c = 97 ∨ c = 101 ∨ c = 105 ∨ c = 109 ∨ c = 127 ∨ c = 129 ∨ c = 131
abbrev Cx := List (Int × Int)
def chnC : Cx → List Ins
  | [] => []
  | p :: r => yb 1 p.2 :: binI p.1 :: chnC r
def chnW (w : Int) : Cx → Int
  | [] => w
  | p :: r => chnW (twoM p.1 w p.2) r
def chnR (w : Int) : Cx → List Ins
  | [] => []
  | p :: r => yb 1 p.2 :: yb 0 (twoM p.1 w p.2) :: chnR (twoM p.1 w p.2) r
def chnF (w : Int) (l : Cx) : Fn := ⟨some [2, 2], none, 2, some (yb 0 w :: chnC l ++ [ret0]), none⟩
def chnG (w : Int) (l : Cx) : Fn := ⟨some [2, 2], none, 2, some (yb 0 w :: chnR w l ++ [ret0]), none⟩
def CxOk (l : Cx) : Prop := ∀ p ∈ l, y9u p.1 ∧ y1j p.2
theorem y5q : ∀ l, (chnC l).length = 2 * l.length
  | [] => rfl
  | p :: r => by rw [chnC, List.length_cons, List.length_cons, y5q r, List.length_cons]; omega
theorem yix : ∀ w l, (chnR w l).length = 2 * l.length
  | _, [] => rfl
  | w, p :: r => by rw [chnR, List.length_cons, List.length_cons, yix _ r, List.length_cons]; omega
theorem yps (p : Int × Int) : ∀ l, chnC (l ++ [p]) = chnC l ++ [yb 1 p.2, binI p.1]
  | [] => rfl
  | q :: r => by rw [List.cons_append, chnC, yps p r, chnC]; rfl
theorem yvn (p : Int × Int) : ∀ w l, chnW w (l ++ [p]) = twoM p.1 (chnW w l) p.2
  | _, [] => rfl
  | w, q :: r => by rw [List.cons_append, chnW, yvn p _ r, chnW]
theorem yqi : ∀ (l : Cx) (w : Int), y1j w → y1j (chnW w l)
  | [], _, h => h
  | p :: r, w, h => yqi r _ (y1jo _ h)
theorem yij {x : Ins} : ∀ {l : Cx}, x ∈ chnC l → (∃ p ∈ l, x = yb 1 p.2) ∨ ∃ p ∈ l, x = binI p.1
  | [], h => by cases h
  | p :: r, h => by
    rw [chnC, List.mem_cons, List.mem_cons] at h
    rcases h with h | h | h
    · exact .inl ⟨p, by simp, h⟩
    · exact .inr ⟨p, by simp, h⟩
    · rcases yij h with ⟨q, h1, h2⟩ | ⟨q, h1, h2⟩
      · exact .inl ⟨q, by simp [h1], h2⟩
      · exact .inr ⟨q, by simp [h1], h2⟩
theorem yvz {x : Ins} : ∀ {w : Int} {l : Cx}, x ∈ chnR w l → ∃ d v, (d = 0 ∨ d = 1) ∧ x = yb d v
  | _, [], h => by cases h
  | w, p :: r, h => by
    rw [chnR, List.mem_cons, List.mem_cons] at h
    rcases h with h | h | h
    · exact ⟨1, _, .inr rfl, h⟩
    · exact ⟨0, _, .inl rfl, h⟩
    · exact yvz h
theorem yjv : ∀ (l : Cx) (w : Int), ∃ P, yb 0 w :: chnR w l = P ++ [yb 0 (chnW w l)]
  | [], w => ⟨[], rfl⟩
  | p :: r, w => by
    obtain ⟨P, h⟩ := yjv r (twoM p.1 w p.2)
    refine ⟨yb 0 w :: yb 1 p.2 :: P, ?_⟩
    rw [chnR, h, chnW]; rfl
theorem yje {w : Int} {l : Cx} {x : Ins} (h : x ∈ lst (chnF w l).code) : x = yb 0 w ∨ (∃ p ∈ l, x = yb 1 p.2) ∨ (∃ p ∈ l, x = binI p.1) ∨ x = ret0 := by
  have h' : x ∈ yb 0 w :: chnC l ++ [ret0] := h
  rw [List.cons_append, List.mem_cons, List.mem_append, List.mem_singleton] at h'
  rcases h' with h | h | h
  · exact .inl h
  · rcases yij h with h | h
    · exact .inr (.inl h)
    · exact .inr (.inr (.inl h))
  · exact .inr (.inr (.inr h))
theorem yh6 {f : Fn} {C : List Ins} : ∀ {l : List Ins} {i : Nat}, (∀ x ∈ l, y20 f x = true ∧ ¬ x.op = 32 ∧ leads x.op = false) → y3o f C i l = true
  | [], _, _ => rfl
  | x :: l, i, h => by
    obtain ⟨h1, h2, h3⟩ := h x (by simp)
    rw [y3o, h1, yh6 (fun y hy => h y (by simp [hy])), y47, decide_eq_false h2, h3]
    rfl
theorem yih (w : Int) (l : Cx) : (lst (chnF w l).code).length = 2 * l.length + 2 := by
  show (yb 0 w :: chnC l ++ [ret0]).length = _
  simp [y5q]
theorem y1wd {w : Int} {l : Cx} (hl : l.length ≤ 100) (ho : CxOk l) : wf (chnF w l) = true := by
  have rc : ∀ d v : Int, (d = 0 ∨ d = 1) → y20 (chnF w l) (yb d v) = true := fun d v h => by
    rcases h with rfl | rfl
    · exact ye1 rfl (by show ¬ (2 : Int) = 3; decide) (.inl rfl)
    · exact ye1 rfl (by show ¬ (2 : Int) = 3; decide) (.inl rfl)
  have hco : y3o (chnF w l) (lst (chnF w l).code) 0 (lst (chnF w l).code) = true := yh6 fun x hx => by
    rcases yje hx with rfl | ⟨p, hp, rfl⟩ | ⟨p, hp, rfl⟩ | rfl
    · exact ⟨rc 0 w (.inl rfl), (by show ¬ (1 : Int) = 32; decide), rfl⟩
    · exact ⟨rc 1 p.2 (.inr rfl), (by show ¬ (1 : Int) = 32; decide), rfl⟩
    · refine ⟨?_, (by show ¬ (5 : Int) = 32; decide), rfl⟩
      have := (ho p hp).1
      generalize p.1 = c at this
      rcases this with rfl | rfl | rfl | rfl | rfl | rfl | rfl <;> rfl
    · exact ⟨rfl, by decide, rfl⟩
  have hn := yih w l
  have hlast : (lst (chnF w l).code).getD ((lst (chnF w l).code).length - 1) default = ret0 := by
    rw [hn, List.getD_eq_getElem?_getD]
    show ((yb 0 w :: chnC l ++ [ret0])[2 * l.length + 2 - 1]?).getD default = _
    rw [List.getElem?_append_right (by simp [y5q]), List.length_cons, y5q, show 2 * l.length + 2 - 1 - (2 * l.length + 1) = 0 by omega]
    rfl
  unfold wf
  rw [hco, hlast, hn, decide_eq_true (show 1 ≤ 2 * l.length + 2 by omega), decide_eq_true (show 2 * l.length + 2 ≤ 20000 by omega)]
  rfl
theorem yhe {f : Fn} : ∀ {n : Nat} {k : Int}, k ∈ y3d f n → ∃ j : Nat, k = j ∧ j < n ∧ y92 f j = true
  | 0, k, h => by cases h
  | n + 1, k, h => by
    rw [y3d, List.mem_append] at h
    rcases h with h | h
    · obtain ⟨j, h1, h2, h3⟩ := yhe h
      exact ⟨j, h1, by omega, h3⟩
    · split at h
      · rename_i hh
        rw [List.mem_singleton] at h
        exact ⟨n, h, by omega, hh⟩
      · cases h
theorem y1me {w : Int} {l : Cx} {i : Nat} (h : i < 2 * l.length + 1) : leads (y1a (chnF w l) i).op = false ∧ ends (y1a (chnF w l) i).op = false := by
  have hm : y1a (chnF w l) i ∈ yb 0 w :: chnC l := by
    rw [y1a, List.getD_eq_getElem?_getD]
    show ((yb 0 w :: chnC l ++ [ret0])[i]?).getD default ∈ _
    have hi : i < (yb 0 w :: chnC l).length := by simp [y5q]; omega
    rw [List.getElem?_append_left hi, List.getElem?_eq_getElem hi]
    exact List.getElem_mem hi
  rcases List.mem_cons.1 hm with e | e
  · rw [e]; exact ⟨rfl, rfl⟩
  · rcases yij e with ⟨p, _, e⟩ | ⟨p, _, e⟩ <;> rw [e] <;> exact ⟨rfl, rfl⟩
theorem y12k {w : Int} {l : Cx} {i : Nat} (h0 : 0 < i) (h : i < 2 * l.length + 2) : yfn (chnF w l) (i : Int) = false := by
  rw [yfn, decide_eq_false_iff_not]
  intro hm
  obtain ⟨j, h1, h2, h3⟩ := yhe hm
  have e : i = j := by omega
  subst e
  have m := y1me (w := w) (l := l) (i := i - 1) (by omega)
  have q : (lst (chnF w l).code).any (fun x => leads x.op && decide (x.t = i)) = false := by
    rw [List.any_eq_false]
    intro x hx
    rcases yje hx with rfl | ⟨p, hp, rfl⟩ | ⟨p, hp, rfl⟩ | rfl <;> exact fun h => by cases h
  rw [y92, m.1, m.2, q, decide_eq_false (by omega)] at h3
  cases h3
theorem y226 {hd : Int → Bool} : ∀ (l : Cx) (i : Nat) (kn : Kn) (w : Int), anew kn → aget 0 kn = some w → (∀ j, i ≤ j → j < i + 2 * l.length + 1 → hd (j : Int) = false) → y8l hd i kn (chnC l ++ [ret0]) = chnR w l ++ [ret0]
  | [], i, kn, w, _, _, _ => rfl
  | p :: r, i, kn, w, hn, h0, hh => by
    have a1 : hd (i : Int) = false := hh i (Nat.le_refl _) (by rw [List.length_cons]; omega)
    have a2 : hd ((i + 1 : Nat) : Int) = false := hh (i + 1) (by omega) (by rw [List.length_cons]; omega)
    have f1 : ∀ kn : Kn, y3k (yb 1 p.2) kn = yb 1 p.2 := fun kn => rfl
    have k1 : ∀ (d v : Int) (kn : Kn), 0 ≤ d → y9t (yb d v) kn = aset d v (adel d kn) := fun d v kn h => by
      have : defr (yb d v) = d := rfl
      rw [y9t, this, if_pos h]; rfl
    rw [chnC, List.cons_append, List.cons_append, y8l, y8l, a1, a2]
    simp only [Bool.false_eq_true, if_false]
    rw [f1, k1 1 _ _ (by decide)]
    have n1 := yea 1 p.2 _ (ydm 1 kn hn)
    have g1 : aget 1 (aset 1 p.2 (adel 1 kn)) = some p.2 := by rw [y5e, if_pos rfl]
    have g0 : aget 0 (aset 1 p.2 (adel 1 kn)) = some w := by
      rw [y5e, if_neg (by decide), yf9 _ _ _ hn, if_neg (by decide), h0]
    generalize aset 1 p.2 (adel 1 kn) = kn1 at *
    have f2 : y3k (binI p.1) kn1 = yb 0 (twoM p.1 w p.2) := by
      show (match aget 0 kn1 with
        | some a => (match aget 1 kn1 with
          | some b => yb 0 (twoM p.1 a b)
          | none => binI p.1)
        | none => binI p.1) = _
      rw [g0, g1]
    rw [f2, k1 0 _ _ (by decide), chnR, List.cons_append, List.cons_append]
    congr 2
    refine y226 r (i + 1 + 1) _ _ (yea _ _ _ (ydm _ _ n1)) (by rw [y5e, if_pos rfl]) fun j h1 h2 => hh j (by omega) (by rw [List.length_cons]; omega)
theorem y1e5 (w : Int) (l : Cx) : y220 (chnF w l) = lst (chnG w l).code := by
  show y8l (yfn (chnF w l)) 0 [] (yb 0 w :: (chnC l ++ [ret0])) = yb 0 w :: (chnR w l ++ [ret0])
  rw [y8l, ite_self]
  have e : y3k (yb 0 w) [] = yb 0 w := rfl
  rw [e]
  congr 1
  refine y226 l 1 _ w ?_ rfl fun j h1 h2 => y12k (by omega) (by omega)
  exact ⟨rfl, trivial⟩
theorem y1jb {w : Int} {l : Cx} (hl : l.length ≤ 100) (hw : y1j w) (ho : CxOk l) : FnFit (chnF w l) ∧ FnSm (chnF w l) := by
  have e38 : (2:Nat)^38 = 274877906944 := by decide
  have hn := yih w l
  have r1 : (lst (chnF w l).regs).length = 2 := rfl
  have r2 : (lst (chnF w l).params).length = 0 := rfl
  have r3 : (lst (chnF w l).rows).length = 0 := rfl
  have hx : ∀ x ∈ lst (chnF w l).code, y1j x.n ∧ x.s = [] ∧ x.args = none := by
    intro x hx
    rcases yje hx with rfl | ⟨p, hp, rfl⟩ | ⟨p, hp, rfl⟩ | rfl
    · exact ⟨hw, rfl, rfl⟩
    · exact ⟨(ho p hp).2, rfl, rfl⟩
    · refine ⟨?_, rfl, rfl⟩
      have := (ho p hp).1
      show y1j p.1
      unfold y9u at this
      unfold y1j
      omega
    · exact ⟨by show y1j 0; decide, rfl, rfl⟩
  refine ⟨⟨fun x h => ⟨(hx x h).1, ?_, ?_⟩, by omega, by omega, by omega, by omega⟩, ⟨by omega, by omega, by omega, by omega, fun x h => ?_⟩⟩
  · rw [(hx x h).2.1]; exact Nat.zero_le _
  · rw [(hx x h).2.2]; exact Nat.zero_le _
  · rw [(hx x h).2.2]; exact Nat.zero_le _
end Go.Vm
namespace Go.Vm
open Cel
theorem y28w (x : BitVec 64) {k : Nat} (h : k < 64) : (y6 E).p 143 [iV x, .int .i64 k] = some ⟨.int .i64 (b01 (x.getLsbD k)), [], true, [], []⟩ := by
  obtain ⟨v, e1, e2⟩ := y28i x h
  rw [y2a8, y1s0, e1, y3, e2, y3]
  rfl
theorem y1wa (a : Int) : (y6 E).p 135 [.int .i64 a, .int .i64 64] = some ⟨.int .i64 a, [], true, [], []⟩ := by
  rw [y29d]
  simp [y1jw, y1z1, y1tn, y1y8, y1y4, y1sh]
theorem yao {k : Nat} (h : k < 64) : IntKind.wrap .i64 ((k : Int) + 1) = ((k + 1 : Nat) : Int) := by rw [y16] <;> omega
theorem ylv (x : BitVec 64) : ∀ (d k : Nat), k + d = 64 → ∀ H : Heap, yhy (slA (some (y1f x 64))) (.int .i64 64) (iV (upB x k)) (.int .i64 k) H = y1k1 (.int .i64 64) (iV x) H
  | 0, k, h, H => by
    have : k = 64 := by omega
    subst this
    rw [yk6, y20v]
    simp [y1mr]
  | d + 1, k, h, H => by
    have hk : k < 64 := by omega
    have ih := ylv x d (k + 1) (by omega) H
    have hx : yv 1 (slA (some (y1f x 64))) (.int .i64 k) = some (.rp [.int .i64 (b01 (x.getLsbD k))]) := by
      have hl : k < (y1f x 64).length := by rw [y4l]; exact hk
      have e : (y1f x 64)[k] = b01 (x.getLsbD k) := by
        have := y1if x hk
        rw [List.getElem?_eq_getElem hl] at this
        exact Option.some.inj this
      have := y59 (o := some (y1f x 64)) (i := k) (by rw [y5s, List.getElem?_eq_getElem hl]) .i64
      rw [e] at this
      exact this
    have hl : evLd false 1 (.rp [.int .i64 (b01 (x.getLsbD k))]) H = some (.int .i64 (b01 (x.getLsbD k))) := rfl
    rw [yk6]
    have hlt : decide ((k : Int) < 64) = true := by simp; omega
    have hs : y2 .shl (.int .i64 (b01 (x.getLsbD k))) (.int .i64 k) = some (iV (BitVec.setWidth 64 (BitVec.ofBool (x.getLsbD k)) <<< k)) := by
      rw [y1re]
      exact y1p1 _ hk
    simp only [y1mr, yf, hlt, y3, yx, y1tz, hx, hl, hs, y1xz, y1wp, yn, yao hk]
    exact ih
theorem y22f (x : BitVec 64) : (y6 E).p 144 [slA (some (y1f x 64)), .int .i64 64] = some ⟨iV x, [], true, [], []⟩ := by
  rw [y2a9]
  have h0 := ylv x 64 0 rfl
  have hc : ∀ H : Heap, y4 E (y6 E) 0 none true 135 [iV x, .int .i64 64] H = some (iV x, H) := fun H => yp (fa := ⟨[iV x, .int .i64 64], true, []⟩) rfl rfl rfl (y1wa _) ⟨_, rfl, rfl⟩
  have h1 : (iV (upB x 0)) = .int .i64 0 := by rw [upB]; rfl
  rw [h1] at h0
  show yhy (slA (some (y1f x 64))) (.int .i64 64) (.int .i64 0) (.int .i64 ((0 : Nat) : Int)) [] = _
  rw [h0, y1k1, hc]
  rfl
section
theorem yfr (x : BitVec 64) {k : Nat} (h : k < 64) (H : Heap) : y4 E (y6 E) 0 none true 143 [iV x, .int .i64 k] H = some (.int .i64 (b01 (x.getLsbD k)), H) := yp (fa := ⟨[iV x, .int .i64 k], true, []⟩) rfl rfl rfl (y28w x h) ⟨_, rfl, rfl⟩
end
abbrev HB (o0 : AO) (g : Nat) (x : BitVec 64) (k : Nat) : Heap := [o0, y3v (α := Int) g D0 (y1f x k)]
theorem y7h (x : BitVec 64) {H : Heap} {j g : Nat} {o : AO} (h : H[j]? = some (y3v (α := Int) g o (y1f x 64))) : y4 E (y6 E) 0 none true 144 [y1o Int j g (y1f x 64), .int .i64 64] H = some (iV x, H) := by
  have e : nz (y1f x 64) = some (y1f x 64) := by
    have := y4l x 64
    cases hb : y1f x 64 with
    | nil => rw [hb] at this; cases this
    | cons a L => rfl
  refine ynz (fa := ⟨[slA (some (y1f x 64)), .int .i64 64], true, ids1 (y1o Int j g (y1f x 64)) ++ []⟩) rfl ?_ rfl (y22f x) ⟨_, rfl, rfl⟩
  rw [y10, y1li h, e]
  rfl
theorem y1dq (a b : BitVec 64) (c : Bool) {k : Nat} (h : k < 64) :
    (b01 (a.getLsbD k) + b01 (b.getLsbD k) + b01 (BitVec.carry k a b c)).tmod 2 = b01 ((a + b + BitVec.setWidth 64 (BitVec.ofBool c)).getLsbD k) ∧
    (b01 (a.getLsbD k) + b01 (b.getLsbD k) + b01 (BitVec.carry k a b c)).tdiv 2 = b01 (BitVec.carry (k + 1) a b c) := by
  rw [BitVec.getLsbD_add_add_bool h, BitVec.carry_succ]
  cases a.getLsbD k <;> cases b.getLsbD k <;> cases BitVec.carry k a b c <;> exact ⟨by decide, by decide⟩
theorem yrs (a b : BitVec 64) (c : Bool) : ∀ (d k : Nat), k + d = 64 → ∀ (g : Nat) (o0 : AO), ∃ g' o0', ybq (iV a) (iV b) (.int .i64 (b01 (BitVec.carry k a b c))) (.int .i64 64) (y1o Int 1 g (y1f (a + b + BitVec.setWidth 64 (BitVec.ofBool c)) k)) (.int .i64 k) (HB o0 g (a + b + BitVec.setWidth 64 (BitVec.ofBool c)) k) = yvx (.int .i64 64) (y1o Int 1 g' (y1f (a + b + BitVec.setWidth 64 (BitVec.ofBool c)) 64)) (HB o0' g' (a + b + BitVec.setWidth 64 (BitVec.ofBool c)) 64)
  | 0, k, h, g, o0 => by
    have : k = 64 := by omega
    subst this
    refine ⟨g, o0, ?_⟩
    rw [ygy]
    simp [yq4]
  | d + 1, k, h, g, o0 => by
    have hk : k < 64 := by omega
    generalize hx : a + b + BitVec.setWidth 64 (BitVec.ofBool c) = x
    have ih := yrs a b c d (k + 1) (by omega)
    rw [hx] at ih
    obtain ⟨q1, q2⟩ := y1dq a b c hk
    rw [hx] at q1
    have hb1 : y2 .rem (.int .i64 (b01 (a.getLsbD k) + b01 (b.getLsbD k) + b01 (BitVec.carry k a b c))) (.int .i64 2) = some (.int .i64 (b01 (x.getLsbD k))) := by
      rw [← q1]; simp [y2, y18, y1z]
    have hb2 : y2 .quo (.int .i64 (b01 (a.getLsbD k) + b01 (b.getLsbD k) + b01 (BitVec.carry k a b c))) (.int .i64 2) = some (.int .i64 (b01 (BitVec.carry (k + 1) a b c))) := by
      have : IntKind.wrap .i64 (b01 (BitVec.carry (k + 1) a b c)) = b01 (BitVec.carry (k + 1) a b c) := by cases BitVec.carry (k + 1) a b c <;> decide
      rw [← this, ← q2]; simp [y2, y18, y1z]
    have w1 : IntKind.wrap .i64 (b01 (a.getLsbD k) + b01 (b.getLsbD k)) = b01 (a.getLsbD k) + b01 (b.getLsbD k) := by cases a.getLsbD k <;> cases b.getLsbD k <;> decide
    have w2 : IntKind.wrap .i64 (b01 (a.getLsbD k) + b01 (b.getLsbD k) + b01 (BitVec.carry k a b c)) = b01 (a.getLsbD k) + b01 (b.getLsbD k) + b01 (BitVec.carry k a b c) := by cases a.getLsbD k <;> cases b.getLsbD k <;> cases BitVec.carry k a b c <;> decide
    obtain ⟨gs, hs⟩ : ∃ gs, y12 0 (some 0) 1 1 [.int .i64 0] [(0, .int .i64 (b01 (x.getLsbD k)))] (HB o0 g x k) = some (.ls 0 gs 1 0 1, HB (AI gs [b01 (x.getLsbD k)]) g x k) := ⟨_, rfl⟩
    obtain ⟨g', ha⟩ := yb5 (fb := 0) (j := 1) (g := g) (o := D0) (y := .ls 0 gs 1 0 1) (L := y1f x k) (n := b01 (x.getLsbD k)) (H := HB (AI gs [b01 (x.getLsbD k)]) g x k) (by simp [y1p, yk, y2x]) rfl (by rw [y4l]; omega)
    rw [← y5f] at ha
    have ha2 : y2k 0 (some 1) 1 8 (y1o Int 1 g (y1f x k)) (.ls 0 gs 1 0 1) (HB (AI gs [b01 (x.getLsbD k)]) g x k) = some (y1o Int 1 g' (y1f x (k + 1)), HB (AI gs [b01 (x.getLsbD k)]) g' x (k + 1)) := ha
    have hlt : decide ((k : Int) < 64) = true := by simp; omega
    obtain ⟨g2, o2, e⟩ := ih g' (AI gs [b01 (x.getLsbD k)])
    refine ⟨g2, o2, ?_⟩
    rw [← e, ygy]
    simp only [yq4, yf, hlt, y3, yx, y120, yfr a hk, yfr b hk, yc, yn, w1, w2, hb1, hb2, hs, ha2, yzu, yao hk]
theorem y2a3 (a b : BitVec 64) (c : Bool) : (y6 E).p 138 [iV a, iV b, .int .i64 (b01 c), .int .i64 64] = some ⟨iV (a + b + BitVec.setWidth 64 (BitVec.ofBool c)), [], true, [], []⟩ := by
  rw [y230]
  obtain ⟨g', o', e⟩ := yrs a b c 64 0 rfl 0 D0
  rw [BitVec.carry_zero] at e
  show ybq (iV a) (iV b) (.int .i64 (b01 c)) (.int .i64 64) .nils (.int .i64 ((0 : Nat) : Int)) [D0, D0] = _
  refine e.trans ?_
  rw [yvx, y7h (o := D0) _ rfl]
  rfl
theorem y1pa (a b : BitVec 64) (c : Bool) (H : Heap) : y4 E (y6 E) 0 none true 138 [iV a, iV b, .int .i64 (b01 c), .int .i64 64] H = some (iV (a + b + BitVec.setWidth 64 (BitVec.ofBool c)), H) := yp (fa := ⟨[iV a, iV b, .int .i64 (b01 c), .int .i64 64], true, []⟩) rfl rfl rfl (y2a3 a b c) ⟨_, rfl, rfl⟩
theorem y1hb (o0 : AO) (g : Nat) (x : BitVec 64) {k : Nat} (hk : k < 64) : ∃ gs g', y12 0 (some 0) 1 1 [.int .i64 0] [(0, .int .i64 (b01 (x.getLsbD k)))] (HB o0 g x k) = some (.ls 0 gs 1 0 1, HB (AI gs [b01 (x.getLsbD k)]) g x k) ∧
    y2k 0 (some 1) 1 8 (y1o Int 1 g (y1f x k)) (.ls 0 gs 1 0 1) (HB (AI gs [b01 (x.getLsbD k)]) g x k) = some (y1o Int 1 g' (y1f x (k + 1)), HB (AI gs [b01 (x.getLsbD k)]) g' x (k + 1)) := by
  obtain ⟨gs, hs⟩ : ∃ gs, y12 0 (some 0) 1 1 [.int .i64 0] [(0, .int .i64 (b01 (x.getLsbD k)))] (HB o0 g x k) = some (.ls 0 gs 1 0 1, HB (AI gs [b01 (x.getLsbD k)]) g x k) := ⟨_, rfl⟩
  obtain ⟨g', ha⟩ := yb5 (fb := 0) (j := 1) (g := g) (o := D0) (y := .ls 0 gs 1 0 1) (L := y1f x k) (n := b01 (x.getLsbD k)) (H := HB (AI gs [b01 (x.getLsbD k)]) g x k) (by simp [y1p, yk, y2x]) rfl (by rw [y4l]; omega)
  rw [← y5f] at ha
  exact ⟨gs, g', hs, ha⟩
theorem yhr (a : BitVec 64) {m : Nat} (hm : m < 64) : ∀ (d k : Nat), k + d = 64 → ∀ (g : Nat) (o0 : AO), ∃ g' o0', ybs (iV a) (.int .i64 m) (.int .i64 64) (.bool false) (.bool false) (y1o Int 1 g (y1f (a <<< m) k)) (.int .i64 k) (HB o0 g (a <<< m) k) = yr5 (.int .i64 64) (y1o Int 1 g' (y1f (a <<< m) 64)) (HB o0' g' (a <<< m) 64)
  | 0, k, h, g, o0 => by
    have : k = 64 := by omega
    subst this
    refine ⟨g, o0, ?_⟩
    rw [yhv]
    simp [yec]
  | d + 1, k, h, g, o0 => by
    have hk : k < 64 := by omega
    have hx : (a <<< m).getLsbD k = (decide (m ≤ k) && a.getLsbD (k - m)) := by
      rw [BitVec.getLsbD_shiftLeft]
      by_cases h2 : k < m
      · have : ¬ m ≤ k := by omega
        simp [h2, this]
      · have : m ≤ k := by omega
        simp [h2, this, hk]
    have ih := yhr a hm d (k + 1) (by omega)
    generalize a <<< m = x at *
    obtain ⟨gs, g', hs, ha⟩ := y1hb o0 g x hk
    have hlt : decide ((k : Int) < 64) = true := by simp; omega
    have w1 : IntKind.wrap .i64 ((k : Int) - m) = (k : Int) - m := y16 (by omega) (by omega)
    obtain ⟨g2, o2, e⟩ := ih g' (AI gs [b01 (x.getLsbD k)])
    refine ⟨g2, o2, ?_⟩
    rw [← e, yhv]
    by_cases h2 : m ≤ k
    · have h3 : decide ((0 : Int) ≤ (k : Int) - m) = true := by simp; omega
      have h4 : decide ((k : Int) - m < 64) = true := by simp; omega
      have h5 : ((k : Int) - m) = ((k - m : Nat) : Int) := by omega
      have hb := yfr a (show k - m < 64 by omega)
      rw [decide_eq_true h2, Bool.true_and] at hx
      rw [← hx, ← h5] at hb
      simp only [yec, yf, hlt, y3, yx, yqw, y37, w1, yul, y15, ykg, ypi, y3b, h3, yb9, h4, y2i, hb, yc, yhj, hs, ha, ypr, yn, yao hk]
    · have h3 : decide ((0 : Int) ≤ (k : Int) - m) = false := by simp; omega
      rw [decide_eq_false h2, Bool.false_and] at hx
      rw [hx] at hs ha
      have b0 : b01 false = 0 := rfl
      rw [b0] at hs ha
      rw [hx]
      simp only [yec, yf, hlt, y3, yx, yqw, y37, w1, yul, y15, ykg, ypi, y3b, h3, ylz, y25, ycs, yc, yhj, hs, ha, ypr, yn, yao hk, b0]
theorem y1yg (a : BitVec 64) {m : Nat} (hm : m < 64) : (y6 E).p 141 [iV a, .int .i64 m, .int .i64 64, .bool false, .bool false] = some ⟨iV (a <<< m), [], true, [], []⟩ := by
  rw [y25i]
  obtain ⟨g', o', e⟩ := yhr a hm 64 0 rfl 0 D0
  show ybs (iV a) (.int .i64 m) (.int .i64 64) (.bool false) (.bool false) .nils (.int .i64 ((0 : Nat) : Int)) [D0, D0] = _
  refine e.trans ?_
  rw [yr5, y7h (o := D0) _ rfl]
  rfl
theorem y1x9 (a : BitVec 64) {m : Nat} (hm : m < 64) (H : Heap) : y4 E (y6 E) 0 none true 141 [iV a, .int .i64 m, .int .i64 64, .bool false, .bool false] H = some (iV (a <<< m), H) := yp (fa := ⟨[iV a, .int .i64 m, .int .i64 64, .bool false, .bool false], true, []⟩) rfl rfl rfl (y1yg a hm) ⟨_, rfl, rfl⟩
theorem ym4 (a b : BitVec 64) : ∀ (d k : Nat), k + d = 64 → ∀ H : Heap, yb7 (iV a) (iV b) (.int .i64 64) (iV (prB a b k)) (.int .i64 k) H = yqy (iV (a * b)) H
  | 0, k, h, H => by
    have : k = 64 := by omega
    subst this
    rw [yh5, y210]
    simp [yue]
  | d + 1, k, h, H => by
    have hk : k < 64 := by omega
    have ih := ym4 a b d (k + 1) (by omega) H
    rw [← ih, yh5, prB]
    have hlt : decide ((k : Int) < 64) = true := by simp; omega
    have hs : ∀ y : BitVec 64, y4 E (y6 E) 0 none true 138 [iV (prB a b k), iV y, .int .i64 0, .int .i64 64] H = some (iV (prB a b k + y), H) := fun y => by
      have := y1pa (prB a b k) y false H
      rw [show BitVec.setWidth 64 (BitVec.ofBool false) = 0#64 from rfl, BitVec.add_zero] at this
      exact this
    simp only [yue, yf, hlt, y3, yx, y172, yfr b hk, yc, y9]
    cases b.getLsbD k
    · have : decide (b01 false = 1) = false := rfl
      simp only [this, y15, ymi, yn, yao hk, y3, Bool.false_eq_true, if_false]
    · have : decide (b01 true = 1) = true := rfl
      simp only [this, yx, y1x9 a hk, yc, hs, ymi, yn, yao hk, y3, if_true]
theorem y1dv (a b : BitVec 64) : (y6 E).p 139 [iV a, iV b, .int .i64 64] = some ⟨iV (a * b), [], true, [], []⟩ := by
  rw [y25v]
  show yb7 (iV a) (iV b) (.int .i64 64) (iV (prB a b 0)) (.int .i64 ((0 : Nat) : Int)) [] = _
  rw [ym4 a b 64 0 rfl, yqy]
  rfl
theorem yyn (a : BitVec 64) : (y6 E).p 145 [iV a, .int .i64 64] = some ⟨iV (-a), [], true, [], []⟩ := by
  rw [y21m]
  have h := y1pa 0#64 (~~~ a) true []
  rw [show (0#64 + ~~~ a + BitVec.setWidth 64 (BitVec.ofBool true)) = -a by rw [BitVec.zero_add, BitVec.neg_eq_not_add]; rfl] at h
  have h' : y4 E (y6 E) 0 none true 138 [.int .i64 0, iV (~~~ a), .int .i64 1, .int .i64 64] [] = some (iV (-a), []) := h
  rw [y1ax, yri, y3, h', yc]
  rfl
theorem yxg {a : Int} (h : y1j a) : (y6 E).p 146 [.int .i64 a] = some ⟨.int .u64 a.natAbs, [], true, [], []⟩ := by
  rw [y29j]
  unfold y1j at h
  by_cases h0 : a < 0
  · have w1 : IntKind.wrap .i64 (a + 1) = a + 1 := y16 (by omega) (by omega)
    have w2 : evUn .neg (.int .i64 (a + 1)) = some (.int .i64 (-(a + 1))) := by
      show some (AV.int .i64 (IntKind.wrap .i64 (0 - (a + 1)))) = _
      rw [y16 (by omega) (by omega), Int.zero_sub]
    have w3 : IntKind.wrap .u64 (-(a + 1)) = -(a + 1) := by simp [IntKind.wrap, IntKind.bits, IntKind.signed]; omega
    have w4 : IntKind.wrap .u64 (-(a + 1) + 1) = (a.natAbs : Int) := by simp [IntKind.wrap, IntKind.bits, IntKind.signed]; omega
    simp only [y1m2, y1im, y1hk, yf, decide_eq_true h0, y3, yx, yn, w1, w2, y4n, w3, w4]
    rfl
  · have w3 : IntKind.wrap .u64 a = (a.natAbs : Int) := by simp [IntKind.wrap, IntKind.bits, IntKind.signed]; omega
    simp only [y1m2, y1im, y1hk, yf, decide_eq_false h0, y3, y15, y4n, w3]
    rfl
theorem yme {n : Nat} (h : n < 18446744073709551616) : IntKind.wrap .u64 (n : Int) = (n : Int) := by
  simp [IntKind.wrap, IntKind.bits, IntKind.signed]; omega
theorem y1f1 {n k : Nat} (h : k < 64) : y2 .shr (.int .u64 n) (.int .i64 k) = some (.int .u64 ((n / 2 ^ k : Nat) : Int)) := by
  have h0 : ¬ (k : Int) < 0 := by omega
  have hm : min k 64 = k := by omega
  show (if (k : Int) < 0 then none else some (AV.int .u64 (Int.fdiv (n : Int) (2 ^ (min (k : Int).toNat 64))))) = _
  have e2 : ((2 : Int) ^ k) = ((2 ^ k : Nat) : Int) := by simp
  rw [if_neg h0, Int.toNat_natCast, hm, e2, Int.fdiv_eq_ediv_of_nonneg _ (Int.natCast_nonneg _), Int.natCast_ediv]
theorem y1q0 {n : Nat} (h : n < 9223372036854775808) : y2 .shr (.int .u64 n) (.int .u64 63) = some (.int .u64 0) := by
  show some (AV.int .u64 (Int.fdiv (n : Int) (2 ^ 63))) = _
  have e2 : ((2 : Int) ^ 63) = ((2 ^ 63 : Nat) : Int) := by decide
  have e3 : n / 2 ^ 63 = 0 := Nat.div_eq_of_lt (by simpa using h)
  rw [e2, Int.fdiv_eq_ediv_of_nonneg _ (Int.natCast_nonneg _), ← Int.natCast_ediv, e3]
  rfl
theorem yiz (v0 v1 : AV) {X Y : Nat} (hX : X < 18446744073709551616) (hY : Y ≤ 9223372036854775808) : ∀ (k q r : Nat), k ≤ 64 → X / 2 ^ k = Y * q + r → r < Y → ∀ H : Heap, ∃ r' : Nat, yju v0 v1 (.int .u64 X) (.int .u64 Y) (.int .u64 q) (.int .u64 r) (.int .i64 ((k : Int) - 1)) H = yki v0 v1 (.int .u64 ((X / Y : Nat) : Int)) (.int .u64 r') H
  | 0, q, r, _, h1, h2, H => by
    refine ⟨r, ?_⟩
    have hq : X / Y = q := by
      rw [show X = X / 2 ^ 0 by simp, h1, Nat.mul_add_div (by omega), Nat.div_eq_of_lt h2, Nat.add_zero]
    rw [ymc, hq]
    have : decide ((0 : Int) ≤ ((0 : Nat) : Int) - 1) = false := rfl
    simp only [y117, y3b, this, y3, y15]
  | k + 1, q, r, hk, h1, h2, H => by
    have hk : k < 64 := by omega
    have e1 : ((k + 1 : Nat) : Int) - 1 = (k : Int) := by omega
    have hb : X / 2 ^ k = 2 * (X / 2 ^ (k + 1)) + X / 2 ^ k % 2 := by
      rw [Nat.pow_succ, ← Nat.div_div_eq_div_mul]; omega
    have hb2 : X / 2 ^ k % 2 < 2 := Nat.mod_lt _ (by omega)
    have hZ : X / 2 ^ k ≤ X := Nat.div_le_self _ _
    rw [hb] at hZ
    generalize hB : X / 2 ^ k % 2 = b at *
    have hqZ : q ≤ X / 2 ^ (k + 1) := by
      rw [h1]
      have : 1 * q ≤ Y * q := Nat.mul_le_mul_right q (by omega)
      omega
    obtain ⟨d1, d2⟩ := y1ol (b := b) h1 h2
    have m1 : y2 .mul (.int .u64 r) (.int .u64 2) = some (.int .u64 ((r * 2 : Nat) : Int)) := by
      show some (AV.int .u64 (IntKind.wrap .u64 ((r : Int) * 2))) = _
      rw [← yme (n := r * 2) (by omega)]; rfl
    have m2 : y2 .mul (.int .u64 q) (.int .u64 2) = some (.int .u64 ((q * 2 : Nat) : Int)) := by
      show some (AV.int .u64 (IntKind.wrap .u64 ((q : Int) * 2))) = _
      rw [← yme (n := q * 2) (by omega)]; rfl
    have m3 : y2 .rem (.int .u64 ((X / 2 ^ k : Nat) : Int)) (.int .u64 2) = some (.int .u64 (b : Int)) := by
      rw [← hB]
      show some (AV.int .u64 (Int.tmod ((X / 2 ^ k : Nat) : Int) 2)) = _
      congr 2
    have m4 : IntKind.wrap .u64 (((r * 2 : Nat) : Int) + (b : Int)) = ((r * 2 + b : Nat) : Int) := by
      rw [← yme (n := r * 2 + b) (by omega)]; rfl
    have ge0 : decide ((0 : Int) ≤ (k : Int)) = true := by simp
    have z1 : decide ((0 : Int) = 1) = false := rfl
    rw [ymc, e1]
    by_cases hc : Y ≤ r * 2 + b
    · obtain ⟨f1, f2⟩ := d2 hc hb2
      obtain ⟨r', e⟩ := yiz v0 v1 hX hY k (q * 2 + 1) (r * 2 + b - Y) (by omega) (by rw [hb]; exact f1) f2 H
      refine ⟨r', ?_⟩
      rw [← e]
      have c1 : decide ((Y : Int) ≤ ((r * 2 + b : Nat) : Int)) = true := by simp only [decide_eq_true_eq]; omega
      have w1 : IntKind.wrap .u64 (((r * 2 + b : Nat) : Int) - (Y : Int)) = ((r * 2 + b - Y : Nat) : Int) := by
        rw [← yme (n := r * 2 + b - Y) (by omega)]; congr 1; omega
      have w2 : IntKind.wrap .u64 (((q * 2 : Nat) : Int) + 1) = ((q * 2 + 1 : Nat) : Int) := by
        rw [← yme (n := q * 2 + 1) (by omega)]; rfl
      have w3 : IntKind.wrap .i64 ((k : Int) - 1) = (k : Int) - 1 := y16 (by omega) (by omega)
      simp only [y117, y3b, ge0, y3, yx, y1mp, y1q0 (show r < 9223372036854775808 by omega), m1, y1f1 hk, m3, yn, m4, m2, y9, z1, yct, c1, y25, y37, w1, w2, y0z, w3]
    · obtain ⟨r', e⟩ := yiz v0 v1 hX hY k (q * 2) (r * 2 + b) (by omega) (by rw [hb]; exact d1 (by omega)) (by omega) H
      refine ⟨r', ?_⟩
      rw [← e]
      have c1 : decide ((Y : Int) ≤ ((r * 2 + b : Nat) : Int)) = false := by simp only [decide_eq_false_iff_not]; omega
      have w3 : IntKind.wrap .i64 ((k : Int) - 1) = (k : Int) - 1 := y16 (by omega) (by omega)
      simp only [y117, y3b, ge0, y3, yx, y1mp, y1q0 (show r < 9223372036854775808 by omega), m1, y1f1 hk, m3, yn, m4, m2, y9, z1, yct, c1, y25, y15, y37, y0z, w3]
theorem ytd (n : Int) : IntKind.wrap .i64 (0 - IntKind.wrap .i64 n) = IntKind.wrap .i64 (-n) := by
  rw [Int.zero_sub, y39 n, y1rt, y39, BitVec.ofInt_neg]
theorem yt1 {a : Int} (h : y1j a) (H : Heap) : y4 E (y6 E) 0 none true 146 [.int .i64 a] H = some (.int .u64 a.natAbs, H) := yp (fa := ⟨[.int .i64 a], true, []⟩) rfl rfl rfl (yxg h) ⟨_, rfl, rfl⟩
theorem y1x4 (a b : Int) (r : Nat) (Q : Nat) (H : Heap) : ∃ r' : Int, yki (.int .i64 a) (.int .i64 b) (.int .u64 Q) (.int .u64 r) H = yyv (.int .i64 (IntKind.wrap .i64 (if (a < 0) ≠ (b < 0) then -(Q : Int) else (Q : Int)))) (.int .i64 r') H := by
  have ng : ∀ n : Int, evUn .neg (.int .i64 n) = some (.int .i64 (IntKind.wrap .i64 (0 - n))) := fun n => rfl
  have e4 : ∃ r', ∀ v14 : AV, yxv (.int .i64 a) v14 (.int .i64 (IntKind.wrap .i64 r)) H = yyv v14 (.int .i64 r') H := by
    by_cases h : a < 0
    · exact ⟨IntKind.wrap .i64 (0 - IntKind.wrap .i64 r), fun v14 => by simp only [yxv, yf, decide_eq_true h, y3, yx, ng]⟩
    · exact ⟨IntKind.wrap .i64 r, fun v14 => by simp only [yxv, yf, decide_eq_false h, y3, y15]⟩
  obtain ⟨r', e4⟩ := e4
  refine ⟨r', ?_⟩
  have q1 : ∀ x y : Bool, yzc true (.bool x) (.bool y) = some (.bool (x != y)) := fun x y => by cases x <;> cases y <;> rfl
  by_cases ha : a < 0 <;> by_cases hb : b < 0
  · rw [if_neg (by simp [ha, hb])]
    simp only [yki, yxx, yyc, y4n, y3, yf, ha, hb, decide_true, q1, bne_self_eq_false, y15, e4]
  · rw [if_pos (by simp [ha, hb])]
    have : (true != false) = true := rfl
    simp only [yki, yxx, yyc, y4n, y3, yf, ha, hb, decide_true, decide_false, q1, this, yx, ng, ytd, e4]
  · rw [if_pos (by simp [ha, hb])]
    have : (false != true) = true := rfl
    simp only [yki, yxx, yyc, y4n, y3, yf, ha, hb, decide_true, decide_false, q1, this, yx, ng, ytd, e4]
  · rw [if_neg (by simp [ha, hb])]
    simp only [yki, yxx, yyc, y4n, y3, yf, ha, hb, decide_false, q1, bne_self_eq_false, y15, e4]
theorem ynm {a b : Int} (ha : y1j a) (hb : y1j b) : ∃ r : Int, (y6 E).p 140 [.int .i64 a, .int .i64 b, .int .i64 64] = some ⟨.tup [.int .i64 (divM false a b), .int .i64 r], [], true, [], []⟩ := by
  rw [y298]
  unfold divM
  by_cases h0 : b = 0
  · refine ⟨0, ?_⟩
    simp only [ykw, yjx, y9, h0, decide_true, y3, yx, if_true]
    rfl
  · by_cases h1 : b = -1
    · refine ⟨0, ?_⟩
      have h := yyn (BitVec.ofInt 64 a)
      rw [iV, y1i2 ha, iV, ← y1rt, y1i2 ha] at h
      have hc : ∀ H : Heap, y4 E (y6 E) 0 none true 145 [.int .i64 a, .int .i64 64] H = some (.int .i64 (IntKind.wrap .i64 (-a)), H) := fun H => yp (fa := ⟨[.int .i64 a, .int .i64 64], true, []⟩) rfl rfl rfl h ⟨_, rfl, rfl⟩
      have z : decide ((-1 : Int) = 0) = false := rfl
      simp only [ykw, yjx, y9, h1, z, y3, y15, yr4, decide_true, yx, hc, yc, if_true]
      rfl
    · have hX : a.natAbs < 18446744073709551616 := by unfold y1j at ha; omega
      have hY : b.natAbs ≤ 9223372036854775808 := by unfold y1j at hb; omega
      have hz : a.natAbs / 2 ^ 64 = b.natAbs * 0 + 0 := by rw [Nat.div_eq_of_lt (by simpa using hX)]; simp
      obtain ⟨r, e⟩ := yiz (.int .i64 a) (.int .i64 b) hX hY 64 0 0 (Nat.le_refl _) hz (by omega) []
      obtain ⟨r', e'⟩ := y1x4 a b r (a.natAbs / b.natAbs) []
      refine ⟨r', ?_⟩
      rw [if_neg h0, if_neg h1, y1mz]
      have e63 : (((64 : Nat) : Int) - 1) = 63 := rfl
      rw [e63] at e
      have z0 : (.int .u64 ((0 : Nat) : Int) : AV) = .int .u64 0 := rfl
      rw [z0] at e
      simp only [ykw, yjx, y9, decide_eq_false h0, y3, y15, yr4, decide_eq_false h1, yzh, yt1 ha, yc, y150, yt1 hb, y17p, y1dp, e, e', yyv]
      rfl
abbrev HL0 (o0 : AO) (g : Nat) (x : BitVec 64) (k : Nat) : Heap := [o0, y3v (α := Int) g D0 (y1f x k), D0, D0, D0, D0]
theorem yeu (a b : BitVec 64) : ∀ (d k : Nat), k + d = 64 → ∀ (g : Nat) (o0 : AO), ∃ g' o0', y8v (.int .i64 0) (iV a) (iV b) (.int .i64 64) (y1o Int 1 g (y1f (a &&& b) k)) (.int .i64 k) (HL0 o0 g (a &&& b) k) = ylu (.int .i64 64) (y1o Int 1 g' (y1f (a &&& b) 64)) (HL0 o0' g' (a &&& b) 64)
  | 0, k, h, g, o0 => by
    have : k = 64 := by omega
    subst this
    refine ⟨g, o0, ?_⟩
    rw [y5c]
    simp [ym7]
  | d + 1, k, h, g, o0 => by
    have hk : k < 64 := by omega
    have hx : (a &&& b).getLsbD k = (a.getLsbD k && b.getLsbD k) := by simp
    have ih := yeu a b d (k + 1) (by omega)
    generalize a &&& b = x at *
    obtain ⟨gs, hs⟩ : ∃ gs, y12 0 (some 0) 1 1 [.int .i64 0] [(0, .int .i64 (b01 (x.getLsbD k)))] (HL0 o0 g x k) = some (.ls 0 gs 1 0 1, HL0 (AI gs [b01 (x.getLsbD k)]) g x k) := ⟨_, rfl⟩
    obtain ⟨g', ha⟩ := yb5 (fb := 0) (j := 1) (g := g) (o := D0) (y := .ls 0 gs 1 0 1) (L := y1f x k) (n := b01 (x.getLsbD k)) (H := HL0 (AI gs [b01 (x.getLsbD k)]) g x k) (by simp [y1p, yk, y2x]) rfl (by rw [y4l]; omega)
    rw [← y5f] at ha
    have ha2 : y2k 0 (some 1) 1 8 (y1o Int 1 g (y1f x k)) (.ls 0 gs 1 0 1) (HL0 (AI gs [b01 (x.getLsbD k)]) g x k) = some (y1o Int 1 g' (y1f x (k + 1)), HL0 (AI gs [b01 (x.getLsbD k)]) g' x (k + 1)) := ha
    have hlt : decide ((k : Int) < 64) = true := by simp; omega
    have k0 : decide ((0 : Int) = 0) = true := rfl
    have k1 : decide ((0 : Int) = 1) = false := rfl
    have f1 : y2 .mul (.int .i64 (b01 (a.getLsbD k))) (.int .i64 (b01 (b.getLsbD k))) = some (.int .i64 (b01 (x.getLsbD k))) := by
      rw [hx]; cases a.getLsbD k <;> cases b.getLsbD k <;> rfl
    obtain ⟨g2, o2, e⟩ := ih g' (AI gs [b01 (x.getLsbD k)])
    refine ⟨g2, o2, ?_⟩
    rw [← e, y5c]
    simp only [ym7, yf, hlt, y3, yx, y15, y1h7, yfr a hk, yfr b hk, yc, y9, k0, k1, decide_true, f1, hs, ha2, yms, yn, yao hk]
theorem y1je (a b : BitVec 64) : (y6 E).p 142 [.int .i64 0, iV a, iV b, .int .i64 64] = some ⟨iV (a &&& b), [], true, [], []⟩ := by
  rw [y1x8]
  obtain ⟨g', o', e⟩ := yeu a b 64 0 rfl 0 D0
  show y8v (.int .i64 0) (iV a) (iV b) (.int .i64 64) .nils (.int .i64 ((0 : Nat) : Int)) [D0, D0, D0, D0, D0, D0] = _
  refine e.trans ?_
  rw [ylu, y7h (o := D0) _ rfl]
  rfl
abbrev HL1 (o0 : AO) (g : Nat) (x : BitVec 64) (k : Nat) : Heap := [D0, D0, o0, y3v (α := Int) g D0 (y1f x k), D0, D0]
theorem ydy (a b : BitVec 64) : ∀ (d k : Nat), k + d = 64 → ∀ (g : Nat) (o0 : AO), ∃ g' o0', y8v (.int .i64 1) (iV a) (iV b) (.int .i64 64) (y1o Int 3 g (y1f (a ||| b) k)) (.int .i64 k) (HL1 o0 g (a ||| b) k) = ylu (.int .i64 64) (y1o Int 3 g' (y1f (a ||| b) 64)) (HL1 o0' g' (a ||| b) 64)
  | 0, k, h, g, o0 => by
    have : k = 64 := by omega
    subst this
    refine ⟨g, o0, ?_⟩
    rw [y5c]
    simp [ym7]
  | d + 1, k, h, g, o0 => by
    have hk : k < 64 := by omega
    have hx : (a ||| b).getLsbD k = (a.getLsbD k || b.getLsbD k) := by simp
    have ih := ydy a b d (k + 1) (by omega)
    generalize a ||| b = x at *
    obtain ⟨gs, hs⟩ : ∃ gs, y12 0 (some 2) 1 1 [.int .i64 0] [(0, .int .i64 (b01 (x.getLsbD k)))] (HL1 o0 g x k) = some (.ls 2 gs 1 0 1, HL1 (AI gs [b01 (x.getLsbD k)]) g x k) := ⟨_, rfl⟩
    obtain ⟨g', ha⟩ := yb5 (fb := 0) (j := 3) (g := g) (o := D0) (y := .ls 2 gs 1 0 1) (L := y1f x k) (n := b01 (x.getLsbD k)) (H := HL1 (AI gs [b01 (x.getLsbD k)]) g x k) (by simp [y1p, yk, y2x]) rfl (by rw [y4l]; omega)
    rw [← y5f] at ha
    have ha2 : y2k 0 (some 3) 1 8 (y1o Int 3 g (y1f x k)) (.ls 2 gs 1 0 1) (HL1 (AI gs [b01 (x.getLsbD k)]) g x k) = some (y1o Int 3 g' (y1f x (k + 1)), HL1 (AI gs [b01 (x.getLsbD k)]) g' x (k + 1)) := ha
    have hlt : decide ((k : Int) < 64) = true := by simp; omega
    have k0 : decide ((1 : Int) = 0) = false := rfl
    have k1 : decide ((1 : Int) = 1) = true := rfl
    have f1 : y2 .add (.int .i64 (b01 (a.getLsbD k))) (.int .i64 (b01 (b.getLsbD k))) = some (.int .i64 (b01 (a.getLsbD k) + b01 (b.getLsbD k))) := by
      cases a.getLsbD k <;> cases b.getLsbD k <;> rfl
    have f2 : y2 .add (.int .i64 (b01 (a.getLsbD k) + b01 (b.getLsbD k))) (.int .i64 1) = some (.int .i64 (b01 (a.getLsbD k) + b01 (b.getLsbD k) + 1)) := by
      cases a.getLsbD k <;> cases b.getLsbD k <;> rfl
    have f3 : y2 .quo (.int .i64 (b01 (a.getLsbD k) + b01 (b.getLsbD k) + 1)) (.int .i64 2) = some (.int .i64 (b01 (x.getLsbD k))) := by
      rw [hx]; cases a.getLsbD k <;> cases b.getLsbD k <;> rfl
    have nx : y2 .add (.int .i64 (k : Int)) (.int .i64 1) = some (.int .i64 ((k + 1 : Nat) : Int)) := by rw [yn, yao hk]
    obtain ⟨g2, o2, e⟩ := ih g' (AI gs [b01 (x.getLsbD k)])
    refine ⟨g2, o2, ?_⟩
    rw [← e, y5c]
    simp only [ym7, yf, hlt, y3, yx, y15, y1h7, yfr a hk, yfr b hk, yc, y9, k0, k1, decide_true, f1, f2, f3, hs, ha2, yms, nx]
theorem y1on (a b : BitVec 64) : (y6 E).p 142 [.int .i64 1, iV a, iV b, .int .i64 64] = some ⟨iV (a ||| b), [], true, [], []⟩ := by
  rw [y1x8]
  obtain ⟨g', o', e⟩ := ydy a b 64 0 rfl 0 D0
  show y8v (.int .i64 1) (iV a) (iV b) (.int .i64 64) .nils (.int .i64 ((0 : Nat) : Int)) [D0, D0, D0, D0, D0, D0] = _
  refine e.trans ?_
  rw [ylu, y7h (o := D0) _ rfl]
  rfl
abbrev HL2 (o0 : AO) (g : Nat) (x : BitVec 64) (k : Nat) : Heap := [D0, D0, D0, D0, o0, y3v (α := Int) g D0 (y1f x k)]
theorem ydh (a b : BitVec 64) : ∀ (d k : Nat), k + d = 64 → ∀ (g : Nat) (o0 : AO), ∃ g' o0', y8v (.int .i64 2) (iV a) (iV b) (.int .i64 64) (y1o Int 5 g (y1f (a ^^^ b) k)) (.int .i64 k) (HL2 o0 g (a ^^^ b) k) = ylu (.int .i64 64) (y1o Int 5 g' (y1f (a ^^^ b) 64)) (HL2 o0' g' (a ^^^ b) 64)
  | 0, k, h, g, o0 => by
    have : k = 64 := by omega
    subst this
    refine ⟨g, o0, ?_⟩
    rw [y5c]
    simp [ym7]
  | d + 1, k, h, g, o0 => by
    have hk : k < 64 := by omega
    have hx : (a ^^^ b).getLsbD k = (a.getLsbD k ^^ b.getLsbD k) := by simp
    have ih := ydh a b d (k + 1) (by omega)
    generalize a ^^^ b = x at *
    obtain ⟨gs, hs⟩ : ∃ gs, y12 0 (some 4) 1 1 [.int .i64 0] [(0, .int .i64 (b01 (x.getLsbD k)))] (HL2 o0 g x k) = some (.ls 4 gs 1 0 1, HL2 (AI gs [b01 (x.getLsbD k)]) g x k) := ⟨_, rfl⟩
    obtain ⟨g', ha⟩ := yb5 (fb := 0) (j := 5) (g := g) (o := D0) (y := .ls 4 gs 1 0 1) (L := y1f x k) (n := b01 (x.getLsbD k)) (H := HL2 (AI gs [b01 (x.getLsbD k)]) g x k) (by simp [y1p, yk, y2x]) rfl (by rw [y4l]; omega)
    rw [← y5f] at ha
    have ha2 : y2k 0 (some 5) 1 8 (y1o Int 5 g (y1f x k)) (.ls 4 gs 1 0 1) (HL2 (AI gs [b01 (x.getLsbD k)]) g x k) = some (y1o Int 5 g' (y1f x (k + 1)), HL2 (AI gs [b01 (x.getLsbD k)]) g' x (k + 1)) := ha
    have hlt : decide ((k : Int) < 64) = true := by simp; omega
    have k0 : decide ((2 : Int) = 0) = false := rfl
    have k1 : decide ((2 : Int) = 1) = false := rfl
    have f1 : y2 .add (.int .i64 (b01 (a.getLsbD k))) (.int .i64 (b01 (b.getLsbD k))) = some (.int .i64 (b01 (a.getLsbD k) + b01 (b.getLsbD k))) := by
      cases a.getLsbD k <;> cases b.getLsbD k <;> rfl
    have f2 : y2 .rem (.int .i64 (b01 (a.getLsbD k) + b01 (b.getLsbD k))) (.int .i64 2) = some (.int .i64 (b01 (x.getLsbD k))) := by
      rw [hx]; cases a.getLsbD k <;> cases b.getLsbD k <;> rfl
    have nx : y2 .add (.int .i64 (k : Int)) (.int .i64 1) = some (.int .i64 ((k + 1 : Nat) : Int)) := by rw [yn, yao hk]
    obtain ⟨g2, o2, e⟩ := ih g' (AI gs [b01 (x.getLsbD k)])
    refine ⟨g2, o2, ?_⟩
    rw [← e, y5c]
    simp only [ym7, yf, hlt, y3, yx, y15, y1h7, yfr a hk, yfr b hk, yc, y9, k0, k1, decide_true, f1, f2, hs, ha2, yms, nx]
theorem y1ps (a b : BitVec 64) : (y6 E).p 142 [.int .i64 2, iV a, iV b, .int .i64 64] = some ⟨iV (a ^^^ b), [], true, [], []⟩ := by
  rw [y1x8]
  obtain ⟨g', o', e⟩ := ydh a b 64 0 rfl 0 D0
  show y8v (.int .i64 2) (iV a) (iV b) (.int .i64 64) .nils (.int .i64 ((0 : Nat) : Int)) [D0, D0, D0, D0, D0, D0] = _
  refine e.trans ?_
  rw [ylu, y7h (o := D0) _ rfl]
  rfl
theorem y1hi : (y6 E).p 137 [.bool true] = some ⟨.int .i64 64, [], true, [], []⟩ := by
  rw [y28p]
  rfl
theorem y24f {c a b : Int} (hc : y9u c) (ha : y1j a) (hb : y1j b) : (y6 E).p 136 [.int .i64 (c - 1), .int .i64 a, .int .i64 b, .bool true] = some ⟨.int .i64 (y9k c a b), [], true, [], []⟩ := by
  rw [y27t]
  have h1 : ∀ H : Heap, y4 E (y6 E) 0 none true 137 [.bool true] H = some (.int .i64 64, H) := fun H => yp (fa := ⟨[.bool true], true, []⟩) rfl rfl rfl y1hi ⟨_, rfl, rfl⟩
  have h2 : IntKind.wrap .i64 (64 - 1) = 63 := rfl
  have h3 : ∃ v : Int, y2 .and (.int .i64 b) (.int .i64 63) = some (.int .i64 v) := ⟨_, rfl⟩
  obtain ⟨v, h3⟩ := h3
  have pre : ∀ H, y1ix (.int .i64 (c - 1)) (.int .i64 a) (.int .i64 b) (.bool true) H = yft (.int .i64 (c - 1)) (.int .i64 a) (.int .i64 b) (.int .i64 64) (.int .i64 v) H := fun H => by
    simp only [y1ix, y1yc, h1, yc, y1vl, y37, h2, y3, h3]
  rw [pre]
  have A := y1i2 ha
  have B := y1i2 hb
  generalize BitVec.ofInt 64 a = x at A
  generalize BitVec.ofInt 64 b = y at B
  subst A B
  have run : ∀ (fn : Nat) (args : List AV) (r : BitVec 64), E.pure fn = true → yj (fz [] y1i) args = some ⟨args, true, []⟩ → (y6 E).p fn args = some ⟨iV r, [], true, [], []⟩ → y4 E (y6 E) 0 none true fn args [] = some (iV r, []) := fun fn args r h1 h2 h3 => yp (fa := ⟨args, true, []⟩) h1 h2 rfl h3 ⟨_, rfl, rfl⟩
  rcases hc with rfl | rfl | rfl | rfl | rfl | rfl | rfl
  · have e := y1pa x y false []
    rw [show BitVec.setWidth 64 (BitVec.ofBool false) = 0#64 from rfl, BitVec.add_zero] at e
    have e' : y4 E (y6 E) 0 none true 138 [iV x, iV y, .int .i64 0, .int .i64 64] [] = some (iV (x + y), []) := e
    have r : y9k 97 x.toInt y.toInt = (x + y).toInt := y1wr x y
    rw [r, yft]
    simp only [y9, show decide ((97 - 1 : Int) = 96) = true from rfl, y3, yx, e', yc]
    rfl
  · have e := y1pa x (~~~ y) true []
    rw [show x + ~~~ y + BitVec.setWidth 64 (BitVec.ofBool true) = x - y by rw [BitVec.sub_eq_add_neg, BitVec.neg_eq_not_add, BitVec.add_assoc]; rfl] at e
    have e' : y4 E (y6 E) 0 none true 138 [iV x, iV (~~~ y), .int .i64 1, .int .i64 64] [] = some (iV (x - y), []) := e
    have r : y9k 101 x.toInt y.toInt = (x - y).toInt := y1tg x y
    rw [r, yft]
    simp only [y9, show decide ((101 - 1 : Int) = 96) = false from rfl, show decide ((101 - 1 : Int) = 100) = true from rfl, y3, yx, y15, yri, e', yc]
    rfl
  · have e' := run 139 [iV x, iV y, .int .i64 64] _ rfl rfl (y1dv x y)
    have r : y9k 105 x.toInt y.toInt = (x * y).toInt := y1vk x y
    rw [r, yft]
    simp only [y9, show decide ((105 - 1 : Int) = 96) = false from rfl, show decide ((105 - 1 : Int) = 100) = false from rfl, show decide ((105 - 1 : Int) = 104) = true from rfl, y3, yx, y15, e', yc]
    rfl
  · obtain ⟨r', hd⟩ := ynm ha hb
    have e' : y4 E (y6 E) 0 none true 140 [iV x, iV y, .int .i64 64] [] = some (.tup [.int .i64 (divM false x.toInt y.toInt), .int .i64 r'], []) := yp (fa := ⟨[iV x, iV y, .int .i64 64], true, []⟩) rfl rfl rfl hd ⟨_, rfl, rfl⟩
    have r : y9k 109 x.toInt y.toInt = divM false x.toInt y.toInt := rfl
    have x0 : y42 0 (.tup [.int .i64 (divM false x.toInt y.toInt), .int .i64 r']) = some (.int .i64 (divM false x.toInt y.toInt)) := rfl
    have x1 : y42 1 (.tup [.int .i64 (divM false x.toInt y.toInt), .int .i64 r']) = some (.int .i64 r') := rfl
    rw [r, yft]
    simp only [y9, show decide ((109 - 1 : Int) = 96) = false from rfl, show decide ((109 - 1 : Int) = 100) = false from rfl, show decide ((109 - 1 : Int) = 104) = false from rfl, show decide ((109 - 1 : Int) = 108) = true from rfl, y3, yx, y15, e', yc, x0, x1]
    rfl
  · have e' := run 142 [.int .i64 0, iV x, iV y, .int .i64 64] _ rfl rfl (y1je x y)
    have r : y9k 127 x.toInt y.toInt = (x &&& y).toInt := y1ue x y
    rw [r, yft]
    simp only [y9, show decide ((127 - 1 : Int) = 96) = false from rfl, show decide ((127 - 1 : Int) = 100) = false from rfl, show decide ((127 - 1 : Int) = 104) = false from rfl, show decide ((127 - 1 : Int) = 108) = false from rfl, show decide ((127 - 1 : Int) = 112) = false from rfl, show decide ((127 - 1 : Int) = 120) = false from rfl, show decide ((127 - 1 : Int) = 122) = false from rfl, show decide ((127 - 1 : Int) = 124) = false from rfl, show decide ((127 - 1 : Int) = 126) = true from rfl, y3, yx, y15, e', yc]
    rfl
  · have e' := run 142 [.int .i64 1, iV x, iV y, .int .i64 64] _ rfl rfl (y1on x y)
    have r : y9k 129 x.toInt y.toInt = (x ||| y).toInt := y20c x y
    rw [r, yft]
    simp only [y9, show decide ((129 - 1 : Int) = 96) = false from rfl, show decide ((129 - 1 : Int) = 100) = false from rfl, show decide ((129 - 1 : Int) = 104) = false from rfl, show decide ((129 - 1 : Int) = 108) = false from rfl, show decide ((129 - 1 : Int) = 112) = false from rfl, show decide ((129 - 1 : Int) = 120) = false from rfl, show decide ((129 - 1 : Int) = 122) = false from rfl, show decide ((129 - 1 : Int) = 124) = false from rfl, show decide ((129 - 1 : Int) = 126) = false from rfl, show decide ((129 - 1 : Int) = 128) = true from rfl, y3, yx, y15, e', yc]
    rfl
  · have e' := run 142 [.int .i64 2, iV x, iV y, .int .i64 64] _ rfl rfl (y1ps x y)
    have r : y9k 131 x.toInt y.toInt = (x ^^^ y).toInt := y1vc x y
    rw [r, yft]
    simp only [y9, show decide ((131 - 1 : Int) = 96) = false from rfl, show decide ((131 - 1 : Int) = 100) = false from rfl, show decide ((131 - 1 : Int) = 104) = false from rfl, show decide ((131 - 1 : Int) = 108) = false from rfl, show decide ((131 - 1 : Int) = 112) = false from rfl, show decide ((131 - 1 : Int) = 120) = false from rfl, show decide ((131 - 1 : Int) = 122) = false from rfl, show decide ((131 - 1 : Int) = 124) = false from rfl, show decide ((131 - 1 : Int) = 126) = false from rfl, show decide ((131 - 1 : Int) = 128) = false from rfl, show decide ((131 - 1 : Int) = 130) = true from rfl, y3, yx, y15, e', yc]
    rfl
theorem y1uo {c a b : Int} (hc : y9u c) (ha : y1j a) (hb : y1j b) : (y6 E).p 133 [.int .i64 c, .int .i64 a, .int .i64 b] = some ⟨.int .i64 (twoM c a b), [], true, [], []⟩ := by
  rw [y28n]
  have h1 : c ≠ 148 := by unfold y9u at hc; omega
  have h2 : bI .and .i64 c 1 ≠ 0 := by rcases hc with rfl | rfl | rfl | rfl | rfl | rfl | rfl <;> decide
  have h3 : y2 .and (.int .i64 c) (.int .i64 1) = some (.int .i64 (bI .and .i64 c 1)) := by simp [y2, y18, y1z, bI, nOf]
  have h4 : IntKind.wrap .i64 (c - 1) = c - 1 := by unfold y9u at hc; exact y16 (by omega) (by omega)
  have h5 : ∀ H : Heap, y4 E (y6 E) 0 none true 136 [.int .i64 (c - 1), .int .i64 a, .int .i64 b, .bool true] H = some (.int .i64 (y9k c a b), H) := fun H => yp (fa := ⟨[.int .i64 (c - 1), .int .i64 a, .int .i64 b, .bool true], true, []⟩) rfl rfl rfl (y24f hc ha hb) ⟨_, rfl, rfl⟩
  rw [twoM, if_neg h1, if_neg h2]
  simp only [y19x, y1sx, y9, decide_eq_false h1, y3, y1ug, y15, y1yp, h3, decide_eq_false h2, y1s7, y37, h4, h5, yc]
  rfl
end Go.Vm
namespace Go.Vm
open Cel
def tabC (q : Int) : Int := if q = 0 then 97 else if q = 1 then 101 else if q = 2 then 105 else if q = 3 then 109 else if q = 4 then 127 else if q = 5 then 129 else 131
theorem y0x (q : Int) : y9u (tabC q) := by
  unfold tabC y9u
  repeat' split
  all_goals omega
def cOf (c : Int) : Int := tabC ((c.tmod 7 + 7).tmod 7)
def chx (cs ns : List Int) : Nat → Cx
  | 0 => []
  | i + 1 => chx cs ns i ++ [(cOf (cs.getD i 0), ns.getD ((i + 1) % ns.length) 0)]
theorem yif (cs ns : List Int) : ∀ i, (chx cs ns i).length = i
  | 0 => rfl
  | i + 1 => by rw [chx, List.length_append, yif cs ns i]; rfl
theorem y1qi {cs ns : List Int} (hn : ∀ x ∈ ns, inI x) : ∀ i, CxOk (chx cs ns i)
  | 0 => fun p h => by cases h
  | i + 1 => fun p h => by
    rw [chx, List.mem_append, List.mem_singleton] at h
    rcases h with h | rfl
    · exact y1qi hn i p h
    · refine ⟨y0x _, ?_⟩
      show y1j (ns.getD ((i + 1) % ns.length) 0)
      rw [List.getD_eq_getElem?_getD]
      cases hg : ns[(i + 1) % ns.length]? with
      | none => show y1j 0; decide
      | some x =>
        have := hn x (List.mem_of_getElem? hg)
        unfold inI at this
        show y1j x
        unfold y1j
        omega
abbrev HEn (f : Fn) (r0 r1 : Int) (o2 : AO) : Heap := [AB f, ⟨1, .arr true false 2 [[.int .i64 r0, .int .i64 r1]]⟩, o2]
abbrev y8j : List AV := [.int .i64 0, .int .i64 0, .int .i64 0, .int .i64 0, .int .i64 0, .int .i64 0, .int .i64 0, .str [], .nils]
theorem y1ox (f : Fn) (v7 v8 v9 : AV) (d v r0 r1 : Int) (hd : d = 0 ∨ d = 1) (o2 : AO) (hx : yv 9 v7 v9 = some (.rp (enc (yb d v)))) :
    ∃ o2', yxj (.lp 1 1 0 0) v7 v8 v9 (HEn f r0 r1 o2) = ylc (.lp 1 1 0 0) v7 v8 v9 (HEn f (if d = 0 then v else r0) (if d = 0 then r1 else v) o2') := by
  have hl : evLd true 9 (.rp (enc (yb d v))) (HEn f r0 r1 o2) = some (.agg (enc (yb d v))) := rfl
  have n2 : newC 0 (some 2) y8j (HEn f r0 r1 o2) = some (.lp 2 (o2.gen + 1) 0 0, HEn f r0 r1 ⟨o2.gen + 1, .arr true false 9 [y8j]⟩) := by rfl
  have s2 : evSt 9 (.lp 2 (o2.gen + 1) 0 0) (.agg (enc (yb d v))) (HEn f r0 r1 ⟨o2.gen + 1, .arr true false 9 [y8j]⟩) = some (.tup [], HEn f r0 r1 ⟨o2.gen + 1, .arr true false 9 [enc (yb d v)]⟩) := by
    simp [y40, ym]
  have l0 : evLd false 1 (.lp 2 (o2.gen + 1) 0 0) (HEn f r0 r1 ⟨o2.gen + 1, .arr true false 9 [enc (yb d v)]⟩) = some (.int .i64 1) := by simp [yb]
  have l1 : evLd false 1 (.lp 2 (o2.gen + 1) 0 1) (HEn f r0 r1 ⟨o2.gen + 1, .arr true false 9 [enc (yb d v)]⟩) = some (.int .i64 d) := by simp [yb]
  have l5 : evLd false 1 (.lp 2 (o2.gen + 1) 0 5) (HEn f r0 r1 ⟨o2.gen + 1, .arr true false 9 [enc (yb d v)]⟩) = some (.int .i64 v) := by simp [yb]
  have ad : y2 .and (.int .i64 d) (.int .i64 1) = some (.int .i64 d) := by rcases hd with rfl | rfl <;> rfl
  have ix : y8k 2 1 (.lp 1 1 0 0) (.int .i64 d) = some (.lp 1 1 0 d.toNat) := by rcases hd with rfl | rfl <;> rfl
  have st : evSt 1 (.lp 1 1 0 d.toNat) (.int .i64 v) (HEn f r0 r1 ⟨o2.gen + 1, .arr true false 9 [enc (yb d v)]⟩) = some (.tup [], HEn f (if d = 0 then v else r0) (if d = 0 then r1 else v) ⟨o2.gen + 1, .arr true false 9 [enc (yb d v)]⟩) := by
    rcases hd with rfl | rfl <;> rfl
  refine ⟨⟨o2.gen + 1, .arr true false 9 [enc (yb d v)]⟩, ?_⟩
  simp only [yxj, hx, y3, hl, n2, yc, s2, y14, Nat.zero_add, Nat.add_zero, l0, y9, decide_true, yx, l1, ad, l5, ix, st]
theorem y1vm (f : Fn) (v7 v8 v9 : AV) (r0 r1 : Int) (o2 : AO) (hx : yv 9 v7 v9 = some (.rp (enc ret0))) :
    ∃ o2', yxj (.lp 1 1 0 0) v7 v8 v9 (HEn f r0 r1 o2) = ylc (.lp 1 1 0 0) v7 v8 v9 (HEn f r0 r1 o2') := by
  have hl : evLd true 9 (.rp (enc ret0)) (HEn f r0 r1 o2) = some (.agg (enc ret0)) := rfl
  have n2 : newC 0 (some 2) y8j (HEn f r0 r1 o2) = some (.lp 2 (o2.gen + 1) 0 0, HEn f r0 r1 ⟨o2.gen + 1, .arr true false 9 [y8j]⟩) := by rfl
  have s2 : evSt 9 (.lp 2 (o2.gen + 1) 0 0) (.agg (enc ret0)) (HEn f r0 r1 ⟨o2.gen + 1, .arr true false 9 [y8j]⟩) = some (.tup [], HEn f r0 r1 ⟨o2.gen + 1, .arr true false 9 [enc ret0]⟩) := by
    simp [y40, ym]
  have l0 : evLd false 1 (.lp 2 (o2.gen + 1) 0 0) (HEn f r0 r1 ⟨o2.gen + 1, .arr true false 9 [enc ret0]⟩) = some (.int .i64 30) := by simp [ret0]
  have z1 : decide ((30 : Int) = 1) = false := rfl
  have z5 : decide ((30 : Int) = 5) = false := rfl
  refine ⟨⟨o2.gen + 1, .arr true false 9 [enc ret0]⟩, ?_⟩
  simp only [yxj, hx, y3, hl, n2, yc, s2, y14, Nat.zero_add, Nat.add_zero, l0, y9, z1, z5, y15]
def endM : List Ins → Int → Int
  | [], r => r
  | x :: l, r => endM l (if x.op = 1 ∧ x.d = 0 then x.n else r)
theorem yio (f : Fn) (hn : (lst f.code).length ≤ 9223372036854775806) (hc : ∀ x ∈ lst f.code, (∃ d v, (d = 0 ∨ d = 1) ∧ x = yb d v) ∨ x = ret0) : ∀ (d i : Nat), i + d = (lst f.code).length → ∀ (r0 r1 : Int) (o2 : AO), ∃ r1' o2',
    yev (.lp 1 1 0 0) (slA f.code) (.int .i64 (lst f.code).length) (.int .i64 i) (HEn f r0 r1 o2) = y0m (.lp 1 1 0 0) (HEn f (endM ((lst f.code).drop i) r0) r1' o2')
  | 0, i, h, r0, r1, o2 => by
    have : i = (lst f.code).length := by omega
    subst this
    refine ⟨r1, o2, ?_⟩
    have hc : ¬ ((lst f.code).length : Int) < ((lst f.code).length : Int) := by omega
    rw [yjy, List.drop_length, endM]
    simp only [y1in, yf, y3, hc, decide_false, y1l3, y15]
  | d + 1, i, h, r0, r1, o2 => by
    have hi : i < (lst f.code).length := by omega
    have hlt : (i : Int) < ((lst f.code).length : Int) := by omega
    have hw : IntKind.wrap .i64 ((i : Int) + 1) = ((i + 1 : Nat) : Int) := by rw [y16] <;> omega
    have hg : (lst f.code)[i]? = some (lst f.code)[i] := List.getElem?_eq_getElem hi
    have hx : yv 9 (slA f.code) (.int .i64 (i : Int)) = some (.rp (enc (lst f.code)[i])) := ybn hg .i64
    have hm := hc _ (List.getElem_mem hi)
    have hd : (lst f.code).drop i = (lst f.code)[i] :: (lst f.code).drop (i + 1) := List.drop_eq_getElem_cons hi
    rw [hd, endM]
    generalize (lst f.code)[i] = x at *
    rw [yjy]
    have go : ∀ H, ylc (.lp 1 1 0 0) (slA f.code) (.int .i64 (lst f.code).length) (.int .i64 (i : Int)) H = yev (.lp 1 1 0 0) (slA f.code) (.int .i64 (lst f.code).length) (.int .i64 ((i + 1 : Nat) : Int)) H := fun H => by
      simp only [ylc, yn, hw, y3]
    simp only [y1in, yf, y3, hlt, decide_true, y1l3, yx]
    rcases hm with ⟨k, v, hk, rfl⟩ | rfl
    · obtain ⟨o3, e⟩ := y1ox f (slA f.code) (.int .i64 (lst f.code).length) (.int .i64 (i : Int)) k v r0 r1 hk o2 hx
      rw [e, go]
      have : (if (yb k v).op = 1 ∧ (yb k v).d = 0 then (yb k v).n else r0) = if k = 0 then v else r0 := by
        rcases hk with rfl | rfl <;> rfl
      rw [this]
      exact yio f hn hc d (i + 1) (by omega) _ _ _
    · obtain ⟨o3, e⟩ := y1vm f (slA f.code) (.int .i64 (lst f.code).length) (.int .i64 (i : Int)) r0 r1 o2 hx
      rw [e, go]
      exact yio f hn hc d (i + 1) (by omega) _ _ _
theorem y27u (f : Fn) (hn : (lst f.code).length ≤ 9223372036854775806) (hc : ∀ x ∈ lst f.code, (∃ d v, (d = 0 ∨ d = 1) ∧ x = yb d v) ∨ x = ret0) : (y6 E).p 134 [.agg (enc f)] = some ⟨.int .i64 (endM (lst f.code) 0), [], true, [], []⟩ := by
  rw [y294]
  have n0 : newC 0 (some 0) (cellsOf (.agg (enc f))) [D0, D0, D0] = some (.lp 0 1 0 0, [AB f, D0, D0]) := by simp
  have n1 : newC 0 (some 1) [.int .i64 0, .int .i64 0] [AB f, D0, D0] = some (.lp 1 1 0 0, HEn f 0 0 D0) := by rfl
  have l3 : evLd false 1 (.lp 0 1 0 3) (HEn f 0 0 D0) = some (slA f.code) := by simp
  obtain ⟨r1, o2, e⟩ := yio f hn hc _ 0 (Nat.zero_add _) 0 0 D0
  rw [List.drop_zero] at e
  have e' : yev (.lp 1 1 0 0) (slA f.code) (.int .i64 (lst f.code).length) (.int .i64 0) (HEn f 0 0 D0) = y0m (.lp 1 1 0 0) (HEn f (endM (lst f.code) 0) r1 o2) := e
  have ix : y8k 2 1 (.lp 1 1 0 0) (.int .i64 0) = some (.lp 1 1 0 0) := rfl
  have ld : ∀ v : Int, evLd false 1 (.lp 1 1 0 0) (HEn f v r1 o2) = some (.int .i64 v) := fun v => rfl
  simp only [yzv, n0, yc, y118, n1, y1u1, y14, Nat.zero_add, y3, l3, y2u, e', y0m, ix, ld]
  rfl
theorem yi1 : ∀ (l : Cx) (w r : Int), endM (chnR w l ++ [ret0]) w = chnW w l
  | [], w, r => rfl
  | p :: q, w, r => by
    rw [chnR, chnW]
    exact yi1 q _ r
end Go.Vm
