/- fold.Pass on the machine. fold.Pass on the machine: the pass itself. What a function that is handed in is fit for, for a check. A pass as laws see it. What the pass 'fold' leaves is fit. Chapter 15's anchor. A function trimmed, in plain words. A way whose numbers are known, in plain words. Which instructions may throw. flow.Next, flow.Caught. flow.Reach: which places can be reached. flow.Trim. Numbers of 32 bits that are handed in. -/
import Derived.Test.YtgbajicpokolcaaWX
import Derived.KernelRfl
import Derived.Test.YtgbajicpokolcaaWTc
set_option linter.unusedSimpArgs false
set_option linter.unusedVariables false
set_option linter.unusedSectionVars false
namespace Go.Vm
open Cel
abbrev yc5 : List AV := [.int .i64 0, .int .i64 0, .int .i64 0, .int .i64 0, .int .i64 0, .int .i64 0, .int .i64 0, .str [], .nils]
theorem y9h (H : Heap) (a b : AO) : (H ++ [a, b])[H.length]? = some a := by simp
theorem yog (H : Heap) (a b : AO) : (H ++ [a, b])[H.length + 1]? = some b := by
  rw [List.getElem?_append_right (by omega), Nat.add_sub_cancel_left]; rfl
theorem ld_x {H : Heap} {id g k : Nat} {x : Ins} {v : AV} (h : H[id]? = some (AX g x)) (hv : (enc x)[k]? = some v) : evLd false 1 (.lp id g 0 k) H = some v := by
  have hr : yg H id g = some (false, 9, [enc x]) := by simp [yg, y3y, h]
  rw [y2k, hr]
  simp only [List.getElem?_cons_zero, y6a, List.head?_drop, hv]
theorem y1bf {H : Heap} {id g : Nat} {x : Ins} (h : H[id]? = some (AX g x)) : evLd true 9 (.lp id g 0 0) H = some (.agg (enc x)) := by
  have hr : yg H id g = some (false, 9, [enc x]) := by simp [yg, y3y, h]
  simp [y2k, hr]
theorem y24d {H : Heap} {id g : Nat} {x y : Ins} {v : AV} (h : H[id]? = some (AX g x)) (hv : cellsOf v = enc y) : evSt 9 (.lp id g 0 0) v H = some (.tup [], H.set id (AX g y)) := by
  have hr : yg H id g = some (false, 9, [enc x]) := by simp [yg, y3y, h]
  rw [y2i, hr]
  simp only [List.getElem?_cons_zero, hv]
  rw [if_pos ⟨rfl, by rw [ynp]; exact Nat.le_refl _, yq1 y⟩, yc4 (by rw [ynp, ynp]), y1i, h]
  rfl
theorem st_x {H : Heap} {id g : Nat} {x y : Ins} (h : H[id]? = some (AX g x)) : evSt 9 (.lp id g 0 0) (.agg (enc y)) H = some (.tup [], H.set id (AX g y)) := y24d h rfl
theorem y1xm {H : Heap} {fb j : Nat} {o : AO} (h : H[fb + j]? = some o) : newC fb (some j) yc5 H = some (.lp (fb + j) (o.gen + 1) 0 0, H.set (fb + j) (AX (o.gen + 1) default)) := by
  simp [h]
  rfl
theorem yr8 (H : Heap) (a b c : AO) : (H ++ [a, b]).set (H.length + 1) c = H ++ [a, c] := by
  rw [List.set_append_right _ _ (by omega), Nat.add_sub_cancel_left]; rfl
section
variable {H : Heap} {id g : Nat} {kn : Kn} (hm : H[id]? = some (AM vI g kn)) (x : Ins)
include hm
theorem y13i (z : Ins) (k : Int) : y3t false [0] (.int .i64 0) true (.lm id g) (.int .i64 k) (H ++ [AX 1 x, AX 1 z]) = some (match aget k kn with | some v => .tup [vI v, .bool true] | none => .tup [.int .i64 0, .bool false]) := by
  rw [y1kk (ygd hm)]
  cases aget k kn <;> rfl
theorem yyn (z y : Ins) : evSt 9 (.lp (H.length + 1) 1 0 0) (.agg (enc y)) (H ++ [AX 1 x, AX 1 z]) = some (.tup [], H ++ [AX 1 x, AX 1 y]) := by
  rw [st_x (yog H _ _), yr8]
theorem y1ij (fb : Nat) : y4 E (y5 E) fb none false 126 [.agg (enc x), .lm id g] H = some (.agg (enc (y40 x kn)), H ++ [AX 1 x, AX 1 (y40 x kn)]) := by
  have c0 : y4 E (y5 E) fb none false 126 [.agg (enc x), .lm id g] H = (y5 E).i 126 [.agg (enc x), .lm id g] H.length H := rfl
  rw [c0, y24j, if_pos rfl]
  have n0 : newC H.length (some 0) (cellsOf (.agg (enc x))) (H ++ yt 2) = some (.lp H.length 1 0 0, H ++ [AX 1 x, D0]) := by
    have h0 : (H ++ yt 2)[H.length]? = some D0 := by simp [yt]
    have e : (H ++ yt 2).set H.length (AX 1 x) = H ++ [AX 1 x, D0] := by
      rw [List.set_append_right _ _ (Nat.le_refl _), Nat.sub_self]; rfl
    simp only [newC, y5p, yn6, yq1, if_true, place, Nat.add_zero, h0]
    rw [show (⟨0 + 1, OC.arr true false (enc x).length [enc x]⟩ : AO) = AX 1 x from rfl, e]
  have n1 : newC H.length (some 1) yc5 (H ++ [AX 1 x, D0]) = some (.lp (H.length + 1) 1 0 0, H ++ [AX 1 x, AX 1 default]) := by
    rw [y1xm (yog H _ _), yr8]
  have mg := y13i hm x
  have out := fun y => yyn hm x default y
  have lo := ld_x (k := 0) (v := .int .i64 x.op) (y9h H (AX 1 x) (AX 1 default)) rfl
  have ld := ld_x (k := 1) (v := .int .i64 x.d) (y9h H (AX 1 x) (AX 1 default)) rfl
  have la := ld_x (k := 2) (v := .int .i64 x.a) (y9h H (AX 1 x) (AX 1 default)) rfl
  have lb := ld_x (k := 3) (v := .int .i64 x.b) (y9h H (AX 1 x) (AX 1 default)) rfl
  have ln := ld_x (k := 5) (v := .int .i64 x.n) (y9h H (AX 1 x) (AX 1 default)) rfl
  have lt := ld_x (k := 6) (v := .int .i64 x.t) (y9h H (AX 1 x) (AX 1 default)) rfl
  have lx := y1bf (y9h H (AX 1 x) (AX 1 default))
  have lr := fun y => y1bf (yog H (AX 1 x) (AX 1 y))
  have same : ymk H.length (.lp H.length 1 0 0) (.lp (H.length + 1) 1 0 0) (H ++ [AX 1 x, AX 1 default]) = some (.agg (enc x), H ++ [AX 1 x, AX 1 x]) := by
    simp only [ymk, lx, y6, out, yj, lr]
  have c1 : ∀ (a : Int) (H' : Heap), y4 E (y5 E) H.length none true 127 [.int .i64 x.n, .int .i64 a] H' = some (.int .i64 (yeb x.n a), H') := fun a H' => y1s (fa := ⟨[.int .i64 x.n, .int .i64 a], true, []⟩) rfl rfl rfl (y1wn _ _) ⟨_, rfl, rfl⟩
  have f1 : ∀ (a : Int) (H' : Heap), y55 E (y5 E) H.length none true 127 [.int .i64 x.n, .int .i64 a] H' = some ([], []) := fun a H' => yjg (fa := ⟨[.int .i64 x.n, .int .i64 a], true, []⟩) rfl rfl rfl (y1wn _ _)
  have c2 : ∀ (a b : Int) (H' : Heap), y4 E (y5 E) H.length none true 128 [.int .i64 x.n, .int .i64 a, .int .i64 b] H' = some (.int .i64 (twoM x.n a b), H') := fun a b H' => y1s (fa := ⟨[.int .i64 x.n, .int .i64 a, .int .i64 b], true, []⟩) rfl rfl rfl (y1x5 _ _ _) ⟨_, rfl, rfl⟩
  have f2 : ∀ (a b : Int) (H' : Heap), y55 E (y5 E) H.length none true 128 [.int .i64 x.n, .int .i64 a, .int .i64 b] H' = some ([], []) := fun a b H' => yjg (fa := ⟨[.int .i64 x.n, .int .i64 a, .int .i64 b], true, []⟩) rfl rfl rfl (y1x5 _ _ _)
  have c3 : ∀ (a b : Int) (H' : Heap), y4 E (y5 E) H.length none true 129 [.int .i64 x.n, .int .i64 a, .int .i64 b] H' = some (.bool (y5v x.n a b), H') := fun a b H' => y1s (fa := ⟨[.int .i64 x.n, .int .i64 a, .int .i64 b], true, []⟩) rfl rfl rfl (y1tg _ _ _) ⟨_, rfl, rfl⟩
  have bc : ∀ d v : Int, yb yc5 [(0, 1, .int .i64 1), (1, 1, .int .i64 d), (5, 1, .int .i64 v)] = some (.agg (enc (y19 d v))) := fun d v => rfl
  have bg : ∀ t : Int, yb yc5 [(0, 1, .int .i64 27), (6, 1, .int .i64 t)] = some (.agg (enc (y85 t))) := fun t => rfl
  have bn : yb yc5 [(0, 1, .int .i64 33)] = some (.agg (enc nopI)) := rfl
  have st : yue H.length (.agg (enc x)) (.lm id g) (H ++ yt 2) = y3k H.length (.lm id g) (.lp H.length 1 0 0) (.lp (H.length + 1) 1 0 0) (H ++ [AX 1 x, AX 1 default]) := by
    simp only [yue, n0, yj, n1]
  rw [st]
  unfold y40
  cases ha : aget x.a kn with
  | none =>
    have mga := mg default x.a
    rw [ha] at mga
    by_cases h6 : x.op = 6
    · simp only [y3k, yq, Nat.zero_add, y6, la, mga, y1k, List.getElem?_cons_zero, List.getElem?_cons_succ, y3s, lo, y3r, yl, h6, decide_true, y3z, y1g, y1y, same, if_true]
    by_cases h5 : x.op = 5
    · have mgb := mg default x.b
      cases hb : aget x.b kn with
      | none =>
        rw [hb] at mgb
        simp only [y3k, yq, Nat.zero_add, y6, la, lb, mga, mgb, y1k, List.getElem?_cons_zero, List.getElem?_cons_succ, y3s, lo, y3r, yl, h5, decide_true, decide_false, y3z, y4p, y4x, yge, y2y, y1g, y1y, same, if_true, show ¬ (5 : Int) = 6 by decide, if_false]
      | some b =>
        rw [hb] at mgb
        simp only [y3k, yq, Nat.zero_add, y6, la, lb, mga, mgb, y1k, List.getElem?_cons_zero, List.getElem?_cons_succ, y3s, lo, y3r, yl, h5, decide_true, decide_false, y3z, y4p, y4x, yge, y2y, y1g, y1y, same, if_true, show ¬ (5 : Int) = 6 by decide, if_false]
    by_cases h4 : x.op = 4
    · simp only [y3k, yq, Nat.zero_add, y6, la, mga, y1k, List.getElem?_cons_zero, List.getElem?_cons_succ, y3s, lo, y3r, yl, h4, decide_true, decide_false, y3z, y4p, y4x, y8l, ydp, y1g, y1y, same, if_true, show ¬ (4 : Int) = 6 by decide, show ¬ (4 : Int) = 5 by decide, if_false]
    by_cases h28 : x.op = 28
    · have mgb := mg default x.b
      cases hb : aget x.b kn with
      | none =>
        rw [hb] at mgb
        simp only [y3k, yq, Nat.zero_add, y6, la, lb, mga, mgb, y1k, List.getElem?_cons_zero, List.getElem?_cons_succ, y3s, lo, y3r, yl, h28, decide_true, decide_false, y3z, y4p, y4x, y8l, ydp, yj3, yjk, ynr, ynn, yn9, yge, y2y, y1g, y1y, same, if_true, show ¬ (28 : Int) = 6 by decide, show ¬ (28 : Int) = 5 by decide, show ¬ (28 : Int) = 4 by decide, if_false]
      | some b =>
        rw [hb] at mgb
        simp only [y3k, yq, Nat.zero_add, y6, la, lb, mga, mgb, y1k, List.getElem?_cons_zero, List.getElem?_cons_succ, y3s, lo, y3r, yl, h28, decide_true, decide_false, y3z, y4p, y4x, y8l, ydp, yj3, yjk, ynr, ynn, yn9, yge, y2y, y1g, y1y, same, if_true, show ¬ (28 : Int) = 6 by decide, show ¬ (28 : Int) = 5 by decide, show ¬ (28 : Int) = 4 by decide, if_false]
    simp only [y3k, yq, Nat.zero_add, y6, la, mga, y1k, List.getElem?_cons_zero, List.getElem?_cons_succ, y3s, lo, y3r, yl, h6, h5, h4, h28, decide_false, y3z, y4p, y4x, y8l, ydp, yj3, yjk, y1y, same, if_false]
  | some a =>
    have mga := mg default x.a
    rw [ha] at mga
    by_cases h6 : x.op = 6
    · simp only [y3k, yq, Nat.zero_add, y6, la, mga, y1k, List.getElem?_cons_zero, List.getElem?_cons_succ, y3s, lo, y3r, yl, h6, decide_true, y3z, y1g, ld, ln, f1, ydj, c1, yj, bc, out, lr, if_true]
      exact y1nw rfl _
    by_cases h5 : x.op = 5
    · have mgb := mg default x.b
      cases hb : aget x.b kn with
      | none =>
        rw [hb] at mgb
        simp only [y3k, yq, Nat.zero_add, y6, la, lb, mga, mgb, y1k, List.getElem?_cons_zero, List.getElem?_cons_succ, y3s, lo, y3r, yl, h5, decide_true, decide_false, y3z, y4p, y4x, yal, y2e, y1g, y1y, same, if_true, show ¬ (5 : Int) = 6 by decide, if_false]
      | some b =>
        rw [hb] at mgb
        simp only [y3k, yq, Nat.zero_add, y6, la, lb, mga, mgb, y1k, List.getElem?_cons_zero, List.getElem?_cons_succ, y3s, lo, y3r, yl, h5, decide_true, decide_false, y3z, y4p, y4x, yal, y2e, y1g, y1y, ld, ln, f2, ydj, c2, yj, bc, out, lr, if_true, show ¬ (5 : Int) = 6 by decide, if_false]
        exact y1nw rfl _
    by_cases h4 : x.op = 4
    · simp only [y3k, yq, Nat.zero_add, y6, la, mga, y1k, List.getElem?_cons_zero, List.getElem?_cons_succ, y3s, lo, y3r, yl, h4, decide_true, decide_false, y3z, y4p, y4x, y8l, ydp, y1g, y1y, ld, bc, out, yj, lr, if_true, show ¬ (4 : Int) = 6 by decide, show ¬ (4 : Int) = 5 by decide, if_false]
    by_cases h28 : x.op = 28
    · have mgb := mg default x.b
      cases hb : aget x.b kn with
      | none =>
        rw [hb] at mgb
        simp only [y3k, yq, Nat.zero_add, y6, la, lb, mga, mgb, y1k, List.getElem?_cons_zero, List.getElem?_cons_succ, y3s, lo, y3r, yl, h28, decide_true, decide_false, y3z, y4p, y4x, y8l, ydp, yj3, yjk, ynr, ynn, yn9, yal, y2e, y1g, y1y, same, if_true, show ¬ (28 : Int) = 6 by decide, show ¬ (28 : Int) = 5 by decide, show ¬ (28 : Int) = 4 by decide, if_false]
      | some b =>
        rw [hb] at mgb
        have c3' := c3 a b
        cases hh : y5v x.n a b with
        | true =>
          rw [hh] at c3'
          simp only [y3k, yq, Nat.zero_add, y6, la, lb, mga, mgb, y1k, List.getElem?_cons_zero, List.getElem?_cons_succ, y3s, lo, y3r, yl, h28, decide_true, decide_false, y3z, y4p, y4x, y8l, ydp, yj3, yjk, ynr, ynn, yn9, yal, y2e, y1g, y1y, y1kq, ln, c3', hh, yj, lt, bg, out, lr, if_true, show ¬ (28 : Int) = 6 by decide, show ¬ (28 : Int) = 5 by decide, show ¬ (28 : Int) = 4 by decide, if_false]
        | false =>
          rw [hh] at c3'
          simp only [y3k, yq, Nat.zero_add, y6, la, lb, mga, mgb, y1k, List.getElem?_cons_zero, List.getElem?_cons_succ, y3s, lo, y3r, yl, h28, decide_true, decide_false, y3z, y4p, y4x, y8l, ydp, yj3, yjk, ynr, ynn, yn9, yal, y2e, y1g, y1y, y1kq, ln, c3', hh, yj, y1sy, bn, out, lr, Bool.false_eq_true, if_true, show ¬ (28 : Int) = 6 by decide, show ¬ (28 : Int) = 5 by decide, show ¬ (28 : Int) = 4 by decide, if_false]
    simp only [y3k, yq, Nat.zero_add, y6, la, mga, y1k, List.getElem?_cons_zero, List.getElem?_cons_succ, y3s, lo, y3r, yl, h6, h5, h4, h28, decide_false, y3z, y4p, y4x, y8l, ydp, yj3, yjk, y1y, same, if_false]
end
end Go.Vm
namespace Go.Vm
open Cel
theorem y16z {α : Type} (y : α) : ∀ (ys : List α) (x : α) (l : List α), (ys ++ x :: l).set ys.length y = (ys ++ [y]) ++ l
  | [], _, _ => rfl
  | a :: ys, x, l => by simp [y16z y ys x l]
theorem y1lc {α : Type} (ys : List α) (x : α) (l : List α) : (ys ++ x :: l)[ys.length]? = some x := by simp
structure FSt (H : Heap) (f : Fn) (p g : Nat → Nat) (hm : List (Int × Bool)) (gh gk : Nat) (kn : Kn) : Prop where
  d : DSt H f p g 13
  hm : H[10]? = some (AM vB gh hm)
  kn : H[11]? = some (AM vI gk kn)
section
variable {f : Fn} (w : Wf f) (p g : Nat → Nat) (hm : List (Int × Bool)) (gh gk : Nat) (hh : ∀ i : Int, aget i hm = if i ∈ y53 f then some true else none)
include w hh
theorem y159 : ∀ (l : List Ins) (ys : List Ins) (H : Heap) (kn : Kn), lst f.code = l ∨ True → ys.length + l.length = (lst f.code).length → FSt H (y5u f (ys ++ l)) p g hm gh gk kn →
    ∃ H', ygm (.lp 0 1 0 0) (.lp 1 1 0 0) (.lm 10 gh) (.lm 11 gk) (.ls (p 2) (g 2) 9 0 (lst f.code).length) (.int .i64 (lst f.code).length) (.int .i64 ys.length) H = y1bu (.lp 0 1 0 0) (.lp 1 1 0 0) H' ∧
      DSt H' (y5u f (ys ++ yam (ydw f) ys.length kn l)) p g 13 := by
  have hn := w.n2
  intro l
  induction l with
  | nil =>
    intro ys H kn _ hl S
    have hc : ¬ (ys.length : Int) < ((lst f.code).length : Int) := by simp at hl; omega
    refine ⟨H, ?_, S.d⟩
    rw [yma]
    simp only [ypz, yn, y6, hc, decide_false, y1hs, y1y]
  | cons x l ih =>
    intro ys H kn _ hl S
    simp only [List.length_cons] at hl
    have hlt : ys.length < (lst f.code).length := by omega
    have hc : (ys.length : Int) < ((lst f.code).length : Int) := by omega
    have hw := y1j hlt (by omega)
    have hcode : (y5u f (ys ++ x :: l)).code = some (ys ++ x :: l) := rfl
    have hlen : (ys ++ x :: l).length = (lst f.code).length := by simp; omega
    have kx := y1yy hlt (p 2) (g 2) 9 .i64
    have lx := S.d.ix hcode (y1lc ys x l)
    have h13 := S.d.len
    obtain ⟨o, ho⟩ : ∃ o, H[0 + 12]? = some o := ⟨_, List.getElem?_eq_getElem (by omega)⟩
    have nx := y1xm ho
    rw [Nat.zero_add] at nx
    have sx := st_x (H := H.set 12 (AX (o.gen + 1) default)) (id := 12) (g := o.gen + 1) (y := x) (ybq (by omega))
    rw [List.set_set] at sx
    have D1 := S.d.set (a := 12) (x := AX (o.gen + 1) x) (by omega)
    have hX : (H.set 12 (AX (o.gen + 1) x))[12]? = some (AX (o.gen + 1) x) := ybq (by omega)
    have m1 : (H.set 12 (AX (o.gen + 1) x))[10]? = some (AM vB gh hm) := by rw [y3a (by omega)]; exact S.hm
    have k1 : (H.set 12 (AX (o.gen + 1) x))[11]? = some (AM vI gk kn) := by rw [y3a (by omega)]; exact S.kn
    generalize H.set 12 (AX (o.gen + 1) x) = H1 at *
    -- the head of a block
    have e5 : ∃ H2, y16l (.lp 0 1 0 0) (.lp 1 1 0 0) (.lm 10 gh) (.lm 11 gk) (.int .i64 ys.length) (.lp 12 (o.gen + 1) 0 0) (.ls (p 2) (g 2) 9 0 (lst f.code).length) (.int .i64 (lst f.code).length) (.int .i64 ys.length) H1 =
        ymw (.lp 0 1 0 0) (.lp 1 1 0 0) (.lm 10 gh) (.lm 11 gk) (.int .i64 ys.length) (.lp 12 (o.gen + 1) 0 0) (.ls (p 2) (g 2) 9 0 (lst f.code).length) (.int .i64 (lst f.code).length) (.int .i64 ys.length) H2 ∧
        DSt H2 (y5u f (ys ++ x :: l)) p g 13 ∧ H2[12]? = some (AX (o.gen + 1) x) ∧ H2[10]? = some (AM vB gh hm) ∧ H2[11]? = some (AM vI gk (if ydw f ys.length then [] else kn)) := by
      have mg := y1t2 (vf := vB) m1 (.bool false) (ys.length : Int)
      rw [hh] at mg
      by_cases hd : (ys.length : Int) ∈ y53 f
      · rw [if_pos hd] at mg
        simp only [Option.map_some, Option.getD_some] at mg
        have mc := y1vg (vf := vI) k1
        refine ⟨H1.set 11 (AM vI gk []), ?_, D1.set (by omega), by rw [y3a (by omega)]; exact hX, by rw [y3a (by omega)]; exact m1, ?_⟩
        · simp only [y16l, mg, y6, y1g, mc, yj]
        · rw [ybq (y96 k1), ydw, decide_eq_true hd]; rfl
      · rw [if_neg hd] at mg
        simp only [Option.map_none, Option.getD_none] at mg
        refine ⟨H1, ?_, D1, hX, m1, ?_⟩
        · simp only [y16l, mg, y6, y1y]
        · rw [k1, ydw, decide_eq_false hd]; rfl
    obtain ⟨H2, e5, D2, hX2, m2, k2⟩ := e5
    rw [yam]
    generalize hkn : (if ydw f (ys.length : Int) = true then [] else kn) = k0 at *
    -- what it becomes
    have cf := y1ij k2 x 0
    have D3 := D2.grow [AX 1 x, AX 1 (y40 x k0)]
    have hX3 := ygd (T := [AX 1 x, AX 1 (y40 x k0)]) hX2
    have m3 := ygd (T := [AX 1 x, AX 1 (y40 x k0)]) m2
    have k3 := ygd (T := [AX 1 x, AX 1 (y40 x k0)]) k2
    generalize hy : y40 x k0 = y at *
    generalize H2 ++ [AX 1 x, AX 1 y] = H3 at *
    have s4 := st_x (y := y) hX3
    have D4 := D3.set (a := 12) (x := AX (o.gen + 1) y) (by omega)
    have hX4 : (H3.set 12 (AX (o.gen + 1) y))[12]? = some (AX (o.gen + 1) y) := ybq (y96 hX3)
    have m4 : (H3.set 12 (AX (o.gen + 1) y))[10]? = some (AM vB gh hm) := by rw [y3a (by omega)]; exact m3
    have k4 : (H3.set 12 (AX (o.gen + 1) y))[11]? = some (AM vI gk k0) := by rw [y3a (by omega)]; exact k3
    generalize H3.set 12 (AX (o.gen + 1) y) = H4 at *
    have lc4 := D4.ldc
    have hov : ownV (p 2) (g 2) (y5u f (ys ++ x :: l)).code = .ls (p 2) (g 2) 9 0 (lst f.code).length := by
      show ownV (p 2) (g 2) (some (ys ++ x :: l)) = _
      rw [ownV, hlen]; rfl
    rw [hov] at lc4
    have s5 := D4.st hcode (i := ys.length) (by omega) y
    rw [y16z] at s5
    have hp2 := D4.lo 2 (by omega) rfl
    have D5 : DSt (H4.set (p 2) ⟨g 2, .arr false false 9 (((ys ++ [y]) ++ l).map enc)⟩) (y5u f ((ys ++ [y]) ++ l)) p g 13 := D4.setCode (L' := (ys ++ [y]) ++ l) hcode (by simp)
    have hX5 : (H4.set (p 2) ⟨g 2, .arr false false 9 (((ys ++ [y]) ++ l).map enc)⟩)[12]? = some (AX (o.gen + 1) y) := by rw [y3a (by omega)]; exact hX4
    have m5 : (H4.set (p 2) ⟨g 2, .arr false false 9 (((ys ++ [y]) ++ l).map enc)⟩)[10]? = some (AM vB gh hm) := by rw [y3a (by omega)]; exact m4
    have k5 : (H4.set (p 2) ⟨g 2, .arr false false 9 (((ys ++ [y]) ++ l).map enc)⟩)[11]? = some (AM vI gk k0) := by rw [y3a (by omega)]; exact k4
    generalize H4.set (p 2) ⟨g 2, .arr false false 9 (((ys ++ [y]) ++ l).map enc)⟩ = H5 at *
    have ay : ∀ H : Heap, ye (fz H y1d) [.agg (enc y)] = some ⟨[.agg (enc y)], scal y && true, []⟩ := fun H => by
      rw [yx, ycw, y16]; rfl
    have cD : ∀ H, y4 E (y5 E) 0 none true 9 [.agg (enc y)] H = some (.int .i64 (defr y), H) := fun H => y1s rfl (ay H) rfl (y257 y) ⟨_, rfl, rfl⟩
    have lx2 := y1bf hX2
    have lx4 := y1bf hX4
    have lx5 := y1bf hX5
    have next : ∀ (H' : Heap) (kn' : Kn), FSt H' (y5u f ((ys ++ [y]) ++ l)) p g hm gh gk kn' → kn' = yao y k0 →
        ∃ H'', yj5 (.lp 0 1 0 0) (.lp 1 1 0 0) (.lm 10 gh) (.lm 11 gk) (.ls (p 2) (g 2) 9 0 (lst f.code).length) (.int .i64 (lst f.code).length) (.int .i64 ys.length) H' = y1bu (.lp 0 1 0 0) (.lp 1 1 0 0) H'' ∧
          DSt H'' (y5u f (ys ++ y :: yam (ydw f) (ys.length + 1) (yao y k0) l)) p g 13 := by
      intro H' kn' S' e
      subst e
      obtain ⟨H'', h1, h2⟩ := ih (ys ++ [y]) H' (yao y k0) (.inr trivial) (by simp; omega) S'
      have e1 : ((ys ++ [y]).length : Int) = ((ys.length : Int) + 1) := by simp
      have e2 : (ys ++ [y]).length = ys.length + 1 := by simp
      rw [e2] at h1 h2
      refine ⟨H'', ?_, by rw [List.append_assoc] at h2; exact h2⟩
      rw [← h1]
      simp only [yj5, yw, y6, hw]
      rfl
    have e4 : ymw (.lp 0 1 0 0) (.lp 1 1 0 0) (.lm 10 gh) (.lm 11 gk) (.int .i64 ys.length) (.lp 12 (o.gen + 1) 0 0) (.ls (p 2) (g 2) 9 0 (lst f.code).length) (.int .i64 (lst f.code).length) (.int .i64 ys.length) H2 =
        cnd (.bool (decide (0 ≤ defr y)))
         (oh (y7y false [0] (.lm 11 gk) (.int .i64 (defr y)) H5) fun _ h6 =>
          ob (evFa 0 (.lp 12 (o.gen + 1) 0 0)) fun v54 =>
          ob (evLd false 1 v54 h6) fun v55 =>
          ob (y2 .eql v55 (.int .i64 1)) fun v56 =>
          cnd v56
           (ob (evFa 5 (.lp 12 (o.gen + 1) 0 0)) fun v59 =>
            ob (evLd false 1 v59 h6) fun v60 =>
            oh (y7f false [0] (.lm 11 gk) (.int .i64 (defr y)) v60 h6) fun _ h7 =>
            (yj5 (.lp 0 1 0 0) (.lp 1 1 0 0) (.lm 10 gh) (.lm 11 gk) (.ls (p 2) (g 2) 9 0 (lst f.code).length) (.int .i64 (lst f.code).length) (.int .i64 ys.length) h7))
           ((yj5 (.lp 0 1 0 0) (.lp 1 1 0 0) (.lm 10 gh) (.lm 11 gk) (.ls (p 2) (g 2) 9 0 (lst f.code).length) (.int .i64 (lst f.code).length) (.int .i64 ys.length) h6)))
         ((yj5 (.lp 0 1 0 0) (.lp 1 1 0 0) (.lm 10 gh) (.lm 11 gk) (.ls (p 2) (g 2) 9 0 (lst f.code).length) (.int .i64 (lst f.code).length) (.int .i64 ys.length) H5)) := by
      simp only [ymw, lx2, y6, cf, yj, s4, yq, Nat.zero_add, lc4, lx4, kx, s5, lx5, cD, y8m]
    have e10 : ygm (.lp 0 1 0 0) (.lp 1 1 0 0) (.lm 10 gh) (.lm 11 gk) (.ls (p 2) (g 2) 9 0 (lst f.code).length) (.int .i64 (lst f.code).length) (.int .i64 ys.length) H = ymw (.lp 0 1 0 0) (.lp 1 1 0 0) (.lm 10 gh) (.lm 11 gk) (.int .i64 ys.length) (.lp 12 (o.gen + 1) 0 0) (.ls (p 2) (g 2) 9 0 (lst f.code).length) (.int .i64 (lst f.code).length) (.int .i64 ys.length) H2 := by
      rw [yma, ← e5]
      simp only [ypz, yn, y6, hc, decide_true, y1hs, y1g, y1tw, kx, lx, nx, yj, sx]
    rw [e10, e4]
    by_cases hd : 0 ≤ defr y
    · rw [decide_eq_true hd, y1g, y1t5 (vf := vI) k5, yj]
      have lop := ld_x (k := 0) (v := .int .i64 y.op) (show (H5.set 11 (AM vI gk (adel (defr y) k0)))[12]? = some (AX (o.gen + 1) y) by rw [y3a (by omega)]; exact hX5) rfl
      have lon := ld_x (k := 5) (v := .int .i64 y.n) (show (H5.set 11 (AM vI gk (adel (defr y) k0)))[12]? = some (AX (o.gen + 1) y) by rw [y3a (by omega)]; exact hX5) rfl
      have D6 := D5.set (a := 11) (x := AM vI gk (adel (defr y) k0)) (by omega)
      have m6 : (H5.set 11 (AM vI gk (adel (defr y) k0)))[10]? = some (AM vB gh hm) := by rw [y3a (by omega)]; exact m5
      have k6 : (H5.set 11 (AM vI gk (adel (defr y) k0)))[11]? = some (AM vI gk (adel (defr y) k0)) := ybq (y96 k5)
      generalize H5.set 11 (AM vI gk (adel (defr y) k0)) = H6 at *
      by_cases h1 : y.op = 1
      · have mp := y136 (vf := vI) k6 (defr y) y.n
        obtain ⟨H'', q1, q2⟩ := next (H6.set 11 (AM vI gk (aset (defr y) y.n (adel (defr y) k0)))) _ ⟨D6.set (by omega), by rw [y3a (by omega)]; exact m6, ybq (y96 k6)⟩ (by rw [yao, if_pos hd, if_pos h1])
        refine ⟨H'', ?_, q2⟩
        simp only [yq, Nat.zero_add, y6, lop, yl, h1, decide_true, y1g, lon, mp, yj, q1]
      · obtain ⟨H'', q1, q2⟩ := next H6 _ ⟨D6, m6, k6⟩ (by rw [yao, if_pos hd, if_neg h1])
        refine ⟨H'', ?_, q2⟩
        simp only [yq, Nat.zero_add, y6, lop, yl, h1, decide_false, y1y, q1]
    · rw [decide_eq_false hd, y1y]
      exact next H5 k0 ⟨D5, m5, k5⟩ (by rw [yao, if_neg hd])
omit hh w in
theorem yyj (v19 : AV) (hs : List Int) (hl : hs.length ≤ 1000000) (F : Fn) : ∀ (d j : Nat) (H : Heap) (m : List (Int × Bool)), j + d = hs.length → (∀ r : Int, aget r m = if r ∈ hs.take j then some true else none) → DSt H F p g 13 → H[10]? = some (AM vB gh m) →
    ∃ H' m', (∀ r : Int, aget r m' = if r ∈ hs then some true else none) ∧ yfb (.lp 0 1 0 0) (.lp 1 1 0 0) (.lm 10 gh) (slA (nz hs)) (.int .i64 hs.length) (.int .i64 j) H = ytu (.lp 0 1 0 0) (.lp 1 1 0 0) (.lm 10 gh) H' ∧ DSt H' F p g 13 ∧ H'[10]? = some (AM vB gh m') := by
  intro d
  induction d with
  | zero =>
    intro j H m hd hm D h10
    have hc : ¬ (j : Int) < (hs.length : Int) := by omega
    refine ⟨H, m, by rw [List.take_of_length_le (by omega)] at hm; exact hm, ?_, D, h10⟩
    rw [yi4]
    simp only [ysp, yn, y6, hc, decide_false, ysa, y1y]
  | succ d ih =>
    intro j H m hd hm D h10
    have hlt : j < hs.length := by omega
    have hc : (j : Int) < (hs.length : Int) := by omega
    have hw := y1j hlt (by omega)
    have kx := yc1 (o := nz hs) (i := j) (by rw [yec]; exact List.getElem?_eq_getElem hlt) .i64
    have htk : hs.take (j + 1) = hs.take j ++ [hs[j]] := List.take_succ_eq_append_getElem hlt
    generalize hs[j] = u at *
    have lx : ∀ H : Heap, evLd false 1 (.rp [.int .i64 u]) H = some (.int .i64 u) := fun H => by simp
    have mp := y136 (vf := vB) h10 u true
    obtain ⟨H', m', h1, h2, h3, h4⟩ := ih (j + 1) (H.set 10 (AM vB gh (aset u true m))) (aset u true m) (by omega) (fun r => by
      rw [ya0, htk, hm]
      by_cases e : r = u
      · simp [e]
      · simp [e]) (D.set (by omega)) (ybq (y96 h10))
    refine ⟨H', m', h1, ?_, h3, h4⟩
    rw [yi4, ← h2]
    simp only [ysp, yn, y6, hc, decide_true, ysa, y1g, y16e, kx, lx, mp, yj, y1cz, yw, hw]
    rfl
end
theorem y1qz (f : Fn) (hf : FnFit f) (hs : FnSm f) (hr : (lst f.rows).length ≤ 1000000) :
    (wf f = false → (y5 E).p 125 [.agg (enc f)] = some (y1m f)) ∧ (wf f = true → (y5 E).p 125 [.agg (enc f)] = some (y1m (y5u f (yn8 f)))) := by
  have n0 : newC 0 (some 0) (cellsOf (.agg (enc f))) [⟨0, .dead⟩, ⟨0, .dead⟩, ⟨0, .dead⟩, ⟨0, .dead⟩, ⟨0, .dead⟩, ⟨0, .dead⟩, ⟨0, .dead⟩, ⟨0, .dead⟩, ⟨0, .dead⟩, ⟨0, .dead⟩, ⟨0, .dead⟩, ⟨0, .dead⟩, ⟨0, .dead⟩] = some (.lp 0 1 0 0, [AB f, D0, D0, D0, D0, D0, D0, D0, D0, D0, D0, D0, D0]) := by simp
  have n1 : newC 0 (some 1) [.nils, .nils, .int .i64 0, .nils, .nils] [AB f, D0, D0, D0, D0, D0, D0, D0, D0, D0, D0, D0, D0] = some (.lp 1 1 0 0, [AB f, ⟨1, .arr true false 5 [[.nils, .nils, .int .i64 0, .nils, .nils]]⟩, D0, D0, D0, D0, D0, D0, D0, D0, D0, D0, D0]) := by simp
  have l0 : ∀ t : Heap, evLd true 5 (.lp 0 1 0 0) (AB f :: t) = some (.agg (enc f)) := fun t => by simp
  obtain ⟨H1, H2, p, g, e1, e2, D, hl2, hk2⟩ := yyt hs (H := [AB f, ⟨1, .arr true false 5 [[.nils, .nils, .int .i64 0, .nils, .nils]]⟩, D0, D0, D0, D0, D0, D0, D0, D0, D0, D0, D0]) rfl ⟨_, rfl, rfl⟩ (n := 13) (by omega) (by simp)
  have hck := y16k f hf
  have c8 := D.call (E := E) (C := y5 E) (fb := 0) (sl := none) (k := 8) rfl rfl hck ⟨_, rfl, rfl⟩
  have e24 : (y5 E).p 125 [.agg (enc f)] = ykn (.lp 0 1 0 0) (.lp 1 1 0 0) H2 := by
    rw [y245]
    simp only [y1ex, n0, yj, n1, y15u, l0, y6, e1, e2]
  refine ⟨fun hw => ?_, fun hw => ?_⟩
  · rw [hw] at c8
    obtain ⟨H3, o1, o2, o3⟩ := D.out
    rw [e24]
    simp only [ykn, D.ld, y6, c8, Bool.false_eq_true, if_false, yj, y4v, show decide ((80 : Int) ≠ 0) = true from rfl, y1g, o1, o2, o3]
  · rw [hw] at c8
    have w := y1gl hw
    have hn := w.n2
    obtain ⟨L, hL⟩ : ∃ L, f.code = some L := by
      cases hc : f.code with
      | none => have := w.n1; rw [hc] at this; simp at this
      | some L => exact ⟨L, rfl⟩
    have hlL : lst f.code = L := by rw [hL]; rfl
    have h10 : H2[0 + 10]? = some D0 := by rw [Nat.zero_add, hk2 10 (by omega)]; rfl
    have mk1 := y1oy vB h10
    rw [Nat.zero_add] at mk1
    have D3 := D.set (a := 10) (x := AM vB (D0.gen + 1) []) (by omega)
    have hh3 : (H2.set 10 (AM vB (D0.gen + 1) []))[10]? = some (AM vB 1 []) := ybq (by rw [hl2]; simp)
    have h11 : (H2.set 10 (AM vB (D0.gen + 1) []))[11]? = some D0 := by rw [y3a (by omega), hk2 11 (by omega)]; rfl
    have hHd := y1sk f (by omega) hr
    have hfr : (exO (nz (y53 f))).fresh = true := by rw [y11l, yec]; simp
    have cH := D3.call (E := E) (C := y5 E) (fb := 0) (sl := none) (k := 102) rfl hfr hHd ⟨_, y1od _, rfl⟩
    have hhl : (y53 f).length ≤ 20000 := Nat.le_trans (yc9 f _) hn
    obtain ⟨H4, m', q1, q2, D4, q4⟩ := yyj p g 1 (.int .i64 0) (y53 f) (by omega) f _ 0 _ [] (Nat.zero_add _) (fun r => by simp [aget]) D3 hh3
    have hle := y3p (nz (y53 f))
    rw [yec] at hle
    obtain ⟨o, ho⟩ : ∃ o, H4[0 + 11]? = some o := ⟨_, List.getElem?_eq_getElem (by have := D4.len; omega)⟩
    have mk2 := y1oy vI ho
    rw [Nat.zero_add] at mk2 ho
    have D5 := D4.set (a := 11) (x := AM vI (o.gen + 1) []) (by omega)
    have hh5 : (H4.set 11 (AM vI (o.gen + 1) []))[10]? = some (AM vB 1 m') := by rw [y3a (by omega)]; exact q4
    have hk5 : (H4.set 11 (AM vI (o.gen + 1) []))[11]? = some (AM vI (o.gen + 1) []) := ybq (y96 ho)
    have lc := D5.ldc
    have hov : ownV (p 2) (g 2) f.code = .ls (p 2) (g 2) 9 0 (lst f.code).length := by rw [hL]; rfl
    rw [hov] at lc
    have D5' : DSt (H4.set 11 (AM vI (o.gen + 1) [])) (y5u f ([] ++ lst f.code)) p g 13 := by
      rw [List.nil_append, hlL, yhq hL]; exact D5
    obtain ⟨H6, r1, D6⟩ := y159 w p g m' 1 (o.gen + 1) q1 (lst f.code) [] _ [] (.inl rfl) (by simp) ⟨D5', hh5, hk5⟩
    obtain ⟨H7, o1, o2, o3⟩ := D6.out
    rw [e24]
    simp only [List.length_nil, Int.ofNat_zero] at r1
    have e21 : ∀ H, y0o (.lp 0 1 0 0) (.lp 1 1 0 0) H = oh (mkmC 0 (some 10) H) fun v16 h14 => ywt (.lp 0 1 0 0) (.lp 1 1 0 0) v16 h14 := fun H => rfl
    have hc0 : ((0 : Nat) : Int) = 0 := rfl
    rw [hc0] at q2
    simp only [ykn, D.ld, y6, c8, if_true, yj, y4v, show decide ((0 : Int) ≠ 0) = false from rfl, y1y, e21, mk1, ywt, D3.ld, cH, hle, q2, ytu, mk2, y1av, yq, Nat.zero_add, lc, yqy, r1, y1bu, D6.ld, o1, o2, o3]
    rfl
end Go.Vm
namespace Go.Vm
end Go.Vm
namespace Go.Vm
open Cel
theorem fz_f (f : Fn) (H : Heap) : ye (fz H y1d) [.agg (enc f)] = some ⟨[.agg (enc f)], scal f && true, []⟩ := by
  rw [yx, ycw, y16]; rfl
theorem FnIn.sm {f : Fn} (hf : FnIn f) (h1 : (lst f.code).length ≤ 400) (h3 : (lst f.rows).length ≤ 100) : FnSm f := by
  have e : reachBytes = 140737488351232 := rfl
  have e38 : (2:Nat)^38 = 274877906944 := by decide
  refine ⟨?_, ?_, ?_, ?_, fun x hx => ?_⟩
  · have := hf.regs; omega
  · have := hf.params; omega
  · omega
  · omega
  · have := (hf.insI x hx).len; omega
abbrev AFn (f : Fn) : AO := ⟨1, .arr true false 5 [enc f]⟩
end Go.Vm
namespace Go.Vm
theorem FnFit.num {f : Fn} (hf : FnFit f) : ∀ x ∈ lst f.code, y24 x.n ∧ x.s.length ≤ 9223372036854775807 := fun x hx => ⟨(hf.ins x hx).n, (hf.ins x hx).s⟩
theorem FoldOk.mem {f g : Fn} (k : FoldOk f g) {y : Ins} (hy : y ∈ lst g.code) : ∃ x ∈ lst f.code, Fold1 f x y := by
  obtain ⟨i, hi, e⟩ := List.getElem_of_mem hy
  have hi' : i < (lst f.code).length := by rw [← k.swap.len]; exact hi
  have F := k.at_ i hi'
  have ey : yz g i = y := by rw [yz, List.getD_eq_getElem?_getD, List.getElem?_eq_getElem hi, e]; rfl
  rw [ey] at F
  exact ⟨_, List.mem_of_getElem? (y4e hi'), F⟩
theorem FoldOk.fit {f g : Fn} (k : FoldOk f g) (hf : FnFit f) : FnFit g := by
  refine ⟨fun y hy => ?_, by rw [k.swap.len]; exact hf.code, by rw [k.swap.regs]; exact hf.regs, by rw [k.swap.params]; exact hf.params, by rw [k.swap.rows]; exact hf.rows⟩
  obtain ⟨x, hx, F⟩ := k.mem hy
  refine ⟨F.n, F.s, ?_⟩
  rcases F.args with e | e
  · rw [e]; exact (hf.ins x hx).a
  · rw [e]; exact Nat.zero_le _
theorem FoldOk.args {f g : Fn} (k : FoldOk f g) (hx : y1oq f) : y1oq g := fun y hy => by
  obtain ⟨x, hx2, F⟩ := k.mem hy
  rcases F.args with e | e
  · rw [e]; exact hx x hx2
  · rw [e]; exact Nat.zero_le _
end Go.Vm
namespace Go.Vm
@[simp] theorem y1q7 : (y5 E).p 124 [] = some ⟨.bool true, [], true, [], []⟩ := y1pa 60 (by kernel_rfl)
end Go.Vm
namespace Go.Vm
noncomputable def y5t (f : Fn) (i : Nat) : Bool := (y83 f).getD i false && !decide ((yz f i).op = 33)
noncomputable def plc (f : Fn) : Nat → Nat
  | 0 => 0
  | k + 1 => plc f k + if y5t f k then 1 else 0
noncomputable def y4g (f : Fn) (x : Ins) : Ins := { x with t := if leads x.op then (plc f x.t.toNat : Int) else 0 }
noncomputable def y11 (f : Fn) : Nat → List Ins
  | 0 => []
  | k + 1 => y11 f k ++ if y5t f k then [y4g f (yz f k)] else []
noncomputable def yj9 (f : Fn) (r : Row) : List Row :=
  if y5t f r.at_.toNat && decide (plc f r.f.toNat < plc f r.t.toNat) then [⟨plc f r.f.toNat, plc f r.t.toNat, plc f r.at_.toNat, r.c⟩] else []
noncomputable def y1w (f : Fn) (k : Nat) : List Row := ((lst f.rows).take k).flatMap (yj9 f)
noncomputable def yd6 (f : Fn) : Fn :=
  if wf f then { regs := f.regs, params := f.params, ret := f.ret, code := nz (y11 f (lst f.code).length), rows := nz (y1w f (lst f.rows).length) } else f
theorem y155 (f : Fn) : ∀ k, plc f k ≤ k
  | 0 => Nat.le_refl _
  | k + 1 => by
    have := y155 f k
    rw [plc]
    split <;> omega
theorem yaw (f : Fn) : ∀ k, (y11 f k).length = plc f k
  | 0 => rfl
  | k + 1 => by
    rw [y11, plc, List.length_append, yaw f k]
    split <;> rfl
theorem y1d8 (f : Fn) (k : Nat) : (y1w f k).length ≤ k := by
  have : ∀ (l : List Row), (l.flatMap (yj9 f)).length ≤ l.length := by
    intro l
    induction l with
    | nil => simp
    | cons r l ih =>
      rw [List.flatMap_cons, List.length_append, List.length_cons]
      have : (yj9 f r).length ≤ 1 := by unfold yj9; split <;> simp
      omega
  have h := this ((lst f.rows).take k)
  rw [List.length_take] at h
  unfold y1w
  omega
theorem yye {f : Fn} {k : Nat} {r : Row} (h : (lst f.rows)[k]? = some r) : y1w f (k + 1) = y1w f k ++ yj9 f r := by
  unfold y1w
  have hk := (List.getElem?_eq_some_iff.1 h).1
  have e : (lst f.rows).take (k + 1) = (lst f.rows).take k ++ [r] := by
    rw [← List.take_append_getElem hk]
    rw [List.getElem?_eq_getElem hk] at h
    injection h with h
    rw [h]
  rw [e, List.flatMap_append]
  simp
noncomputable def kpL (f : Fn) (k : Nat) : List Bool := (List.range (lst f.code).length).map fun j => if j < k then y5t f j else (y83 f).getD j false
theorem y236 (f : Fn) : kpL f 0 = y83 f := by
  refine List.ext_getElem (by simp [kpL, ybo]) fun i h1 h2 => ?_
  simp [kpL, h2]
theorem y1t9 (f : Fn) (k : Nat) : (kpL f k).length = (lst f.code).length := by simp [kpL]
theorem y1so {f : Fn} {k : Nat} (h : (yz f k).op = 33) : (kpL f k).set k false = kpL f (k + 1) := by
  refine yjx ?_ fun j hj => ?_
  · simp [y5t, h]
  · by_cases h1 : j < k
    · simp [h1, show j < k + 1 by omega]
    · simp [h1, show ¬ j < k + 1 by omega]
theorem y1x3 {f : Fn} {k : Nat} (h : ¬ (yz f k).op = 33) : kpL f (k + 1) = kpL f k := by
  refine List.map_congr_left fun j _ => ?_
  by_cases e : j = k
  · subst e; simp [y5t, h]
  · by_cases h1 : j < k
    · simp [h1, show j < k + 1 by omega]
    · simp [h1, show ¬ j < k + 1 by omega]
theorem yni {f : Fn} {j : Nat} (h : j < (lst f.code).length) : (kpL f (lst f.code).length)[j]? = some (y5t f j) := by
  simp [kpL, h]
noncomputable def plcL (f : Fn) (k : Nat) : List Int := (List.range ((lst f.code).length + 1)).map fun j => if j < k then (plc f j : Int) else 0
theorem yqo (f : Fn) (k : Nat) : (plcL f k).length = (lst f.code).length + 1 := by simp [plcL]
theorem y1xr (f : Fn) : plcL f 0 = List.replicate ((lst f.code).length + 1) 0 := by
  refine List.ext_getElem (by simp [plcL]) fun i h1 h2 => ?_
  simp [plcL]
theorem yp7 (f : Fn) (k : Nat) : (plcL f k).set k (plc f k : Int) = plcL f (k + 1) := by
  refine yjx ?_ fun j hj => ?_
  · simp
  · by_cases h1 : j < k
    · simp [h1, show j < k + 1 by omega]
    · simp [h1, show ¬ j < k + 1 by omega]
theorem yut {f : Fn} {j : Nat} (h : j ≤ (lst f.code).length) : (plcL f ((lst f.code).length + 1))[j]? = some (plc f j : Int) := by
  have : j < (lst f.code).length + 1 := by omega
  simp [plcL, this]
end Go.Vm
namespace Go.Vm
def zchk : Ins := ⟨7, 0, 0, 0, 0, 0, 0, [], none⟩
def schk : Ins := ⟨10, 0, 1, 0, 0, 0, 0, [], none⟩
def ifI (c : Int) : Ins := ⟨28, 0, 0, 1, 0, c, 6, [], none⟩
def retA (a : Int) : Ins := ⟨30, 0, a, 0, 0, 0, 0, [], none⟩
def wayF (c a b : Int) : Fn := ⟨some [1, 1], none, 1, some [y19 0 a, y19 1 b, zchk, schk, ifI c, retA 0, retA 1], none⟩
def wayG (a b : Int) (x : Ins) : Fn := ⟨some [1, 1], none, 1, some [y19 0 a, y19 1 b, zchk, schk, x, retA 0, retA 1], none⟩
theorem yya (c a b : Int) : y53 (wayF c a b) = [0, 5, 6] := by kernel_rfl
theorem y1sx {c a b : Int} (hc : 0 ≤ c ∧ c < 6) (ha : y32 a) (hb : y32 b) : wf (wayF c a b) = true := by
  have f1 := ynz ha
  have f2 := ynz hb
  have r0 : y13 (wayF c a b) (y19 0 a) = true := y51 rfl (by show ¬ (1 : Int) = 3; decide) (.inr ha)
  have r1 : y13 (wayF c a b) (y19 1 b) = true := y51 rfl (by show ¬ (1 : Int) = 3; decide) (.inr hb)
  have r2 : y13 (wayF c a b) zchk = true := rfl
  have r3 : y13 (wayF c a b) schk = true := rfl
  have r4 : y13 (wayF c a b) (ifI c) = true := by
    have : c = 0 ∨ c = 1 ∨ c = 2 ∨ c = 3 ∨ c = 4 ∨ c = 5 := by omega
    rcases this with rfl | rfl | rfl | rfl | rfl | rfl <;> rfl
  have r5 : y13 (wayF c a b) (retA 0) = true := rfl
  have r6 : y13 (wayF c a b) (retA 1) = true := rfl
  have hco : y3x (wayF c a b) (lst (wayF c a b).code) 0 (lst (wayF c a b).code) = true := by
    show y3x (wayF c a b) [y19 0 a, y19 1 b, zchk, schk, ifI c, retA 0, retA 1] 0 [y19 0 a, y19 1 b, zchk, schk, ifI c, retA 0, retA 1] = true
    simp only [y3x, r0, r1, r2, r3, r4, r5, r6, Bool.true_and, Bool.and_true]
    rfl
  unfold wf
  rw [hco]
  rfl
theorem y1cr (c a b : Int) : yn8 (wayF c a b) = [y19 0 a, y19 1 b, zchk, schk, if y5v c a b = true then y85 6 else nopI, retA 0, retA 1] := by
  have hh : ∀ i : Int, ydw (wayF c a b) i = decide (i ∈ [0, 5, 6]) := fun i => by rw [ydw, yya]
  unfold yn8
  rw [show ydw (wayF c a b) = fun i => decide (i ∈ ([0, 5, 6] : List Int)) from funext hh]
  rfl
section
variable {g : Fn} {r : List Bool} (hl : (lst g.code).length = 7) (hr : dfs 7 (yd7 g) 30 (List.replicate 7 false) [0] = some r)
include hl hr
theorem yky : y83 g = r := by
  obtain ⟨h1, h2⟩ := ydh (n := 7) (S := yd7 g) (A := [0]) 30 _ [0] r DfsI.start hr
  exact (ymg (by rw [h1, hl]) (fun i => by rw [h2, hl])).symm
end
theorem y1j5 (a b : Int) (hw : wf (wayG a b (y85 6)) = true) : (lst (yd6 (wayG a b (y85 6))).code).length = 6 := by
  have hr := yky (g := wayG a b (y85 6)) rfl (r := [true, true, true, true, true, false, true]) (by kernel_rfl)
  rw [yd6, if_pos hw]
  show (lst (nz (y11 (wayG a b (y85 6)) 7))).length = 6
  rw [yec, yaw]
  simp only [plc, y5t, hr]
  rfl
theorem y1u4 (a b : Int) (hw : wf (wayG a b nopI) = true) : (lst (yd6 (wayG a b nopI)).code).length = 5 := by
  have hr := yky (g := wayG a b nopI) rfl (r := [true, true, true, true, true, true, false]) (by kernel_rfl)
  rw [yd6, if_pos hw]
  show (lst (nz (y11 (wayG a b nopI) 7))).length = 5
  rw [yec, yaw]
  simp only [plc, y5t, hr]
  rfl
end Go.Vm
namespace Go.Vm
open Cel
attribute [local simp] y4 y23 ym
@[simp] theorem y22t (x : Ins) : (y5 E).p 18 [.agg (enc x)] = some ⟨.bool (throws x.op), [], true, [], []⟩ := by
  rw [y23w]
  rcases ydb x.op with h|h|h|h|h|h|h|h|h|h|h|h|h|h|h|h|h|h|h|h|h|h|h|h|h|h|h|h|h|h|h|h|h|h|h <;> first | (simp [h, throws, calls, y141]; done) | (simp [lo_f h, throws, calls, y141]; done) | simp [hi_f h, throws, calls, y141]
end Go.Vm
namespace Go.Vm
open Cel
attribute [local simp] y4 y23 ym
theorem yk7 (a b : Int) : (y5 E).p 46 [.rs 1 [[.int .i64 a]], .int .i64 b] = some ⟨.bool ([a].contains b), [], true, [], []⟩ := by
  have := y8r (some [a]) b (by simp)
  exact this
theorem y21n (f : Fn) (i : Int) (hl : (lst f.code).length ≤ 9223372036854775807) : (y5 E).p 81 [.agg (enc f), .int .i64 i] = some (exO (nz (y4u f i))) := by
  rw [y24z]
  by_cases h0 : i < 0
  · simp [yfy, yg9, yg6, y1bw, y154, y13p, yy8, h0, y4u, nz]; rfl
  by_cases h1 : ((lst f.code).length : Int) ≤ i
  · simp [yfy, yg9, yg6, y1bw, y154, y13p, yy8, h0, h1, y4u, nz]; rfl
  have g0 : 0 ≤ i := by omega
  have hx := y4e (f := f) (i := i.toNat) (by omega)
  have k1 := yde (o := f.code) g0 hx .i64
  have hw := y13f g0 (by omega) hl
  have hn : y4u f i = y9l (yz f i.toNat) i := by rw [y4u, if_neg (by omega)]
  rw [hn]
  generalize yz f i.toNat = x at *
  have e : yy8 (.agg (enc f)) (.int .i64 i) [⟨0, .dead⟩, ⟨0, .dead⟩, ⟨0, .dead⟩, ⟨0, .dead⟩, ⟨0, .dead⟩, ⟨0, .dead⟩] = yg6 (.int .i64 i) (.lp 1 1 0 0) .nils [⟨1, .arr true false 5 [enc f]⟩, ⟨1, .arr true false 9 [enc x]⟩, ⟨0, .dead⟩, ⟨0, .dead⟩, ⟨0, .dead⟩, ⟨0, .dead⟩] := by
    simp [yy8, y13p, y154, y1bw, h0, h1, k1]
  rw [e, y9l]
  cases he : ends x.op with
  | true =>
    cases hd : leads x.op with
    | false => simp [yg6, yg9, yfy, he, hd, nz]; rfl
    | true =>
      have := y8r none x.t (by simp)
      simp [yg6, yg9, yfy, he, hd, nz, slA] at this ⊢
      simp [this, y14, y1a, y2g, addN]
      exact yc3 (by simp)
  | false =>
    cases hd : leads x.op with
    | false =>
      simp [yg6, yg9, yfy, he, hd, hw, y14, y1a, y2g]
      exact yc3 (by simp)
    | true =>
      have hz : fz [⟨1, .arr true false 5 [enc f]⟩, ⟨1, .arr true false 9 [enc x]⟩, ⟨1, .arr false false 1 [[.int .i64 (i + 1)]]⟩, ⟨1, .arr false false 1 [[.int .i64 (i + 1)]]⟩, ⟨0, .dead⟩, ⟨0, .dead⟩] y1d (.ls 3 1 1 0 1) = some ⟨.rs 1 [[.int .i64 (i + 1)]], true, [3]⟩ := by
        rw [y1vb]; rfl
      generalize hxt : x.t = t at *
      by_cases hc : i + 1 = t
      · subst hc
        simp [yg6, yg9, yfy, he, hd, hw, y14, y1a, y2g, hz, yk7, addN, hxt]
        exact yc3 (by simp)
      · have hc' : ¬ t = i + 1 := fun h => hc h.symm
        simp [yg6, yg9, yfy, he, hd, hw, y14, y1a, y2g, hz, yk7, hc, hc', addN, hxt]
        exact yxf (by simp)
theorem yoe (f : Fn) (i : Int) (hl : (lst f.rows).length ≤ 10000000000000) : ∀ (d k g : Nat) (L : List Int) (o1 o2 : AO), k + d = (lst f.rows).length → L.length ≤ k →
    yl3 (.int .i64 i) (y17 Int 3 g L) (slA f.rows) (.int .i64 (lst f.rows).length) (.int .i64 k) [⟨1, .arr true false 5 [enc f]⟩, o1, o2, yr g D0 L] = some (exO (nz (y30 i ((lst f.rows).drop k) L))) := by
  intro d
  induction d with
  | zero =>
    intro k g L o1 o2 hk _
    have e1 : (lst f.rows).drop k = [] := List.drop_eq_nil_of_le (by omega)
    have hn : ¬ ((k : Int) < ((lst f.rows).length : Int)) := by omega
    have hx := y9p (H := [⟨1, .arr true false 5 [enc f]⟩, o1, o2, yr g D0 L]) (j := 3) (g := g) (o := D0) (L := L) rfl
    rw [yla, e1]
    simp [yll, yvv, y15m, hn, y30, hx]
  | succ d ih =>
    intro k g L o1 o2 hk hL
    have hlt : k < (lst f.rows).length := by omega
    have hc : ((k : Int) < ((lst f.rows).length : Int)) := by omega
    have k1 := yiz (o := f.rows) (i := k) (List.getElem?_eq_getElem hlt) .i64
    rw [yla, List.drop_eq_getElem_cons hlt]
    generalize hr : (lst f.rows)[k] = r at *
    have ih0 := fun g L o1 o2 hL => ih (k + 1) g L o1 o2 (by omega) hL
    push_cast at ih0
    have hw := y1j hlt (by omega)
    have e11 : yll (.int .i64 i) (y17 Int 3 g L) (slA f.rows) (.int .i64 (lst f.rows).length) (.int .i64 k) [⟨1, .arr true false 5 [enc f]⟩, o1, o2, yr g D0 L] =
        ynm (.int .i64 i) (y17 Int 3 g L) (.lp 1 (o1.gen + 1) 0 0) (slA f.rows) (.int .i64 (lst f.rows).length) (.int .i64 k) [⟨1, .arr true false 5 [enc f]⟩, ⟨o1.gen + 1, .arr true false 4 [enc r]⟩, o2, yr g D0 L] := by
      simp [yll, yvv, y1tr, hc, k1]
    rw [e11]
    generalize (o1.gen + 1) = g1
    by_cases h1 : i < r.f
    · have : ¬ (r.f ≤ i ∧ i < r.t) := by omega
      simp [ynm, yyw, h1, hw, y30, this, ih0 g L _ _ (by omega)]
    by_cases h2 : r.t ≤ i
    · have : ¬ (r.f ≤ i ∧ i < r.t) := by omega
      simp [ynm, yyw, h1, h2, hw, y30, this, ih0 g L _ _ (by omega)]
    have hin : r.f ≤ i ∧ i < r.t := by omega
    rw [y30, if_pos hin]
    have hz : ∀ o2, fz [⟨1, .arr true false 5 [enc f]⟩, ⟨g1, .arr true false 4 [enc r]⟩, o2, yr g D0 L] y1d (y17 Int 3 g L) = some ⟨slA (nz L), true, ids1 (y17 Int 3 g L)⟩ := fun o2 => y1kv rfl
    have hct := y8r (nz L) r.at_ (by rw [yec]; omega)
    rw [yec] at hct
    have tail : ∀ g L o2, L.length ≤ k + 1 → yxz (.int .i64 i) (y17 Int 3 g L) (.lp 1 g1 0 0) (slA f.rows) (.int .i64 (lst f.rows).length) (.int .i64 k) [⟨1, .arr true false 5 [enc f]⟩, ⟨g1, .arr true false 4 [enc r]⟩, o2, yr g D0 L] =
        some (exO (nz (if r.c = [] then L else y30 i ((lst f.rows).drop (k + 1)) L))) := by
      intro g L o2 hL
      have hx := y9p (H := [⟨1, .arr true false 5 [enc f]⟩, ⟨g1, .arr true false 4 [enc r]⟩, o2, yr g D0 L]) (j := 3) (g := g) (o := D0) (L := L) rfl
      by_cases hcl : r.c = []
      · simp [yxz, y15m, hcl, hx]
      · simp [yxz, yyw, hcl, hw, ih0 g L _ _ hL]
    unfold addN
    cases hb : L.contains r.at_ with
    | true =>
      rw [hb] at hct
      rw [if_pos rfl]
      have := tail g L o2 (by omega)
      simp [ynm, y1in, h1, h2, hz, hct, this]
    | false =>
      rw [hb] at hct
      rw [if_neg Bool.false_ne_true]
      obtain ⟨g', ha⟩ := y12f (H := [⟨1, .arr true false 5 [enc f]⟩, ⟨g1, .arr true false 4 [enc r]⟩, ⟨o2.gen + 1, .arr false false 1 [[.int .i64 r.at_]]⟩, yr g D0 L]) (fb := 0) (j := 3) (g := g) (o := D0) (y := .ls 2 (o2.gen + 1) 1 0 1) (L := L) (n := r.at_) (by simp) rfl (by omega)
      have ha' : y2g 0 (some 3) 1 8 (y17 Int 3 g L) (.ls 2 (o2.gen + 1) 1 0 1) [⟨1, .arr true false 5 [enc f]⟩, ⟨g1, .arr true false 4 [enc r]⟩, ⟨o2.gen + 1, .arr false false 1 [[.int .i64 r.at_]]⟩, yr g D0 L] = some (y17 Int 3 g' (L ++ [r.at_]), [⟨1, .arr true false 5 [enc f]⟩, ⟨g1, .arr true false 4 [enc r]⟩, ⟨o2.gen + 1, .arr false false 1 [[.int .i64 r.at_]]⟩, yr g' D0 (L ++ [r.at_])]) := ha
      have := tail g' (L ++ [r.at_]) ⟨o2.gen + 1, .arr false false 1 [[.int .i64 r.at_]]⟩ (by simp; omega)
      simp [ynm, y1in, h1, h2, hz, hct, y14, y1a, ha', this]
theorem y1j4 (f : Fn) (i : Int) (hl : (lst f.rows).length ≤ 10000000000000) : (y5 E).p 79 [.agg (enc f), .int .i64 i] = some (exO (nz (y21 f i))) := by
  rw [y24b]
  by_cases h0 : i < 0
  · simp [yhu, ygi, h0, y21, nz]; rfl
  by_cases h1 : ((lst f.code).length : Int) ≤ i
  · simp [yhu, ygi, h0, h1, y21, nz]; rfl
  have g0 : 0 ≤ i := by omega
  have hx := y4e (f := f) (i := i.toNat) (by omega)
  have k1 := yde (o := f.code) g0 hx .i64
  have hn : y21 f i = if throws (yz f i.toNat).op then y30 i (lst f.rows) [] else [] := by rw [y21, if_neg (by omega)]
  rw [hn]
  generalize yz f i.toNat = x at *
  have lp := yoe f i hl _ 0 0 [] D0 D0 (Nat.zero_add _) (Nat.zero_le _)
  simp only [y8k, yfu, List.drop_zero, Int.ofNat_zero] at lp
  cases ht : throws x.op with
  | false => simp [yhu, ygi, h0, h1, k1, ht, nz]; rfl
  | true => simp [yhu, ygi, y13t, y130, h0, h1, k1, ht, lp]
end Go.Vm
namespace Go.Vm
open Cel
attribute [local simp] y4 y23 ym
theorem yxu (f : Fn) (hc : (lst f.code).length ≤ 9223372036854775807) (hr : (lst f.rows).length ≤ 274877906944) : ∀ (k : Nat) (seen : List Bool) (op T : List Int) (g : Nat) (o3 o4 : AO) (r : List Bool), seen.length = (lst f.code).length →
    unseen seen * ((lst f.rows).length + 3) + op.length ≤ 137438953472 → dfs (lst f.code).length (yd7 f) k seen op = some r →
    yhh (.lp 0 1 0 0) (.ls 1 1 1 0 (lst f.code).length) (.ls 2 g 1 0 op.length) [⟨1, .arr true false 5 [enc f]⟩, ⟨1, .arr false false 1 (seen.map enc)⟩, ⟨g, .arr false false 1 ((op ++ T).map enc)⟩, o3, o4] = some (exO (some r)) := by
  intro k
  induction k with
  | zero => intro seen op T g o3 o4 r _ _ h; cases h
  | succ k ih =>
    intro seen op T g o3 o4 r hl hm h
    rw [dfs] at h
    rw [y11c]
    cases hop : op.getLast? with
    | none =>
      rw [hop] at h
      injection h with h
      subst h
      rw [List.getLast?_eq_none_iff] at hop
      subst hop
      simp [y1d2, y1ur]
      rw [← hl]
      exact y5m (α := Bool) (by simp)
    | some i =>
      rw [hop] at h
      simp only at h
      have e := y4f hop
      generalize op.dropLast = L at *
      subst e
      simp only [List.length_append, List.length_singleton] at hm
      have hlen : ((L ++ [i]).length : Int) = (L.length : Int) + 1 := by simp
      have hp : (0 : Int) < (L.length : Int) + 1 := by omega
      have hw : IntKind.wrap .i64 ((L.length : Int) + 1 - 1) = (L.length : Int) := by rw [y27] <;> omega
      have s1 := y1yg 2 g L.length
      have s2 := y1ps 2 g L.length
      have s3 : evLd false 1 (.lp 2 g L.length 0) [⟨1, .arr true false 5 [enc f]⟩, ⟨1, .arr false false 1 (seen.map enc)⟩, ⟨g, .arr false false 1 ((L ++ [i] ++ T).map enc)⟩, o3, o4] = some (.int .i64 i) :=
        y21z (T := T) (by simp)
      have e8 : y1d2 (.lp 0 1 0 0) (.ls 1 1 1 0 (lst f.code).length) (.ls 2 g 1 0 (L ++ [i]).length) [⟨1, .arr true false 5 [enc f]⟩, ⟨1, .arr false false 1 (seen.map enc)⟩, ⟨g, .arr false false 1 ((L ++ [i] ++ T).map enc)⟩, o3, o4] =
          yjz (.lp 0 1 0 0) (.ls 1 1 1 0 (lst f.code).length) (.ls 2 g 1 0 L.length) (.int .i64 i) [⟨1, .arr true false 5 [enc f]⟩, ⟨1, .arr false false 1 (seen.map enc)⟩, ⟨g, .arr false false 1 ((L ++ (i :: T)).map enc)⟩, o3, o4] := by
        simp only [y1d2, y1q2, y1u3, List.length_append, List.length_singleton, yqy, y6, Int.natCast_add, Int.natCast_one, yae, hp, decide_true, y1g, ye2, hw, s1, s2, s3]
        simp
      rw [e8]
      have skip := fun h => ih seen L (i :: T) g o3 o4 r hl (by omega) h
      by_cases h0 : i < 0
      · rw [if_pos (.inl h0)] at h
        simpa [yjz, h0] using skip h
      by_cases h1 : ((lst f.code).length : Int) ≤ i
      · rw [if_pos (.inr (.inl h1))] at h
        simpa [yjz, h0, h1] using skip h
      have g0 : 0 ≤ i := by omega
      have g1 : i < ((lst f.code).length : Int) := by omega
      have hi : i.toNat < seen.length := by omega
      have r1 : yi 1 (.ls 1 1 1 0 (lst f.code).length) (.int .i64 i) = some (.lp 1 1 i.toNat 0) := by simp [yi, g0, g1]
      cases hs : seen[i.toNat] with
      | true =>
        have hsg : seen.getD i.toNat true = true := by rw [List.getD_eq_getElem?_getD, List.getElem?_eq_getElem hi, hs]; rfl
        rw [if_pos (.inr (.inr hsg))] at h
        simpa [yjz, h0, h1, r1, hi, hs] using skip h
      | false =>
        have hsg : ¬ (i < 0 ∨ ((lst f.code).length : Int) ≤ i ∨ seen.getD i.toNat true = true) := by
          rw [List.getD_eq_getElem?_getD, List.getElem?_eq_getElem hi, hs]
          simp [h0, h1]
        rw [if_neg hsg] at h
        have hu := yil hi hs
        have hS := ykr f i.toNat
        have hn2 := ym5 f i
        have hN := y21n f i hc
        have hC := y1j4 f i (by omega)
        have ei : ((i.toNat : Nat) : Int) = i := by omega
        have hSe : yd7 f i.toNat = y4u f i ++ y21 f i := by rw [yd7, ei]
        rw [hSe] at h hS
        rw [List.length_append] at hS
        rw [← hu, Nat.add_mul] at hm
        have b1 := ykc (a := L.length) (b := (y4u f i).length) (by omega)
        have b2 := ykc (a := (L ++ y4u f i).length) (b := (y21 f i).length) (by rw [List.length_append]; omega)
        have a1 := y1di (α := Int) (H := [⟨1, .arr true false 5 [enc f]⟩, ⟨1, .arr false false 1 ((seen.set i.toNat true).map enc)⟩, ⟨g, .arr false false 1 ((L ++ (i :: T)).map enc)⟩, o3, o4]) (fb := 0) (sl := some 3) (id := 2) (g := g) (y := slA (nz (y4u f i))) (L := L) (M := y4u f i) (T := i :: T) (by simp) rfl b1
        have a2 := y1di (α := Int) (H := [⟨1, .arr true false 5 [enc f]⟩, ⟨1, .arr false false 1 ((seen.set i.toNat true).map enc)⟩, ⟨g + 1, .arr false false 1 ((L ++ y4u f i).map enc)⟩, o3, o4]) (fb := 0) (sl := some 4) (id := 2) (g := g + 1) (y := slA (nz (y21 f i))) (L := L ++ y4u f i) (M := y21 f i) (T := []) (by simp) (by simp) b2
        have := ih (seen.set i.toNat true) (L ++ y4u f i ++ y21 f i) [] (g + 1 + 1) o3 o4 r (by simpa using hl) (by simp only [List.length_append]; omega) (by rw [List.append_assoc]; exact h)
        simp only [List.append_nil] at this
        simp only [yr0, List.set_cons_succ, List.set_cons_zero] at a1 a2
        have e4 : yjz (.lp 0 1 0 0) (.ls 1 1 1 0 (lst f.code).length) (.ls 2 g 1 0 L.length) (.int .i64 i) [⟨1, .arr true false 5 [enc f]⟩, ⟨1, .arr false false 1 (seen.map enc)⟩, ⟨g, .arr false false 1 ((L ++ (i :: T)).map enc)⟩, o3, o4] =
            y1jo (.lp 0 1 0 0) (.ls 1 1 1 0 (lst f.code).length) (.ls 2 g 1 0 L.length) (.int .i64 i) [⟨1, .arr true false 5 [enc f]⟩, ⟨1, .arr false false 1 (seen.map enc)⟩, ⟨g, .arr false false 1 ((L ++ (i :: T)).map enc)⟩, o3, o4] := by
          simp [yjz, h0, h1, r1, hi, hs]
        rw [e4]
        have st : evSt 1 (.lp 1 1 i.toNat 0) (.bool true) [⟨1, .arr true false 5 [enc f]⟩, ⟨1, .arr false false 1 (seen.map enc)⟩, ⟨g, .arr false false 1 ((L ++ (i :: T)).map enc)⟩, o3, o4] =
            some (.tup [], [⟨1, .arr true false 5 [enc f]⟩, ⟨1, .arr false false 1 ((seen.set i.toNat true).map enc)⟩, ⟨g, .arr false false 1 ((L ++ (i :: T)).map enc)⟩, o3, o4]) := by
          exact ybu (α := Bool) (v := .bool true) (y := true) rfl hi rfl
        have l1 : ∀ t : Heap, evLd true 5 (.lp 0 1 0 0) (⟨1, .arr true false 5 [enc f]⟩ :: t) = some (.agg (enc f)) := fun t => by simp
        have c1 : ∀ h : Heap, y4 E (y5 E) 0 none true 81 [.agg (enc f), .int .i64 i] h = some (slA (nz (y4u f i)), h) := fun h => by simp [hN]
        have c2 : ∀ h : Heap, y4 E (y5 E) 0 none true 79 [.agg (enc f), .int .i64 i] h = some (slA (nz (y21 f i)), h) := fun h => by simp [hC]
        simp only [y1jo, r1, y6, st, yj, l1, c1, a1, c2, a2, this]
theorem y1uh (f : Fn) (hc : (lst f.code).length ≤ 30000) (hr : (lst f.rows).length ≤ 1000000) : (y5 E).p 101 [.agg (enc f)] = some (exO (some (y83 f))) := by
  rw [y247]
  have hm : unseen (List.replicate (lst f.code).length false) * ((lst f.rows).length + 3) + [(0 : Int)].length < 30000 * 1000003 + 2 := by
    have h1 : unseen (List.replicate (lst f.code).length false) ≤ 30000 := by
      unfold unseen
      exact Nat.le_trans List.countP_le_length (by simpa using hc)
    have := Nat.mul_le_mul h1 (show (lst f.rows).length + 3 ≤ 1000003 by omega)
    simp only [List.length_singleton]
    omega
  obtain ⟨r, h⟩ := yit (n := (lst f.code).length) (S := yd7 f) (B := (lst f.rows).length + 2) (fun i _ => ykr f i) _ (List.replicate (lst f.code).length false) [0] (by simp) hm
  obtain ⟨h1, h2⟩ := ydh _ _ _ r DfsI.start h
  have e := ymg h1 h2
  subst e
  have := yxu f (by omega) (by omega) _ _ [0] [] 1 D0 D0 _ (by simp) (by omega) h
  have b1 : ((lst f.code).length : Int) ≤ 140737488355328 := by omega
  have b2 : ((lst f.code).length : Int) ≤ 4611686018427387904 := by omega
  simp only [List.map_replicate, List.append_nil] at this
  simp [yzm, y18r, y17n, mkSC, b1, b2, y14, y1a]
  exact this
end Go.Vm
namespace Go.Vm
open Cel
theorem y1rb {H : Heap} {fb j g : Nat} {o : AO} {y : AV} {L : List Ins} {x : Ins} (hy : y2o H 9 y = some [enc x]) (h : H[fb + j]? = some (yr g o L)) (hs : L.length ≤ 2 ^ 38) :
    ∃ g', y2g fb (some j) 9 96 (y17 Ins (fb + j) g L) y H = some (y17 Ins (fb + j) g' (L ++ [x]), H.set (fb + j) (yr g' o (L ++ [x]))) := by
  have e : (2:Nat)^38 = 274877906944 := by decide
  refine yin (α := Ins) (M := [x]) hy h ?_
  have : (2 * (L.length + [x].length) + 512) * 96 ≤ (2 * (274877906944 + 1) + 512) * 96 := Nat.mul_le_mul_right 96 (by simp only [List.length_singleton]; omega)
  exact Nat.le_trans this (by decide)
theorem y1qo {H : Heap} {fb j g : Nat} {o : AO} {y : AV} {L : List Row} {x : Row} (hy : y2o H 4 y = some [enc x]) (h : H[fb + j]? = some (yr g o L)) (hs : L.length ≤ 2 ^ 38) :
    ∃ g', y2g fb (some j) 4 40 (y17 Row (fb + j) g L) y H = some (y17 Row (fb + j) g' (L ++ [x]), H.set (fb + j) (yr g' o (L ++ [x]))) := by
  have e : (2:Nat)^38 = 274877906944 := by decide
  refine yin (α := Row) (M := [x]) hy h ?_
  have : (2 * (L.length + [x].length) + 512) * 40 ≤ (2 * (274877906944 + 1) + 512) * 40 := Nat.mul_le_mul_right 40 (by simp only [List.length_singleton]; omega)
  exact Nat.le_trans this (by decide)
section
variable (f : Fn) (w : Wf f)
include w
theorem y1dc (o1 o4 o5 o6 o7 o8 o9 o10 o11 : AO) : ∀ (d i : Nat) (o3 : AO), i + d = (lst f.code).length →
    ∃ o3', yfs (.lp 0 1 0 0) (.lp 1 1 0 0) (.ls 2 1 1 0 (lst f.code).length) (slA f.code) (.int .i64 (lst f.code).length) (.int .i64 i) [AB f, o1, AL 1 (kpL f i), o3, o4, o5, o6, o7, o8, o9, o10, o11] =
      ygw (.lp 0 1 0 0) (.lp 1 1 0 0) (.ls 2 1 1 0 (lst f.code).length) [AB f, o1, AL 1 (kpL f (lst f.code).length), o3', o4, o5, o6, o7, o8, o9, o10, o11] := by
  have hl := w.n2
  intro d
  induction d with
  | zero =>
    intro i o3 hi
    have hn : ¬ ((i : Int) < ((lst f.code).length : Int)) := by omega
    have hi' : i = (lst f.code).length := by omega
    rw [ygp]
    exact ⟨o3, by simp [yif, yli, hi']⟩
  | succ d ih =>
    intro i o3 hi
    have hlt : i < (lst f.code).length := by omega
    have hc : ((i : Int) < ((lst f.code).length : Int)) := by omega
    have k1 := y6o (o := f.code) (i := i) (y4e hlt) .i64
    have hw := y1j hlt (by omega)
    have ix := yg8 (n := (lst f.code).length) (p := (i : Int)) (by omega) hc 2 1 .i64
    rw [show ((i : Int)).toNat = i by omega] at ix
    obtain ⟨o3', ih⟩ := ih (i + 1) ⟨o3.gen + 1, .arr true false 9 [enc (yz f i)]⟩ (by omega)
    push_cast at ih
    refine ⟨o3', ?_⟩
    rw [ygp, ← ih]
    by_cases hop : (yz f i).op = 33
    · have st := ybu (H := [AB f, o1, AL 1 (kpL f i), AX (o3.gen + 1) (yz f i), o4, o5, o6, o7, o8, o9, o10, o11]) (α := Bool) (id := 2) (g := 1) (i := i) (L := kpL f i) (v := .bool false) (y := false) rfl (by rw [y1t9]; exact hlt) rfl
      rw [y1so hop] at st
      simp only [yzu, List.set_cons_zero, List.set_cons_succ] at st
      have e : yif (.lp 0 1 0 0) (.lp 1 1 0 0) (.ls 2 1 1 0 (lst f.code).length) (slA f.code) (.int .i64 (lst f.code).length) (.int .i64 i) [AB f, o1, AL 1 (kpL f i), o3, o4, o5, o6, o7, o8, o9, o10, o11] =
          ob (yi 1 (.ls 2 1 1 0 (lst f.code).length) (.int .i64 i)) fun v35 => oh (evSt 1 v35 (.bool false) [AB f, o1, AL 1 (kpL f i), AX (o3.gen + 1) (yz f i), o4, o5, o6, o7, o8, o9, o10, o11]) fun _ h22 =>
            yi1 (.lp 0 1 0 0) (.lp 1 1 0 0) (.ls 2 1 1 0 (lst f.code).length) (slA f.code) (.int .i64 (lst f.code).length) (.int .i64 i) h22 := by
        simp [yif, yli, ytt, hc, k1, hop]
      rw [e, ix, y6, st, yj]
      simp only [yi1, yw, y6, hw]
    · rw [y1x3 hop]
      simp [yif, yli, ytt, yi1, hc, k1, hop, hw]
theorem yz3 (o1 o3 o5 o6 o7 o8 o9 o10 o11 : AO) : ∀ (d i : Nat), i + d = (lst f.code).length →
    yfi (.lp 0 1 0 0) (.lp 1 1 0 0) (.ls 2 1 1 0 (lst f.code).length) (.ls 4 1 1 0 ((lst f.code).length + 1)) (.int .i64 (plc f i)) (.int .i64 (lst f.code).length) (.int .i64 i)
        [AB f, o1, AL 1 (kpL f (lst f.code).length), o3, AI 1 (plcL f i), o5, o6, o7, o8, o9, o10, o11] =
      ygz (.lp 0 1 0 0) (.lp 1 1 0 0) (.ls 2 1 1 0 (lst f.code).length) (.ls 4 1 1 0 ((lst f.code).length + 1)) [AB f, o1, AL 1 (kpL f (lst f.code).length), o3, AI 1 (plcL f ((lst f.code).length + 1)), o5, o6, o7, o8, o9, o10, o11] := by
  have hl := w.n2
  intro d
  induction d with
  | zero =>
    intro i hi
    have hn : ¬ ((i : Int) < ((lst f.code).length : Int)) := by omega
    have hi' : i = (lst f.code).length := by omega
    have st := ybu (H := [AB f, o1, AL 1 (kpL f (lst f.code).length), o3, AI 1 (plcL f i), o5, o6, o7, o8, o9, o10, o11]) (α := Int) (id := 4) (g := 1) (i := i) (L := plcL f i) (v := .int .i64 (plc f i)) (y := (plc f i : Int)) rfl (by rw [yqo]; omega) rfl
    rw [yp7] at st
    simp only [yr0, List.set_cons_zero, List.set_cons_succ] at st
    have ix := yg8 (n := (lst f.code).length + 1) (p := ((lst f.code).length : Int)) (by omega) (by omega) 4 1 .i64
    rw [show (((lst f.code).length : Int)).toNat = i by omega] at ix
    have l0 : ∀ t : Heap, evLd false 1 (.lp 0 1 0 3) (AB f :: t) = some (slA f.code) := fun t => by simp
    rw [ygh]
    simp only [yk2, yn, hn, decide_false, y6, ysm, y1y, y135, yq, Nat.zero_add, l0, y3p, ix, st, yj]
    rw [hi']
  | succ d ih =>
    intro i hi
    have hlt : i < (lst f.code).length := by omega
    have hc : ((i : Int) < ((lst f.code).length : Int)) := by omega
    have hw := y1j hlt (by omega)
    have st := ybu (H := [AB f, o1, AL 1 (kpL f (lst f.code).length), o3, AI 1 (plcL f i), o5, o6, o7, o8, o9, o10, o11]) (α := Int) (id := 4) (g := 1) (i := i) (L := plcL f i) (v := .int .i64 (plc f i)) (y := (plc f i : Int)) rfl (by rw [yqo]; omega) rfl
    rw [yp7] at st
    simp only [yr0, List.set_cons_zero, List.set_cons_succ] at st
    have ix := yg8 (n := (lst f.code).length + 1) (p := (i : Int)) (by omega) (by omega) 4 1 .i64
    have ix2 := yg8 (n := (lst f.code).length) (p := (i : Int)) (by omega) hc 2 1 .i64
    rw [show ((i : Int)).toNat = i by omega] at ix ix2
    have l2 := y18m (α := Bool) (H := [AB f, o1, AL 1 (kpL f (lst f.code).length), o3, AI 1 (plcL f (i + 1)), o5, o6, o7, o8, o9, o10, o11]) (id := 2) (g := 1) (v := .bool (y5t f i)) rfl (yni hlt) rfl
    have ih := ih (i + 1) (by omega)
    have hle := y155 f i
    push_cast at ih
    rw [ygh, ← ih]
    have e : yk2 (.lp 0 1 0 0) (.lp 1 1 0 0) (.ls 2 1 1 0 (lst f.code).length) (.ls 4 1 1 0 ((lst f.code).length + 1)) (.int .i64 (plc f i)) (.int .i64 (lst f.code).length) (.int .i64 i)
        [AB f, o1, AL 1 (kpL f (lst f.code).length), o3, AI 1 (plcL f i), o5, o6, o7, o8, o9, o10, o11] = cnd (.bool (y5t f i))
          (ob (y2 .add (.int .i64 (plc f i)) (.int .i64 1)) fun v57 => yea (.lp 0 1 0 0) (.lp 1 1 0 0) (.ls 2 1 1 0 (lst f.code).length) (.ls 4 1 1 0 ((lst f.code).length + 1)) v57 (.int .i64 (lst f.code).length) (.int .i64 i) [AB f, o1, AL 1 (kpL f (lst f.code).length), o3, AI 1 (plcL f (i + 1)), o5, o6, o7, o8, o9, o10, o11])
          (yea (.lp 0 1 0 0) (.lp 1 1 0 0) (.ls 2 1 1 0 (lst f.code).length) (.ls 4 1 1 0 ((lst f.code).length + 1)) (.int .i64 (plc f i)) (.int .i64 (lst f.code).length) (.int .i64 i) [AB f, o1, AL 1 (kpL f (lst f.code).length), o3, AI 1 (plcL f (i + 1)), o5, o6, o7, o8, o9, o10, o11]) := by
      simp only [yk2, yn, hc, decide_true, y6, ysm, y1g, y0e, ix, st, yj, ix2, l2]
    rw [e]
    have hw2 : IntKind.wrap .i64 ((plc f i : Int) + 1) = (plc f i : Int) + 1 := by rw [y27] <;> omega
    cases hk : y5t f i with
    | true =>
      have hp : plc f (i + 1) = plc f i + 1 := by rw [plc, hk]; rfl
      rw [hp]
      simp only [y1g, yw, y6, yea, hw, hw2]
      push_cast
      rfl
    | false =>
      have hp : plc f (i + 1) = plc f i := by rw [plc, hk]; rfl
      rw [hp]
      simp only [y1y, yw, y6, yea, hw]
abbrev AG (L : List Ins) (gc : Nat) (R : List Row) (gr : Nat) : AO := ⟨1, .arr true false 5 [[slA f.regs, slA f.params, .int .i64 f.ret, y17 Ins 8 gc L, y17 Row 11 gr R]]⟩
theorem y1b4 (o1 o3 o9 o10 o11 : AO) : ∀ (d i gc : Nat) (o6 o7 : AO), i + d = (lst f.code).length →
    ∃ gc' o6' o7', yeq (.lp 0 1 0 0) (.lp 1 1 0 0) (.ls 2 1 1 0 (lst f.code).length) (.ls 4 1 1 0 ((lst f.code).length + 1)) (.lp 5 1 0 0) (slA f.code) (.int .i64 (lst f.code).length) (.int .i64 i)
        [AB f, o1, AL 1 (kpL f (lst f.code).length), o3, AI 1 (plcL f ((lst f.code).length + 1)), AG f (y11 f i) gc [] 0, o6, o7, yr gc D0 (y11 f i), o9, o10, o11] =
      yx7 (.lp 0 1 0 0) (.lp 1 1 0 0) (.ls 2 1 1 0 (lst f.code).length) (.ls 4 1 1 0 ((lst f.code).length + 1)) (.lp 5 1 0 0)
        [AB f, o1, AL 1 (kpL f (lst f.code).length), o3, AI 1 (plcL f ((lst f.code).length + 1)), AG f (y11 f (lst f.code).length) gc' [] 0, o6', o7', yr gc' D0 (y11 f (lst f.code).length), o9, o10, o11] := by
  have hl := w.n2
  intro d
  induction d with
  | zero =>
    intro i gc o6 o7 hi
    have hi' : i = (lst f.code).length := by omega
    have hn : ¬ ((i : Int) < ((lst f.code).length : Int)) := by omega
    refine ⟨gc, o6, o7, ?_⟩
    rw [ygx]
    simp only [yl6, yn, hn, decide_false, y6, yr2, y1y]
    rw [hi']
  | succ d ih =>
    intro i gc o6 o7 hi
    have hlt : i < (lst f.code).length := by omega
    have hc : ((i : Int) < ((lst f.code).length : Int)) := by omega
    have k1 := y6o (o := f.code) (i := i) (y4e hlt) .i64
    have hw := y1j hlt (by omega)
    have hle := y155 f i
    have hgl := yaw f i
    have hld := fun h => w.leads hlt h
    rw [ygx]
    have ix2 := yg8 (n := (lst f.code).length) (p := (i : Int)) (by omega) hc 2 1 .i64
    rw [show ((i : Int)).toNat = i by omega] at ix2
    have lK : ∀ (a b c d e g h k l : AO), evLd false 1 (.lp 2 1 i 0) [AB f, o1, AL 1 (kpL f (lst f.code).length), a, b, c, d, e, g, h, k, l] = some (.bool (y5t f i)) := fun a b c d e g h k l =>
      y18m (α := Bool) (id := 2) (g := 1) (v := .bool (y5t f i)) rfl (yni hlt) rfl
    have e19 : yl6 (.lp 0 1 0 0) (.lp 1 1 0 0) (.ls 2 1 1 0 (lst f.code).length) (.ls 4 1 1 0 ((lst f.code).length + 1)) (.lp 5 1 0 0) (slA f.code) (.int .i64 (lst f.code).length) (.int .i64 i)
        [AB f, o1, AL 1 (kpL f (lst f.code).length), o3, AI 1 (plcL f ((lst f.code).length + 1)), AG f (y11 f i) gc [] 0, o6, o7, yr gc D0 (y11 f i), o9, o10, o11] =
        yhl (.lp 0 1 0 0) (.lp 1 1 0 0) (.ls 2 1 1 0 (lst f.code).length) (.ls 4 1 1 0 ((lst f.code).length + 1)) (.lp 5 1 0 0) (.int .i64 i) (.lp 6 (o6.gen + 1) 0 0) (slA f.code) (.int .i64 (lst f.code).length) (.int .i64 i)
        [AB f, o1, AL 1 (kpL f (lst f.code).length), o3, AI 1 (plcL f ((lst f.code).length + 1)), AG f (y11 f i) gc [] 0, AX (o6.gen + 1) (yz f i), o7, yr gc D0 (y11 f i), o9, o10, o11] := by
      simp [yl6, yr2, y1b5, hc, k1]
    rw [e19]
    generalize hx : yz f i = x at *
    generalize o6.gen + 1 = g6 at *
    cases hk : y5t f i with
    | false =>
      rw [hk] at lK
      obtain ⟨gc', o6', o7', ih⟩ := ih (i + 1) gc (AX g6 x) o7 (by omega)
      refine ⟨gc', o6', o7', ?_⟩
      rw [← ih, y11, hk]
      simp only [Bool.false_eq_true, if_false, List.append_nil, yhl, ix2, y6, lK, y3d, Bool.not_false, y1g, ykb, yw, hw]
      push_cast
      rfl
    | true =>
      rw [hk] at lK
      have e14 : yhl (.lp 0 1 0 0) (.lp 1 1 0 0) (.ls 2 1 1 0 (lst f.code).length) (.ls 4 1 1 0 ((lst f.code).length + 1)) (.lp 5 1 0 0) (.int .i64 i) (.lp 6 g6 0 0) (slA f.code) (.int .i64 (lst f.code).length) (.int .i64 i)
          [AB f, o1, AL 1 (kpL f (lst f.code).length), o3, AI 1 (plcL f ((lst f.code).length + 1)), AG f (y11 f i) gc [] 0, AX g6 x, o7, yr gc D0 (y11 f i), o9, o10, o11] =
          yi8 (.lp 0 1 0 0) (.lp 1 1 0 0) (.ls 2 1 1 0 (lst f.code).length) (.ls 4 1 1 0 ((lst f.code).length + 1)) (.lp 5 1 0 0) (.lp 6 g6 0 0) (slA f.code) (.int .i64 (lst f.code).length) (.int .i64 i)
          [AB f, o1, AL 1 (kpL f (lst f.code).length), o3, AI 1 (plcL f ((lst f.code).length + 1)), AG f (y11 f i) gc [] 0, AX g6 x, o7, yr gc D0 (y11 f i), o9, o10, o11] := by
        simp only [yhl, ix2, y6, lK, y3d, Bool.not_true, y1y]
      have cL : ∀ h : Heap, y4 E (y5 E) 0 none true 22 [.agg (enc x)] h = some (.bool (leads x.op), h) := fun h => by simp [y4, y23, ym]
      have e13 : yi8 (.lp 0 1 0 0) (.lp 1 1 0 0) (.ls 2 1 1 0 (lst f.code).length) (.ls 4 1 1 0 ((lst f.code).length + 1)) (.lp 5 1 0 0) (.lp 6 g6 0 0) (slA f.code) (.int .i64 (lst f.code).length) (.int .i64 i)
          [AB f, o1, AL 1 (kpL f (lst f.code).length), o3, AI 1 (plcL f ((lst f.code).length + 1)), AG f (y11 f i) gc [] 0, AX g6 x, o7, yr gc D0 (y11 f i), o9, o10, o11] =
          yki (.lp 0 1 0 0) (.lp 1 1 0 0) (.ls 2 1 1 0 (lst f.code).length) (.ls 4 1 1 0 ((lst f.code).length + 1)) (.lp 5 1 0 0) (.lp 6 g6 0 0) (slA f.code) (.int .i64 (lst f.code).length) (.int .i64 i)
          [AB f, o1, AL 1 (kpL f (lst f.code).length), o3, AI 1 (plcL f ((lst f.code).length + 1)), AG f (y11 f i) gc [] 0, AX g6 (y4g f x), o7, yr gc D0 (y11 f i), o9, o10, o11] := by
        have l6 : evLd true 9 (.lp 6 g6 0 0) [AB f, o1, AL 1 (kpL f (lst f.code).length), o3, AI 1 (plcL f ((lst f.code).length + 1)), AG f (y11 f i) gc [] 0, AX g6 x, o7, yr gc D0 (y11 f i), o9, o10, o11] = some (.agg (enc x)) := by simp
        have l66 : evLd false 1 (.lp 6 g6 0 6) [AB f, o1, AL 1 (kpL f (lst f.code).length), o3, AI 1 (plcL f ((lst f.code).length + 1)), AG f (y11 f i) gc [] 0, AX g6 x, o7, yr gc D0 (y11 f i), o9, o10, o11] = some (.int .i64 x.t) := by simp
        have st6 : ∀ n : Int, evSt 1 (.lp 6 g6 0 6) (.int .i64 n) [AB f, o1, AL 1 (kpL f (lst f.code).length), o3, AI 1 (plcL f ((lst f.code).length + 1)), AG f (y11 f i) gc [] 0, AX g6 x, o7, yr gc D0 (y11 f i), o9, o10, o11] =
            some (.tup [], [AB f, o1, AL 1 (kpL f (lst f.code).length), o3, AI 1 (plcL f ((lst f.code).length + 1)), AG f (y11 f i) gc [] 0, AX g6 { x with t := n }, o7, yr gc D0 (y11 f i), o9, o10, o11]) := fun n => by simp [y2i]
        cases hd : leads x.op with
        | true =>
          obtain ⟨t0, t1⟩ := hld hd
          have ixt := yg8 (n := (lst f.code).length + 1) t0 (by omega) 4 1 .i64
          have lp := y18m (α := Int) (H := [AB f, o1, AL 1 (kpL f (lst f.code).length), o3, AI 1 (plcL f ((lst f.code).length + 1)), AG f (y11 f i) gc [] 0, AX g6 x, o7, yr gc D0 (y11 f i), o9, o10, o11]) (id := 4) (g := 1) (v := .int .i64 (plc f x.t.toNat)) rfl (yut (f := f) (j := x.t.toNat) (by omega)) rfl
          simp only [yi8, l6, y6, cL, yj, hd, y1g, yq, Nat.zero_add, l66, ixt, lp, st6, y4g, if_true]
        | false =>
          simp only [yi8, l6, y6, cL, yj, hd, y1y, yq, Nat.zero_add, st6, y4g, Bool.false_eq_true, if_false]
      have hlen : (y11 f i).length ≤ 2 ^ 38 := by
        have e : (2:Nat)^38 = 274877906944 := by decide
        omega
      obtain ⟨gc2, ha⟩ := y1rb (H := [AB f, o1, AL 1 (kpL f (lst f.code).length), o3, AI 1 (plcL f ((lst f.code).length + 1)), AG f (y11 f i) gc [] 0, AX g6 (y4g f x), ⟨o7.gen + 1, .arr false false 9 [enc (y4g f x)]⟩, yr gc D0 (y11 f i), o9, o10, o11]) (fb := 0) (j := 8) (g := gc) (o := D0) (y := .ls 7 (o7.gen + 1) 9 0 1) (L := y11 f i) (x := y4g f x) (by simp) rfl hlen
      have ha' : y2g 0 (some 8) 9 96 (y17 Ins 8 gc (y11 f i)) (.ls 7 (o7.gen + 1) 9 0 1) [AB f, o1, AL 1 (kpL f (lst f.code).length), o3, AI 1 (plcL f ((lst f.code).length + 1)), AG f (y11 f i) gc [] 0, AX g6 (y4g f x), ⟨o7.gen + 1, .arr false false 9 [enc (y4g f x)]⟩, yr gc D0 (y11 f i), o9, o10, o11] =
          some (y17 Ins 8 gc2 (y11 f i ++ [y4g f x]), [AB f, o1, AL 1 (kpL f (lst f.code).length), o3, AI 1 (plcL f ((lst f.code).length + 1)), AG f (y11 f i) gc [] 0, AX g6 (y4g f x), ⟨o7.gen + 1, .arr false false 9 [enc (y4g f x)]⟩, yr gc2 D0 (y11 f i ++ [y4g f x]), o9, o10, o11]) := ha
      obtain ⟨gc', o6', o7', ih⟩ := ih (i + 1) gc2 (AX g6 (y4g f x)) ⟨o7.gen + 1, .arr false false 9 [enc (y4g f x)]⟩ (by omega)
      refine ⟨gc', o6', o7', ?_⟩
      have hG : y11 f (i + 1) = y11 f i ++ [y4g f x] := by rw [y11, hk, hx]; rfl
      rw [hG] at ih
      rw [← ih, e14, e13]
      have l53 : ∀ (a b c : AO), evLd false 1 (.lp 5 1 0 3) [AB f, o1, AL 1 (kpL f (lst f.code).length), o3, AI 1 (plcL f ((lst f.code).length + 1)), AG f (y11 f i) gc [] 0, a, b, c, o9, o10, o11] = some (y17 Ins 8 gc (y11 f i)) := fun a b c => by simp
      have l6 : ∀ (b c : AO), evLd true 9 (.lp 6 g6 0 0) [AB f, o1, AL 1 (kpL f (lst f.code).length), o3, AI 1 (plcL f ((lst f.code).length + 1)), AG f (y11 f i) gc [] 0, AX g6 (y4g f x), b, c, o9, o10, o11] = some (.agg (enc (y4g f x))) := fun b c => by simp
      have bs : y14 0 (some 7) 9 1 [.int .i64 0, .int .i64 0, .int .i64 0, .int .i64 0, .int .i64 0, .int .i64 0, .int .i64 0, .str [], .nils] [(0, .agg (enc (y4g f x)))] [AB f, o1, AL 1 (kpL f (lst f.code).length), o3, AI 1 (plcL f ((lst f.code).length + 1)), AG f (y11 f i) gc [] 0, AX g6 (y4g f x), o7, yr gc D0 (y11 f i), o9, o10, o11] =
          some (.ls 7 (o7.gen + 1) 9 0 1, [AB f, o1, AL 1 (kpL f (lst f.code).length), o3, AI 1 (plcL f ((lst f.code).length + 1)), AG f (y11 f i) gc [] 0, AX g6 (y4g f x), ⟨o7.gen + 1, .arr false false 9 [enc (y4g f x)]⟩, yr gc D0 (y11 f i), o9, o10, o11]) := by
        simp [y14, y1a]
      have st5 : ∀ (a b c : AO), evSt 1 (.lp 5 1 0 3) (y17 Ins 8 gc2 (y11 f i ++ [y4g f x])) [AB f, o1, AL 1 (kpL f (lst f.code).length), o3, AI 1 (plcL f ((lst f.code).length + 1)), AG f (y11 f i) gc [] 0, a, b, c, o9, o10, o11] =
          some (.tup [], [AB f, o1, AL 1 (kpL f (lst f.code).length), o3, AI 1 (plcL f ((lst f.code).length + 1)), AG f (y11 f i ++ [y4g f x]) gc2 [] 0, a, b, c, o9, o10, o11]) := fun a b c => by simp [y2i, yh]
      simp only [yki, yq, Nat.zero_add, y6, l53, l6, bs, yj, ha', st5, ykb, yw, hw]
      push_cast
      rfl
theorem y13x (L : List Ins) (gc : Nat) (o1 o3 o6 o7 o8 : AO) (hrl : (lst f.rows).length ≤ 2 ^ 38) : ∀ (d k gr : Nat) (o9 o10 : AO), k + d = (lst f.rows).length →
    ∃ gr' o9' o10', yk6 (.lp 1 1 0 0) (.ls 2 1 1 0 (lst f.code).length) (.ls 4 1 1 0 ((lst f.code).length + 1)) (.lp 5 1 0 0) (slA f.rows) (.int .i64 (lst f.rows).length) (.int .i64 k)
        [AB f, o1, AL 1 (kpL f (lst f.code).length), o3, AI 1 (plcL f ((lst f.code).length + 1)), AG f L gc (y1w f k) gr, o6, o7, o8, o9, o10, yr gr D0 (y1w f k)] =
      y15b (.lp 1 1 0 0) (.lp 5 1 0 0)
        [AB f, o1, AL 1 (kpL f (lst f.code).length), o3, AI 1 (plcL f ((lst f.code).length + 1)), AG f L gc (y1w f (lst f.rows).length) gr', o6, o7, o8, o9', o10', yr gr' D0 (y1w f (lst f.rows).length)] := by
  have e38 : (2:Nat)^38 = 274877906944 := by decide
  have hl := w.n2
  intro d
  induction d with
  | zero =>
    intro k gr o9 o10 hk
    have hk' : k = (lst f.rows).length := by omega
    have hn : ¬ ((k : Int) < ((lst f.rows).length : Int)) := by omega
    refine ⟨gr, o9, o10, ?_⟩
    rw [ymj]
    simp only [y1c2, yn, hn, decide_false, y6, y1l1, y1y]
    rw [hk']
  | succ d ih =>
    intro k gr o9 o10 hk
    have hlt : k < (lst f.rows).length := by omega
    have hc : ((k : Int) < ((lst f.rows).length : Int)) := by omega
    have hw := y1j hlt (by omega)
    have hgr := y1d8 f k
    obtain ⟨r, hr⟩ : ∃ r, (lst f.rows)[k]? = some r := ⟨_, List.getElem?_eq_getElem hlt⟩
    have hin := w.row (List.mem_of_getElem? hr)
    have k1 := yiz (o := f.rows) hr .i64
    have hsucc := yye hr
    rw [ymj]
    have ixA := yg8 (n := (lst f.code).length) hin.a0 hin.an 2 1 .i64
    have ixF := yg8 (n := (lst f.code).length + 1) hin.f0 (by have := hin.ft; have := hin.tn; omega) 4 1 .i64
    have ixT := yg8 (n := (lst f.code).length + 1) (p := r.t) (by have := hin.ft; have := hin.f0; omega) (by have := hin.tn; omega) 4 1 .i64
    have ixQ := yg8 (n := (lst f.code).length + 1) hin.a0 (by have := hin.an; omega) 4 1 .i64
    generalize hg9 : o9.gen + 1 = g9 at *
    have AR : ∀ (g : Nat) (L' : List Row) (b c : AO), evLd false 1 (.lp 2 1 r.at_.toNat 0) [AB f, o1, AL 1 (kpL f (lst f.code).length), o3, AI 1 (plcL f ((lst f.code).length + 1)), AG f L gc L' g, o6, o7, o8, ⟨g9, .arr true false 4 [enc r]⟩, b, c] = some (.bool (y5t f r.at_.toNat)) := fun g L' b c =>
      y18m (α := Bool) (id := 2) (g := 1) (v := .bool (y5t f r.at_.toNat)) rfl (yni (by have := hin.an; have := hin.a0; omega)) rfl
    have PL : ∀ (p : Nat) (g : Nat) (L' : List Row) (b c : AO), p ≤ (lst f.code).length → evLd false 1 (.lp 4 1 p 0) [AB f, o1, AL 1 (kpL f (lst f.code).length), o3, AI 1 (plcL f ((lst f.code).length + 1)), AG f L gc L' g, o6, o7, o8, ⟨g9, .arr true false 4 [enc r]⟩, b, c] = some (.int .i64 (plc f p)) := fun p g L' b c hp =>
      y18m (α := Int) (id := 4) (g := 1) (v := .int .i64 (plc f p)) rfl (yut hp) rfl
    have pF := fun g L' b c => PL r.f.toNat g L' b c (by have := hin.ft; have := hin.tn; omega)
    have pT := fun g L' b c => PL r.t.toNat g L' b c (by have := hin.tn; omega)
    have pA := fun g L' b c => PL r.at_.toNat g L' b c (by have := hin.an; omega)
    have lb : ∀ (j : Nat) (g : Nat) (L' : List Row) (b c : AO), evLd false 1 (.lp 9 g9 0 j) [AB f, o1, AL 1 (kpL f (lst f.code).length), o3, AI 1 (plcL f ((lst f.code).length + 1)), AG f L gc L' g, o6, o7, o8, ⟨g9, .arr true false 4 [enc r]⟩, b, c] = ((enc r).drop j).head? := fun j g L' b c => by simp
    have d0 : ((enc r).drop 0).head? = some (.int .i64 r.f) := rfl
    have d1 : ((enc r).drop 1).head? = some (.int .i64 r.t) := rfl
    have d2 : ((enc r).drop 2).head? = some (.int .i64 r.at_) := rfl
    have d3 : ((enc r).drop 3).head? = some (.str r.c) := rfl
    have e6 : y1c2 (.lp 1 1 0 0) (.ls 2 1 1 0 (lst f.code).length) (.ls 4 1 1 0 ((lst f.code).length + 1)) (.lp 5 1 0 0) (slA f.rows) (.int .i64 (lst f.rows).length) (.int .i64 k)
        [AB f, o1, AL 1 (kpL f (lst f.code).length), o3, AI 1 (plcL f ((lst f.code).length + 1)), AG f L gc (y1w f k) gr, o6, o7, o8, o9, o10, yr gr D0 (y1w f k)] =
      yxk (.lp 1 1 0 0) (.ls 2 1 1 0 (lst f.code).length) (.ls 4 1 1 0 ((lst f.code).length + 1)) (.lp 5 1 0 0) (slA f.rows) (.int .i64 (lst f.rows).length) (.int .i64 k)
        [AB f, o1, AL 1 (kpL f (lst f.code).length), o3, AI 1 (plcL f ((lst f.code).length + 1)), AG f L gc (y1w f k) gr, o6, o7, o8, o9, o10, yr gr D0 (y1w f k)] := by
      simp only [y1c2, yn, hc, decide_true, y6, y1l1, y1g]
    have lr : ∀ t : Heap, evLd true 4 (.rp (enc r)) t = some (.agg (enc r)) := fun t => by simp
    have nc : newC 0 (some 9) [.int .i64 0, .int .i64 0, .int .i64 0, .str []] [AB f, o1, AL 1 (kpL f (lst f.code).length), o3, AI 1 (plcL f ((lst f.code).length + 1)), AG f L gc (y1w f k) gr, o6, o7, o8, o9, o10, yr gr D0 (y1w f k)] =
        some (.lp 9 g9 0 0, [AB f, o1, AL 1 (kpL f (lst f.code).length), o3, AI 1 (plcL f ((lst f.code).length + 1)), AG f L gc (y1w f k) gr, o6, o7, o8, ⟨g9, .arr true false 4 [[.int .i64 0, .int .i64 0, .int .i64 0, .str []]]⟩, o10, yr gr D0 (y1w f k)]) := by
      simp [newC, y5p, place, hg9]
    have s9 : evSt 4 (.lp 9 g9 0 0) (.agg (enc r)) [AB f, o1, AL 1 (kpL f (lst f.code).length), o3, AI 1 (plcL f ((lst f.code).length + 1)), AG f L gc (y1w f k) gr, o6, o7, o8, ⟨g9, .arr true false 4 [[.int .i64 0, .int .i64 0, .int .i64 0, .str []]]⟩, o10, yr gr D0 (y1w f k)] =
        some (.tup [], [AB f, o1, AL 1 (kpL f (lst f.code).length), o3, AI 1 (plcL f ((lst f.code).length + 1)), AG f L gc (y1w f k) gr, o6, o7, o8, ⟨g9, .arr true false 4 [enc r]⟩, o10, yr gr D0 (y1w f k)]) := by
      simp [y2i]
    rw [e6]
    by_cases hb : y5t f r.at_.toNat = true ∧ plc f r.f.toNat < plc f r.t.toNat
    · have hT : yj9 f r = [⟨plc f r.f.toNat, plc f r.t.toNat, plc f r.at_.toNat, r.c⟩] := by rw [yj9, hb.1]; simp [hb.2]
      rw [hT] at hsucc
      generalize hnr : (⟨plc f r.f.toNat, plc f r.t.toNat, plc f r.at_.toNat, r.c⟩ : Row) = nr at *
      have hlt2 : ((plc f r.f.toNat : Nat) : Int) < ((plc f r.t.toNat : Nat) : Int) := by have := hb.2; omega
      obtain ⟨gr2, ha⟩ := y1qo (H := [AB f, o1, AL 1 (kpL f (lst f.code).length), o3, AI 1 (plcL f ((lst f.code).length + 1)), AG f L gc (y1w f k) gr, o6, o7, o8, ⟨g9, .arr true false 4 [enc r]⟩, ⟨o10.gen + 1, .arr false false 4 [enc nr]⟩, yr gr D0 (y1w f k)]) (fb := 0) (j := 11) (g := gr) (o := D0) (y := .ls 10 (o10.gen + 1) 4 0 1) (L := y1w f k) (x := nr) (by simp) rfl (by omega)
      have ha' : y2g 0 (some 11) 4 40 (y17 Row 11 gr (y1w f k)) (.ls 10 (o10.gen + 1) 4 0 1) [AB f, o1, AL 1 (kpL f (lst f.code).length), o3, AI 1 (plcL f ((lst f.code).length + 1)), AG f L gc (y1w f k) gr, o6, o7, o8, ⟨g9, .arr true false 4 [enc r]⟩, ⟨o10.gen + 1, .arr false false 4 [enc nr]⟩, yr gr D0 (y1w f k)] =
          some (y17 Row 11 gr2 (y1w f k ++ [nr]), [AB f, o1, AL 1 (kpL f (lst f.code).length), o3, AI 1 (plcL f ((lst f.code).length + 1)), AG f L gc (y1w f k) gr, o6, o7, o8, ⟨g9, .arr true false 4 [enc r]⟩, ⟨o10.gen + 1, .arr false false 4 [enc nr]⟩, yr gr2 D0 (y1w f k ++ [nr])]) := ha
      obtain ⟨gr', o9', o10', ih⟩ := ih (k + 1) gr2 ⟨g9, .arr true false 4 [enc r]⟩ ⟨o10.gen + 1, .arr false false 4 [enc nr]⟩ (by omega)
      refine ⟨gr', o9', o10', ?_⟩
      rw [← ih, hsucc]
      have l54 : ∀ (b c : AO), evLd false 1 (.lp 5 1 0 4) [AB f, o1, AL 1 (kpL f (lst f.code).length), o3, AI 1 (plcL f ((lst f.code).length + 1)), AG f L gc (y1w f k) gr, o6, o7, o8, ⟨g9, .arr true false 4 [enc r]⟩, b, c] = some (y17 Row 11 gr (y1w f k)) := fun b c => by simp
      have bd : yb [.int .i64 0, .int .i64 0, .int .i64 0, .str []] [(0, 1, .int .i64 (plc f r.f.toNat)), (1, 1, .int .i64 (plc f r.t.toNat)), (2, 1, .int .i64 (plc f r.at_.toNat)), (3, 1, .str r.c)] = some (.agg (enc nr)) := by
        rw [← hnr]; simp [yb, y2v, known, yh, y1pr]
      have bs : y14 0 (some 10) 4 1 [.int .i64 0, .int .i64 0, .int .i64 0, .str []] [(0, .agg (enc nr))] [AB f, o1, AL 1 (kpL f (lst f.code).length), o3, AI 1 (plcL f ((lst f.code).length + 1)), AG f L gc (y1w f k) gr, o6, o7, o8, ⟨g9, .arr true false 4 [enc r]⟩, o10, yr gr D0 (y1w f k)] =
          some (.ls 10 (o10.gen + 1) 4 0 1, [AB f, o1, AL 1 (kpL f (lst f.code).length), o3, AI 1 (plcL f ((lst f.code).length + 1)), AG f L gc (y1w f k) gr, o6, o7, o8, ⟨g9, .arr true false 4 [enc r]⟩, ⟨o10.gen + 1, .arr false false 4 [enc nr]⟩, yr gr D0 (y1w f k)]) := by
        simp [y14, y1a]
      have s5 : ∀ (b c : AO), evSt 1 (.lp 5 1 0 4) (y17 Row 11 gr2 (y1w f k ++ [nr])) [AB f, o1, AL 1 (kpL f (lst f.code).length), o3, AI 1 (plcL f ((lst f.code).length + 1)), AG f L gc (y1w f k) gr, o6, o7, o8, ⟨g9, .arr true false 4 [enc r]⟩, b, c] =
          some (.tup [], [AB f, o1, AL 1 (kpL f (lst f.code).length), o3, AI 1 (plcL f ((lst f.code).length + 1)), AG f L gc (y1w f k ++ [nr]) gr2, o6, o7, o8, ⟨g9, .arr true false 4 [enc r]⟩, b, c]) := fun b c => by simp [y2i, yh]
      have hp : yp [([], []), (ids1 (.lp 5 1 0 4), []), ([], []), ([], []), (ids1 (.lp 9 g9 0 0), []), ([], []), (ids1 (.lp 4 1 r.f.toNat 0), []), ([], []), ([], []), (ids1 (.lp 9 g9 0 1), []), ([], []), (ids1 (.lp 4 1 r.t.toNat 0), []), ([], []), ([], []), (ids1 (.lp 9 g9 0 2), []), ([], []), (ids1 (.lp 4 1 r.at_.toNat 0), []), ([], []), (ids1 (.lp 9 g9 0 3), []), ([], []), ([], [10]),
          (ids1 (.ls 10 (o10.gen + 1) 4 0 1), ids1 (y17 Row 11 gr (y1w f k)) ++ [11]), ([], []), ([], ids1 (.lp 5 1 0 4))] [(1, 20)] = true := by simp [yp, y26, meets]
      simp only [yxk, k1, y6, lr, nc, yj, s9, yq, Nat.zero_add, lb, d0, d1, d2, d3, ixA, AR, hb.1, yal, ixF, pF, ixT, pT, yn, hlt2, decide_true, y2e, y1g, l54, ixQ, pA, bd, bs, ha', s5, hp, y1sq, yy4, yw, hw]
      push_cast
      rfl
    · have hT : yj9 f r = [] := by
        rw [yj9]
        cases hk2 : y5t f r.at_.toNat with
        | false => rfl
        | true =>
          have : ¬ plc f r.f.toNat < plc f r.t.toNat := fun h => hb ⟨hk2, h⟩
          simp [this]
      rw [hT, List.append_nil] at hsucc
      obtain ⟨gr', o9', o10', ih⟩ := ih (k + 1) gr ⟨g9, .arr true false 4 [enc r]⟩ o10 (by omega)
      refine ⟨gr', o9', o10', ?_⟩
      rw [← ih, hsucc]
      cases hk2 : y5t f r.at_.toNat with
      | false =>
        simp only [yxk, k1, y6, lr, nc, yj, s9, yq, Nat.zero_add, lb, d0, d1, d2, d3, ixA, AR, hk2, yge, ygq, y2y, y1y, yy4, yw, hw]
        push_cast
        rfl
      | true =>
        have hlt2 : ¬ ((plc f r.f.toNat : Nat) : Int) < ((plc f r.t.toNat : Nat) : Int) := by
          have : ¬ plc f r.f.toNat < plc f r.t.toNat := fun h => hb ⟨hk2, h⟩
          omega
        simp only [yxk, k1, y6, lr, nc, yj, s9, yq, Nat.zero_add, lb, d0, d1, d2, d3, ixA, AR, hk2, yal, ixF, pF, ixT, pT, yn, hlt2, decide_false, y2e, y1y, yy4, yw, hw]
        push_cast
        rfl
end
theorem yxc (f g : Fn) {H : Heap} {gc gr : Nat} {L : List Ins} {R : List Row} (h8 : H[8]? = some (yr gc D0 L)) (h11 : H[11]? = some (yr gr D0 R)) (hg : g = { regs := f.regs, params := f.params, ret := f.ret, code := nz L, rows := nz R }) :
    ∃ r, y7 H (.agg [slA f.regs, slA f.params, .int .i64 f.ret, y17 Ins 8 gc L, y17 Row 11 gr R]) = some r ∧ yyv r (.agg (enc g)) := by
  have x1 : ∀ os, expo H 11 (y17 Ins 8 gc L) os = some ⟨exV os.length (nz L), os ++ exOs (nz L), L.all scal, ownI 8 (nz L), []⟩ := by
    intro os
    cases L with
    | nil => exact y4h (α := Ins) (H := H) (j := 8) (g := gc) (k := 10) (d := D0) (o := none) h8 os
    | cons x L => exact y4h (α := Ins) (H := H) (j := 8) (g := gc) (k := 10) (d := D0) (o := some (x :: L)) h8 os
  have x2 : ∀ os, expo H 11 (y17 Row 11 gr R) os = some ⟨exV os.length (nz R), os ++ exOs (nz R), R.all scal, ownI 11 (nz R), []⟩ := by
    intro os
    cases R with
    | nil => exact y4h (α := Row) (H := H) (j := 11) (g := gr) (k := 10) (d := D0) (o := none) h11 os
    | cons x R => exact y4h (α := Row) (H := H) (j := 11) (g := gr) (k := 10) (d := D0) (o := some (x :: R)) h11 os
  rw [yab]
  simp only [y3i, yik (yb5 f.regs) H 10, yik (yb5 f.params) H 10, yik (show pure1 (.int .i64 f.ret) = true from rfl) H 10, x1, x2, List.nil_append, List.append_nil, List.length_nil]
  have ap : y2x (ownI 8 (nz L) ++ ownI 11 (nz R)) [] = true := by
    cases L <;> cases R <;> rfl
  rw [if_pos ap]
  refine ⟨_, rfl, ?_⟩
  have h3 := yh4 (nz L) [] (exOs (nz R)) 9
  have h4 := yh4 (nz R) (exOs (nz L)) [] 9
  simp only [List.nil_append, List.append_nil, List.length_nil] at h3 h4
  refine ⟨_, (y9z _ 11 _).trans (by
    simp only [yx, fz_p (yb5 f.regs) _ 10, fz_p (yb5 f.params) _ 10, fz_p (show pure1 (.int .i64 f.ret) = true from rfl) _ 10, h3, h4, y16]
    rfl), by rw [hg]; rfl⟩
structure FnRd (f : Fn) : Prop where
  fit : FnFit f
  sm : FnSm f
set_option maxHeartbeats 1000000 in
theorem y1yr (f : Fn) (hf : FnRd f) (hr : (lst f.rows).length ≤ 1000000) : ∃ r, (y5 E).p 100 [.agg (enc f)] = some r ∧ yyv r (.agg (enc (yd6 f))) := by
  rw [y23a]
  have hcp := y1oj f hf.sm
  have hck := y16k f hf.fit
  have ha : ∀ H : Heap, ye (fz H y1d) [.agg (enc f)] = some ⟨[.agg (enc f)], scal f && true, []⟩ := fun H => by
    rw [yx, ycw, y16]; rfl
  have c1 : ∀ H, y4 E (y5 E) 0 none true 13 [.agg (enc f)] H = some (.agg (enc f), H) := fun H => y1s rfl (ha H) rfl hcp (yih f)
  have c2 : ∀ H, y4 E (y5 E) 0 none true 8 [.agg (enc f)] H = some (.int .i64 (if wf f then 0 else 80), H) := fun H => y1s rfl (ha H) rfl hck ⟨_, rfl, rfl⟩
  have l0 : ∀ t : Heap, evLd true 5 (.lp 0 1 0 0) (AB f :: t) = some (.agg (enc f)) := fun t => by simp
  have s0 : ∀ t : Heap, evSt 5 (.lp 0 1 0 0) (.agg (enc f)) (AB f :: t) = some (.tup [], AB f :: t) := fun t => by simp [y2i]
  have e46 : yrr (.agg (enc f)) [D0, D0, D0, D0, D0, D0, D0, D0, D0, D0, D0, D0] = yhk (.lp 0 1 0 0) (.lp 1 1 0 0) [AB f, ⟨1, .arr true false 5 [[.nils, .nils, .int .i64 0, .nils, .nils]]⟩, D0, D0, D0, D0, D0, D0, D0, D0, D0, D0] := by
    have n1 : newC 0 (some 0) (cellsOf (.agg (enc f))) [D0, D0, D0, D0, D0, D0, D0, D0, D0, D0, D0, D0] = some (.lp 0 1 0 0, [AB f, D0, D0, D0, D0, D0, D0, D0, D0, D0, D0, D0]) := by simp
    have n2 : newC 0 (some 1) [.nils, .nils, .int .i64 0, .nils, .nils] [AB f, D0, D0, D0, D0, D0, D0, D0, D0, D0, D0, D0] = some (.lp 1 1 0 0, [AB f, ⟨1, .arr true false 5 [[.nils, .nils, .int .i64 0, .nils, .nils]]⟩, D0, D0, D0, D0, D0, D0, D0, D0, D0, D0]) := by simp
    simp only [yrr, n1, yj, n2, y17p, l0, y6, c1, s0]
  rw [e46]
  cases hw : wf f with
  | false =>
    rw [hw] at c2
    have s1 : ∀ (a : AO) (t : Heap), evSt 5 (.lp 1 1 0 0) (.agg (enc f)) (AB f :: ⟨1, .arr true false 5 [[.nils, .nils, .int .i64 0, .nils, .nils]]⟩ :: t) = some (.tup [], AB f :: AB f :: t) := fun a t => by simp [y2i]
    have l1 : ∀ t : Heap, evLd true 5 (.lp 1 1 0 0) (AB f :: AB f :: t) = some (.agg (enc f)) := fun t => by simp
    have hx : yd6 f = f := by rw [yd6, hw]; rfl
    rw [hx]
    simp only [yhk, l0, y6, c2, yj, Bool.false_eq_true, if_false, y4v, show decide ((80 : Int) ≠ 0) = true from rfl, y1g, s1 D0, l1, y1b1]
    exact ⟨_, rfl, _, ycw f _, rfl⟩
  | true =>
    have w := y1gl hw
    rw [hw] at c2
    have hR := y1uh f (by have := w.n2; omega) hr
    have hn := w.n2
    have cR := yay (E := E) (C := y5 E) (fb := 0) (j := 2) (f := 101) (N := some (y83 f)) (H := [AB f, ⟨1, .arr true false 5 [[.nils, .nils, .int .i64 0, .nils, .nils]]⟩, D0, D0, D0, D0, D0, D0, D0, D0, D0, D0]) rfl (ha _) hR rfl rfl
    simp only [ownV, ownO, Nat.zero_add, List.set_cons_zero, List.set_cons_succ, yzu, ybo] at cR
    obtain ⟨o3, h35⟩ := y1dc f w ⟨1, .arr true false 5 [[.nils, .nils, .int .i64 0, .nils, .nils]]⟩ D0 D0 D0 D0 D0 D0 D0 D0 _ 0 D0 (Nat.zero_add _)
    have h25 := yz3 f w ⟨1, .arr true false 5 [[.nils, .nils, .int .i64 0, .nils, .nils]]⟩ o3 D0 D0 D0 D0 D0 D0 D0 _ 0 (Nat.zero_add _)
    obtain ⟨gc, o6, o7, h10⟩ := y1b4 f w ⟨1, .arr true false 5 [[.nils, .nils, .int .i64 0, .nils, .nils]]⟩ o3 D0 D0 D0 _ 0 0 D0 D0 (Nat.zero_add _)
    have hr38 : (lst f.rows).length ≤ 2 ^ 38 := by
      have : (2:Nat)^38 = 274877906944 := by decide
      omega
    obtain ⟨gr, o9, o10, h2⟩ := y13x f w (y11 f (lst f.code).length) gc ⟨1, .arr true false 5 [[.nils, .nils, .int .i64 0, .nils, .nils]]⟩ o3 o6 o7 (yr gc D0 (y11 f (lst f.code).length)) hr38 _ 0 0 D0 D0 (Nat.zero_add _)
    have r0 : y1w f 0 = [] := rfl
    have g0 : y11 f 0 = [] := rfl
    have p0 : plc f 0 = 0 := rfl
    simp only [Int.ofNat_zero, r0, g0, p0, y8k, yfu, y236] at h35 h25 h10 h2
    have lc : ∀ t : Heap, evLd false 1 (.lp 0 1 0 3) (AB f :: t) = some (slA f.code) := fun t => by simp
    have lr : ∀ t : Heap, evLd false 1 (.lp 0 1 0 4) (AB f :: t) = some (slA f.rows) := fun t => by simp
    have la : ∀ t : Heap, evLd false 1 (.lp 0 1 0 0) (AB f :: t) = some (slA f.regs) := fun t => by simp
    have lb : ∀ t : Heap, evLd false 1 (.lp 0 1 0 1) (AB f :: t) = some (slA f.params) := fun t => by simp
    have ld : ∀ t : Heap, evLd false 1 (.lp 0 1 0 2) (AB f :: t) = some (.int .i64 f.ret) := fun t => by simp
    have b1 : ((lst f.code).length : Int) + 1 ≤ 17592186044416 := by omega
    have b2 : ((lst f.code).length : Int) + 1 ≤ 4611686018427387904 := by omega
    have b3 : (0 : Int) ≤ ((lst f.code).length : Int) + 1 := by omega
    have b4 : (((lst f.code).length : Int) + 1).toNat = (lst f.code).length + 1 := by omega
    have b5 : (((lst f.code).length : Int) + 1) * 8 ≤ 140737488355328 := by omega
    have hwr : IntKind.wrap .i64 (((lst f.code).length : Int) + 1) = ((lst f.code).length : Int) + 1 := by rw [y27] <;> omega
    have mk : mkSC 0 (some 4) 1 8 [.int .i64 0] (.int .i64 (((lst f.code).length : Int) + 1)) (.int .i64 (((lst f.code).length : Int) + 1)) [AB f, ⟨1, .arr true false 5 [[.nils, .nils, .int .i64 0, .nils, .nils]]⟩, AL 1 (kpL f (lst f.code).length), o3, D0, D0, D0, D0, D0, D0, D0, D0] =
        some (.ls 4 1 1 0 ((lst f.code).length + 1), [AB f, ⟨1, .arr true false 5 [[.nils, .nils, .int .i64 0, .nils, .nils]]⟩, AL 1 (kpL f (lst f.code).length), o3, AI 1 (plcL f 0), D0, D0, D0, D0, D0, D0, D0]) := by
      rw [y1xr]
      simp [mkSC, b2, b3, b4, b5]
    have e34 : ygw (.lp 0 1 0 0) (.lp 1 1 0 0) (.ls 2 1 1 0 (lst f.code).length) [AB f, ⟨1, .arr true false 5 [[.nils, .nils, .int .i64 0, .nils, .nils]]⟩, AL 1 (kpL f (lst f.code).length), o3, D0, D0, D0, D0, D0, D0, D0, D0] =
        ygz (.lp 0 1 0 0) (.lp 1 1 0 0) (.ls 2 1 1 0 (lst f.code).length) (.ls 4 1 1 0 ((lst f.code).length + 1)) [AB f, ⟨1, .arr true false 5 [[.nils, .nils, .int .i64 0, .nils, .nils]]⟩, AL 1 (kpL f (lst f.code).length), o3, AI 1 (plcL f ((lst f.code).length + 1)), D0, D0, D0, D0, D0, D0, D0] := by
      rw [← h25]
      simp only [ygw, yq, Nat.zero_add, y6, lc, y3p, yw, hwr, mk, yj, y1ad, y1az]
    have bg : yb [.nils, .nils, .int .i64 0, .nils, .nils] [(0, 1, slA f.regs), (1, 1, slA f.params), (2, 1, .int .i64 f.ret)] = some (.agg [slA f.regs, slA f.params, .int .i64 f.ret, .nils, .nils]) := by
      have k1 : known (slA f.regs) = true := by cases f.regs <;> rfl
      have k2 : known (slA f.params) = true := by cases f.params <;> rfl
      have k3 : known (.int .i64 f.ret) = true := rfl
      simp [yb, y2v, k1, k2, k3, yh]
    have e23 : ygz (.lp 0 1 0 0) (.lp 1 1 0 0) (.ls 2 1 1 0 (lst f.code).length) (.ls 4 1 1 0 ((lst f.code).length + 1)) [AB f, ⟨1, .arr true false 5 [[.nils, .nils, .int .i64 0, .nils, .nils]]⟩, AL 1 (kpL f (lst f.code).length), o3, AI 1 (plcL f ((lst f.code).length + 1)), D0, D0, D0, D0, D0, D0, D0] =
        yx7 (.lp 0 1 0 0) (.lp 1 1 0 0) (.ls 2 1 1 0 (lst f.code).length) (.ls 4 1 1 0 ((lst f.code).length + 1)) (.lp 5 1 0 0) [AB f, ⟨1, .arr true false 5 [[.nils, .nils, .int .i64 0, .nils, .nils]]⟩, AL 1 (kpL f (lst f.code).length), o3, AI 1 (plcL f ((lst f.code).length + 1)), AG f (y11 f (lst f.code).length) gc [] 0, o6, o7, yr gc D0 (y11 f (lst f.code).length), D0, D0, D0] := by
      rw [← h10]
      have n5 : newC 0 (some 5) [.nils, .nils, .int .i64 0, .nils, .nils] [AB f, ⟨1, .arr true false 5 [[.nils, .nils, .int .i64 0, .nils, .nils]]⟩, AL 1 (kpL f (lst f.code).length), o3, AI 1 (plcL f ((lst f.code).length + 1)), D0, D0, D0, D0, D0, D0, D0] =
          some (.lp 5 1 0 0, [AB f, ⟨1, .arr true false 5 [[.nils, .nils, .int .i64 0, .nils, .nils]]⟩, AL 1 (kpL f (lst f.code).length), o3, AI 1 (plcL f ((lst f.code).length + 1)), ⟨1, .arr true false 5 [[.nils, .nils, .int .i64 0, .nils, .nils]]⟩, D0, D0, D0, D0, D0, D0]) := by simp
      have s5 : evSt 5 (.lp 5 1 0 0) (.agg [slA f.regs, slA f.params, .int .i64 f.ret, .nils, .nils]) [AB f, ⟨1, .arr true false 5 [[.nils, .nils, .int .i64 0, .nils, .nils]]⟩, AL 1 (kpL f (lst f.code).length), o3, AI 1 (plcL f ((lst f.code).length + 1)), ⟨1, .arr true false 5 [[.nils, .nils, .int .i64 0, .nils, .nils]]⟩, D0, D0, D0, D0, D0, D0] =
          some (.tup [], [AB f, ⟨1, .arr true false 5 [[.nils, .nils, .int .i64 0, .nils, .nils]]⟩, AL 1 (kpL f (lst f.code).length), o3, AI 1 (plcL f ((lst f.code).length + 1)), AG f [] 0 [] 0, D0, D0, D0, D0, D0, D0]) := by simp [y2i, yh]
      simp only [ygz, yq, Nat.zero_add, y6, la, lb, ld, bg, n5, yj, s5, y1fx, lc, y3p, y8k]
    have e8 : yx7 (.lp 0 1 0 0) (.lp 1 1 0 0) (.ls 2 1 1 0 (lst f.code).length) (.ls 4 1 1 0 ((lst f.code).length + 1)) (.lp 5 1 0 0) [AB f, ⟨1, .arr true false 5 [[.nils, .nils, .int .i64 0, .nils, .nils]]⟩, AL 1 (kpL f (lst f.code).length), o3, AI 1 (plcL f ((lst f.code).length + 1)), AG f (y11 f (lst f.code).length) gc [] 0, o6, o7, yr gc D0 (y11 f (lst f.code).length), D0, D0, D0] =
        y15b (.lp 1 1 0 0) (.lp 5 1 0 0) [AB f, ⟨1, .arr true false 5 [[.nils, .nils, .int .i64 0, .nils, .nils]]⟩, AL 1 (kpL f (lst f.code).length), o3, AI 1 (plcL f ((lst f.code).length + 1)), AG f (y11 f (lst f.code).length) gc (y1w f (lst f.rows).length) gr, o6, o7, yr gc D0 (y11 f (lst f.code).length), o9, o10, yr gr D0 (y1w f (lst f.rows).length)] := by
      rw [← h2]
      simp only [yx7, yq, Nat.zero_add, y6, lr, y3p, y8k]
    have e44 : yhk (.lp 0 1 0 0) (.lp 1 1 0 0) [AB f, ⟨1, .arr true false 5 [[.nils, .nils, .int .i64 0, .nils, .nils]]⟩, D0, D0, D0, D0, D0, D0, D0, D0, D0, D0] =
        ygw (.lp 0 1 0 0) (.lp 1 1 0 0) (.ls 2 1 1 0 (lst f.code).length) [AB f, ⟨1, .arr true false 5 [[.nils, .nils, .int .i64 0, .nils, .nils]]⟩, AL 1 (kpL f (lst f.code).length), o3, D0, D0, D0, D0, D0, D0, D0, D0] := by
      rw [← h35]
      simp only [yhk, l0, y6, c2, yj, if_true, y4v, show decide ((0 : Int) ≠ 0) = false from rfl, y1y, y1en, cR, y15f, yq, Nat.zero_add, lc, y3p]
    rw [e44, e34, e23, e8]
    have l5 : ∀ (a b c d e g : AO) (L : List Ins) (R : List Row) (gc gr : Nat), evLd true 5 (.lp 5 1 0 0) [a, b, c, d, e, AG f L gc R gr, o6, o7, g, o9, o10, yr gr D0 R] = some (.agg [slA f.regs, slA f.params, .int .i64 f.ret, y17 Ins 8 gc L, y17 Row 11 gr R]) := fun a b c d e g L R gc gr => by simp [y41]
    have s1 : ∀ (a c d e g : AO) (t : Heap) (V W : AV) (hV : yo V = true) (hW : yo W = true), evSt 5 (.lp 1 1 0 0) (.agg [slA f.regs, slA f.params, .int .i64 f.ret, V, W]) (a :: ⟨1, .arr true false 5 [[.nils, .nils, .int .i64 0, .nils, .nils]]⟩ :: t) = some (.tup [], a :: ⟨1, .arr true false 5 [[slA f.regs, slA f.params, .int .i64 f.ret, V, W]]⟩ :: t) := fun a c d e g t V W hV hW => by simp [y2i, yh, hV, hW]
    have l1 : ∀ (a : AO) (t : Heap) (V W : AV), evLd true 5 (.lp 1 1 0 0) (a :: ⟨1, .arr true false 5 [[slA f.regs, slA f.params, .int .i64 f.ret, V, W]]⟩ :: t) = some (.agg [slA f.regs, slA f.params, .int .i64 f.ret, V, W]) := fun a t V W => by simp [y41]
    simp only [y15b, l5, y6, s1 (AB f) D0 D0 D0 D0 _ _ _ (ygr _ _ _) (ygr _ _ _), yj, l1]
    exact yxc f (yd6 f) rfl rfl (by rw [yd6, hw]; rfl)
end Go.Vm
namespace Go.Vm
abbrev y1bb : Ty := .int .i32
theorem y163 {cs : List AV} (h : y1bb.has cs) : ∃ n : Int, cs = [.int .i32 n] ∧ (-2147483648 ≤ n ∧ n < 2147483648) := by
  obtain ⟨n, rfl, h1, h2⟩ := h
  refine ⟨n, rfl, ?_⟩
  simp [IntKind.min, IntKind.max, IntKind.signed, IntKind.bits] at h1 h2
  omega
end Go.Vm
