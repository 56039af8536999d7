/- fold.Pass on the machine. fold.Pass on the machine: the pass itself. What a function that is handed in is fit for, for a check. A pass as laws see it. Whether two lists of numbers are the same. Whether two lists of numbers, two instructions are the same; a number in a list. Whether two functions are the same. What the document says that the stack's instructions over numbers take and give. The document's answers for single operations: numbers in a list, ways, ends. The document's table of operations. The document's answers for single operations. The document's answers for names and types: the program's own. The document's answer whether a call, an instruction is well formed. The document's answer whether an instruction is well formed. The document's answer whether an instruction is well formed, whole. The document's answer for an instruction is the program's. -/
import Derived.Test.YtgbajicpokolcaaOX
import Derived.Test.YtgbajicpokolcaaOTc
set_option linter.unusedSimpArgs false
set_option linter.unusedVariables false
set_option linter.unusedSectionVars false
namespace Go.Vm
open Cel
abbrev y1h7 : List AV := [.int .i64 0, .int .i64 0, .int .i64 0, .int .i64 0, .int .i64 0, .int .i64 0, .int .i64 0, .str [], .nils]
theorem ydh (H : Heap) (a b : AO) : (H ++ [a, b])[H.length]? = some a := by simp
theorem yv7 (H : Heap) (a b : AO) : (H ++ [a, b])[H.length + 1]? = some b := by
  rw [List.getElem?_append_right (by omega), Nat.add_sub_cancel_left]; rfl
theorem ld_x {H : Heap} {id g k : Nat} {x : Ins} {v : AV} (h : H[id]? = some (AX g x)) (hv : (enc x)[k]? = some v) : evLd false 1 (.lp id g 0 k) H = some v := by
  have hr : ym H id g = some (false, 9, [enc x]) := by simp [ym, y3m, h]
  rw [y31, hr]
  simp only [List.getElem?_cons_zero, y94, List.head?_drop, hv]
theorem y1yc {H : Heap} {id g : Nat} {x : Ins} (h : H[id]? = some (AX g x)) : evLd true 9 (.lp id g 0 0) H = some (.agg (enc x)) := by
  have hr : ym H id g = some (false, 9, [enc x]) := by simp [ym, y3m, h]
  simp [y31, hr]
theorem y2te {H : Heap} {id g : Nat} {x y : Ins} {v : AV} (h : H[id]? = some (AX g x)) (hv : cellsOf v = enc y) : evSt 9 (.lp id g 0 0) v H = some (.tup [], H.set id (AX g y)) := by
  have hr : ym H id g = some (false, 9, [enc x]) := by simp [ym, y3m, h]
  rw [y5o, hr]
  simp only [List.getElem?_cons_zero, hv]
  rw [if_pos ⟨rfl, by rw [yxf]; exact Nat.le_refl _, y12w y⟩, ygc (by rw [yxf, yxf]), y23, h]
  rfl
theorem st_x {H : Heap} {id g : Nat} {x y : Ins} (h : H[id]? = some (AX g x)) : evSt 9 (.lp id g 0 0) (.agg (enc y)) H = some (.tup [], H.set id (AX g y)) := y2te h rfl
theorem y2m5 {H : Heap} {fb j : Nat} {o : AO} (h : H[fb + j]? = some o) : newC fb (some j) y1h7 H = some (.lp (fb + j) (o.gen + 1) 0 0, H.set (fb + j) (AX (o.gen + 1) default)) := by
  simp [h]
  rfl
theorem y13a (H : Heap) (a b c : AO) : (H ++ [a, b]).set (H.length + 1) c = H ++ [a, c] := by
  rw [List.set_append_right _ _ (by omega), Nat.add_sub_cancel_left]; rfl
section
variable {H : Heap} {id g : Nat} {kn : Kn} (hm : H[id]? = some (AM vI g kn)) (x : Ins)
include hm
theorem y1hp (z : Ins) (k : Int) : y5d false [0] (.int .i64 0) true (.lm id g) (.int .i64 k) (H ++ [AX 1 x, AX 1 z]) = some (match aget k kn with | some v => .tup [vI v, .bool true] | none => .tup [.int .i64 0, .bool false]) := by
  rw [y284 (ylh hm)]
  cases aget k kn <;> rfl
theorem y1dg (z y : Ins) : evSt 9 (.lp (H.length + 1) 1 0 0) (.agg (enc y)) (H ++ [AX 1 x, AX 1 z]) = some (.tup [], H ++ [AX 1 x, AX 1 y]) := by
  rw [st_x (yv7 H _ _), y13a]
theorem y23b (fb : Nat) : y5 E (y7 E) fb none false 126 [.agg (enc x), .lm id g] H = some (.agg (enc (y5l x kn)), H ++ [AX 1 x, AX 1 (y5l x kn)]) := by
  have c0 : y5 E (y7 E) fb none false 126 [.agg (enc x), .lm id g] H = (y7 E).i 126 [.agg (enc x), .lm id g] H.length H := rfl
  rw [c0, y2uj, if_pos rfl]
  have n0 : newC H.length (some 0) (cellsOf (.agg (enc x))) (H ++ yk 2) = some (.lp H.length 1 0 0, H ++ [AX 1 x, D0]) := by
    have h0 : (H ++ yk 2)[H.length]? = some D0 := by simp [yk]
    have e : (H ++ yk 2).set H.length (AX 1 x) = H ++ [AX 1 x, D0] := by
      rw [List.set_append_right _ _ (Nat.le_refl _), Nat.sub_self]; rfl
    simp only [newC, y7z, ywo, y12w, if_true, place, Nat.add_zero, h0]
    rw [show (⟨0 + 1, OC.arr true false (enc x).length [enc x]⟩ : AO) = AX 1 x from rfl, e]
  have n1 : newC H.length (some 1) y1h7 (H ++ [AX 1 x, D0]) = some (.lp (H.length + 1) 1 0 0, H ++ [AX 1 x, AX 1 default]) := by
    rw [y2m5 (yv7 H _ _), y13a]
  have mg := y1hp hm x
  have out := fun y => y1dg hm x default y
  have lo := ld_x (k := 0) (v := .int .i64 x.op) (ydh H (AX 1 x) (AX 1 default)) rfl
  have ld := ld_x (k := 1) (v := .int .i64 x.d) (ydh H (AX 1 x) (AX 1 default)) rfl
  have la := ld_x (k := 2) (v := .int .i64 x.a) (ydh H (AX 1 x) (AX 1 default)) rfl
  have lb := ld_x (k := 3) (v := .int .i64 x.b) (ydh H (AX 1 x) (AX 1 default)) rfl
  have ln := ld_x (k := 5) (v := .int .i64 x.n) (ydh H (AX 1 x) (AX 1 default)) rfl
  have lt := ld_x (k := 6) (v := .int .i64 x.t) (ydh H (AX 1 x) (AX 1 default)) rfl
  have lx := y1yc (ydh H (AX 1 x) (AX 1 default))
  have lr := fun y => y1yc (yv7 H (AX 1 x) (AX 1 y))
  have same : yr6 H.length (.lp H.length 1 0 0) (.lp (H.length + 1) 1 0 0) (H ++ [AX 1 x, AX 1 default]) = some (.agg (enc x), H ++ [AX 1 x, AX 1 x]) := by
    simp only [yr6, lx, yb, out, yy, lr]
  have c1 : ∀ (a : Int) (H' : Heap), y5 E (y7 E) H.length none true 127 [.int .i64 x.n, .int .i64 a] H' = some (.int .i64 (yjy x.n a), H') := fun a H' => y1a (fa := ⟨[.int .i64 x.n, .int .i64 a], true, []⟩) rfl rfl rfl (y2my _ _) ⟨_, rfl, rfl⟩
  have f1 : ∀ (a : Int) (H' : Heap), y3y E (y7 E) H.length none true 127 [.int .i64 x.n, .int .i64 a] H' = some ([], []) := fun a H' => ypu (fa := ⟨[.int .i64 x.n, .int .i64 a], true, []⟩) rfl rfl rfl (y2my _ _)
  have c2 : ∀ (a b : Int) (H' : Heap), y5 E (y7 E) H.length none true 128 [.int .i64 x.n, .int .i64 a, .int .i64 b] H' = some (.int .i64 (twoM x.n a b), H') := fun a b H' => y1a (fa := ⟨[.int .i64 x.n, .int .i64 a, .int .i64 b], true, []⟩) rfl rfl rfl (y2l8 _ _ _) ⟨_, rfl, rfl⟩
  have f2 : ∀ (a b : Int) (H' : Heap), y3y E (y7 E) H.length none true 128 [.int .i64 x.n, .int .i64 a, .int .i64 b] H' = some ([], []) := fun a b H' => ypu (fa := ⟨[.int .i64 x.n, .int .i64 a, .int .i64 b], true, []⟩) rfl rfl rfl (y2l8 _ _ _)
  have c3 : ∀ (a b : Int) (H' : Heap), y5 E (y7 E) H.length none true 129 [.int .i64 x.n, .int .i64 a, .int .i64 b] H' = some (.bool (yip x.n a b), H') := fun a b H' => y1a (fa := ⟨[.int .i64 x.n, .int .i64 a, .int .i64 b], true, []⟩) rfl rfl rfl (y2e7 _ _ _) ⟨_, rfl, rfl⟩
  have bc : ∀ d v : Int, y11 y1h7 [(0, 1, .int .i64 1), (1, 1, .int .i64 d), (5, 1, .int .i64 v)] = some (.agg (enc (yag d v))) := fun d v => rfl
  have bg : ∀ t : Int, y11 y1h7 [(0, 1, .int .i64 27), (6, 1, .int .i64 t)] = some (.agg (enc (ywk t))) := fun t => rfl
  have bn : y11 y1h7 [(0, 1, .int .i64 33)] = some (.agg (enc nopI)) := rfl
  have st : y16z H.length (.agg (enc x)) (.lm id g) (H ++ yk 2) = y4y H.length (.lm id g) (.lp H.length 1 0 0) (.lp (H.length + 1) 1 0 0) (H ++ [AX 1 x, AX 1 default]) := by
    simp only [y16z, n0, yy, n1]
  rw [st]
  unfold y5l
  cases ha : aget x.a kn with
  | none =>
    have mga := mg default x.a
    rw [ha] at mga
    by_cases h6 : x.op = 6
    · simp only [y4y, y1c, Nat.zero_add, yb, la, mga, y2f, List.getElem?_cons_zero, List.getElem?_cons_succ, y5c, lo, y5b, y12, h6, decide_true, y5a, y1p, y24, same, if_true]
    by_cases h5 : x.op = 5
    · have mgb := mg default x.b
      cases hb : aget x.b kn with
      | none =>
        rw [hb] at mgb
        simp only [y4y, y1c, Nat.zero_add, yb, la, lb, mga, mgb, y2f, List.getElem?_cons_zero, List.getElem?_cons_succ, y5c, lo, y5b, y12, h5, decide_true, decide_false, y5a, y6p, y6n, ykd, y35, y1p, y24, same, if_true, show ¬ (5 : Int) = 6 by decide, if_false]
      | some b =>
        rw [hb] at mgb
        simp only [y4y, y1c, Nat.zero_add, yb, la, lb, mga, mgb, y2f, List.getElem?_cons_zero, List.getElem?_cons_succ, y5c, lo, y5b, y12, h5, decide_true, decide_false, y5a, y6p, y6n, ykd, y35, y1p, y24, same, if_true, show ¬ (5 : Int) = 6 by decide, if_false]
    by_cases h4 : x.op = 4
    · simp only [y4y, y1c, Nat.zero_add, yb, la, mga, y2f, List.getElem?_cons_zero, List.getElem?_cons_succ, y5c, lo, y5b, y12, h4, decide_true, decide_false, y5a, y6p, y6n, yay, yih, y1p, y24, same, if_true, show ¬ (4 : Int) = 6 by decide, show ¬ (4 : Int) = 5 by decide, if_false]
    by_cases h28 : x.op = 28
    · have mgb := mg default x.b
      cases hb : aget x.b kn with
      | none =>
        rw [hb] at mgb
        simp only [y4y, y1c, Nat.zero_add, yb, la, lb, mga, mgb, y2f, List.getElem?_cons_zero, List.getElem?_cons_succ, y5c, lo, y5b, y12, h28, decide_true, decide_false, y5a, y6p, y6n, yay, yih, ypk, ypd, yx5, ywn, yxa, ykd, y35, y1p, y24, same, if_true, show ¬ (28 : Int) = 6 by decide, show ¬ (28 : Int) = 5 by decide, show ¬ (28 : Int) = 4 by decide, if_false]
      | some b =>
        rw [hb] at mgb
        simp only [y4y, y1c, Nat.zero_add, yb, la, lb, mga, mgb, y2f, List.getElem?_cons_zero, List.getElem?_cons_succ, y5c, lo, y5b, y12, h28, decide_true, decide_false, y5a, y6p, y6n, yay, yih, ypk, ypd, yx5, ywn, yxa, ykd, y35, y1p, y24, same, if_true, show ¬ (28 : Int) = 6 by decide, show ¬ (28 : Int) = 5 by decide, show ¬ (28 : Int) = 4 by decide, if_false]
    simp only [y4y, y1c, Nat.zero_add, yb, la, mga, y2f, List.getElem?_cons_zero, List.getElem?_cons_succ, y5c, lo, y5b, y12, h6, h5, h4, h28, decide_false, y5a, y6p, y6n, yay, yih, ypk, ypd, y24, same, if_false]
  | some a =>
    have mga := mg default x.a
    rw [ha] at mga
    by_cases h6 : x.op = 6
    · simp only [y4y, y1c, Nat.zero_add, yb, la, mga, y2f, List.getElem?_cons_zero, List.getElem?_cons_succ, y5c, lo, y5b, y12, h6, decide_true, y5a, y1p, ld, ln, f1, yhq, c1, yy, bc, out, lr, if_true]
      exact y2am rfl _
    by_cases h5 : x.op = 5
    · have mgb := mg default x.b
      cases hb : aget x.b kn with
      | none =>
        rw [hb] at mgb
        simp only [y4y, y1c, Nat.zero_add, yb, la, lb, mga, mgb, y2f, List.getElem?_cons_zero, List.getElem?_cons_succ, y5c, lo, y5b, y12, h5, decide_true, decide_false, y5a, y6p, y6n, yc6, y2b, y1p, y24, same, if_true, show ¬ (5 : Int) = 6 by decide, if_false]
      | some b =>
        rw [hb] at mgb
        simp only [y4y, y1c, Nat.zero_add, yb, la, lb, mga, mgb, y2f, List.getElem?_cons_zero, List.getElem?_cons_succ, y5c, lo, y5b, y12, h5, decide_true, decide_false, y5a, y6p, y6n, yc6, y2b, y1p, y24, ld, ln, f2, yhq, c2, yy, bc, out, lr, if_true, show ¬ (5 : Int) = 6 by decide, if_false]
        exact y2am rfl _
    by_cases h4 : x.op = 4
    · simp only [y4y, y1c, Nat.zero_add, yb, la, mga, y2f, List.getElem?_cons_zero, List.getElem?_cons_succ, y5c, lo, y5b, y12, h4, decide_true, decide_false, y5a, y6p, y6n, yay, yih, y1p, y24, ld, bc, out, yy, lr, if_true, show ¬ (4 : Int) = 6 by decide, show ¬ (4 : Int) = 5 by decide, if_false]
    by_cases h28 : x.op = 28
    · have mgb := mg default x.b
      cases hb : aget x.b kn with
      | none =>
        rw [hb] at mgb
        simp only [y4y, y1c, Nat.zero_add, yb, la, lb, mga, mgb, y2f, List.getElem?_cons_zero, List.getElem?_cons_succ, y5c, lo, y5b, y12, h28, decide_true, decide_false, y5a, y6p, y6n, yay, yih, ypk, ypd, yx5, ywn, yxa, yc6, y2b, y1p, y24, same, if_true, show ¬ (28 : Int) = 6 by decide, show ¬ (28 : Int) = 5 by decide, show ¬ (28 : Int) = 4 by decide, if_false]
      | some b =>
        rw [hb] at mgb
        have c3' := c3 a b
        cases hh : yip x.n a b with
        | true =>
          rw [hh] at c3'
          simp only [y4y, y1c, Nat.zero_add, yb, la, lb, mga, mgb, y2f, List.getElem?_cons_zero, List.getElem?_cons_succ, y5c, lo, y5b, y12, h28, decide_true, decide_false, y5a, y6p, y6n, yay, yih, ypk, ypd, yx5, ywn, yxa, yc6, y2b, y1p, y24, y1zj, ln, c3', hh, yy, lt, bg, out, lr, if_true, show ¬ (28 : Int) = 6 by decide, show ¬ (28 : Int) = 5 by decide, show ¬ (28 : Int) = 4 by decide, if_false]
        | false =>
          rw [hh] at c3'
          simp only [y4y, y1c, Nat.zero_add, yb, la, lb, mga, mgb, y2f, List.getElem?_cons_zero, List.getElem?_cons_succ, y5c, lo, y5b, y12, h28, decide_true, decide_false, y5a, y6p, y6n, yay, yih, ypk, ypd, yx5, ywn, yxa, yc6, y2b, y1p, y24, y1zj, ln, c3', hh, yy, y2d7, bn, out, lr, Bool.false_eq_true, if_true, show ¬ (28 : Int) = 6 by decide, show ¬ (28 : Int) = 5 by decide, show ¬ (28 : Int) = 4 by decide, if_false]
    simp only [y4y, y1c, Nat.zero_add, yb, la, mga, y2f, List.getElem?_cons_zero, List.getElem?_cons_succ, y5c, lo, y5b, y12, h6, h5, h4, h28, decide_false, y5a, y6p, y6n, yay, yih, ypk, ypd, y24, same, if_false]
end
end Go.Vm
namespace Go.Vm
open Cel
theorem y1n8 {α : Type} (y : α) : ∀ (ys : List α) (x : α) (l : List α), (ys ++ x :: l).set ys.length y = (ys ++ [y]) ++ l
  | [], _, _ => rfl
  | a :: ys, x, l => by simp [y1n8 y ys x l]
theorem y220 {α : Type} (ys : List α) (x : α) (l : List α) : (ys ++ x :: l)[ys.length]? = some x := by simp
structure FSt (H : Heap) (f : Fn) (p g : Nat → Nat) (hm : List (Int × Bool)) (gh gk : Nat) (kn : Kn) : Prop where
  d : DSt H f p g 13
  hm : H[10]? = some (AM vB gh hm)
  kn : H[11]? = some (AM vI gk kn)
section
variable {f : Fn} (w : Wf f) (p g : Nat → Nat) (hm : List (Int × Bool)) (gh gk : Nat) (hh : ∀ i : Int, aget i hm = if i ∈ y7x f then some true else none)
include w hh
theorem y1qm : ∀ (l : List Ins) (ys : List Ins) (H : Heap) (kn : Kn), lst f.code = l ∨ True → ys.length + l.length = (lst f.code).length → FSt H (y8a f (ys ++ l)) p g hm gh gk kn →
    ∃ H', ylw (.lp 0 1 0 0) (.lp 1 1 0 0) (.lm 10 gh) (.lm 11 gk) (.ls (p 2) (g 2) 9 0 (lst f.code).length) (.int .i64 (lst f.code).length) (.int .i64 ys.length) H = y1p1 (.lp 0 1 0 0) (.lp 1 1 0 0) H' ∧
      DSt H' (y8a f (ys ++ yf1 (ytw f) ys.length kn l)) p g 13 := by
  have hn := w.n2
  intro l
  induction l with
  | nil =>
    intro ys H kn _ hl S
    have hc : ¬ (ys.length : Int) < ((lst f.code).length : Int) := by simp at hl; omega
    refine ⟨H, ?_, S.d⟩
    rw [ytk]
    simp only [yyt, yo, yb, hc, decide_false, y25u, y24]
  | cons x l ih =>
    intro ys H kn _ hl S
    simp only [List.length_cons] at hl
    have hlt : ys.length < (lst f.code).length := by omega
    have hc : (ys.length : Int) < ((lst f.code).length : Int) := by omega
    have hw := y17 hlt (by omega)
    have hcode : (y8a f (ys ++ x :: l)).code = some (ys ++ x :: l) := rfl
    have hlen : (ys ++ x :: l).length = (lst f.code).length := by simp; omega
    have kx := y2le hlt (p 2) (g 2) 9 .i64
    have lx := S.d.ix hcode (y220 ys x l)
    have h13 := S.d.len
    obtain ⟨o, ho⟩ : ∃ o, H[0 + 12]? = some o := ⟨_, List.getElem?_eq_getElem (by omega)⟩
    have nx := y2m5 ho
    rw [Nat.zero_add] at nx
    have sx := st_x (H := H.set 12 (AX (o.gen + 1) default)) (id := 12) (g := o.gen + 1) (y := x) (y6q (by omega))
    rw [List.set_set] at sx
    have D1 := S.d.set (a := 12) (x := AX (o.gen + 1) x) (by omega)
    have hX : (H.set 12 (AX (o.gen + 1) x))[12]? = some (AX (o.gen + 1) x) := y6q (by omega)
    have m1 : (H.set 12 (AX (o.gen + 1) x))[10]? = some (AM vB gh hm) := by rw [y13 (by omega)]; exact S.hm
    have k1 : (H.set 12 (AX (o.gen + 1) x))[11]? = some (AM vI gk kn) := by rw [y13 (by omega)]; exact S.kn
    generalize H.set 12 (AX (o.gen + 1) x) = H1 at *
    -- the head of a block
    have e5 : ∃ H2, y1mn (.lp 0 1 0 0) (.lp 1 1 0 0) (.lm 10 gh) (.lm 11 gk) (.int .i64 ys.length) (.lp 12 (o.gen + 1) 0 0) (.ls (p 2) (g 2) 9 0 (lst f.code).length) (.int .i64 (lst f.code).length) (.int .i64 ys.length) H1 =
        yvz (.lp 0 1 0 0) (.lp 1 1 0 0) (.lm 10 gh) (.lm 11 gk) (.int .i64 ys.length) (.lp 12 (o.gen + 1) 0 0) (.ls (p 2) (g 2) 9 0 (lst f.code).length) (.int .i64 (lst f.code).length) (.int .i64 ys.length) H2 ∧
        DSt H2 (y8a f (ys ++ x :: l)) p g 13 ∧ H2[12]? = some (AX (o.gen + 1) x) ∧ H2[10]? = some (AM vB gh hm) ∧ H2[11]? = some (AM vI gk (if ytw f ys.length then [] else kn)) := by
      have mg := y2gj (vf := vB) m1 (.bool false) (ys.length : Int)
      rw [hh] at mg
      by_cases hd : (ys.length : Int) ∈ y7x f
      · rw [if_pos hd] at mg
        simp only [Option.map_some, Option.getD_some] at mg
        have mc := y2aq (vf := vI) k1
        refine ⟨H1.set 11 (AM vI gk []), ?_, D1.set (by omega), by rw [y13 (by omega)]; exact hX, by rw [y13 (by omega)]; exact m1, ?_⟩
        · simp only [y1mn, mg, yb, y1p, mc, yy]
        · rw [y6q (y4x k1), ytw, decide_eq_true hd]; rfl
      · rw [if_neg hd] at mg
        simp only [Option.map_none, Option.getD_none] at mg
        refine ⟨H1, ?_, D1, hX, m1, ?_⟩
        · simp only [y1mn, mg, yb, y24]
        · rw [k1, ytw, decide_eq_false hd]; rfl
    obtain ⟨H2, e5, D2, hX2, m2, k2⟩ := e5
    rw [yf1]
    generalize hkn : (if ytw f (ys.length : Int) = true then [] else kn) = k0 at *
    -- what it becomes
    have cf := y23b k2 x 0
    have D3 := D2.grow [AX 1 x, AX 1 (y5l x k0)]
    have hX3 := ylh (T := [AX 1 x, AX 1 (y5l x k0)]) hX2
    have m3 := ylh (T := [AX 1 x, AX 1 (y5l x k0)]) m2
    have k3 := ylh (T := [AX 1 x, AX 1 (y5l x k0)]) k2
    generalize hy : y5l x k0 = y at *
    generalize H2 ++ [AX 1 x, AX 1 y] = H3 at *
    have s4 := st_x (y := y) hX3
    have D4 := D3.set (a := 12) (x := AX (o.gen + 1) y) (by omega)
    have hX4 : (H3.set 12 (AX (o.gen + 1) y))[12]? = some (AX (o.gen + 1) y) := y6q (y4x hX3)
    have m4 : (H3.set 12 (AX (o.gen + 1) y))[10]? = some (AM vB gh hm) := by rw [y13 (by omega)]; exact m3
    have k4 : (H3.set 12 (AX (o.gen + 1) y))[11]? = some (AM vI gk k0) := by rw [y13 (by omega)]; exact k3
    generalize H3.set 12 (AX (o.gen + 1) y) = H4 at *
    have lc4 := D4.ldc
    have hov : ownV (p 2) (g 2) (y8a f (ys ++ x :: l)).code = .ls (p 2) (g 2) 9 0 (lst f.code).length := by
      show ownV (p 2) (g 2) (some (ys ++ x :: l)) = _
      rw [ownV, hlen]; rfl
    rw [hov] at lc4
    have s5 := D4.st hcode (i := ys.length) (by omega) y
    rw [y1n8] at s5
    have hp2 := D4.lo 2 (by omega) rfl
    have D5 : DSt (H4.set (p 2) ⟨g 2, .arr false false 9 (((ys ++ [y]) ++ l).map enc)⟩) (y8a f ((ys ++ [y]) ++ l)) p g 13 := D4.setCode (L' := (ys ++ [y]) ++ l) hcode (by simp)
    have hX5 : (H4.set (p 2) ⟨g 2, .arr false false 9 (((ys ++ [y]) ++ l).map enc)⟩)[12]? = some (AX (o.gen + 1) y) := by rw [y13 (by omega)]; exact hX4
    have m5 : (H4.set (p 2) ⟨g 2, .arr false false 9 (((ys ++ [y]) ++ l).map enc)⟩)[10]? = some (AM vB gh hm) := by rw [y13 (by omega)]; exact m4
    have k5 : (H4.set (p 2) ⟨g 2, .arr false false 9 (((ys ++ [y]) ++ l).map enc)⟩)[11]? = some (AM vI gk k0) := by rw [y13 (by omega)]; exact k4
    generalize H4.set (p 2) ⟨g 2, .arr false false 9 (((ys ++ [y]) ++ l).map enc)⟩ = H5 at *
    have ay : ∀ H : Heap, yn (fz H y1t) [.agg (enc y)] = some ⟨[.agg (enc y)], scal y && true, []⟩ := fun H => by
      rw [yz, yb1, y1b]; rfl
    have cD : ∀ H, y5 E (y7 E) 0 none true 9 [.agg (enc y)] H = some (.int .i64 (defr y), H) := fun H => y1a rfl (ay H) rfl (y2m4 y) ⟨_, rfl, rfl⟩
    have lx2 := y1yc hX2
    have lx4 := y1yc hX4
    have lx5 := y1yc hX5
    have next : ∀ (H' : Heap) (kn' : Kn), FSt H' (y8a f ((ys ++ [y]) ++ l)) p g hm gh gk kn' → kn' = ydn y k0 →
        ∃ H'', yq6 (.lp 0 1 0 0) (.lp 1 1 0 0) (.lm 10 gh) (.lm 11 gk) (.ls (p 2) (g 2) 9 0 (lst f.code).length) (.int .i64 (lst f.code).length) (.int .i64 ys.length) H' = y1p1 (.lp 0 1 0 0) (.lp 1 1 0 0) H'' ∧
          DSt H'' (y8a f (ys ++ y :: yf1 (ytw f) (ys.length + 1) (ydn y k0) l)) p g 13 := by
      intro H' kn' S' e
      subst e
      obtain ⟨H'', h1, h2⟩ := ih (ys ++ [y]) H' (ydn y k0) (.inr trivial) (by simp; omega) S'
      have e1 : ((ys ++ [y]).length : Int) = ((ys.length : Int) + 1) := by simp
      have e2 : (ys ++ [y]).length = ys.length + 1 := by simp
      rw [e2] at h1 h2
      refine ⟨H'', ?_, by rw [List.append_assoc] at h2; exact h2⟩
      rw [← h1]
      simp only [yq6, y1f, yb, hw]
      rfl
    have e4 : yvz (.lp 0 1 0 0) (.lp 1 1 0 0) (.lm 10 gh) (.lm 11 gk) (.int .i64 ys.length) (.lp 12 (o.gen + 1) 0 0) (.ls (p 2) (g 2) 9 0 (lst f.code).length) (.int .i64 (lst f.code).length) (.int .i64 ys.length) H2 =
        cnd (.bool (decide (0 ≤ defr y)))
         (oh (yaz false [0] (.lm 11 gk) (.int .i64 (defr y)) H5) fun _ h6 =>
          ob (evFa 0 (.lp 12 (o.gen + 1) 0 0)) fun v54 =>
          ob (evLd false 1 v54 h6) fun v55 =>
          ob (y2 .eql v55 (.int .i64 1)) fun v56 =>
          cnd v56
           (ob (evFa 5 (.lp 12 (o.gen + 1) 0 0)) fun v59 =>
            ob (evLd false 1 v59 h6) fun v60 =>
            oh (ya5 false [0] (.lm 11 gk) (.int .i64 (defr y)) v60 h6) fun _ h7 =>
            (yq6 (.lp 0 1 0 0) (.lp 1 1 0 0) (.lm 10 gh) (.lm 11 gk) (.ls (p 2) (g 2) 9 0 (lst f.code).length) (.int .i64 (lst f.code).length) (.int .i64 ys.length) h7))
           ((yq6 (.lp 0 1 0 0) (.lp 1 1 0 0) (.lm 10 gh) (.lm 11 gk) (.ls (p 2) (g 2) 9 0 (lst f.code).length) (.int .i64 (lst f.code).length) (.int .i64 ys.length) h6)))
         ((yq6 (.lp 0 1 0 0) (.lp 1 1 0 0) (.lm 10 gh) (.lm 11 gk) (.ls (p 2) (g 2) 9 0 (lst f.code).length) (.int .i64 (lst f.code).length) (.int .i64 ys.length) H5)) := by
      simp only [yvz, lx2, yb, cf, yy, s4, y1c, Nat.zero_add, lc4, lx4, kx, s5, lx5, cD, y7s]
    have e10 : ylw (.lp 0 1 0 0) (.lp 1 1 0 0) (.lm 10 gh) (.lm 11 gk) (.ls (p 2) (g 2) 9 0 (lst f.code).length) (.int .i64 (lst f.code).length) (.int .i64 ys.length) H = yvz (.lp 0 1 0 0) (.lp 1 1 0 0) (.lm 10 gh) (.lm 11 gk) (.int .i64 ys.length) (.lp 12 (o.gen + 1) 0 0) (.ls (p 2) (g 2) 9 0 (lst f.code).length) (.int .i64 (lst f.code).length) (.int .i64 ys.length) H2 := by
      rw [ytk, ← e5]
      simp only [yyt, yo, yb, hc, decide_true, y25u, y1p, y2h9, kx, lx, nx, yy, sx]
    rw [e10, e4]
    by_cases hd : 0 ≤ defr y
    · rw [decide_eq_true hd, y1p, y2ck (vf := vI) k5, yy]
      have lop := ld_x (k := 0) (v := .int .i64 y.op) (show (H5.set 11 (AM vI gk (adel (defr y) k0)))[12]? = some (AX (o.gen + 1) y) by rw [y13 (by omega)]; exact hX5) rfl
      have lon := ld_x (k := 5) (v := .int .i64 y.n) (show (H5.set 11 (AM vI gk (adel (defr y) k0)))[12]? = some (AX (o.gen + 1) y) by rw [y13 (by omega)]; exact hX5) rfl
      have D6 := D5.set (a := 11) (x := AM vI gk (adel (defr y) k0)) (by omega)
      have m6 : (H5.set 11 (AM vI gk (adel (defr y) k0)))[10]? = some (AM vB gh hm) := by rw [y13 (by omega)]; exact m5
      have k6 : (H5.set 11 (AM vI gk (adel (defr y) k0)))[11]? = some (AM vI gk (adel (defr y) k0)) := y6q (y4x k5)
      generalize H5.set 11 (AM vI gk (adel (defr y) k0)) = H6 at *
      by_cases h1 : y.op = 1
      · have mp := y1ir (vf := vI) k6 (defr y) y.n
        obtain ⟨H'', q1, q2⟩ := next (H6.set 11 (AM vI gk (aset (defr y) y.n (adel (defr y) k0)))) _ ⟨D6.set (by omega), by rw [y13 (by omega)]; exact m6, y6q (y4x k6)⟩ (by rw [ydn, if_pos hd, if_pos h1])
        refine ⟨H'', ?_, q2⟩
        simp only [y1c, Nat.zero_add, yb, lop, y12, h1, decide_true, y1p, lon, mp, yy, q1]
      · obtain ⟨H'', q1, q2⟩ := next H6 _ ⟨D6, m6, k6⟩ (by rw [ydn, if_pos hd, if_neg h1])
        refine ⟨H'', ?_, q2⟩
        simp only [y1c, Nat.zero_add, yb, lop, y12, h1, decide_false, y24, q1]
    · rw [decide_eq_false hd, y24]
      exact next H5 k0 ⟨D5, m5, k5⟩ (by rw [ydn, if_neg hd])
omit hh w in
theorem y1d4 (v19 : AV) (hs : List Int) (hl : hs.length ≤ 1000000) (F : Fn) : ∀ (d j : Nat) (H : Heap) (m : List (Int × Bool)), j + d = hs.length → (∀ r : Int, aget r m = if r ∈ hs.take j then some true else none) → DSt H F p g 13 → H[10]? = some (AM vB gh m) →
    ∃ H' m', (∀ r : Int, aget r m' = if r ∈ hs then some true else none) ∧ ykt (.lp 0 1 0 0) (.lp 1 1 0 0) (.lm 10 gh) (slA (nz hs)) (.int .i64 hs.length) (.int .i64 j) H = y15i (.lp 0 1 0 0) (.lp 1 1 0 0) (.lm 10 gh) H' ∧ DSt H' F p g 13 ∧ H'[10]? = some (AM vB gh m') := by
  intro d
  induction d with
  | zero =>
    intro j H m hd hm D h10
    have hc : ¬ (j : Int) < (hs.length : Int) := by omega
    refine ⟨H, m, by rw [List.take_of_length_le (by omega)] at hm; exact hm, ?_, D, h10⟩
    rw [ylx]
    simp only [y13v, yo, yb, hc, decide_false, y19g, y24]
  | succ d ih =>
    intro j H m hd hm D h10
    have hlt : j < hs.length := by omega
    have hc : (j : Int) < (hs.length : Int) := by omega
    have hw := y17 hlt (by omega)
    have kx := y3e (o := nz hs) (i := j) (by rw [yek]; exact List.getElem?_eq_getElem hlt) .i64
    have htk : hs.take (j + 1) = hs.take j ++ [hs[j]] := List.take_succ_eq_append_getElem hlt
    generalize hs[j] = u at *
    have lx : ∀ H : Heap, evLd false 1 (.rp [.int .i64 u]) H = some (.int .i64 u) := fun H => by simp
    have mp := y1ir (vf := vB) h10 u true
    obtain ⟨H', m', h1, h2, h3, h4⟩ := ih (j + 1) (H.set 10 (AM vB gh (aset u true m))) (aset u true m) (by omega) (fun r => by
      rw [yel, htk, hm]
      by_cases e : r = u
      · simp [e]
      · simp [e]) (D.set (by omega)) (y6q (y4x h10))
    refine ⟨H', m', h1, ?_, h3, h4⟩
    rw [ylx, ← h2]
    simp only [y13v, yo, yb, hc, decide_true, y19g, y1p, y1dz, kx, lx, mp, yy, y1oh, y1f, hw]
    rfl
end
theorem y2bu (f : Fn) (hf : FnFit f) (hs : FnSm f) (hr : (lst f.rows).length ≤ 1000000) :
    (wf f = false → (y7 E).p 125 [.agg (enc f)] = some (y2e f)) ∧ (wf f = true → (y7 E).p 125 [.agg (enc f)] = some (y2e (y8a f (y1as f)))) := by
  have n0 : newC 0 (some 0) (cellsOf (.agg (enc f))) [⟨0, .dead⟩, ⟨0, .dead⟩, ⟨0, .dead⟩, ⟨0, .dead⟩, ⟨0, .dead⟩, ⟨0, .dead⟩, ⟨0, .dead⟩, ⟨0, .dead⟩, ⟨0, .dead⟩, ⟨0, .dead⟩, ⟨0, .dead⟩, ⟨0, .dead⟩, ⟨0, .dead⟩] = some (.lp 0 1 0 0, [AB f, D0, D0, D0, D0, D0, D0, D0, D0, D0, D0, D0, D0]) := by simp
  have n1 : newC 0 (some 1) [.nils, .nils, .int .i64 0, .nils, .nils] [AB f, D0, D0, D0, D0, D0, D0, D0, D0, D0, D0, D0, D0] = some (.lp 1 1 0 0, [AB f, ⟨1, .arr true false 5 [[.nils, .nils, .int .i64 0, .nils, .nils]]⟩, D0, D0, D0, D0, D0, D0, D0, D0, D0, D0, D0]) := by simp
  have l0 : ∀ t : Heap, evLd true 5 (.lp 0 1 0 0) (AB f :: t) = some (.agg (enc f)) := fun t => by simp
  obtain ⟨H1, H2, p, g, e1, e2, D, hl2, hk2⟩ := y1c2 hs (H := [AB f, ⟨1, .arr true false 5 [[.nils, .nils, .int .i64 0, .nils, .nils]]⟩, D0, D0, D0, D0, D0, D0, D0, D0, D0, D0, D0]) rfl ⟨_, rfl, rfl⟩ (n := 13) (by omega) (by simp)
  have hck := y1wj f hf
  have c8 := D.call (E := E) (C := y7 E) (fb := 0) (sl := none) (k := 8) rfl rfl hck ⟨_, rfl, rfl⟩
  have e24 : (y7 E).p 125 [.agg (enc f)] = ysv (.lp 0 1 0 0) (.lp 1 1 0 0) H2 := by
    rw [y2sq]
    simp only [y1g5, n0, yy, n1, y1o9, l0, yb, e1, e2]
  refine ⟨fun hw => ?_, fun hw => ?_⟩
  · rw [hw] at c8
    obtain ⟨H3, o1, o2, o3⟩ := D.out
    rw [e24]
    simp only [ysv, D.ld, yb, c8, Bool.false_eq_true, if_false, yy, y6t, show decide ((80 : Int) ≠ 0) = true from rfl, y1p, o1, o2, o3]
  · rw [hw] at c8
    have w := y1g4 hw
    have hn := w.n2
    obtain ⟨L, hL⟩ : ∃ L, f.code = some L := by
      cases hc : f.code with
      | none => have := w.n1; rw [hc] at this; simp at this
      | some L => exact ⟨L, rfl⟩
    have hlL : lst f.code = L := by rw [hL]; rfl
    have h10 : H2[0 + 10]? = some D0 := by rw [Nat.zero_add, hk2 10 (by omega)]; rfl
    have mk1 := y2ao vB h10
    rw [Nat.zero_add] at mk1
    have D3 := D.set (a := 10) (x := AM vB (D0.gen + 1) []) (by omega)
    have hh3 : (H2.set 10 (AM vB (D0.gen + 1) []))[10]? = some (AM vB 1 []) := y6q (by rw [hl2]; simp)
    have h11 : (H2.set 10 (AM vB (D0.gen + 1) []))[11]? = some D0 := by rw [y13 (by omega), hk2 11 (by omega)]; rfl
    have hHd := y2b0 f (by omega) hr
    have hfr : (exO (nz (y7x f))).fresh = true := by rw [yr3, yek]; simp
    have cH := D3.call (E := E) (C := y7 E) (fb := 0) (sl := none) (k := 102) rfl hfr hHd ⟨_, yu3 _, rfl⟩
    have hhl : (y7x f).length ≤ 20000 := Nat.le_trans (ygd f _) hn
    obtain ⟨H4, m', q1, q2, D4, q4⟩ := y1d4 p g 1 (.int .i64 0) (y7x f) (by omega) f _ 0 _ [] (Nat.zero_add _) (fun r => by simp [aget]) D3 hh3
    have hle := y3h (nz (y7x f))
    rw [yek] at hle
    obtain ⟨o, ho⟩ : ∃ o, H4[0 + 11]? = some o := ⟨_, List.getElem?_eq_getElem (by have := D4.len; omega)⟩
    have mk2 := y2ao vI ho
    rw [Nat.zero_add] at mk2 ho
    have D5 := D4.set (a := 11) (x := AM vI (o.gen + 1) []) (by omega)
    have hh5 : (H4.set 11 (AM vI (o.gen + 1) []))[10]? = some (AM vB 1 m') := by rw [y13 (by omega)]; exact q4
    have hk5 : (H4.set 11 (AM vI (o.gen + 1) []))[11]? = some (AM vI (o.gen + 1) []) := y6q (y4x ho)
    have lc := D5.ldc
    have hov : ownV (p 2) (g 2) f.code = .ls (p 2) (g 2) 9 0 (lst f.code).length := by rw [hL]; rfl
    rw [hov] at lc
    have D5' : DSt (H4.set 11 (AM vI (o.gen + 1) [])) (y8a f ([] ++ lst f.code)) p g 13 := by
      rw [List.nil_append, hlL, ynu hL]; exact D5
    obtain ⟨H6, r1, D6⟩ := y1qm w p g m' 1 (o.gen + 1) q1 (lst f.code) [] _ [] (.inl rfl) (by simp) ⟨D5', hh5, hk5⟩
    obtain ⟨H7, o1, o2, o3⟩ := D6.out
    rw [e24]
    simp only [List.length_nil, Int.ofNat_zero] at r1
    have e21 : ∀ H, y1sc (.lp 0 1 0 0) (.lp 1 1 0 0) H = oh (mkmC 0 (some 10) H) fun v16 h14 => yy6 (.lp 0 1 0 0) (.lp 1 1 0 0) v16 h14 := fun H => rfl
    have hc0 : ((0 : Nat) : Int) = 0 := rfl
    rw [hc0] at q2
    simp only [ysv, D.ld, yb, c8, if_true, yy, y6t, show decide ((0 : Int) ≠ 0) = false from rfl, y24, e21, mk1, yy6, D3.ld, cH, hle, q2, y15i, mk2, y1fa, y1c, Nat.zero_add, lc, yby, r1, y1p1, D6.ld, o1, o2, o3]
    rfl
end Go.Vm
namespace Go.Vm
theorem FnIn.fit3 {f : Fn} (h : FnIn f) : FnFit f := by
  have e : reachBytes = 140737488351232 := rfl
  refine ⟨fun x hx => ?_, ?_, ?_, ?_, ?_⟩
  · have k := h.insI x hx
    refine ⟨⟨k.n.1, ?_⟩, ?_, ?_⟩
    · have := k.n.2; omega
    · have := k.s; omega
    · have := k.len; omega
  · have := h.code; omega
  · have := h.regs; omega
  · have := h.params; omega
  · have := h.rows; omega
end Go.Vm
namespace Go.Vm
open Cel
theorem fz_f (f : Fn) (H : Heap) : yn (fz H y1t) [.agg (enc f)] = some ⟨[.agg (enc f)], scal f && true, []⟩ := by
  rw [yz, yb1, y1b]; rfl
theorem y2ro (f g : Fn) (H : Heap) : yn (fz H y1t) [.agg (enc f), .agg (enc g)] = some ⟨[.agg (enc f), .agg (enc g)], scal f && (scal g && true), []⟩ := by
  rw [yz, yz, yb1, yb1, y1b]; rfl
theorem FnIn.sm {f : Fn} (hf : FnIn f) (h1 : (lst f.code).length ≤ 400) (h3 : (lst f.rows).length ≤ 100) : FnSm f := by
  have e : reachBytes = 140737488351232 := rfl
  have e38 : (2:Nat)^38 = 274877906944 := by decide
  refine ⟨?_, ?_, ?_, ?_, fun x hx => ?_⟩
  · have := hf.regs; omega
  · have := hf.params; omega
  · omega
  · omega
  · have := (hf.insI x hx).len; omega
abbrev AFn (f : Fn) : AO := ⟨1, .arr true false 5 [enc f]⟩
end Go.Vm
namespace Go.Vm
open Cel
attribute [local simp] y5 y26 yj
theorem y1q7 (a b : Option (List Int)) (hn : (lst a).length = (lst b).length) (hl : (lst a).length ≤ 9223372036854775807) (h : Heap) : ∀ (d i : Nat), i + d = (lst a).length →
    yg8 (slA a) (slA b) (.int .i64 i) h = some ⟨.bool (decide ((lst a).drop i = (lst b).drop i)), [], true, [], []⟩ := by
  intro d
  induction d with
  | zero =>
    intro i hi
    have e1 : (lst a).drop i = [] := List.drop_eq_nil_of_le (by omega)
    have e2 : (lst b).drop i = [] := List.drop_eq_nil_of_le (by omega)
    rw [ymy, e1, e2]
    have : ¬ ((i : Int) < ((lst a).length : Int)) := by omega
    simp [yi4, yic, yi3, yjr, yk6, yk1, ydg, this]
  | succ d ih =>
    intro i hi
    have h1 : i < (lst a).length := by omega
    have h2 : i < (lst b).length := by omega
    have hc : ((i : Int) < ((lst a).length : Int)) := by omega
    have k1 := y3e (o := a) (i := i) (List.getElem?_eq_getElem h1) .i64
    have k2 := y3e (o := b) (i := i) (List.getElem?_eq_getElem h2) .i64
    rw [ymy, y18o h1 h2]
    by_cases he : (lst a)[i] = (lst b)[i]
    · have := ih (i + 1) (by omega)
      push_cast at this
      simp [yi4, yic, yi3, yjr, yk6, yk1, ydg, hc, k1, k2, he, y17 h1 hl, this]
    · simp [yi4, yic, yi3, yjr, yk6, yk1, ydg, hc, k1, k2, he]
@[simp] theorem y1io (a b : Option (List Int)) (hl : (lst a).length ≤ 9223372036854775807) : (y7 E).p 11 [slA a, slA b] = some ⟨.bool (decide (lst a = lst b)), [], true, [], []⟩ := by
  rw [y2pm]
  by_cases hn : (lst a).length = (lst b).length
  · have := y1q7 a b hn hl [] (lst a).length 0 (by omega)
    simp only [Int.ofNat_zero, List.drop_zero] at this
    have hn' : ((lst a).length : Int) = ((lst b).length : Int) := by omega
    simp [yi4, yic, yi3, yjr, yk6, yk1, ydg, hn', show yg8 (slA a) (slA b) (.int .i64 0) [] = _ from this]
  · have hn' : ¬ ((lst a).length : Int) = ((lst b).length : Int) := by omega
    have : ¬ lst a = lst b := fun h => hn (by rw [h])
    simp [yi4, yic, yi3, yjr, yk6, yk1, ydg, hn', this]
end Go.Vm
namespace Go.Vm
open Cel
attribute [local simp] y5 y26 yj
def y53 (x y : Ins) : Bool := decide (x.op = y.op) && decide (x.d = y.d) && decide (x.a = y.a) && decide (x.b = y.b) && decide (x.c = y.c) && decide (x.n = y.n) && decide (x.t = y.t) && decide (x.s = y.s) && decide (lst x.args = lst y.args)
set_option maxHeartbeats 1000000 in
@[simp] theorem y1xs (x y : Ins) (hl : (lst x.args).length ≤ 9223372036854775807) : (y7 E).p 28 [.agg (enc x), .agg (enc y)] = some ⟨.bool (y53 x y), [], true, [], []⟩ := by
  rw [y2k5]
  have hi := y1io x.args y.args hl
  by_cases h1 : x.op = y.op
  · by_cases h2 : x.d = y.d
    · by_cases h3 : x.a = y.a
      · by_cases h4 : x.b = y.b
        · by_cases h5 : x.c = y.c
          · by_cases h6 : x.n = y.n
            · by_cases h7 : x.t = y.t
              · by_cases h8 : x.s = y.s
                · simp [ybb, y53, h1, h2, h3, h4, h5, h6, h7, h8, hi]
                · simp [ybb, y53, h1, h2, h3, h4, h5, h6, h7, h8]
              · simp [ybb, y53, h1, h2, h3, h4, h5, h6, h7]
            · simp [ybb, y53, h1, h2, h3, h4, h5, h6]
          · simp [ybb, y53, h1, h2, h3, h4, h5]
        · simp [ybb, y53, h1, h2, h3, h4]
      · simp [ybb, y53, h1, h2, h3]
    · simp [ybb, y53, h1, h2]
  · simp [ybb, y53, h1]
end Go.Vm
namespace Go.Vm
open Cel
attribute [local simp] y5 y26 yj
def y4j : List Ins → List Ins → Bool
  | [], [] => true
  | x :: xs, y :: ys => y53 x y && y4j xs ys
  | _, _ => false
def y17a (a b : Fn) : Bool := decide (lst a.regs = lst b.regs) && decide (lst a.params = lst b.params) && decide (a.ret = b.ret) && y4j (lst a.code) (lst b.code) && decide (lst a.rows = lst b.rows)
theorem ygl : ∀ {a b : List Ins}, y4j a b = true → a.length = b.length
  | [], [], _ => rfl
  | x :: a, y :: b, h => by
    simp only [y4j, Bool.and_eq_true] at h
    simp [ygl h.2]
  | [], _ :: _, h => by cases h
  | _ :: _, [], h => by cases h
theorem yer : ∀ (a : List Ins), y4j a a = true
  | [] => rfl
  | x :: a => by simp [y4j, yer a, y53]
theorem ywr (f : Fn) : y17a f f = true := by simp [y17a, yer]
theorem y1ml (r s : Row) : y1k2 true [0, 0, 0, 2] (.agg (enc r)) (.agg (enc s)) = some (.bool (decide (¬ r = s))) := by
  obtain ⟨a, b, c, d⟩ := r
  obtain ⟨a', b', c', d'⟩ := s
  simp [y1k2, y2fu, y43, y4u]
  by_cases h1 : a = a' <;> by_cases h2 : b = b' <;> by_cases h3 : c = c' <;> by_cases h4 : d = d' <;> simp [h1, h2, h3, h4]
abbrev HS2 (a b : Fn) : Heap := [⟨1, .arr true false 5 [enc a]⟩, ⟨1, .arr true false 5 [enc b]⟩]
theorem y1ji (a b : Fn) (hn : (lst a.rows).length = (lst b.rows).length) (hl : (lst a.rows).length ≤ 9223372036854775807) : ∀ (d i : Nat), i + d = (lst a.rows).length →
    ykf (.lp 0 1 0 0) (.lp 1 1 0 0) (.int .i64 i) (HS2 a b) = some ⟨.bool (decide ((lst a.rows).drop i = (lst b.rows).drop i)), [], true, [], []⟩ := by
  intro d
  induction d with
  | zero =>
    intro i hi
    have e1 : (lst a.rows).drop i = [] := List.drop_eq_nil_of_le (by omega)
    have e2 : (lst b.rows).drop i = [] := List.drop_eq_nil_of_le (by omega)
    have hc : ¬ ((i : Int) < ((lst a.rows).length : Int)) := by omega
    rw [ynq, e1, e2]
    simp [yv3, y1p6, hc]
  | succ d ih =>
    intro i hi
    have h1 : i < (lst a.rows).length := by omega
    have h2 : i < (lst b.rows).length := by omega
    have hc : ((i : Int) < ((lst a.rows).length : Int)) := by omega
    have k1 := yfo (o := a.rows) (i := i) (List.getElem?_eq_getElem h1) .i64
    have k2 := yfo (o := b.rows) (i := i) (List.getElem?_eq_getElem h2) .i64
    rw [ynq, y18o h1 h2]
    generalize (lst a.rows)[i] = r at *
    generalize (lst b.rows)[i] = s at *
    have q := y1ml r s
    have ih := ih (i + 1) (by omega)
    push_cast at ih
    by_cases he : r = s
    · simp [yv3, y14m, y120, hc, k1, k2, he, y17 h1 hl, ih, y1ml]
    · simp [yv3, y14m, y120, hc, k1, k2, he, q]
theorem y1gr (a b : Fn) (hn : (lst a.code).length = (lst b.code).length) (hl : (lst a.code).length ≤ 9223372036854775807) (ha : ∀ x ∈ lst a.code, (lst x.args).length ≤ 9223372036854775807) (R : Bool)
    (hR : y1y9 (.lp 0 1 0 0) (.lp 1 1 0 0) (HS2 a b) = some ⟨.bool R, [], true, [], []⟩) : ∀ (d i : Nat), i + d = (lst a.code).length →
    ykj (.lp 0 1 0 0) (.lp 1 1 0 0) (.int .i64 i) (HS2 a b) = some ⟨.bool (y4j ((lst a.code).drop i) ((lst b.code).drop i) && R), [], true, [], []⟩ := by
  intro d
  induction d with
  | zero =>
    intro i hi
    have e1 : (lst a.code).drop i = [] := List.drop_eq_nil_of_le (by omega)
    have e2 : (lst b.code).drop i = [] := List.drop_eq_nil_of_le (by omega)
    have hc : ¬ ((i : Int) < ((lst a.code).length : Int)) := by omega
    rw [ymg, e1, e2]
    simp [yhy, hR, hc, y4j]
  | succ d ih =>
    intro i hi
    have h1 : i < (lst a.code).length := by omega
    have h2 : i < (lst b.code).length := by omega
    have hc : ((i : Int) < ((lst a.code).length : Int)) := by omega
    have k1 := y7i (o := a.code) (i := i) (List.getElem?_eq_getElem h1) .i64
    have k2 := y7i (o := b.code) (i := i) (List.getElem?_eq_getElem h2) .i64
    have hx := ha _ (List.getElem_mem h1)
    rw [ymg, List.drop_eq_getElem_cons h1, List.drop_eq_getElem_cons h2, y4j]
    generalize (lst a.code)[i] = x at *
    generalize (lst b.code)[i] = y at *
    have q := y1xs x y hx
    have ih := ih (i + 1) (by omega)
    push_cast at ih
    cases hs : y53 x y with
    | true =>
      rw [hs] at q
      simp [yhy, ypv, yxh, hc, k1, k2, q, y17 h1 hl, ih]
    | false =>
      rw [hs] at q
      simp [yhy, ypv, hc, k1, k2, q]
structure FnLen (f : Fn) : Prop where
  regs : (lst f.regs).length ≤ 9223372036854775807
  params : (lst f.params).length ≤ 9223372036854775807
  code : (lst f.code).length ≤ 9223372036854775807
  rows : (lst f.rows).length ≤ 9223372036854775807
  args : ∀ x ∈ lst f.code, (lst x.args).length ≤ 9223372036854775807
set_option maxHeartbeats 1000000 in
theorem y2kl (a b : Fn) (hl : FnLen a) : (y7 E).p 14 [.agg (enc a), .agg (enc b)] = some ⟨.bool (y17a a b), [], true, [], []⟩ := by
  rw [y2mn]
  have i1 := y1io a.regs b.regs hl.regs
  have i2 := y1io a.params b.params hl.params
  unfold y17a
  by_cases h1 : lst a.regs = lst b.regs
  rotate_left
  · simp [yb0, yat, h1, i1]
  by_cases h2 : lst a.params = lst b.params
  rotate_left
  · simp [yb0, yat, h1, i1, h2, i2]
  by_cases h3 : a.ret = b.ret
  rotate_left
  · simp [yb0, yat, h1, i1, h2, i2, h3]
  by_cases h4 : (lst a.code).length = (lst b.code).length
  rotate_left
  · have h4' : ¬ ((lst a.code).length : Int) = ((lst b.code).length : Int) := by omega
    have hs : y4j (lst a.code) (lst b.code) = false := by
      cases hs : y4j (lst a.code) (lst b.code) with
      | false => rfl
      | true => exact (h4 (ygl hs)).elim
    simp [yb0, yat, h1, i1, h2, i2, h3, h4', hs]
  have h4' : ((lst a.code).length : Int) = ((lst b.code).length : Int) := by omega
  by_cases h5 : (lst a.rows).length = (lst b.rows).length
  rotate_left
  · have h5' : ¬ ((lst a.rows).length : Int) = ((lst b.rows).length : Int) := by omega
    have hs : ¬ lst a.rows = lst b.rows := fun h => h5 (by rw [h])
    simp [yb0, yat, h1, i1, h2, i2, h3, h4', h5', hs]
  have h5' : ((lst a.rows).length : Int) = ((lst b.rows).length : Int) := by omega
  have r := y1ji a b h5 hl.rows _ 0 (Nat.zero_add _)
  simp only [List.drop_zero, Int.ofNat_zero] at r
  have c := y1gr a b h4 hl.code hl.args _ r _ 0 (Nat.zero_add _)
  simp only [List.drop_zero, Int.ofNat_zero] at c
  have c' : yvv (.lp 0 1 0 0) (.lp 1 1 0 0) (HS2 a b) = _ := c
  simp [yb0, yat, h1, i1, h2, i2, h3, h4', h5', c']
end Go.Vm
namespace Go.Vm
open Cel
attribute [local simp] y5 y26 yj
theorem y2d0 : ((List.range 60).all fun i => y19a ((both E 30).1.p 66 [.int .i64 (95 + i)]) (numK (95 + i))) = true := by kernel_rfl
theorem y22c (c : Int) (h1 : 0 ≤ c) (h2 : c < 1000) : (y7 E).p 66 [.int .i64 c] = some ⟨.tup [.int .i64 (numK c).1, .int .i64 (numK c).2.1, .int .i64 (numK c).2.2], [], true, [], []⟩ := by
  by_cases h : c < 96 ∨ 148 < c
  · rw [yhr h, y2tt]
    have h2 : ∀ k : Int, 96 ≤ k → k ≤ 148 → ¬ c = k := by omega
    rcases h with h | h
    · have a1 : ¬ 96 ≤ c := by omega
      have a2 : ¬ 120 ≤ c := by omega
      have a3 : ¬ 145 ≤ c := by omega
      simp [y204, y22q, y26x, y242, h2, a1, a2, a3]
      rfl
    · have a1 : 96 ≤ c := by omega
      have a2 : 120 ≤ c := by omega
      have a3 : 145 ≤ c := by omega
      have b1 : ¬ c ≤ 113 := by omega
      have b2 : ¬ c ≤ 131 := by omega
      have b3 : ¬ c ≤ 147 := by omega
      simp [y204, y22q, y26x, y242, h2, a1, a2, a3, b1, b2, b3]
      rfl
  · have := yae y2d0 (c - 95).toNat (by omega)
    have e : (95 + ((c - 95).toNat : Int)) = c := by omega
    simp only [e] at this
    exact y16m 30 (ytn this)
end Go.Vm
namespace Go.Vm
open Cel
attribute [local simp] y5 y26 yj
theorem y2dq (op : Int) (o : Option (List Int)) (hl : (lst o).length ≤ 9223372036854775807) (h : Heap) : ∀ (d i : Nat), i + d = (lst o).length →
    yk4 (.int .i64 op) (slA o) (.int .i64 i) h = some ⟨.bool (decide (op ∈ (lst o).drop i)), [], true, [], []⟩ := by
  intro d
  induction d with
  | zero =>
    intro i hi
    have e1 : (lst o).drop i = [] := List.drop_eq_nil_of_le (by omega)
    have hn : ¬ ((i : Int) < ((lst o).length : Int)) := by omega
    rw [ymh, e1]
    simp [yn3, yns, ynb, ymf, ym7, yol, hn]
  | succ d ih =>
    intro i hi
    have hlt : i < (lst o).length := by omega
    have hn : ((i : Int) < ((lst o).length : Int)) := by omega
    have k1 := y3e (o := o) (i := i) (List.getElem?_eq_getElem hlt) .i64
    have hm : op ∈ (lst o).drop i ↔ op = (lst o)[i] ∨ op ∈ (lst o).drop (i + 1) := by rw [List.drop_eq_getElem_cons hlt, List.mem_cons]
    rw [ymh]
    simp only [hm]
    have ih := ih (i + 1) (by omega)
    push_cast at ih
    by_cases he : (lst o)[i] = op
    · simp [yn3, yns, ynb, ymf, ym7, yol, hn, k1, he]
    · have he' : ¬ op = (lst o)[i] := fun h => he h.symm
      simp [yn3, yns, ynb, ymf, ym7, yol, hn, k1, he, he', y17 hlt hl, ih]
theorem s_in (op : Int) (o : Option (List Int)) (hl : (lst o).length ≤ 9223372036854775807) : (y7 E).p 42 [.int .i64 op, slA o] = some ⟨.bool (decide (op ∈ lst o)), [], true, [], []⟩ := by
  have := y2dq op o hl [] _ 0 (Nat.zero_add _)
  simp only [Int.ofNat_zero, List.drop_zero] at this
  rw [y2pf, ← this]
  simp [yn3, yns, ynb, ymf, ym7, yol]
theorem y2oz (op a b c : Int) : (y7 E).p 42 [.int .i64 op, .rs 1 [[.int .i64 a], [.int .i64 b], [.int .i64 c]]] = some ⟨.bool (decide (op ∈ [a, b, c])), [], true, [], []⟩ :=
  s_in op (some [a, b, c]) (by simp)
theorem y1mx (g a b c : Nat) (x y z : Int) (t : Heap) : fz (⟨g, .arr false false 1 [[.int .i64 x], [.int .i64 y], [.int .i64 z]]⟩ :: t) y1t (.ls 0 g 1 0 3) = some ⟨.rs 1 [[.int .i64 x], [.int .i64 y], [.int .i64 z]], true, [0]⟩ := by
  rw [y21q, yfc]; rfl
@[simp] theorem y2r2 (op : Int) : (y7 E).p 23 [.int .i64 op] = some ⟨.bool (leads op), [], true, [], []⟩ := by
  rw [y2p2, y1wx]
  simp [yx, y18, y1mx 1 0 0 0, y2oz, leads, Bool.or_assoc]
@[simp] theorem y2rr (op : Int) : (y7 E).p 25 [.int .i64 op] = some ⟨.bool (ends op), [], true, [], []⟩ := by
  rw [y2l9, y1vb]
  simp [yx, y18, y1mx 1 0 0 0, y2oz, ends, Bool.or_assoc]
end Go.Vm
namespace Go.Vm
open Cel
attribute [local simp] y5 y26 yj
def rowT : List (List UInt8) := [[], [110, 45, 45, 45], [51, 45, 45, 45], [51, 45, 45, 45], [42, 61, 45, 45], [63, 63, 63, 63], [63, 63, 63, 63], [45, 110, 45, 45], [45, 51, 45, 45], [45, 51, 49, 45], [45, 49, 45, 45], [45, 51, 51, 45], [45, 51, 45, 45], [42, 51, 49, 45], [45, 51, 49, 42], [49, 51, 45, 45], [42, 51, 45, 45], [45, 51, 42, 45], [42, 45, 45, 45], [45, 42, 45, 45], [51, 45, 45, 45], [51, 49, 45, 45], [49, 51, 45, 45], [63, 63, 63, 63], [63, 63, 63, 63], [63, 63, 63, 63], [63, 63, 63, 63], [45, 45, 45, 45], [45, 49, 49, 45], [45, 51, 63, 45], [45, 63, 45, 45], [45, 51, 45, 45], [51, 45, 45, 45], [45, 45, 45, 45]]
def rowM (op : Int) : List UInt8 := if op < 1 ∨ 33 < op then [] else rowT.getD op.toNat []
def y1nl (r : Option (Ex AV)) (s : List UInt8) : Bool :=
  match r with
  | some ⟨.str a, [], true, [], []⟩ => a == s
  | _ => false
theorem y1mm {r : Option (Ex AV)} {s : List UInt8} (h : y1nl r s = true) : r = some ⟨.str s, [], true, [], []⟩ := by
  unfold y1nl at h
  split at h
  · rw [eq_of_beq h]
  · cases h
theorem y2mp : ((List.range 33).all fun i => y1nl ((both E 30).1.p 38 [.int .i64 (1 + i)]) (rowM (1 + i))) = true := by kernel_rfl
set_option maxHeartbeats 2000000 in
theorem y2rp (op : Int) : (y7 E).p 38 [.int .i64 op] = some ⟨.str (rowM op), [], true, [], []⟩ := by
  by_cases h : op < 1 ∨ 33 < op
  · rw [rowM, if_pos h, y2ky]
    simp only [y1fv, y1ts, y1lf, y1ld]
    generalize hb : yx 0 (some 0) 1 34 _ _ _ = B
    have hB : ∃ v t, B = some (.ls 0 1 1 0 34, ⟨1, .arr false false 1 v⟩ :: t) := by
      rw [← hb]; exact ⟨_, _, rfl⟩
    obtain ⟨v, t, rfl⟩ := hB
    rcases h with h | h
    · simp [h]
    · have h1 : ¬ op < 1 := by omega
      have h2 : 34 ≤ op := by omega
      simp [h1, h2]
  · have := yae y2mp (op - 1).toNat (by omega)
    have e : (1 + ((op - 1).toNat : Int)) = op := by omega
    simp only [e] at this
    exact y16m 30 (y1mm this)
end Go.Vm
namespace Go.Vm
open Cel
attribute [local simp] y5 y26 yj
@[simp] theorem yim (f : Fn) (r : Int) : (y7 E).p 48 [.agg (enc f), .int .i64 r] = some ⟨.int .i64 (regK (lst f.regs) r), [], true, [], []⟩ := by
  rw [y2ke]
  by_cases h0 : r < 0
  · simp [ys0, yq8, yu8, h0, regK]
  by_cases h1 : ((lst f.regs).length : Int) ≤ r
  · have : (lst f.regs)[r.toNat]? = none := List.getElem?_eq_none (by omega)
    simp [ys0, yq8, yu8, h0, h1, regK, this]
  · have hin : inR (lst f.regs) r = true := by
      have a1 : 0 ≤ r := by omega
      have a2 : r < ((lst f.regs).length : Int) := by omega
      simp [inR, a1, a2]
    obtain ⟨a0, a1, a2⟩ := yx3 hin
    have k := y146 (o := f.regs) a0 a2 .i64
    simp [ys0, yq8, yu8, h0, h1, k]
def y5i (k : Int) (c : UInt8) : Bool :=
  if c = 45 ∨ c = 63 then true else if c = 42 ∨ c = 61 then decide (0 < k) else if c = 110 then decide (k = 1) || decide (k = 2) else decide (k = (c.toNat : Int) - 48)
theorem y28f (f : Fn) (r : Int) (c : UInt8) (hc : c = 45 ∨ c = 63 ∨ c = 42 ∨ c = 61 ∨ c = 110 ∨ c = 49 ∨ c = 50 ∨ c = 51) :
    (y7 E).p 65 [.agg (enc f), .int .i64 r, .int .u8 c.toNat] = some ⟨.bool (y5i (regK (lst f.regs) r) c), [], true, [], []⟩ := by
  rw [y2q5]
  generalize hk : regK (lst f.regs) r = k
  have hk' := yim f r
  rw [hk] at hk'
  rcases hc with rfl | rfl | rfl | rfl | rfl | rfl | rfl | rfl
  · simp [ycn, yba, ych, yau, ycg, ycc, yck, y7n, hk', y5i]
  · simp [ycn, yba, ych, yau, ycg, ycc, yck, y7n, hk', y5i]
  · simp [ycn, yba, ych, yau, ycg, ycc, yck, y7n, hk', y5i]
  · simp [ycn, yba, ych, yau, ycg, ycc, yck, y7n, hk', y5i]
  · by_cases h1 : k = 1 <;> simp [ycn, yba, ych, yau, ycg, ycc, yck, y7n, hk', y5i, h1]
  · simp [ycn, yba, ych, yau, ycg, ycc, yck, y7n, hk', y5i, IntKind.wrap, IntKind.bits, IntKind.signed]
  · simp [ycn, yba, ych, yau, ycg, ycc, yck, y7n, hk', y5i, IntKind.wrap, IntKind.bits, IntKind.signed]
  · simp [ycn, yba, ych, yau, ycg, ycc, yck, y7n, hk', y5i, IntKind.wrap, IntKind.bits, IntKind.signed]
@[simp] theorem y2eu (f : Fn) (i : Int) : (y7 E).p 49 [.agg (enc f), .int .i64 i] = some ⟨.bool (y55 (lst f.code).length i), [], true, [], []⟩ := by
  rw [y2nx]
  by_cases h0 : 0 ≤ i <;> simp [y1sj, h0, y55]
end Go.Vm
namespace Go.Vm
open Cel
attribute [local simp] y5 y26 yj
def mayB : List UInt8 := [97, 98, 99, 100, 101, 102, 103, 104, 105, 106, 107, 108, 109, 110, 111, 112, 113, 114, 115, 116, 117, 118, 119, 120, 121, 122, 65, 66, 67, 68, 69, 70, 71, 72, 73, 74, 75, 76, 77, 78, 79, 80, 81, 82, 83, 84, 85, 86, 87, 88, 89, 90, 48, 49, 50, 51, 52, 53, 54, 55, 56, 57, 95, 36, 47]
theorem y2p9 : ((List.range 256).all fun n => mayB.contains (UInt8.ofNat n) == okB (UInt8.ofNat n)) = true := by kernel_rfl
theorem y2o8 (c : UInt8) : mayB.contains c = okB c := by
  have := yae y2p9 c.toNat c.toNat_lt
  rw [UInt8.ofNat_toNat] at this
  exact eq_of_beq this
@[simp] theorem y2s8 : E.pure 53 = true := rfl
theorem y2ue (s : List UInt8) (c : UInt8) : (y7 E).p 53 [.str s, .str [c]] = some ⟨.bool (s.contains c), [], true, [], []⟩ := by
  rw [yoj, y6k, show E.fn 53 = none by kernel_rfl]
  rfl
theorem y1bu (s : List UInt8) (hs : s.length ≤ 9223372036854775807) (h : Heap) : ∀ (d i : Nat), i + d = s.length →
    yfs (.str s) (.str mayB) (.int .i64 i) h = if (s.drop i).all okB then yke (.str s) h else some ⟨.bool false, [], true, [], []⟩ := by
  intro d
  induction d with
  | zero =>
    intro i hi
    have e1 : s.drop i = [] := List.drop_eq_nil_of_le (by omega)
    have hc : ¬ ((i : Int) < (s.length : Int)) := by omega
    rw [ymn, e1]
    simp [ys7, hc]
  | succ d ih =>
    intro i hi
    have hlt : i < s.length := by omega
    have hc : ((i : Int) < (s.length : Int)) := by omega
    have ih := ih (i + 1) (by omega)
    push_cast at ih
    have e1 : (s.drop i).all okB = (okB s[i] && (s.drop (i + 1)).all okB) := by rw [List.drop_eq_getElem_cons hlt, List.all_cons]
    have hsl : yf4 (.str s) (some (.int .i64 (i : Int))) (some (.int .i64 ((i : Int) + 1))) = some (.str [s[i]]) := by
      have a1 : ((0 : Int) ≤ (i : Int) + 1 ∧ (i : Int) + 1 ≤ (s.length : Int)) := by omega
      have a2 : ((0 : Int) ≤ (i : Int) ∧ (i : Int) ≤ (((i : Int) + 1).toNat : Int)) := by omega
      simp only [yf4, ya7, yjt, if_pos a1, if_pos a2]
      have e2 : ((i : Int) + 1).toNat = i + 1 := by omega
      rw [e2, Int.toNat_natCast, List.drop_take, show i + 1 - i = 1 by omega, List.drop_eq_getElem_cons hlt]
      rfl
    have hm := y2ue mayB s[i]
    rw [y2o8] at hm
    rw [ymn, e1]
    simp only [ys7, ydq, yb, yo, hc, decide_true, y1p]
    cases hb : okB s[i] with
    | true =>
      rw [hb] at hm
      simp [ys1, y17 hlt hs, hsl, hm, y16i, ih]
    | false =>
      rw [hb] at hm
      simp [ys1, y17 hlt hs, hsl, hm]
@[simp] theorem y2hd (s : List UInt8) (hs : s.length ≤ 9223372036854775807) : (y7 E).p 69 [.str s, .bool false] = some ⟨.bool (y85 s), [], true, [], []⟩ := by
  have h0 := y1bu s hs [] _ 0 (Nat.zero_add _)
  simp only [Int.ofNat_zero, List.drop_zero] at h0
  rw [y2pr]
  have e : yoz (.str s) (.bool false) [] = yfs (.str s) (.str mayB) (.int .i64 0) [] := by simp [yke, y16i, ys1, ys7, y18h, y1kw, yw0, yoz]; rfl
  rw [e, h0, y85]
  cases hal : s.all okB with
  | false => simp
  | true =>
    by_cases h1 : s = []
    · subst h1; simp [yke]
    · have h2 : 1 ≤ s.length := by have := List.length_pos_iff.2 h1; omega
      by_cases h3 : s.length ≤ 60
      · have : ((s.length : Int) ≤ 60) := by omega
        simp [yke, h1, h2, h3, this]
      · have : ¬ ((s.length : Int) ≤ 60) := by omega
        simp [yke, h1, h2, h3, this]
def yhs (s : List UInt8) : Bool :=
  decide (lead s ≤ 8) && (decide (s.drop (lead s) = [73]) || decide (s.drop (lead s) = [74]) ||
    (decide (2 < (s.drop (lead s)).length) && decide ((s.drop (lead s))[0]? = some 76) && decide ((s.drop (lead s))[(s.drop (lead s)).length - 1]? = some 59) && y85 (((s.drop (lead s)).take ((s.drop (lead s)).length - 1)).drop 1)))
theorem y1c9 (s : List UInt8) (hs : s.length ≤ 9223372036854775807) (h : Heap) : ∀ (d i : Nat), i + d = lead s → yga (.str s) (.int .i64 i) h = yo6 (.str s) (.int .i64 (lead s)) h := by
  intro d
  induction d with
  | zero =>
    intro i hi
    obtain rfl : i = lead s := by omega
    rw [ynv]
    have := yai s
    by_cases hc : lead s < s.length
    · have e := List.getElem?_eq_getElem hc
      have hne := yxg e
      have hc' : ((lead s : Int) < (s.length : Int)) := by omega
      have hb : ¬ ((s[lead s].toNat : Int) = 91) := fun hh => hne ((y5j _ 91).1 hh)
      simp [ynp, hc', ixstr e, hb]
    · have hc' : ¬ ((lead s : Int) < (s.length : Int)) := by omega
      simp [ynp, hc']
  | succ d ih =>
    intro i hi
    have e := ywi (s := s) (i := i) (by omega)
    have := yai s
    have hc' : ((i : Int) < (s.length : Int)) := by omega
    have ih := ih (i + 1) (by omega)
    push_cast at ih
    rw [ynv]
    simp [ynp, hc', ixstr e, y16e, y17 (show i < s.length by omega) hs, ih]
theorem y1zk (s : List UInt8) (hs : s.length ≤ 9223372036854775807) : (y7 E).p 67 [.str s] = some ⟨.bool (yhs s), [], true, [], []⟩ := by
  have h0 := y1c9 s hs [] _ 0 (Nat.zero_add _)
  simp only [Int.ofNat_zero] at h0
  rw [y2qm]
  have e : yp0 (.str s) [] = yga (.str s) (.int .i64 0) [] := by simp [yi0, yed, yrg, yo6, y16e, ynp, yvo, yp0]
  rw [e, h0, yhs]
  have hle := yai s
  have hsl : yf4 (.str s) (some (.int .i64 (lead s))) none = some (.str (s.drop (lead s))) := by
    have a2 : ((0 : Int) ≤ (lead s : Int) ∧ (lead s : Int) ≤ (s.length : Int)) := by omega
    simp only [yf4, ya7, yjt, if_pos a2]
    simp
  by_cases h8 : 8 < lead s
  · have h8' : ((8 : Int) < (lead s : Int)) := by omega
    have : ¬ lead s ≤ 8 := by omega
    simp [yo6, hsl, yrg, h8', this]
  · have h8' : ¬ ((8 : Int) < (lead s : Int)) := by omega
    have h8n : lead s ≤ 8 := by omega
    have hrl : (s.drop (lead s)).length ≤ 9223372036854775807 := by rw [List.length_drop]; omega
    simp only [yo6, hsl, yb, yrg, y4t, h8', decide_false, y24, h8n, decide_true, Bool.true_and]
    generalize s.drop (lead s) = r at *
    by_cases c1 : r = [73]
    · simp [yed, c1]
    by_cases c2 : r = [74]
    · simp [yed, c2]
    by_cases c3 : 2 < r.length
    · have c3' : ((2 : Int) < (r.length : Int)) := by omega
      have k0 := List.getElem?_eq_getElem (l := r) (i := 0) (by omega)
      have k1 := List.getElem?_eq_getElem (l := r) (i := r.length - 1) (by omega)
      have i0 := ixstr k0
      have i1 := ixstr k1
      simp only [Int.ofNat_zero] at i0
      have hw : IntKind.wrap .i64 ((r.length : Int) - 1) = ((r.length - 1 : Nat) : Int) := by rw [y2v] <;> omega
      have hs2 : yf4 (.str r) (some (.int .i64 1)) (some (.int .i64 ((r.length - 1 : Nat) : Int))) = some (.str ((r.take (r.length - 1)).drop 1)) := by
        have a1 : ((0 : Int) ≤ ((r.length - 1 : Nat) : Int) ∧ ((r.length - 1 : Nat) : Int) ≤ (r.length : Int)) := by omega
        have a2 : ((0 : Int) ≤ (1 : Int) ∧ (1 : Int) ≤ (((r.length - 1 : Nat) : Int).toNat : Int)) := by omega
        simp only [yf4, ya7, yjt, if_pos a1, if_pos a2]
        rfl
      have hn := y2hd ((r.take (r.length - 1)).drop 1) (by rw [List.length_drop, List.length_take]; omega)
      rw [k0, k1]
      generalize r[0] = b0 at *
      generalize r[r.length - 1] = b1 at *
      generalize y85 ((r.take (r.length - 1)).drop 1) = N at *
      have hn' := hn
      simp only [List.drop_one] at hn'
      by_cases d0 : b0 = 76
      · by_cases d1 : b1 = 59
        · simp [yed, yi0, c1, c2, c3, c3', i0, i1, hw, hs2, hn', d0, d1]
        · have d1' : ¬ ((b1.toNat : Int) = 59) := fun hh => d1 ((y5j _ 59).1 hh)
          simp [yed, yi0, c1, c2, c3, c3', i0, i1, hw, d0, d1, d1']
      · have d0' : ¬ ((b0.toNat : Int) = 76) := fun hh => d0 ((y5j _ 76).1 hh)
        simp [yed, yi0, c1, c2, c3, c3', i0, d0, d0']
    · have c3' : ¬ ((2 : Int) < (r.length : Int)) := by omega
      simp [yed, yi0, c1, c2, c3, c3']
theorem ytt {l : List UInt8} (h : y85 l = true) : 59 ∉ l ∧ 1 ≤ l.length := by
  simp only [y85, Bool.and_eq_true, decide_eq_true_eq, List.all_eq_true] at h
  refine ⟨fun hm => ?_, h.1.1⟩
  have := h.2 59 hm
  exact absurd this (by decide)
theorem y1sl (s : List UInt8) : yhs s = y7r s := by
  rw [Bool.eq_iff_iff]
  simp only [yhs, y7r, Bool.and_eq_true, Bool.or_eq_true, decide_eq_true_eq]
  have hle := yai s
  have hdl : (s.drop (lead s)).length = s.length - lead s := List.length_drop
  by_cases hne : s = []
  · subst hne; simp [lead, ys2]
  have hpos : 0 < s.length := List.length_pos_iff.2 hne
  simp only [hne, not_false_eq_true, true_and, ne_eq]
  unfold ys2
  by_cases h8 : 8 < lead s
  · rw [if_pos (.inl h8)]
    constructor
    · rintro ⟨h, _⟩; omega
    · intro h; omega
  by_cases hl : lead s = s.length
  · rw [if_pos (.inr hl)]
    have : s.drop (lead s) = [] := List.drop_eq_nil_of_le (by omega)
    rw [this]
    constructor
    · rintro ⟨_, h⟩; simp at h
    · intro h; omega
  rw [if_neg (by omega)]
  have hlt : lead s < s.length := by omega
  have hd : s.drop (lead s) = s[lead s] :: s.drop (lead s + 1) := List.drop_eq_getElem_cons hlt
  have h8n : lead s ≤ 8 := by omega
  rw [List.getElem?_eq_getElem hlt]
  have hrl : (s.drop (lead s + 1)).length = s.length - (lead s + 1) := List.length_drop
  have htk : ∀ j, (s.take (lead s + 1 + j)).drop (lead s + 1) = (s.drop (lead s + 1)).take j := by
    intro j; rw [List.drop_take]; congr 1; omega
  simp only [htk]
  rw [hd]
  generalize s[lead s] = c at *
  generalize hr : s.drop (lead s + 1) = r at *
  simp only [h8n, true_and, Option.some.injEq, List.cons.injEq, List.length_cons, List.getElem?_cons_zero, Nat.add_sub_cancel]
  by_cases c1 : c = 73
  · subst c1
    simp only [true_or, if_true, true_and]
    have e1 : (s.length = lead s + 1) ↔ r = [] := by rw [← List.length_eq_zero_iff, hrl]; omega
    constructor
    · rintro (h | h)
      · rcases h with h | h
        · exact (e1.2 h).symm
        · exact absurd h.1 (by decide)
      · exact absurd h.1.1.2 (by decide)
    · intro h; exact .inl (.inl (e1.1 h.symm))
  by_cases c2 : c = 74
  · subst c2
    simp only [or_true, if_true, true_and]
    have e1 : (s.length = lead s + 1) ↔ r = [] := by rw [← List.length_eq_zero_iff, hrl]; omega
    constructor
    · rintro (h | h)
      · rcases h with h | h
        · exact absurd h.1 (by decide)
        · exact (e1.2 h).symm
      · exact absurd h.1.1.2 (by decide)
    · intro h; exact .inl (.inr (e1.1 h.symm))
  simp only [c1, c2, or_self, if_false, false_and, false_or]
  by_cases c3 : c = 76
  · subst c3
    simp only [if_true, true_and, and_true]
    have idx : ∀ j, j < r.length → r[j]? = some 59 → 59 ∉ r.take j → r.findIdx (· == 59) = j := by
      intro j hj h1 h2
      rw [List.getElem?_eq_getElem hj] at h1
      rw [List.findIdx_eq hj]
      refine ⟨by simpa using h1, fun k hk => ?_⟩
      have : r[k]'(by omega) ∈ r.take j := List.mem_take_iff_getElem.2 ⟨k, by omega, rfl⟩
      simp only [beq_eq_false_iff_ne, ne_eq]
      intro he
      rw [he] at this
      exact h2 this
    constructor
    · rintro ⟨⟨h1, h2⟩, h3⟩
      have e0 : (76 :: r : List UInt8)[r.length]? = r[r.length - 1]? := by
        rw [show r.length = (r.length - 1) + 1 by omega]; simp
      rw [e0] at h2
      have e1 : ((76 :: r : List UInt8).take r.length).drop 1 = r.take (r.length - 1) := by
        rw [show r.length = (r.length - 1) + 1 by omega]; simp
      rw [e1] at h3
      have := idx (r.length - 1) (by omega) h2 (ytt h3).1
      rw [this, if_pos ⟨by omega, h3⟩]
      omega
    · intro h
      split at h
      · rename_i hc
        have hj : r.findIdx (· == 59) = r.length - 1 := by omega
        have hn := ytt hc.2
        have hlen := hn.2
        rw [List.length_take, hj] at hlen
        have h59 : r[r.length - 1]? = some 59 := by
          have := List.findIdx_getElem (w := hc.1)
          rw [List.getElem?_eq_getElem (by omega)]
          simp only [hj] at this
          simpa using this
        rw [hj] at hc
        refine ⟨⟨by omega, ?_⟩, ?_⟩
        · rw [show r.length = (r.length - 1) + 1 by omega]; simpa using h59
        · have e1 : ((76 :: r : List UInt8).take r.length).drop 1 = r.take (r.length - 1) := by
            rw [show r.length = (r.length - 1) + 1 by omega]; simp
          rw [e1]; exact hc.2
      · omega
  · simp only [c3, if_false, and_false, false_and]
    constructor
    · intro h; exact h.elim
    · intro h; omega
theorem y2c5 (s : List UInt8) (hs : s.length ≤ 9223372036854775807) : (y7 E).p 67 [.str s] = some ⟨.bool (y7r s), [], true, [], []⟩ := by
  rw [y1zk s hs, y1sl]
end Go.Vm
namespace Go.Vm
open Cel
attribute [local simp] y5 y26 yj y3y
abbrev H2 (f : Fn) (x : Ins) : Heap := [⟨1, .arr true false 5 [enc f]⟩, ⟨1, .arr true false 9 [enc x]⟩]
abbrev H3 (f : Fn) (x : Ins) : Heap := [⟨1, .arr true false 5 [enc f]⟩, ⟨1, .arr true false 9 [enc x]⟩, ⟨1, .arr false false 1 [[.int .i64 x.d], [.int .i64 x.a], [.int .i64 x.b], [.int .i64 x.c]]⟩]
abbrev Q0 : AV := .lp 0 1 0 0
abbrev Q1 : AV := .lp 1 1 0 0
def yhg (R : List Int) (x : Ins) : Bool :=
  (!decide (x.op = 24) && !decide (x.op = 25)) || (match lst x.args with
    | [] => false
    | r :: _ => decide (regK R r = 3))
def ypf (R : List Int) (x : Ins) : Bool :=
  !((decide (x.n < 0) && !decide (x.op = 25)) || decide (21 < (lst x.args).length) || (!decide (x.d = -1) && decide (regK R x.d = 0))) && ((lst x.args).all (fun r => !decide (regK R r = 0)) && yhg R x)
theorem y1nv (f : Fn) (x : Ins) : y5f Q0 Q1 (H2 f x) = some ⟨.bool (yhg (lst f.regs) x), [], true, [], []⟩ := by
  by_cases o1 : x.op = 24
  · cases ha : lst x.args with
    | nil => simp [y5f, o1, yhg, ha, yd]
    | cons r t =>
      have k1 := y3e (o := x.args) (i := 0) (x := r) (by rw [ha]; rfl) .i64
      simp only [Int.ofNat_zero] at k1
      simp [y5f, o1, yhg, ha, k1, yd]
  · by_cases o2 : x.op = 25
    · cases ha : lst x.args with
      | nil => simp [y5f, o2, yhg, ha, yd]
      | cons r t =>
        have k1 := y3e (o := x.args) (i := 0) (x := r) (by rw [ha]; rfl) .i64
        simp only [Int.ofNat_zero] at k1
        simp [y5f, o2, yhg, ha, k1, yd]
    · simp [y5f, o1, o2, yhg, yd]
theorem y1v8 (f : Fn) (x : Ins) (hl : (lst x.args).length ≤ 9223372036854775807) : ∀ (d i : Nat), i + d = (lst x.args).length →
    yi6 Q0 Q1 (.int .i64 i) (H2 f x) = some ⟨.bool (((lst x.args).drop i).all (fun r => !decide (regK (lst f.regs) r = 0)) && yhg (lst f.regs) x), [], true, [], []⟩ := by
  intro d
  induction d with
  | zero =>
    intro i hi
    have e1 : (lst x.args).drop i = [] := List.drop_eq_nil_of_le (by omega)
    have hn : ¬ ((i : Int) < ((lst x.args).length : Int)) := by omega
    rw [ynj, e1]
    simp [y7b, hn, y1nv]
  | succ d ih =>
    intro i hi
    have hlt : i < (lst x.args).length := by omega
    have hn : ((i : Int) < ((lst x.args).length : Int)) := by omega
    have k1 := y3e (o := x.args) (i := i) (List.getElem?_eq_getElem hlt) .i64
    have e1 : ((lst x.args).drop i).all (fun r => !decide (regK (lst f.regs) r = 0)) = ((!decide (regK (lst f.regs) (lst x.args)[i] = 0)) && ((lst x.args).drop (i + 1)).all (fun r => !decide (regK (lst f.regs) r = 0))) := by
      rw [List.drop_eq_getElem_cons hlt, List.all_cons]
    have ih := ih (i + 1) (by omega)
    push_cast at ih
    rw [ynj, e1]
    generalize (lst x.args)[i] = r at *
    have hs := yim f r
    by_cases hz : regK (lst f.regs) r = 0
    · rw [hz] at hs
      simp [y7b, hn, y89, k1, hs, hz, yd]
    · generalize regK (lst f.regs) r = k at *
      simp [y7b, hn, y89, k1, hs, hz, yd, ya1, y17 hlt hl]
      exact ih
theorem y2la (f : Fn) (x : Ins) (hl : (lst x.args).length ≤ 9223372036854775807) : (y7 E).p 68 [.agg (enc f), .agg (enc x)] = some ⟨.bool (ypf (lst f.regs) x), [], true, [], []⟩ := by
  rw [y2mt]
  have h0 := y1v8 f x hl _ 0 (Nat.zero_add _)
  simp only [Int.ofNat_zero, List.drop_zero] at h0
  have hs := yim f x.d
  have e21 : ((21 : Int) < ((lst x.args).length : Int)) ↔ 21 < (lst x.args).length := by omega
  unfold ypf
  generalize ((lst x.args).all (fun r => !decide (regK (lst f.regs) r = 0)) && yhg (lst f.regs) x) = T at *
  generalize regK (lst f.regs) x.d = kd at *
  by_cases h21 : 21 < (lst x.args).length
  · have h21' := e21.2 h21
    by_cases hn : x.n < 0
    · by_cases o5 : x.op = 25 <;> simp [y5f, ya1, y89, y7b, yah, yaw, y6l, hn, o5, h21, h21', yd, yl, meets]
    · simp [y5f, ya1, y89, y7b, yah, yaw, y6l, hn, h21, h21', yd, yl, meets]
  · have h21' : ¬ ((21 : Int) < ((lst x.args).length : Int)) := by omega
    by_cases hn : x.n < 0
    · by_cases o5 : x.op = 25
      · by_cases hd : x.d = -1
        · simp [y5f, ya1, y89, y7b, yah, yaw, y6l, hn, o5, h21, h21', hd, h0, yd, yl, meets]
        · by_cases hk : kd = 0
          · simp [y5f, ya1, y89, y7b, yah, yaw, y6l, hn, o5, h21, h21', hd, hs, hk, h0, yd, yl, meets]
          · simp [y5f, ya1, y89, y7b, yah, yaw, y6l, hn, o5, h21, h21', hd, hs, hk, h0, yd, yl, meets]
      · simp [y5f, ya1, y89, y7b, yah, yaw, y6l, hn, o5, h21, h21', yd, yl, meets]
    · by_cases hd : x.d = -1
      · simp [y5f, ya1, y89, y7b, yah, yaw, y6l, hn, h21, h21', hd, h0, yd, yl, meets]
      · by_cases hk : kd = 0
        · simp [y5f, ya1, y89, y7b, yah, yaw, y6l, hn, h21, h21', hd, hs, hk, h0, yd, yl, meets]
        · simp [y5f, ya1, y89, y7b, yah, yaw, y6l, hn, h21, h21', hd, hs, hk, h0, yd, yl, meets]
end Go.Vm
namespace Go.Vm
open Cel
attribute [local simp] y5 y26 yj y3y
def y6c (f : Fn) (x : Ins) : Bool :=
  match x.op with
  | 1 => decide (regK (lst f.regs) x.d = 2) || (decide (-2147483648 ≤ x.n) && decide (x.n < 2147483648))
  | 4 => decide (regK (lst f.regs) x.d = regK (lst f.regs) x.a)
  | 5 => decide (0 < (numK x.n).2.1) && decide (regK (lst f.regs) x.d = (numK x.n).2.2) && decide (regK (lst f.regs) x.a = (numK x.n).1) && decide (regK (lst f.regs) x.b = (numK x.n).2.1)
  | 6 => decide (0 < (numK x.n).1) && decide ((numK x.n).2.1 = 0) && decide (regK (lst f.regs) x.d = (numK x.n).2.2) && decide (regK (lst f.regs) x.a = (numK x.n).1)
  | 12 => y7r x.s
  | 21 => y7r x.s
  | 22 => y7r x.s
  | 16 => decide (0 ≤ x.n)
  | 17 => decide (0 ≤ x.n)
  | 23 => ypf (lst f.regs) x
  | 24 => ypf (lst f.regs) x
  | 25 => ypf (lst f.regs) x
  | 26 => ypf (lst f.regs) x
  | 27 => y55 (lst f.code).length x.t
  | 28 => decide (0 ≤ x.n) && decide (x.n ≤ 5) && y55 (lst f.code).length x.t
  | 29 => (decide (x.n = 0) || decide (x.n = 1)) && (decide (x.b = -1) || decide (regK (lst f.regs) x.b = 3)) && y55 (lst f.code).length x.t
  | 30 => if f.ret = 0 then decide (x.a = -1) else !decide (x.a = -1) && decide (regK (lst f.regs) x.a = f.ret)
  | _ => true
def oneM (f : Fn) (x : Ins) : Bool :=
  decide (1 ≤ x.op) && decide (x.op ≤ 33) && (y5i (regK (lst f.regs) x.d) ((rowM x.op).getD 0 0) && (y5i (regK (lst f.regs) x.a) ((rowM x.op).getD 1 0) && (y5i (regK (lst f.regs) x.b) ((rowM x.op).getD 2 0) && (y5i (regK (lst f.regs) x.c) ((rowM x.op).getD 3 0) && y6c f x))))
set_option maxHeartbeats 8000000 in
theorem y2n8 (f : Fn) (x : Ins) (hs : x.s.length ≤ 9223372036854775807) (hl : (lst x.args).length ≤ 9223372036854775807) (v55 : AV) (hv : v55 = .int .i64 x.op) :
    y1d Q0 Q1 (.int .i64 (numK x.n).1) (.int .i64 (numK x.n).2.1) (.int .i64 (numK x.n).2.2) v55 (H3 f x) = some ⟨.bool (y6c f x), [], true, [], []⟩ := by
  subst hv
  have hkd := yim f x.d
  have hka := yim f x.a
  have hkb := yim f x.b
  have hty := y2c5 x.s hs
  have hcl := y2la f x hl
  have hpl := y2eu f x.t
  unfold y6c
  generalize regK (lst f.regs) x.d = kd at *
  generalize regK (lst f.regs) x.a = ka at *
  generalize regK (lst f.regs) x.b = kb at *
  generalize y7r x.s = ty at *
  generalize ypf (lst f.regs) x = cl at *
  generalize y55 (lst f.code).length x.t = pl at *
  generalize numK x.n = k at *
  obtain ⟨a, b, d⟩ := k
  simp only
  by_cases o1 : x.op = 1
  · by_cases h2 : kd = 2
    · simp [o1, y1d, y1h, hkd, h2, yd, yl, meets]
    · by_cases h3 : -2147483648 ≤ x.n <;> simp [o1, y1d, y1h, hkd, h2, h3, yd, yl, meets]
  by_cases o4 : x.op = 4
  · simp [o4, y1d, y1h, y1n, y1m, hkd, hka, yd, yl, meets]
  by_cases o5 : x.op = 5
  · by_cases h1 : 0 < b
    · by_cases h2 : kd = d
      · by_cases h3 : ka = a
        · simp [o5, h1, h2, h3, hkd, hka, hkb, y1d, y1h, y1n, y1m, y1x, y1z, y1s, y1q, y1r, y1j, y1w, y1l, y1v, y1i, y1y, y1u, y2n, y2m, y2p, y2s, y2j, y2k, y2q, y2i, y2r, yd, yl, meets]
        · simp [o5, h1, h2, h3, hkd, hka, hkb, y1d, y1h, y1n, y1m, y1x, y1z, y1s, y1q, y1r, y1j, y1w, y1l, y1v, y1i, y1y, y1u, y2n, y2m, y2p, y2s, y2j, y2k, y2q, y2i, y2r, yd, yl, meets]
      · simp [o5, h1, h2, hkd, hka, hkb, y1d, y1h, y1n, y1m, y1x, y1z, y1s, y1q, y1r, y1j, y1w, y1l, y1v, y1i, y1y, y1u, y2n, y2m, y2p, y2s, y2j, y2k, y2q, y2i, y2r, yd, yl, meets]
    · simp [o5, h1, y1d, y1h, y1n, y1m, y1x, y1z, y1s, y1q, y1r, y1j, y1w, y1l, y1v, y1i, y1y, y1u, y2n, y2m, y2p, y2s, y2j, y2k, y2q, y2i, y2r, yd, yl, meets]
  by_cases o6 : x.op = 6
  · by_cases h1 : 0 < a
    · by_cases h2 : b = 0
      · by_cases h3 : kd = d
        · simp [o6, h1, h2, h3, hkd, hka, y1d, y1h, y1n, y1m, y1x, y1z, y1s, y1q, y1r, y1j, y1w, y1l, y1v, y1i, y1y, y1u, y2n, y2m, y2p, y2s, y2j, y2k, y2q, y2i, y2r, yd, yl, meets]
        · simp [o6, h1, h2, h3, hkd, hka, y1d, y1h, y1n, y1m, y1x, y1z, y1s, y1q, y1r, y1j, y1w, y1l, y1v, y1i, y1y, y1u, y2n, y2m, y2p, y2s, y2j, y2k, y2q, y2i, y2r, yd, yl, meets]
      · simp [o6, h1, h2, y1d, y1h, y1n, y1m, y1x, y1z, y1s, y1q, y1r, y1j, y1w, y1l, y1v, y1i, y1y, y1u, y2n, y2m, y2p, y2s, y2j, y2k, y2q, y2i, y2r, yd, yl, meets]
    · simp [o6, h1, y1d, y1h, y1n, y1m, y1x, y1z, y1s, y1q, y1r, y1j, y1w, y1l, y1v, y1i, y1y, y1u, y2n, y2m, y2p, y2s, y2j, y2k, y2q, y2i, y2r, yd, yl, meets]
  by_cases o12 : x.op = 12
  · simp [o12, hty, y1d, y1h, y1n, y1m, y1x, y1z, y1s, y1q, y1r, y1j, y1w, y1l, y1v, y1i, y1y, y1u, y2n, y2m, y2p, y2s, y2j, y2k, y2q, y2i, y2r, yd, yl, meets]
  by_cases o21 : x.op = 21
  · simp [o21, hty, y1d, y1h, y1n, y1m, y1x, y1z, y1s, y1q, y1r, y1j, y1w, y1l, y1v, y1i, y1y, y1u, y2n, y2m, y2p, y2s, y2j, y2k, y2q, y2i, y2r, yd, yl, meets]
  by_cases o22 : x.op = 22
  · simp [o22, hty, y1d, y1h, y1n, y1m, y1x, y1z, y1s, y1q, y1r, y1j, y1w, y1l, y1v, y1i, y1y, y1u, y2n, y2m, y2p, y2s, y2j, y2k, y2q, y2i, y2r, yd, yl, meets]
  by_cases o16 : x.op = 16
  · simp [o16, y1d, y1h, y1n, y1m, y1x, y1z, y1s, y1q, y1r, y1j, y1w, y1l, y1v, y1i, y1y, y1u, y2n, y2m, y2p, y2s, y2j, y2k, y2q, y2i, y2r, yd, yl, meets]
  by_cases o17 : x.op = 17
  · simp [o17, y1d, y1h, y1n, y1m, y1x, y1z, y1s, y1q, y1r, y1j, y1w, y1l, y1v, y1i, y1y, y1u, y2n, y2m, y2p, y2s, y2j, y2k, y2q, y2i, y2r, yd, yl, meets]
  by_cases o23 : x.op = 23
  · simp [o23, hcl, y1d, y1h, y1n, y1m, y1x, y1z, y1s, y1q, y1r, y1j, y1w, y1l, y1v, y1i, y1y, y1u, y2n, y2m, y2p, y2s, y2j, y2k, y2q, y2i, y2r, yd, yl, meets]
  by_cases o24 : x.op = 24
  · simp [o24, hcl, y1d, y1h, y1n, y1m, y1x, y1z, y1s, y1q, y1r, y1j, y1w, y1l, y1v, y1i, y1y, y1u, y2n, y2m, y2p, y2s, y2j, y2k, y2q, y2i, y2r, yd, yl, meets]
  by_cases o25 : x.op = 25
  · simp [o25, hcl, y1d, y1h, y1n, y1m, y1x, y1z, y1s, y1q, y1r, y1j, y1w, y1l, y1v, y1i, y1y, y1u, y2n, y2m, y2p, y2s, y2j, y2k, y2q, y2i, y2r, yd, yl, meets]
  by_cases o26 : x.op = 26
  · simp [o26, hcl, y1d, y1h, y1n, y1m, y1x, y1z, y1s, y1q, y1r, y1j, y1w, y1l, y1v, y1i, y1y, y1u, y2n, y2m, y2p, y2s, y2j, y2k, y2q, y2i, y2r, yd, yl, meets]
  by_cases o28 : x.op = 28
  · by_cases h1 : 0 ≤ x.n
    · by_cases h2 : x.n ≤ 5 <;> simp [o28, h1, h2, hpl, y1d, y1h, y1n, y1m, y1x, y1z, y1s, y1q, y1r, y1j, y1w, y1l, y1v, y1i, y1y, y1u, y2n, y2m, y2p, y2s, y2j, y2k, y2q, y2i, y2r, yd, yl, meets]
    · simp [o28, h1, y1d, y1h, y1n, y1m, y1x, y1z, y1s, y1q, y1r, y1j, y1w, y1l, y1v, y1i, y1y, y1u, y2n, y2m, y2p, y2s, y2j, y2k, y2q, y2i, y2r, yd, yl, meets]
  by_cases o27 : x.op = 27
  · simp [o27, hpl, y1d, y1h, y1n, y1m, y1x, y1z, y1s, y1q, y1r, y1j, y1w, y1l, y1v, y1i, y1y, y1u, y2n, y2m, y2p, y2s, y2j, y2k, y2q, y2i, y2r, yd, yl, meets]
  by_cases o29 : x.op = 29
  · by_cases h1 : x.n = 0
    · by_cases h2 : x.b = -1
      · simp [o29, h1, h2, hpl, y1d, y1h, y1n, y1m, y1x, y1z, y1s, y1q, y1r, y1j, y1w, y1l, y1v, y1i, y1y, y1u, y2n, y2m, y2p, y2s, y2j, y2k, y2q, y2i, y2r, yd, yl, meets]
      · by_cases h3 : kb = 3 <;> simp [o29, h1, h2, h3, hpl, hkb, y1d, y1h, y1n, y1m, y1x, y1z, y1s, y1q, y1r, y1j, y1w, y1l, y1v, y1i, y1y, y1u, y2n, y2m, y2p, y2s, y2j, y2k, y2q, y2i, y2r, yd, yl, meets]
    · by_cases h1' : x.n = 1
      · by_cases h2 : x.b = -1
        · simp [o29, h1', h2, hpl, y1d, y1h, y1n, y1m, y1x, y1z, y1s, y1q, y1r, y1j, y1w, y1l, y1v, y1i, y1y, y1u, y2n, y2m, y2p, y2s, y2j, y2k, y2q, y2i, y2r, yd, yl, meets]
        · by_cases h3 : kb = 3 <;> simp [o29, h1', h2, h3, hpl, hkb, y1d, y1h, y1n, y1m, y1x, y1z, y1s, y1q, y1r, y1j, y1w, y1l, y1v, y1i, y1y, y1u, y2n, y2m, y2p, y2s, y2j, y2k, y2q, y2i, y2r, yd, yl, meets]
      · simp [o29, h1, h1', y1d, y1h, y1n, y1m, y1x, y1z, y1s, y1q, y1r, y1j, y1w, y1l, y1v, y1i, y1y, y1u, y2n, y2m, y2p, y2s, y2j, y2k, y2q, y2i, y2r, yd, yl, meets]
  by_cases o30 : x.op = 30
  · by_cases h1 : f.ret = 0
    · simp [o30, h1, y1d, y1h, y1n, y1m, y1x, y1z, y1s, y1q, y1r, y1j, y1w, y1l, y1v, y1i, y1y, y1u, y2n, y2m, y2p, y2s, y2j, y2k, y2q, y2i, y2r, yd, yl, meets]
    · by_cases h2 : x.a = -1 <;> simp [o30, h1, h2, hka, y1d, y1h, y1n, y1m, y1x, y1z, y1s, y1q, y1r, y1j, y1w, y1l, y1v, y1i, y1y, y1u, y2n, y2m, y2p, y2s, y2j, y2k, y2q, y2i, y2r, yd, yl, meets]
  · have e : (match x.op with
      | 1 => decide (kd = 2) || (decide (-2147483648 ≤ x.n) && decide (x.n < 2147483648))
      | 4 => decide (kd = ka)
      | 5 => decide (0 < b) && decide (kd = d) && decide (ka = a) && decide (kb = b)
      | 6 => decide (0 < a) && decide (b = 0) && decide (kd = d) && decide (ka = a)
      | 12 => ty
      | 21 => ty
      | 22 => ty
      | 16 => decide (0 ≤ x.n)
      | 17 => decide (0 ≤ x.n)
      | 23 => cl
      | 24 => cl
      | 25 => cl
      | 26 => cl
      | 27 => pl
      | 28 => decide (0 ≤ x.n) && decide (x.n ≤ 5) && pl
      | 29 => (decide (x.n = 0) || decide (x.n = 1)) && (decide (x.b = -1) || decide (kb = 3)) && pl
      | 30 => if f.ret = 0 then decide (x.a = -1) else !decide (x.a = -1) && decide (ka = f.ret)
      | _ => true) = true := by
      split <;> first | rfl | contradiction
    rw [show _ = true from e]
    simp [o1, o4, o5, o6, o12, o21, o22, o16, o17, o23, o24, o25, o26, o27, o28, o29, o30, y1d, y1h, y1n, y1m, y1x, y1z, y1s, y1q, y1r, y1j, y1w, y1l, y1v, y1i, y1y, y1u, y2n, y2m, y2p, y2s, y2j, y2k, y2q, y2i, y2r, yd, yl, meets]
end Go.Vm
namespace Go.Vm
open Cel
attribute [local simp] y5 y26 yj y3y
def y1ki (c : UInt8) : Bool := decide (c = 45) || decide (c = 63) || decide (c = 42) || decide (c = 61) || decide (c = 110) || decide (c = 49) || decide (c = 50) || decide (c = 51)
theorem y264 {c : UInt8} (h : y1ki c = true) : c = 45 ∨ c = 63 ∨ c = 42 ∨ c = 61 ∨ c = 110 ∨ c = 49 ∨ c = 50 ∨ c = 51 := by
  simp only [y1ki, Bool.or_eq_true, decide_eq_true_eq] at h
  simp only [or_assoc] at h
  exact h
@[simp] theorem y2qs (h : Heap) (a b c : Int) : fz h y1t (.tup [.int .i64 a, .int .i64 b, .int .i64 c]) = some ⟨.tup [.int .i64 a, .int .i64 b, .int .i64 c], true, []⟩ := rfl
theorem y1y5 : ((List.range 33).all fun i => decide ((rowM (1 + i)).length = 4) && (rowM (1 + i)).all y1ki) = true := by kernel_rfl
theorem y2kg {op : Int} (h1 : 1 ≤ op) (h2 : op ≤ 33) : (rowM op).length = 4 ∧ (rowM op).all y1ki = true := by
  have := yae y1y5 (op - 1).toNat (by omega)
  have e : (1 + ((op - 1).toNat : Int)) = op := by omega
  simp only [e, Bool.and_eq_true, decide_eq_true_eq] at this
  exact this
theorem yf3 (f : Fn) (x : Ins) (w : List UInt8) (i : Nat) (r : Int) (c : UInt8) (hi : i < 4) (hw : w[i]? = some c) (hc : y1ki c = true) (hr : [x.d, x.a, x.b, x.c][i]? = some r) :
    y58 Q0 Q1 (.str w) (.ls 2 1 1 0 4) (.int .i64 i) (H3 f x) = if y5i (regK (lst f.regs) r) c then y58 Q0 Q1 (.str w) (.ls 2 1 1 0 4) (.int .i64 (i + 1 : Nat)) (H3 f x) else some ⟨.bool false, [], true, [], []⟩ := by
  have hn : ((i : Int) < (4 : Int)) := by omega
  have hw2 : IntKind.wrap .i64 ((i : Int) + 1) = ((i + 1 : Nat) : Int) := by rw [y2v] <;> omega
  have hs := y28f f r c (y264 hc)
  have k1 : yp 1 (.ls 2 1 1 0 4) (.int .i64 i) = some (.lp 2 1 i 0) := by simp [yp, hi, hn]
  have k2 : evLd false 1 (.lp 2 1 i 0) (H3 f x) = some (.int .i64 r) := by
    match i, hi, hr with
    | 0, _, hr => simp at hr; simp [hr]
    | 1, _, hr => simp at hr; simp [hr]
    | 2, _, hr => simp at hr; simp [hr]
    | 3, _, hr => simp at hr; simp [hr]
  have k3 := ixstr hw
  rw [yje]
  generalize y5i (regK (lst f.regs) r) c = T at *
  simp only [yfw, yo, yb, hn, decide_true, y1p]
  generalize hZ : y58 Q0 Q1 (.str w) (.ls 2 1 1 0 4) (.int .i64 (i + 1 : Nat)) (H3 f x) = Z
  have e32 : yor Q0 Q1 (.str w) (.ls 2 1 1 0 4) (.int .i64 i) (H3 f x) = Z := by
    rw [← hZ]; simp only [yor, y1f, yb, hw2]
  have e5 : evLd true 5 Q0 (H3 f x) = some (.agg (enc f)) := by simp
  simp only [yvg, k1, k2, k3, e5, yb]
  cases T with
  | true => simp [hs, e32, yd]
  | false => simp [hs, yd]
set_option maxHeartbeats 1000000 in
theorem y2u2 (f : Fn) (x : Ins) (hn : -9223372036854775808 ≤ x.n ∧ x.n < 9223372036854775808) (hs : x.s.length ≤ 9223372036854775807) (hl : (lst x.args).length ≤ 9223372036854775807) :
    (y7 E).p 64 [.agg (enc f), .agg (enc x)] = some ⟨.bool (oneM f x), [], true, [], []⟩ := by
  rw [y2na]
  have hrow := y2rp x.op
  by_cases h1 : 1 ≤ x.op
  · by_cases h2 : x.op ≤ 33
    · obtain ⟨hlen, hsg⟩ := y2kg h1 h2
      rw [oneM]
      simp only [h1, h2, decide_true, Bool.true_and]
      generalize rowM x.op = w at *
      match w, hlen, hsg with
      | [c0, c1, c2, c3], _, hsg =>
        simp only [List.all_cons, List.all_nil, Bool.and_true, Bool.and_eq_true] at hsg
        have e0 : yft (.agg (enc f)) (.agg (enc x)) [⟨0, .dead⟩, ⟨0, .dead⟩, ⟨0, .dead⟩] = y58 Q0 Q1 (.str [c0, c1, c2, c3]) (.ls 2 1 1 0 4) (.int .i64 0) (H3 f x) := by
          simp [yft, yhz, ykv, yw8, ywv, hrow, yx, y18]
        have s0 := yf3 f x [c0, c1, c2, c3] 0 x.d c0 (by omega) rfl hsg.1 rfl
        have s1 := yf3 f x [c0, c1, c2, c3] 1 x.a c1 (by omega) rfl hsg.2.1 rfl
        have s2 := yf3 f x [c0, c1, c2, c3] 2 x.b c2 (by omega) rfl hsg.2.2.1 rfl
        have s3 := yf3 f x [c0, c1, c2, c3] 3 x.c c3 (by omega) rfl hsg.2.2.2 rfl
        simp only [Int.ofNat_zero] at s0
        have e4 : y58 Q0 Q1 (.str [c0, c1, c2, c3]) (.ls 2 1 1 0 4) (.int .i64 (3 + 1 : Nat)) (H3 f x) = some ⟨.bool (y6c f x), [], true, [], []⟩ := by
          have h25 := y2n8 f x hs hl (.int .i64 x.op) rfl
          show y58 Q0 Q1 (.str [c0, c1, c2, c3]) (.ls 2 1 1 0 4) (.int .i64 4) (H3 f x) = _
          rw [yje]
          by_cases hk0 : 0 ≤ x.n
          · by_cases hk1 : x.n < 1000
            · have hK := y22c x.n hk0 hk1
              simp [yfw, yj0, ykk, hk0, hk1, hK, yg9]
              exact h25
            · have : numK x.n = (0, 0, 0) := yhr (by omega)
              rw [this] at h25
              simp [yfw, yj0, ykk, hk0, hk1, yg9]
              exact h25
          · have : numK x.n = (0, 0, 0) := yhr (by omega)
            rw [this] at h25
            simp [yfw, yj0, ykk, hk0, yg9]
            exact h25
        rw [e0, s0]
        simp only [List.getD_cons_zero, List.getD_cons_succ]
        cases y5i (regK (lst f.regs) x.d) c0 with
        | false => simp
        | true =>
          rw [if_pos rfl, s1]
          cases y5i (regK (lst f.regs) x.a) c1 with
          | false => simp
          | true =>
            rw [if_pos rfl, s2]
            cases y5i (regK (lst f.regs) x.b) c2 with
            | false => simp
            | true =>
              rw [if_pos rfl, s3]
              cases y5i (regK (lst f.regs) x.c) c3 with
              | false => simp
              | true => rw [if_pos rfl, e4]; simp
    · have : rowM x.op = [] := by rw [rowM, if_pos (by omega)]
      rw [this] at hrow
      simp [yft, yhz, ykv, hrow, oneM, h2]
  · have : rowM x.op = [] := by rw [rowM, if_pos (by omega)]
    rw [this] at hrow
    simp [yft, yhz, ykv, hrow, oneM, h1]
end Go.Vm
namespace Go.Vm
theorem y1j5 (n : Int) : 0 ≤ (numK n).1 ∧ 0 ≤ (numK n).2.1 ∧ 0 ≤ (numK n).2.2 ∧ (numK n).1 ≤ 2 ∧ (numK n).2.1 ≤ 2 ∧ (numK n).2.2 ≤ 2 ∧ (¬ (numK n).1 = 0 → ¬ (numK n).2.2 = 0) ∧ (¬ (numK n).2.1 = 0 → ¬ (numK n).1 = 0 ∧ ¬ (numK n).2.2 = 0) := by
  unfold numK
  repeat' split
  all_goals decide
theorem y51 {R : List Int} (hR : R.all (fun k => decide (1 ≤ k) && decide (k ≤ 3)) = true) (r : Int) : (inR R r = true ∧ (regK R r = 1 ∨ regK R r = 2 ∨ regK R r = 3)) ∨ (inR R r = false ∧ regK R r = 0) := by
  cases h : inR R r with
  | true =>
    obtain ⟨_, h1, h2⟩ := yx3 h
    rw [List.all_eq_true] at hR
    have := hR (regK R r) (List.mem_of_getElem? h2)
    simp only [Bool.and_eq_true, decide_eq_true_eq] at this
    refine .inl ⟨rfl, ?_⟩
    omega
  | false =>
    refine .inr ⟨rfl, ?_⟩
    simp only [inR, Bool.and_eq_false_iff, decide_eq_false_iff_not] at h
    unfold regK
    split
    · rfl
    · rw [List.getD_eq_getElem?_getD, List.getElem?_eq_none (by omega)]; rfl
theorem y2q1 {n : Int} : n = IntKind.wrap .i64 (IntKind.wrap .i32 n) ↔ -2147483648 ≤ n ∧ n < 2147483648 := by
  have h : -2147483648 ≤ IntKind.wrap .i32 n ∧ IntKind.wrap .i32 n < 2147483648 := by
    simp only [IntKind.wrap, IntKind.bits, IntKind.signed]
    simp
    omega
  rw [y2v (n := IntKind.wrap .i32 n) (by omega) (by omega)]
  constructor
  · intro e; rw [e]; exact h
  · intro e
    simp only [IntKind.wrap, IntKind.bits, IntKind.signed]
    simp
    omega
theorem yq2 {R : List Int} {r : Int} : y1g R (-1) r = true := by simp [y1g]
theorem y1du {R : List Int} (hR : R.all (fun k => decide (1 ≤ k) && decide (k ≤ 3)) = true) (r : Int) : y1g R 0 r = decide (0 < regK R r) := by
  rcases y51 hR r with ⟨h1, h2⟩ | ⟨h1, h2⟩
  · simp [y1g, h1]; omega
  · simp [y1g, h1, h2]
theorem ycq {R : List Int} (hR : R.all (fun k => decide (1 ≤ k) && decide (k ≤ 3)) = true) (r k : Int) (hk : 0 < k) : y1g R k r = decide (regK R r = k) := by
  have a1 : ¬ k < 0 := by omega
  have a2 : ¬ k ≤ 0 := by omega
  rcases y51 hR r with ⟨h1, h2⟩ | ⟨h1, h2⟩
  · simp [y1g, h1, a1, a2]
  · have : ¬ 0 = k := by omega
    simp [y1g, h1, h2, a1, a2, this]
theorem y2a0 {R : List Int} (hR : R.all (fun k => decide (1 ≤ k) && decide (k ≤ 3)) = true) (l : List Int) : (l.all fun r => !decide (regK R r = 0)) = l.all (inR R) := by
  congr 1
  funext r
  rcases y51 hR r with ⟨h1, h2⟩ | ⟨h1, h2⟩
  · rw [h1]; simp; omega
  · rw [h1, h2]; rfl
theorem y2m0 (f : Fn) (x : Ins) (hR : (lst f.regs).all (fun k => decide (1 ≤ k) && decide (k ≤ 3)) = true) (h : x.op = 5) : oneM f x = y14 f x := by
  have hk := y1j5 x.n
  have Fm := fun r => yq2 (R := lst f.regs) (r := r)
  simp only [oneM, y14, h, yg, rowM, rowT, y5i, y5v, calls, y2l, leads, y6c, Fm]
  generalize numK x.n = k at *
  obtain ⟨a, b, d⟩ := k
  simp only at hk ⊢
  by_cases hb : b = 0
  · subst hb; simp
  · rw [ycq hR x.d d (by omega), ycq hR x.a a (by omega), ycq hR x.b b (by omega)]
    rw [Bool.eq_iff_iff]
    simp
    omega
theorem y2nl (f : Fn) (x : Ins) (hR : (lst f.regs).all (fun k => decide (1 ≤ k) && decide (k ≤ 3)) = true) (h : x.op = 6) : oneM f x = y14 f x := by
  have hk := y1j5 x.n
  have Fm := fun r => yq2 (R := lst f.regs) (r := r)
  simp only [oneM, y14, h, yg, rowM, rowT, y5i, y5v, calls, y2l, leads, y6c, Fm]
  generalize numK x.n = k at *
  obtain ⟨a, b, d⟩ := k
  simp only at hk ⊢
  by_cases ha : a = 0
  · subst ha; simp
  · rw [ycq hR x.d d (by omega), ycq hR x.a a (by omega)]
    rw [Bool.eq_iff_iff]
    simp
    omega
theorem ytz (f : Fn) (x : Ins) (hR : (lst f.regs).all (fun k => decide (1 ≤ k) && decide (k ≤ 3)) = true) (h : x.op = 23 ∨ x.op = 24 ∨ x.op = 25 ∨ x.op = 26) : oneM f x = y14 f x := by
  have F0 := y1du hR
  have Fm := fun r => yq2 (R := lst f.regs) (r := r)
  have hA := y2a0 hR (lst x.args)
  have kd := y51 hR x.d
  have hc : ypf (lst f.regs) x = (!((decide (x.n < 0) && !decide (x.op = 25)) || decide (21 < (lst x.args).length) || (!decide (x.d = -1) && decide (regK (lst f.regs) x.d = 0))) && ((lst x.args).all (inR (lst f.regs)) && yhg (lst f.regs) x)) := by rw [ypf, hA]
  cases ha : lst x.args with
  | nil =>
    by_cases hd : x.d = -1 <;> rcases h with h|h|h|h <;> (rw [Bool.eq_iff_iff]; simp [oneM, y14, h, yg, rowM, rowT, y5i, y5v, calls, y2l, leads, y6c, hc, yhg, yjf, ha, hd, F0, Fm]; try omega)
  | cons r t =>
    rw [ha] at hc
    generalize hg : (r :: t).all (inR (lst f.regs)) = A at *
    generalize hl : (r :: t).length = n at *
    by_cases hd : x.d = -1 <;> rcases h with h|h|h|h <;> (rw [Bool.eq_iff_iff]; simp [oneM, y14, h, yg, rowM, rowT, y5i, y5v, calls, y2l, leads, y6c, hc, yhg, yjf, ha, hd, F0, Fm]; first | (simp at hl hg; omega) | (simp at hl hg; grind) | skip)
theorem ypz (f : Fn) (x : Ins) (h : x.op < 1 ∨ 33 < x.op) : oneM f x = y14 f x := by
  rw [oneM, y14, ymo h]
  rcases h with h | h
  · have : ¬ 1 ≤ x.op := by omega
    simp [this]
  · have : ¬ x.op ≤ 33 := by omega
    simp [this]
set_option maxHeartbeats 4000000 in
theorem y1yh (f : Fn) (x : Ins) (hR : (lst f.regs).all (fun k => decide (1 ≤ k) && decide (k ≤ 3)) = true) : oneM f x = y14 f x := by
  have F0 := y1du hR
  have F1 := fun r => ycq hR r 1 (by omega)
  have F3 := fun r => ycq hR r 3 (by omega)
  have Fm := fun r => yq2 (R := lst f.regs) (r := r)
  have hA := y2a0 hR (lst x.args)
  have kd := y51 hR x.d
  have ka := y51 hR x.a
  have hd : 0 < regK (lst f.regs) x.d ↔ ¬ regK (lst f.regs) x.d = 0 := by rcases kd with ⟨_, h⟩ | ⟨_, h⟩ <;> omega
  have hw := @y2q1 x.n
  rcases ydj x.op with h|h|h|h|h|h|h|h|h|h|h|h|h|h|h|h|h|h|h|h|h|h|h|h|h|h|h|h|h|h|h|h|h|h|h
  all_goals first
    | (simp [oneM, y14, h, yg, rowM, rowT, y5i, y5v, calls, y2l, leads, y6c, F0, F1, F3, Fm, y55, Bool.and_assoc]; done)
    | skip
  all_goals first
    | exact y2m0 f x hR h
    | exact y2nl f x hR h
    | exact ypz f x (.inl h)
    | exact ypz f x (.inr h)
    | exact ytz f x hR (.inl h)
    | exact ytz f x hR (.inr (.inl h))
    | exact ytz f x hR (.inr (.inr (.inl h)))
    | exact ytz f x hR (.inr (.inr (.inr h)))
    | (rw [Bool.eq_iff_iff]; simp [oneM, y14, h, yg, rowM, rowT, y5i, y5v, calls, y2l, leads, y6c, F0, F1, F3, Fm, y55]; omega)
    | (rw [Bool.eq_iff_iff]; simp [oneM, y14, h, yg, rowM, rowT, y5i, y5v, calls, y2l, leads, y6c, F0, F1, F3, Fm, y55]; grind)
    | exact y2m0 f x hR h
    | exact y2nl f x hR h
    | exact ypz f x (.inl h)
    | exact ypz f x (.inr h)
    | exact ytz f x hR (.inl h)
    | exact ytz f x hR (.inr (.inl h))
    | exact ytz f x hR (.inr (.inr (.inl h)))
    | exact ytz f x hR (.inr (.inr (.inr h)))
end Go.Vm
