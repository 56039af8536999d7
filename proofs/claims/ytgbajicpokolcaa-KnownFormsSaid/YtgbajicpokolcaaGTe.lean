/- What the pass 'known' leaves is fit. What a function that is handed in is fit for, for a check. A pass as laws see it. Whether two lists of numbers are the same. Whether two lists of numbers, two instructions are the same; a number in a list. Whether two functions are the same. What the document says that the stack's instructions over numbers take and give. The document's answers for single operations: numbers in a list, ways, ends. The document's table of operations. The document's answers for single operations. The document's answers for names and types: the program's own. The document's answer whether a call, an instruction is well formed. The document's answer whether an instruction is well formed. The document's answer whether an instruction is well formed, whole. The document's answer for an instruction is the program's. The document's answer whether a function is well formed: the program's own. Chapter 17's anchor. -/
import Derived.Test.YtgbajicpokolcaaGX
import Derived.KernelRfl
import Derived.Test.YtgbajicpokolcaaGTd
set_option linter.unusedSimpArgs false
set_option linter.unusedVariables false
set_option linter.unusedSectionVars false
namespace Go.Vm
theorem Swap.argsN {f g : Fn} (h : ∀ i, i < (lst f.code).length → yh g i = yh f i ∨ yh g i = nopI) (s : Swap f g) {P : Ins → Prop} (h0 : P nopI) (hp : ∀ x ∈ lst f.code, P x) : ∀ x ∈ lst g.code, P x := by
  intro x hx
  obtain ⟨i, hi, e⟩ := List.getElem_of_mem hx
  have hi' : i < (lst f.code).length := by rw [← s.len]; exact hi
  have ex : yh g i = x := by rw [yh, List.getD_eq_getElem?_getD, List.getElem?_eq_getElem hi, e]; rfl
  rcases h i hi' with h | h
  · rw [← ex, h]
    exact hp _ (List.mem_of_getElem? (y5g hi'))
  · rw [← ex, h]; exact h0
theorem y2qk {x : Ins} {c : Fa} (h : ofM x = some c) : x.op = 7 ∨ x.op = 8 ∨ x.op = 9 ∨ x.op = 10 := by
  unfold ofM at h
  split at h
  · omega
  · split at h
    · omega
    · cases h
theorem y132 {x : Ins} {c : Fa} (h : ofM x = some c) : ends x.op = false ∧ leads x.op = false ∧ x.op ≠ 32 := by
  rcases y2qk h with e | e | e | e <;> rw [e] <;> decide
section
variable (f : Fn) (T : KTab)
theorem yh9 : (knoL f T).length = (lst f.code).length := by simp [knoL]
theorem yb5 : Swap f (knoF f T) := ⟨rfl, rfl, rfl, rfl, yh9 f T⟩
theorem yfx {i : Nat} (hi : i < (lst f.code).length) : yh (knoF f T) i = knoI f T i := by
  rw [yh, List.getD_eq_getElem?_getD]
  show ((knoL f T)[i]?).getD default = _
  rw [knoL, List.getElem?_map, List.getElem?_range hi]
  rfl
variable {f T}
theorem y2c9 {i : Nat} (h : y85 f T i = true) : ∃ c s, ofM (yh f i) = some c ∧ kAt T i = some s ∧ c ∈ s := by
  unfold y85 at h
  split at h
  · rename_i c s h1 h2
    exact ⟨c, s, h1, h2, of_decide_eq_true h⟩
  · cases h
theorem yn9 (i : Nat) : knoI f T i = yh f i ∨ (knoI f T i = nopI ∧ ∃ c, ofM (yh f i) = some c) := by
  unfold knoI
  cases h : y85 f T i with
  | false => exact .inl rfl
  | true =>
    obtain ⟨c, s, h1, _⟩ := y2c9 h
    exact .inr ⟨rfl, c, h1⟩
theorem y1d2 (hw : wf f = true) : wf (knoF f T) = true := by
  have w := y1od hw
  refine y2br (yb5 f T) hw fun i hi => ?_
  rw [yfx f T hi]
  rcases yn9 (f := f) (T := T) i with h | ⟨h, c, hc⟩
  · rw [h]; exact ⟨w.ins i hi, id, Iff.rfl, fun h => ⟨h, rfl⟩⟩
  · obtain ⟨h1, h2, h3⟩ := y132 hc
    rw [h]
    exact ⟨y1ab, (fun h => by rw [h1] at h; cases h), ⟨(fun h => by cases h), fun h => (h3 h).elim⟩, (fun h => by cases h)⟩
theorem y1lg (i : Nat) : y26 (knoF f T) i = y26 f i := by
  unfold y26
  rw [show (lst (knoF f T).code).length = (lst f.code).length from yh9 f T]
  by_cases h : (i : Int) < 0 ∨ ((lst f.code).length : Int) ≤ i
  · rw [if_pos h, if_pos h]
  · rw [if_neg h, if_neg h, Int.toNat_natCast, yfx f T (by omega)]
    rcases yn9 (f := f) (T := T) i with h | ⟨h, c, hc⟩
    · rw [h]
    · obtain ⟨h1, h2, _⟩ := y132 hc
      rw [h]
      simp only [yri, h1, h2]
      rfl
theorem yw0 {i : Nat} {j : Int} (h : j ∈ yp (knoF f T) i) : j ∈ yp f i := by
  unfold yp at h ⊢
  rw [show (lst (knoF f T).code).length = (lst f.code).length from yh9 f T] at h
  by_cases hb : (i : Int) < 0 ∨ ((lst f.code).length : Int) ≤ i
  · rw [if_pos hb] at h; cases h
  · rw [if_neg hb] at h ⊢
    rw [Int.toNat_natCast, yfx f T (by omega)] at h
    rw [Int.toNat_natCast]
    rcases yn9 (f := f) (T := T) i with e | ⟨e, _⟩
    · rw [e] at h; exact h
    · rw [e] at h; cases h
theorem y280 (i : Nat) : defr (knoI f T i) = defr (yh f i) := by
  rcases yn9 (f := f) (T := T) i with h | ⟨h, c, hc⟩
  · rw [h]
  · rw [h, y266 hc]; rfl
theorem y246 {q : Int} {i : Nat} (h : Rch (lst (knoF f T).code).length (yj1 (knoF f T) q) [0] i) : Rch (lst f.code).length (yj1 f q) [0] i := by
  have hl : (lst (knoF f T).code).length = (lst f.code).length := yh9 f T
  induction h with
  | base hj j0 j1 => exact .base hj j0 (by rw [hl] at j1; exact j1)
  | @step i j h hj j0 j1 ih =>
    refine .step ih ?_ j0 (by rw [hl] at j1; exact j1)
    unfold yj1 at hj ⊢
    rw [y1lg, yfx f T ih.lt, y280, List.mem_append] at hj
    rw [List.mem_append]
    exact hj.imp yw0 id
theorem y1zr {q : Int} (h : badR (knoF f T) q) : badR f q := by
  obtain ⟨i, hi, hu⟩ := h
  have hr := y246 hi
  refine ⟨i, hr, ?_⟩
  rw [yiu, yfx f T hr.lt] at hu
  rcases yn9 (f := f) (T := T) i with h | ⟨h, _⟩
  · rw [h] at hu; exact hu
  · rw [h, y1wp] at hu; cases hu
theorem y23m (hw : wf f = true) (hs : setM f = true) : setM (knoF f T) = true := by
  unfold setM at hs ⊢
  rw [y1d2 hw]
  rw [hw] at hs
  simp only [Bool.true_and, decide_eq_true_eq] at hs ⊢
  intro r h0 h1 hp hb
  exact hs r h0 h1 hp (y1zr hb)
theorem y1lr (i : Nat) (hi : i < (lst f.code).length) : yh (knoF f T) i = yh f i ∨ yh (knoF f T) i = nopI := by
  rw [yfx f T hi]
  exact (yn9 i).imp id And.left
theorem y1zx (hf : FnFit f) : FnFit (knoF f T) :=
  ⟨Swap.argsN y1lr (yb5 f T) ⟨by decide, by decide, by decide⟩ hf.ins, by rw [(yb5 f T).len]; exact hf.code, hf.regs, hf.params, hf.rows⟩
theorem y1tj (hx : y17k f) : y17k (knoF f T) :=
  Swap.argsN (P := fun x => (lst x.args).length ≤ 17592186043904) y1lr (yb5 f T) (by decide) hx
end
theorem y1rl {f : Fn} {T : KTab} (v : InvK f (T, [])) {i : Nat} (h : Rch (lst f.code).length (fun i => yp f i ++ y26 f i) [0] i) : kAt T i ≠ none := by
  have hz := v.ok.zero
  simp only at hz
  induction h with
  | base hj j0 j1 =>
    rw [List.mem_singleton] at hj
    subst hj
    rw [show (0 : Int).toNat = 0 from rfl, hz]; simp
  | @step i j h hj j0 j1 ih =>
    obtain ⟨t, ht⟩ := notN ih
    have c := (v.closed i t ht).resolve_left (by simp)
    simp only at c
    rw [List.mem_append] at hj
    rcases hj with hj | hj
    · obtain ⟨u, hu, _⟩ := c.1 j hj
      rw [hu]; simp
    · obtain ⟨u, hu, _⟩ := c.2 j hj
      rw [hu]; simp
theorem y21c {f : Fn} {T : KTab} (v : InvK f (T, [])) {i : Nat} (h : kAt T i ≠ none) {c : Fa} (hc : ofM (yh f i) = some c) (hs : yc6 f i c) : y85 f T i = true := by
  obtain ⟨s, hs2⟩ := notN h
  have := (v.ok.rows i s hs2).2.2 c hs
  unfold y85
  rw [hc, hs2]
  exact decide_eq_true this
end Go.Vm
namespace Go.Vm
theorem FnIn.fit3 {f : Fn} (h : FnIn f) : FnFit f := by
  have e : reachBytes = 140737488351232 := rfl
  refine ⟨fun x hx => ?_, ?_, ?_, ?_, ?_⟩
  · have k := h.insI x hx
    refine ⟨⟨k.n.1, ?_⟩, ?_, ?_⟩
    · have := k.n.2; omega
    · have := k.s; omega
    · have := k.len; omega
  · have := h.code; omega
  · have := h.regs; omega
  · have := h.params; omega
  · have := h.rows; omega
end Go.Vm
namespace Go.Vm
open Cel
theorem fz_f (f : Fn) (H : Heap) : ym (fz H y19) [.agg (enc f)] = some ⟨[.agg (enc f)], scal f && true, []⟩ := by
  rw [yr, ya7, y18]; rfl
theorem y2o8 (f g : Fn) (H : Heap) : ym (fz H y19) [.agg (enc f), .agg (enc g)] = some ⟨[.agg (enc f), .agg (enc g)], scal f && (scal g && true), []⟩ := by
  rw [yr, yr, ya7, ya7, y18]; rfl
theorem FnIn.sm {f : Fn} (hf : FnIn f) (h1 : (lst f.code).length ≤ 400) (h3 : (lst f.rows).length ≤ 100) : FnSm f := by
  have e : reachBytes = 140737488351232 := rfl
  have e38 : (2:Nat)^38 = 274877906944 := by decide
  refine ⟨?_, ?_, ?_, ?_, fun x hx => ?_⟩
  · have := hf.regs; omega
  · have := hf.params; omega
  · omega
  · omega
  · have := (hf.insI x hx).len; omega
abbrev AFn (f : Fn) : AO := ⟨1, .arr true false 5 [enc f]⟩
end Go.Vm
namespace Go.Vm
open Cel
attribute [local simp] y9 y2a yu
theorem y1sc (a b : Option (List Int)) (hn : (lst a).length = (lst b).length) (hl : (lst a).length ≤ 9223372036854775807) (h : Heap) : ∀ (d i : Nat), i + d = (lst a).length →
    yfp (slA a) (slA b) (.int .i64 i) h = some ⟨.bool (decide ((lst a).drop i = (lst b).drop i)), [], true, [], []⟩ := by
  intro d
  induction d with
  | zero =>
    intro i hi
    have e1 : (lst a).drop i = [] := List.drop_eq_nil_of_le (by omega)
    have e2 : (lst b).drop i = [] := List.drop_eq_nil_of_le (by omega)
    rw [yn7, e1, e2]
    have : ¬ ((i : Int) < ((lst a).length : Int)) := by omega
    simp [yjn, yl2, ykd, yj8, yje, yju, ycx, this]
  | succ d ih =>
    intro i hi
    have h1 : i < (lst a).length := by omega
    have h2 : i < (lst b).length := by omega
    have hc : ((i : Int) < ((lst a).length : Int)) := by omega
    have k1 := y3c (o := a) (i := i) (List.getElem?_eq_getElem h1) .i64
    have k2 := y3c (o := b) (i := i) (List.getElem?_eq_getElem h2) .i64
    rw [yn7, y137 h1 h2]
    by_cases he : (lst a)[i] = (lst b)[i]
    · have := ih (i + 1) (by omega)
      push_cast at this
      simp [yjn, yl2, ykd, yj8, yje, yju, ycx, hc, k1, k2, he, y1p h1 hl, this]
    · simp [yjn, yl2, ykd, yj8, yje, yju, ycx, hc, k1, k2, he]
@[simp] theorem y1v6 (a b : Option (List Int)) (hl : (lst a).length ≤ 9223372036854775807) : (yb E).p 11 [slA a, slA b] = some ⟨.bool (decide (lst a = lst b)), [], true, [], []⟩ := by
  rw [y2l4]
  by_cases hn : (lst a).length = (lst b).length
  · have := y1sc a b hn hl [] (lst a).length 0 (by omega)
    simp only [Int.ofNat_zero, List.drop_zero] at this
    have hn' : ((lst a).length : Int) = ((lst b).length : Int) := by omega
    simp [yjn, yl2, ykd, yj8, yje, yju, ycx, hn', show yfp (slA a) (slA b) (.int .i64 0) [] = _ from this]
  · have hn' : ¬ ((lst a).length : Int) = ((lst b).length : Int) := by omega
    have : ¬ lst a = lst b := fun h => hn (by rw [h])
    simp [yjn, yl2, ykd, yj8, yje, yju, ycx, hn', this]
end Go.Vm
namespace Go.Vm
open Cel
attribute [local simp] y9 y2a yu
def y5c (x y : Ins) : Bool := decide (x.op = y.op) && decide (x.d = y.d) && decide (x.a = y.a) && decide (x.b = y.b) && decide (x.c = y.c) && decide (x.n = y.n) && decide (x.t = y.t) && decide (x.s = y.s) && decide (lst x.args = lst y.args)
set_option maxHeartbeats 1000000 in
@[simp] theorem y1d9 (x y : Ins) (hl : (lst x.args).length ≤ 9223372036854775807) : (yb E).p 28 [.agg (enc x), .agg (enc y)] = some ⟨.bool (y5c x y), [], true, [], []⟩ := by
  rw [y2h0]
  have hi := y1v6 x.args y.args hl
  by_cases h1 : x.op = y.op
  · by_cases h2 : x.d = y.d
    · by_cases h3 : x.a = y.a
      · by_cases h4 : x.b = y.b
        · by_cases h5 : x.c = y.c
          · by_cases h6 : x.n = y.n
            · by_cases h7 : x.t = y.t
              · by_cases h8 : x.s = y.s
                · simp [yau, y5c, h1, h2, h3, h4, h5, h6, h7, h8, hi]
                · simp [yau, y5c, h1, h2, h3, h4, h5, h6, h7, h8]
              · simp [yau, y5c, h1, h2, h3, h4, h5, h6, h7]
            · simp [yau, y5c, h1, h2, h3, h4, h5, h6]
          · simp [yau, y5c, h1, h2, h3, h4, h5]
        · simp [yau, y5c, h1, h2, h3, h4]
      · simp [yau, y5c, h1, h2, h3]
    · simp [yau, y5c, h1, h2]
  · simp [yau, y5c, h1]
end Go.Vm
namespace Go.Vm
open Cel
attribute [local simp] y9 y2a yu
def y4y : List Ins → List Ins → Bool
  | [], [] => true
  | x :: xs, y :: ys => y5c x y && y4y xs ys
  | _, _ => false
def y14s (a b : Fn) : Bool := decide (lst a.regs = lst b.regs) && decide (lst a.params = lst b.params) && decide (a.ret = b.ret) && y4y (lst a.code) (lst b.code) && decide (lst a.rows = lst b.rows)
theorem ygj : ∀ {a b : List Ins}, y4y a b = true → a.length = b.length
  | [], [], _ => rfl
  | x :: a, y :: b, h => by
    simp only [y4y, Bool.and_eq_true] at h
    simp [ygj h.2]
  | [], _ :: _, h => by cases h
  | _ :: _, [], h => by cases h
theorem yej : ∀ (a : List Ins), y4y a a = true
  | [] => rfl
  | x :: a => by simp [y4y, yej a, y5c]
theorem ywe (f : Fn) : y14s f f = true := by simp [y14s, yej]
theorem y1ri (r s : Row) : y1fs true [0, 0, 0, 2] (.agg (enc r)) (.agg (enc s)) = some (.bool (decide (¬ r = s))) := by
  obtain ⟨a, b, c, d⟩ := r
  obtain ⟨a', b', c', d'⟩ := s
  simp [y1fs, y2b4, yk, y1r]
  by_cases h1 : a = a' <;> by_cases h2 : b = b' <;> by_cases h3 : c = c' <;> by_cases h4 : d = d' <;> simp [h1, h2, h3, h4]
abbrev HS2 (a b : Fn) : Heap := [⟨1, .arr true false 5 [enc a]⟩, ⟨1, .arr true false 5 [enc b]⟩]
theorem y1ug (a b : Fn) (hn : (lst a.rows).length = (lst b.rows).length) (hl : (lst a.rows).length ≤ 9223372036854775807) : ∀ (d i : Nat), i + d = (lst a.rows).length →
    yip (.lp 0 1 0 0) (.lp 1 1 0 0) (.int .i64 i) (HS2 a b) = some ⟨.bool (decide ((lst a.rows).drop i = (lst b.rows).drop i)), [], true, [], []⟩ := by
  intro d
  induction d with
  | zero =>
    intro i hi
    have e1 : (lst a.rows).drop i = [] := List.drop_eq_nil_of_le (by omega)
    have e2 : (lst b.rows).drop i = [] := List.drop_eq_nil_of_le (by omega)
    have hc : ¬ ((i : Int) < ((lst a.rows).length : Int)) := by omega
    rw [ym4, e1, e2]
    simp [yte, y1v8, hc]
  | succ d ih =>
    intro i hi
    have h1 : i < (lst a.rows).length := by omega
    have h2 : i < (lst b.rows).length := by omega
    have hc : ((i : Int) < ((lst a.rows).length : Int)) := by omega
    have k1 := yin (o := a.rows) (i := i) (List.getElem?_eq_getElem h1) .i64
    have k2 := yin (o := b.rows) (i := i) (List.getElem?_eq_getElem h2) .i64
    rw [ym4, y137 h1 h2]
    generalize (lst a.rows)[i] = r at *
    generalize (lst b.rows)[i] = s at *
    have q := y1ri r s
    have ih := ih (i + 1) (by omega)
    push_cast at ih
    by_cases he : r = s
    · simp [yte, y09, y160, hc, k1, k2, he, y1p h1 hl, ih, y1ri]
    · simp [yte, y09, y160, hc, k1, k2, he, q]
theorem y1j1 (a b : Fn) (hn : (lst a.code).length = (lst b.code).length) (hl : (lst a.code).length ≤ 9223372036854775807) (ha : ∀ x ∈ lst a.code, (lst x.args).length ≤ 9223372036854775807) (R : Bool)
    (hR : y1up (.lp 0 1 0 0) (.lp 1 1 0 0) (HS2 a b) = some ⟨.bool R, [], true, [], []⟩) : ∀ (d i : Nat), i + d = (lst a.code).length →
    yit (.lp 0 1 0 0) (.lp 1 1 0 0) (.int .i64 i) (HS2 a b) = some ⟨.bool (y4y ((lst a.code).drop i) ((lst b.code).drop i) && R), [], true, [], []⟩ := by
  intro d
  induction d with
  | zero =>
    intro i hi
    have e1 : (lst a.code).drop i = [] := List.drop_eq_nil_of_le (by omega)
    have e2 : (lst b.code).drop i = [] := List.drop_eq_nil_of_le (by omega)
    have hc : ¬ ((i : Int) < ((lst a.code).length : Int)) := by omega
    rw [ynq, e1, e2]
    simp [yij, hR, hc, y4y]
  | succ d ih =>
    intro i hi
    have h1 : i < (lst a.code).length := by omega
    have h2 : i < (lst b.code).length := by omega
    have hc : ((i : Int) < ((lst a.code).length : Int)) := by omega
    have k1 := y8p (o := a.code) (i := i) (List.getElem?_eq_getElem h1) .i64
    have k2 := y8p (o := b.code) (i := i) (List.getElem?_eq_getElem h2) .i64
    have hx := ha _ (List.getElem_mem h1)
    rw [ynq, List.drop_eq_getElem_cons h1, List.drop_eq_getElem_cons h2, y4y]
    generalize (lst a.code)[i] = x at *
    generalize (lst b.code)[i] = y at *
    have q := y1d9 x y hx
    have ih := ih (i + 1) (by omega)
    push_cast at ih
    cases hs : y5c x y with
    | true =>
      rw [hs] at q
      simp [yij, you, yvo, hc, k1, k2, q, y1p h1 hl, ih]
    | false =>
      rw [hs] at q
      simp [yij, you, hc, k1, k2, q]
structure FnLen (f : Fn) : Prop where
  regs : (lst f.regs).length ≤ 9223372036854775807
  params : (lst f.params).length ≤ 9223372036854775807
  code : (lst f.code).length ≤ 9223372036854775807
  rows : (lst f.rows).length ≤ 9223372036854775807
  args : ∀ x ∈ lst f.code, (lst x.args).length ≤ 9223372036854775807
set_option maxHeartbeats 1000000 in
theorem y2lx (a b : Fn) (hl : FnLen a) : (yb E).p 14 [.agg (enc a), .agg (enc b)] = some ⟨.bool (y14s a b), [], true, [], []⟩ := by
  rw [y2kp]
  have i1 := y1v6 a.regs b.regs hl.regs
  have i2 := y1v6 a.params b.params hl.params
  unfold y14s
  by_cases h1 : lst a.regs = lst b.regs
  rotate_left
  · simp [yb7, ybg, h1, i1]
  by_cases h2 : lst a.params = lst b.params
  rotate_left
  · simp [yb7, ybg, h1, i1, h2, i2]
  by_cases h3 : a.ret = b.ret
  rotate_left
  · simp [yb7, ybg, h1, i1, h2, i2, h3]
  by_cases h4 : (lst a.code).length = (lst b.code).length
  rotate_left
  · have h4' : ¬ ((lst a.code).length : Int) = ((lst b.code).length : Int) := by omega
    have hs : y4y (lst a.code) (lst b.code) = false := by
      cases hs : y4y (lst a.code) (lst b.code) with
      | false => rfl
      | true => exact (h4 (ygj hs)).elim
    simp [yb7, ybg, h1, i1, h2, i2, h3, h4', hs]
  have h4' : ((lst a.code).length : Int) = ((lst b.code).length : Int) := by omega
  by_cases h5 : (lst a.rows).length = (lst b.rows).length
  rotate_left
  · have h5' : ¬ ((lst a.rows).length : Int) = ((lst b.rows).length : Int) := by omega
    have hs : ¬ lst a.rows = lst b.rows := fun h => h5 (by rw [h])
    simp [yb7, ybg, h1, i1, h2, i2, h3, h4', h5', hs]
  have h5' : ((lst a.rows).length : Int) = ((lst b.rows).length : Int) := by omega
  have r := y1ug a b h5 hl.rows _ 0 (Nat.zero_add _)
  simp only [List.drop_zero, Int.ofNat_zero] at r
  have c := y1j1 a b h4 hl.code hl.args _ r _ 0 (Nat.zero_add _)
  simp only [List.drop_zero, Int.ofNat_zero] at c
  have c' : ywk (.lp 0 1 0 0) (.lp 1 1 0 0) (HS2 a b) = _ := c
  simp [yb7, ybg, h1, i1, h2, i2, h3, h4', h5', c']
end Go.Vm
namespace Go.Vm
open Cel
attribute [local simp] y9 y2a yu
theorem y2c1 : ((List.range 60).all fun i => y13s ((both E 30).1.p 66 [.int .i64 (95 + i)]) (numK (95 + i))) = true := by kernel_rfl
theorem y1wy (c : Int) (h1 : 0 ≤ c) (h2 : c < 1000) : (yb E).p 66 [.int .i64 c] = some ⟨.tup [.int .i64 (numK c).1, .int .i64 (numK c).2.1, .int .i64 (numK c).2.2], [], true, [], []⟩ := by
  by_cases h : c < 96 ∨ 148 < c
  · rw [yhl h, y2p0]
    have h2 : ∀ k : Int, 96 ≤ k → k ≤ 148 → ¬ c = k := by omega
    rcases h with h | h
    · have a1 : ¬ 96 ≤ c := by omega
      have a2 : ¬ 120 ≤ c := by omega
      have a3 : ¬ 145 ≤ c := by omega
      simp [y25j, y1xy, y252, y1x2, h2, a1, a2, a3]
      rfl
    · have a1 : 96 ≤ c := by omega
      have a2 : 120 ≤ c := by omega
      have a3 : 145 ≤ c := by omega
      have b1 : ¬ c ≤ 113 := by omega
      have b2 : ¬ c ≤ 131 := by omega
      have b3 : ¬ c ≤ 147 := by omega
      simp [y25j, y1xy, y252, y1x2, h2, a1, a2, a3, b1, b2, b3]
      rfl
  · have := yaf y2c1 (c - 95).toNat (by omega)
    have e : (95 + ((c - 95).toNat : Int)) = c := by omega
    simp only [e] at this
    exact y1uv 30 (yqv this)
end Go.Vm
namespace Go.Vm
open Cel
attribute [local simp] y9 y2a yu
theorem y2cf (op : Int) (o : Option (List Int)) (hl : (lst o).length ≤ 9223372036854775807) (h : Heap) : ∀ (d i : Nat), i + d = (lst o).length →
    yjp (.int .i64 op) (slA o) (.int .i64 i) h = some ⟨.bool (decide (op ∈ (lst o).drop i)), [], true, [], []⟩ := by
  intro d
  induction d with
  | zero =>
    intro i hi
    have e1 : (lst o).drop i = [] := List.drop_eq_nil_of_le (by omega)
    have hn : ¬ ((i : Int) < ((lst o).length : Int)) := by omega
    rw [yn6, e1]
    simp [ylj, ynu, ylk, yno, ymr, yn1, hn]
  | succ d ih =>
    intro i hi
    have hlt : i < (lst o).length := by omega
    have hn : ((i : Int) < ((lst o).length : Int)) := by omega
    have k1 := y3c (o := o) (i := i) (List.getElem?_eq_getElem hlt) .i64
    have hm : op ∈ (lst o).drop i ↔ op = (lst o)[i] ∨ op ∈ (lst o).drop (i + 1) := by rw [List.drop_eq_getElem_cons hlt, List.mem_cons]
    rw [yn6]
    simp only [hm]
    have ih := ih (i + 1) (by omega)
    push_cast at ih
    by_cases he : (lst o)[i] = op
    · simp [ylj, ynu, ylk, yno, ymr, yn1, hn, k1, he]
    · have he' : ¬ op = (lst o)[i] := fun h => he h.symm
      simp [ylj, ynu, ylk, yno, ymr, yn1, hn, k1, he, he', y1p hlt hl, ih]
theorem s_in (op : Int) (o : Option (List Int)) (hl : (lst o).length ≤ 9223372036854775807) : (yb E).p 42 [.int .i64 op, slA o] = some ⟨.bool (decide (op ∈ lst o)), [], true, [], []⟩ := by
  have := y2cf op o hl [] _ 0 (Nat.zero_add _)
  simp only [Int.ofNat_zero, List.drop_zero] at this
  rw [y2hr, ← this]
  simp [ylj, ynu, ylk, yno, ymr, yn1]
theorem y2kt (op a b c : Int) : (yb E).p 42 [.int .i64 op, .rs 1 [[.int .i64 a], [.int .i64 b], [.int .i64 c]]] = some ⟨.bool (decide (op ∈ [a, b, c])), [], true, [], []⟩ :=
  s_in op (some [a, b, c]) (by simp)
theorem y1w3 (g a b c : Nat) (x y z : Int) (t : Heap) : fz (⟨g, .arr false false 1 [[.int .i64 x], [.int .i64 y], [.int .i64 z]]⟩ :: t) y19 (.ls 0 g 1 0 3) = some ⟨.rs 1 [[.int .i64 x], [.int .i64 y], [.int .i64 z]], true, [0]⟩ := by
  rw [y23o, yem]; rfl
@[simp] theorem y2nc (op : Int) : (yb E).p 23 [.int .i64 op] = some ⟨.bool (leads op), [], true, [], []⟩ := by
  rw [y2h8, y1tl]
  simp [y12, y1f, y1w3 1 0 0 0, y2kt, leads, Bool.or_assoc]
@[simp] theorem y2ps (op : Int) : (yb E).p 25 [.int .i64 op] = some ⟨.bool (ends op), [], true, [], []⟩ := by
  rw [y2jb, y1dk]
  simp [y12, y1f, y1w3 1 0 0 0, y2kt, ends, Bool.or_assoc]
end Go.Vm
namespace Go.Vm
open Cel
attribute [local simp] y9 y2a yu
def rowT : List (List UInt8) := [[], [110, 45, 45, 45], [51, 45, 45, 45], [51, 45, 45, 45], [42, 61, 45, 45], [63, 63, 63, 63], [63, 63, 63, 63], [45, 110, 45, 45], [45, 51, 45, 45], [45, 51, 49, 45], [45, 49, 45, 45], [45, 51, 51, 45], [45, 51, 45, 45], [42, 51, 49, 45], [45, 51, 49, 42], [49, 51, 45, 45], [42, 51, 45, 45], [45, 51, 42, 45], [42, 45, 45, 45], [45, 42, 45, 45], [51, 45, 45, 45], [51, 49, 45, 45], [49, 51, 45, 45], [63, 63, 63, 63], [63, 63, 63, 63], [63, 63, 63, 63], [63, 63, 63, 63], [45, 45, 45, 45], [45, 49, 49, 45], [45, 51, 63, 45], [45, 63, 45, 45], [45, 51, 45, 45], [51, 45, 45, 45], [45, 45, 45, 45]]
def rowM (op : Int) : List UInt8 := if op < 1 ∨ 33 < op then [] else rowT.getD op.toNat []
def y1o7 (r : Option (Ex AV)) (s : List UInt8) : Bool :=
  match r with
  | some ⟨.str a, [], true, [], []⟩ => a == s
  | _ => false
theorem y1jj {r : Option (Ex AV)} {s : List UInt8} (h : y1o7 r s = true) : r = some ⟨.str s, [], true, [], []⟩ := by
  unfold y1o7 at h
  split at h
  · rw [eq_of_beq h]
  · cases h
theorem y2ir : ((List.range 33).all fun i => y1o7 ((both E 30).1.p 38 [.int .i64 (1 + i)]) (rowM (1 + i))) = true := by kernel_rfl
set_option maxHeartbeats 2000000 in
theorem y2qh (op : Int) : (yb E).p 38 [.int .i64 op] = some ⟨.str (rowM op), [], true, [], []⟩ := by
  by_cases h : op < 1 ∨ 33 < op
  · rw [rowM, if_pos h, y2ik]
    simp only [y1im, y1e7, y1k6, y1q1]
    generalize hb : y12 0 (some 0) 1 34 _ _ _ = B
    have hB : ∃ v t, B = some (.ls 0 1 1 0 34, ⟨1, .arr false false 1 v⟩ :: t) := by
      rw [← hb]; exact ⟨_, _, rfl⟩
    obtain ⟨v, t, rfl⟩ := hB
    rcases h with h | h
    · simp [h]
    · have h1 : ¬ op < 1 := by omega
      have h2 : 34 ≤ op := by omega
      simp [h1, h2]
  · have := yaf y2ir (op - 1).toNat (by omega)
    have e : (1 + ((op - 1).toNat : Int)) = op := by omega
    simp only [e] at this
    exact y1uv 30 (y1jj this)
end Go.Vm
namespace Go.Vm
open Cel
attribute [local simp] y9 y2a yu
@[simp] theorem yl4 (f : Fn) (r : Int) : (yb E).p 48 [.agg (enc f), .int .i64 r] = some ⟨.int .i64 (regK (lst f.regs) r), [], true, [], []⟩ := by
  rw [y2kd]
  by_cases h0 : r < 0
  · simp [yrq, ysz, ysj, h0, regK]
  by_cases h1 : ((lst f.regs).length : Int) ≤ r
  · have : (lst f.regs)[r.toNat]? = none := List.getElem?_eq_none (by omega)
    simp [yrq, ysz, ysj, h0, h1, regK, this]
  · have hin : inR (lst f.regs) r = true := by
      have a1 : 0 ≤ r := by omega
      have a2 : r < ((lst f.regs).length : Int) := by omega
      simp [inR, a1, a2]
    obtain ⟨a0, a1, a2⟩ := yvd hin
    have k := y120 (o := f.regs) a0 a2 .i64
    simp [yrq, ysz, ysj, h0, h1, k]
def y5k (k : Int) (c : UInt8) : Bool :=
  if c = 45 ∨ c = 63 then true else if c = 42 ∨ c = 61 then decide (0 < k) else if c = 110 then decide (k = 1) || decide (k = 2) else decide (k = (c.toNat : Int) - 48)
theorem y1xf (f : Fn) (r : Int) (c : UInt8) (hc : c = 45 ∨ c = 63 ∨ c = 42 ∨ c = 61 ∨ c = 110 ∨ c = 49 ∨ c = 50 ∨ c = 51) :
    (yb E).p 65 [.agg (enc f), .int .i64 r, .int .u8 c.toNat] = some ⟨.bool (y5k (regK (lst f.regs) r) c), [], true, [], []⟩ := by
  rw [y2k9]
  generalize hk : regK (lst f.regs) r = k
  have hk' := yl4 f r
  rw [hk] at hk'
  rcases hc with rfl | rfl | rfl | rfl | rfl | rfl | rfl | rfl
  · simp [ycp, ybc, ycq, yaq, ycj, yc9, ych, y7c, hk', y5k]
  · simp [ycp, ybc, ycq, yaq, ycj, yc9, ych, y7c, hk', y5k]
  · simp [ycp, ybc, ycq, yaq, ycj, yc9, ych, y7c, hk', y5k]
  · simp [ycp, ybc, ycq, yaq, ycj, yc9, ych, y7c, hk', y5k]
  · by_cases h1 : k = 1 <;> simp [ycp, ybc, ycq, yaq, ycj, yc9, ych, y7c, hk', y5k, h1]
  · simp [ycp, ybc, ycq, yaq, ycj, yc9, ych, y7c, hk', y5k, IntKind.wrap, IntKind.bits, IntKind.signed]
  · simp [ycp, ybc, ycq, yaq, ycj, yc9, ych, y7c, hk', y5k, IntKind.wrap, IntKind.bits, IntKind.signed]
  · simp [ycp, ybc, ycq, yaq, ycj, yc9, ych, y7c, hk', y5k, IntKind.wrap, IntKind.bits, IntKind.signed]
@[simp] theorem y297 (f : Fn) (i : Int) : (yb E).p 49 [.agg (enc f), .int .i64 i] = some ⟨.bool (y52 (lst f.code).length i), [], true, [], []⟩ := by
  rw [y2lz]
  by_cases h0 : 0 ≤ i <;> simp [y1w8, h0, y52]
end Go.Vm
namespace Go.Vm
open Cel
attribute [local simp] y9 y2a yu
def mayB : List UInt8 := [97, 98, 99, 100, 101, 102, 103, 104, 105, 106, 107, 108, 109, 110, 111, 112, 113, 114, 115, 116, 117, 118, 119, 120, 121, 122, 65, 66, 67, 68, 69, 70, 71, 72, 73, 74, 75, 76, 77, 78, 79, 80, 81, 82, 83, 84, 85, 86, 87, 88, 89, 90, 48, 49, 50, 51, 52, 53, 54, 55, 56, 57, 95, 36, 47]
theorem y2lo : ((List.range 256).all fun n => mayB.contains (UInt8.ofNat n) == okB (UInt8.ofNat n)) = true := by kernel_rfl
theorem y2i2 (c : UInt8) : mayB.contains c = okB c := by
  have := yaf y2lo c.toNat c.toNat_lt
  rw [UInt8.ofNat_toNat] at this
  exact eq_of_beq this
@[simp] theorem y2qq : E.pure 53 = true := rfl
theorem y2q0 (s : List UInt8) (c : UInt8) : (yb E).p 53 [.str s, .str [c]] = some ⟨.bool (s.contains c), [], true, [], []⟩ := by
  rw [yf7, y5p, show E.fn 53 = none by kernel_rfl]
  rfl
theorem y1c2 (s : List UInt8) (hs : s.length ≤ 9223372036854775807) (h : Heap) : ∀ (d i : Nat), i + d = s.length →
    yfj (.str s) (.str mayB) (.int .i64 i) h = if (s.drop i).all okB then yjl (.str s) h else some ⟨.bool false, [], true, [], []⟩ := by
  intro d
  induction d with
  | zero =>
    intro i hi
    have e1 : s.drop i = [] := List.drop_eq_nil_of_le (by omega)
    have hc : ¬ ((i : Int) < (s.length : Int)) := by omega
    rw [yo0, e1]
    simp [yq7, hc]
  | succ d ih =>
    intro i hi
    have hlt : i < s.length := by omega
    have hc : ((i : Int) < (s.length : Int)) := by omega
    have ih := ih (i + 1) (by omega)
    push_cast at ih
    have e1 : (s.drop i).all okB = (okB s[i] && (s.drop (i + 1)).all okB) := by rw [List.drop_eq_getElem_cons hlt, List.all_cons]
    have hsl : ydq (.str s) (some (.int .i64 (i : Int))) (some (.int .i64 ((i : Int) + 1))) = some (.str [s[i]]) := by
      have a1 : ((0 : Int) ≤ (i : Int) + 1 ∧ (i : Int) + 1 ≤ (s.length : Int)) := by omega
      have a2 : ((0 : Int) ≤ (i : Int) ∧ (i : Int) ≤ (((i : Int) + 1).toNat : Int)) := by omega
      simp only [ydq, ya2, yil, if_pos a1, if_pos a2]
      have e2 : ((i : Int) + 1).toNat = i + 1 := by omega
      rw [e2, Int.toNat_natCast, List.drop_take, show i + 1 - i = 1 by omega, List.drop_eq_getElem_cons hlt]
      rfl
    have hm := y2q0 mayB s[i]
    rw [y2i2] at hm
    rw [yo0, e1]
    simp only [yq7, ydr, y7, yq, hc, decide_true, y1k]
    cases hb : okB s[i] with
    | true =>
      rw [hb] at hm
      simp [yro, y1p hlt hs, hsl, hm, y13n, ih]
    | false =>
      rw [hb] at hm
      simp [yro, y1p hlt hs, hsl, hm]
@[simp] theorem y2c3 (s : List UInt8) (hs : s.length ≤ 9223372036854775807) : (yb E).p 69 [.str s, .bool false] = some ⟨.bool (y84 s), [], true, [], []⟩ := by
  have h0 := y1c2 s hs [] _ 0 (Nat.zero_add _)
  simp only [Int.ofNat_zero, List.drop_zero] at h0
  rw [y2ht]
  have e : yot (.str s) (.bool false) [] = yfj (.str s) (.str mayB) (.int .i64 0) [] := by simp [yjl, y13n, yro, yq7, yyo, y1gn, yvx, yot]; rfl
  rw [e, h0, y84]
  cases hal : s.all okB with
  | false => simp
  | true =>
    by_cases h1 : s = []
    · subst h1; simp [yjl]
    · have h2 : 1 ≤ s.length := by have := List.length_pos_iff.2 h1; omega
      by_cases h3 : s.length ≤ 60
      · have : ((s.length : Int) ≤ 60) := by omega
        simp [yjl, h1, h2, h3, this]
      · have : ¬ ((s.length : Int) ≤ 60) := by omega
        simp [yjl, h1, h2, h3, this]
def yhi (s : List UInt8) : Bool :=
  decide (lead s ≤ 8) && (decide (s.drop (lead s) = [73]) || decide (s.drop (lead s) = [74]) ||
    (decide (2 < (s.drop (lead s)).length) && decide ((s.drop (lead s))[0]? = some 76) && decide ((s.drop (lead s))[(s.drop (lead s)).length - 1]? = some 59) && y84 (((s.drop (lead s)).take ((s.drop (lead s)).length - 1)).drop 1)))
theorem y19z (s : List UInt8) (hs : s.length ≤ 9223372036854775807) (h : Heap) : ∀ (d i : Nat), i + d = lead s → yez (.str s) (.int .i64 i) h = ylq (.str s) (.int .i64 (lead s)) h := by
  intro d
  induction d with
  | zero =>
    intro i hi
    obtain rfl : i = lead s := by omega
    rw [ylx]
    have := yb8 s
    by_cases hc : lead s < s.length
    · have e := List.getElem?_eq_getElem hc
      have hne := yvk e
      have hc' : ((lead s : Int) < (s.length : Int)) := by omega
      have hb : ¬ ((s[lead s].toNat : Int) = 91) := fun hh => hne ((y5w _ 91).1 hh)
      simp [yli, hc', ixstr e, hb]
    · have hc' : ¬ ((lead s : Int) < (s.length : Int)) := by omega
      simp [yli, hc']
  | succ d ih =>
    intro i hi
    have e := yv7 (s := s) (i := i) (by omega)
    have := yb8 s
    have hc' : ((i : Int) < (s.length : Int)) := by omega
    have ih := ih (i + 1) (by omega)
    push_cast at ih
    rw [ylx]
    simp [yli, hc', ixstr e, y13e, y1p (show i < s.length by omega) hs, ih]
theorem y201 (s : List UInt8) (hs : s.length ≤ 9223372036854775807) : (yb E).p 67 [.str s] = some ⟨.bool (yhi s), [], true, [], []⟩ := by
  have h0 := y19z s hs [] _ 0 (Nat.zero_add _)
  simp only [Int.ofNat_zero] at h0
  rw [y2hz]
  have e : yph (.str s) [] = yez (.str s) (.int .i64 0) [] := by simp [yj0, ydj, ytt, ylq, y13e, yli, yvc, yph]
  rw [e, h0, yhi]
  have hle := yb8 s
  have hsl : ydq (.str s) (some (.int .i64 (lead s))) none = some (.str (s.drop (lead s))) := by
    have a2 : ((0 : Int) ≤ (lead s : Int) ∧ (lead s : Int) ≤ (s.length : Int)) := by omega
    simp only [ydq, ya2, yil, if_pos a2]
    simp
  by_cases h8 : 8 < lead s
  · have h8' : ((8 : Int) < (lead s : Int)) := by omega
    have : ¬ lead s ≤ 8 := by omega
    simp [ylq, hsl, ytt, h8', this]
  · have h8' : ¬ ((8 : Int) < (lead s : Int)) := by omega
    have h8n : lead s ≤ 8 := by omega
    have hrl : (s.drop (lead s)).length ≤ 9223372036854775807 := by rw [List.length_drop]; omega
    simp only [ylq, hsl, y7, ytt, y44, h8', decide_false, y25, h8n, decide_true, Bool.true_and]
    generalize s.drop (lead s) = r at *
    by_cases c1 : r = [73]
    · simp [ydj, c1]
    by_cases c2 : r = [74]
    · simp [ydj, c2]
    by_cases c3 : 2 < r.length
    · have c3' : ((2 : Int) < (r.length : Int)) := by omega
      have k0 := List.getElem?_eq_getElem (l := r) (i := 0) (by omega)
      have k1 := List.getElem?_eq_getElem (l := r) (i := r.length - 1) (by omega)
      have i0 := ixstr k0
      have i1 := ixstr k1
      simp only [Int.ofNat_zero] at i0
      have hw : IntKind.wrap .i64 ((r.length : Int) - 1) = ((r.length - 1 : Nat) : Int) := by rw [y33] <;> omega
      have hs2 : ydq (.str r) (some (.int .i64 1)) (some (.int .i64 ((r.length - 1 : Nat) : Int))) = some (.str ((r.take (r.length - 1)).drop 1)) := by
        have a1 : ((0 : Int) ≤ ((r.length - 1 : Nat) : Int) ∧ ((r.length - 1 : Nat) : Int) ≤ (r.length : Int)) := by omega
        have a2 : ((0 : Int) ≤ (1 : Int) ∧ (1 : Int) ≤ (((r.length - 1 : Nat) : Int).toNat : Int)) := by omega
        simp only [ydq, ya2, yil, if_pos a1, if_pos a2]
        rfl
      have hn := y2c3 ((r.take (r.length - 1)).drop 1) (by rw [List.length_drop, List.length_take]; omega)
      rw [k0, k1]
      generalize r[0] = b0 at *
      generalize r[r.length - 1] = b1 at *
      generalize y84 ((r.take (r.length - 1)).drop 1) = N at *
      have hn' := hn
      simp only [List.drop_one] at hn'
      by_cases d0 : b0 = 76
      · by_cases d1 : b1 = 59
        · simp [ydj, yj0, c1, c2, c3, c3', i0, i1, hw, hs2, hn', d0, d1]
        · have d1' : ¬ ((b1.toNat : Int) = 59) := fun hh => d1 ((y5w _ 59).1 hh)
          simp [ydj, yj0, c1, c2, c3, c3', i0, i1, hw, d0, d1, d1']
      · have d0' : ¬ ((b0.toNat : Int) = 76) := fun hh => d0 ((y5w _ 76).1 hh)
        simp [ydj, yj0, c1, c2, c3, c3', i0, d0, d0']
    · have c3' : ¬ ((2 : Int) < (r.length : Int)) := by omega
      simp [ydj, yj0, c1, c2, c3, c3']
theorem yut {l : List UInt8} (h : y84 l = true) : 59 ∉ l ∧ 1 ≤ l.length := by
  simp only [y84, Bool.and_eq_true, decide_eq_true_eq, List.all_eq_true] at h
  refine ⟨fun hm => ?_, h.1.1⟩
  have := h.2 59 hm
  exact absurd this (by decide)
theorem y1pq (s : List UInt8) : yhi s = y83 s := by
  rw [Bool.eq_iff_iff]
  simp only [yhi, y83, Bool.and_eq_true, Bool.or_eq_true, decide_eq_true_eq]
  have hle := yb8 s
  have hdl : (s.drop (lead s)).length = s.length - lead s := List.length_drop
  by_cases hne : s = []
  · subst hne; simp [lead, yqu]
  have hpos : 0 < s.length := List.length_pos_iff.2 hne
  simp only [hne, not_false_eq_true, true_and, ne_eq]
  unfold yqu
  by_cases h8 : 8 < lead s
  · rw [if_pos (.inl h8)]
    constructor
    · rintro ⟨h, _⟩; omega
    · intro h; omega
  by_cases hl : lead s = s.length
  · rw [if_pos (.inr hl)]
    have : s.drop (lead s) = [] := List.drop_eq_nil_of_le (by omega)
    rw [this]
    constructor
    · rintro ⟨_, h⟩; simp at h
    · intro h; omega
  rw [if_neg (by omega)]
  have hlt : lead s < s.length := by omega
  have hd : s.drop (lead s) = s[lead s] :: s.drop (lead s + 1) := List.drop_eq_getElem_cons hlt
  have h8n : lead s ≤ 8 := by omega
  rw [List.getElem?_eq_getElem hlt]
  have hrl : (s.drop (lead s + 1)).length = s.length - (lead s + 1) := List.length_drop
  have htk : ∀ j, (s.take (lead s + 1 + j)).drop (lead s + 1) = (s.drop (lead s + 1)).take j := by
    intro j; rw [List.drop_take]; congr 1; omega
  simp only [htk]
  rw [hd]
  generalize s[lead s] = c at *
  generalize hr : s.drop (lead s + 1) = r at *
  simp only [h8n, true_and, Option.some.injEq, List.cons.injEq, List.length_cons, List.getElem?_cons_zero, Nat.add_sub_cancel]
  by_cases c1 : c = 73
  · subst c1
    simp only [true_or, if_true, true_and]
    have e1 : (s.length = lead s + 1) ↔ r = [] := by rw [← List.length_eq_zero_iff, hrl]; omega
    constructor
    · rintro (h | h)
      · rcases h with h | h
        · exact (e1.2 h).symm
        · exact absurd h.1 (by decide)
      · exact absurd h.1.1.2 (by decide)
    · intro h; exact .inl (.inl (e1.1 h.symm))
  by_cases c2 : c = 74
  · subst c2
    simp only [or_true, if_true, true_and]
    have e1 : (s.length = lead s + 1) ↔ r = [] := by rw [← List.length_eq_zero_iff, hrl]; omega
    constructor
    · rintro (h | h)
      · rcases h with h | h
        · exact absurd h.1 (by decide)
        · exact (e1.2 h).symm
      · exact absurd h.1.1.2 (by decide)
    · intro h; exact .inl (.inr (e1.1 h.symm))
  simp only [c1, c2, or_self, if_false, false_and, false_or]
  by_cases c3 : c = 76
  · subst c3
    simp only [if_true, true_and, and_true]
    have idx : ∀ j, j < r.length → r[j]? = some 59 → 59 ∉ r.take j → r.findIdx (· == 59) = j := by
      intro j hj h1 h2
      rw [List.getElem?_eq_getElem hj] at h1
      rw [List.findIdx_eq hj]
      refine ⟨by simpa using h1, fun k hk => ?_⟩
      have : r[k]'(by omega) ∈ r.take j := List.mem_take_iff_getElem.2 ⟨k, by omega, rfl⟩
      simp only [beq_eq_false_iff_ne, ne_eq]
      intro he
      rw [he] at this
      exact h2 this
    constructor
    · rintro ⟨⟨h1, h2⟩, h3⟩
      have e0 : (76 :: r : List UInt8)[r.length]? = r[r.length - 1]? := by
        rw [show r.length = (r.length - 1) + 1 by omega]; simp
      rw [e0] at h2
      have e1 : ((76 :: r : List UInt8).take r.length).drop 1 = r.take (r.length - 1) := by
        rw [show r.length = (r.length - 1) + 1 by omega]; simp
      rw [e1] at h3
      have := idx (r.length - 1) (by omega) h2 (yut h3).1
      rw [this, if_pos ⟨by omega, h3⟩]
      omega
    · intro h
      split at h
      · rename_i hc
        have hj : r.findIdx (· == 59) = r.length - 1 := by omega
        have hn := yut hc.2
        have hlen := hn.2
        rw [List.length_take, hj] at hlen
        have h59 : r[r.length - 1]? = some 59 := by
          have := List.findIdx_getElem (w := hc.1)
          rw [List.getElem?_eq_getElem (by omega)]
          simp only [hj] at this
          simpa using this
        rw [hj] at hc
        refine ⟨⟨by omega, ?_⟩, ?_⟩
        · rw [show r.length = (r.length - 1) + 1 by omega]; simpa using h59
        · have e1 : ((76 :: r : List UInt8).take r.length).drop 1 = r.take (r.length - 1) := by
            rw [show r.length = (r.length - 1) + 1 by omega]; simp
          rw [e1]; exact hc.2
      · omega
  · simp only [c3, if_false, and_false, false_and]
    constructor
    · intro h; exact h.elim
    · intro h; omega
theorem y2a4 (s : List UInt8) (hs : s.length ≤ 9223372036854775807) : (yb E).p 67 [.str s] = some ⟨.bool (y83 s), [], true, [], []⟩ := by
  rw [y201 s hs, y1pq]
end Go.Vm
namespace Go.Vm
open Cel
attribute [local simp] y9 y2a yu y4l
abbrev H2 (f : Fn) (x : Ins) : Heap := [⟨1, .arr true false 5 [enc f]⟩, ⟨1, .arr true false 9 [enc x]⟩]
abbrev H3 (f : Fn) (x : Ins) : Heap := [⟨1, .arr true false 5 [enc f]⟩, ⟨1, .arr true false 9 [enc x]⟩, ⟨1, .arr false false 1 [[.int .i64 x.d], [.int .i64 x.a], [.int .i64 x.b], [.int .i64 x.c]]⟩]
abbrev Q0 : AV := .lp 0 1 0 0
abbrev Q1 : AV := .lp 1 1 0 0
def ygy (R : List Int) (x : Ins) : Bool :=
  (!decide (x.op = 24) && !decide (x.op = 25)) || (match lst x.args with
    | [] => false
    | r :: _ => decide (regK R r = 3))
def yp0 (R : List Int) (x : Ins) : Bool :=
  !((decide (x.n < 0) && !decide (x.op = 25)) || decide (21 < (lst x.args).length) || (!decide (x.d = -1) && decide (regK R x.d = 0))) && ((lst x.args).all (fun r => !decide (regK R r = 0)) && ygy R x)
theorem y1ut (f : Fn) (x : Ins) : y5h Q0 Q1 (H2 f x) = some ⟨.bool (ygy (lst f.regs) x), [], true, [], []⟩ := by
  by_cases o1 : x.op = 24
  · cases ha : lst x.args with
    | nil => simp [y5h, o1, ygy, ha, yg]
    | cons r t =>
      have k1 := y3c (o := x.args) (i := 0) (x := r) (by rw [ha]; rfl) .i64
      simp only [Int.ofNat_zero] at k1
      simp [y5h, o1, ygy, ha, k1, yg]
  · by_cases o2 : x.op = 25
    · cases ha : lst x.args with
      | nil => simp [y5h, o2, ygy, ha, yg]
      | cons r t =>
        have k1 := y3c (o := x.args) (i := 0) (x := r) (by rw [ha]; rfl) .i64
        simp only [Int.ofNat_zero] at k1
        simp [y5h, o2, ygy, ha, k1, yg]
    · simp [y5h, o1, o2, ygy, yg]
theorem y1k9 (f : Fn) (x : Ins) (hl : (lst x.args).length ≤ 9223372036854775807) : ∀ (d i : Nat), i + d = (lst x.args).length →
    yk6 Q0 Q1 (.int .i64 i) (H2 f x) = some ⟨.bool (((lst x.args).drop i).all (fun r => !decide (regK (lst f.regs) r = 0)) && ygy (lst f.regs) x), [], true, [], []⟩ := by
  intro d
  induction d with
  | zero =>
    intro i hi
    have e1 : (lst x.args).drop i = [] := List.drop_eq_nil_of_le (by omega)
    have hn : ¬ ((i : Int) < ((lst x.args).length : Int)) := by omega
    rw [ynz, e1]
    simp [y6y, hn, y1ut]
  | succ d ih =>
    intro i hi
    have hlt : i < (lst x.args).length := by omega
    have hn : ((i : Int) < ((lst x.args).length : Int)) := by omega
    have k1 := y3c (o := x.args) (i := i) (List.getElem?_eq_getElem hlt) .i64
    have e1 : ((lst x.args).drop i).all (fun r => !decide (regK (lst f.regs) r = 0)) = ((!decide (regK (lst f.regs) (lst x.args)[i] = 0)) && ((lst x.args).drop (i + 1)).all (fun r => !decide (regK (lst f.regs) r = 0))) := by
      rw [List.drop_eq_getElem_cons hlt, List.all_cons]
    have ih := ih (i + 1) (by omega)
    push_cast at ih
    rw [ynz, e1]
    generalize (lst x.args)[i] = r at *
    have hs := yl4 f r
    by_cases hz : regK (lst f.regs) r = 0
    · rw [hz] at hs
      simp [y6y, hn, y7s, k1, hs, hz, yg]
    · generalize regK (lst f.regs) r = k at *
      simp [y6y, hn, y7s, k1, hs, hz, yg, y9b, y1p hlt hl]
      exact ih
theorem y2iq (f : Fn) (x : Ins) (hl : (lst x.args).length ≤ 9223372036854775807) : (yb E).p 68 [.agg (enc f), .agg (enc x)] = some ⟨.bool (yp0 (lst f.regs) x), [], true, [], []⟩ := by
  rw [y2j0]
  have h0 := y1k9 f x hl _ 0 (Nat.zero_add _)
  simp only [Int.ofNat_zero, List.drop_zero] at h0
  have hs := yl4 f x.d
  have e21 : ((21 : Int) < ((lst x.args).length : Int)) ↔ 21 < (lst x.args).length := by omega
  unfold yp0
  generalize ((lst x.args).all (fun r => !decide (regK (lst f.regs) r = 0)) && ygy (lst f.regs) x) = T at *
  generalize regK (lst f.regs) x.d = kd at *
  by_cases h21 : 21 < (lst x.args).length
  · have h21' := e21.2 h21
    by_cases hn : x.n < 0
    · by_cases o5 : x.op = 25 <;> simp [y5h, y9b, y7s, y6y, yaj, yb2, y6l, hn, o5, h21, h21', yg, yt, meets]
    · simp [y5h, y9b, y7s, y6y, yaj, yb2, y6l, hn, h21, h21', yg, yt, meets]
  · have h21' : ¬ ((21 : Int) < ((lst x.args).length : Int)) := by omega
    by_cases hn : x.n < 0
    · by_cases o5 : x.op = 25
      · by_cases hd : x.d = -1
        · simp [y5h, y9b, y7s, y6y, yaj, yb2, y6l, hn, o5, h21, h21', hd, h0, yg, yt, meets]
        · by_cases hk : kd = 0
          · simp [y5h, y9b, y7s, y6y, yaj, yb2, y6l, hn, o5, h21, h21', hd, hs, hk, h0, yg, yt, meets]
          · simp [y5h, y9b, y7s, y6y, yaj, yb2, y6l, hn, o5, h21, h21', hd, hs, hk, h0, yg, yt, meets]
      · simp [y5h, y9b, y7s, y6y, yaj, yb2, y6l, hn, o5, h21, h21', yg, yt, meets]
    · by_cases hd : x.d = -1
      · simp [y5h, y9b, y7s, y6y, yaj, yb2, y6l, hn, h21, h21', hd, h0, yg, yt, meets]
      · by_cases hk : kd = 0
        · simp [y5h, y9b, y7s, y6y, yaj, yb2, y6l, hn, h21, h21', hd, hs, hk, h0, yg, yt, meets]
        · simp [y5h, y9b, y7s, y6y, yaj, yb2, y6l, hn, h21, h21', hd, hs, hk, h0, yg, yt, meets]
end Go.Vm
namespace Go.Vm
open Cel
attribute [local simp] y9 y2a yu y4l
def y68 (f : Fn) (x : Ins) : Bool :=
  match x.op with
  | 1 => decide (regK (lst f.regs) x.d = 2) || (decide (-2147483648 ≤ x.n) && decide (x.n < 2147483648))
  | 4 => decide (regK (lst f.regs) x.d = regK (lst f.regs) x.a)
  | 5 => decide (0 < (numK x.n).2.1) && decide (regK (lst f.regs) x.d = (numK x.n).2.2) && decide (regK (lst f.regs) x.a = (numK x.n).1) && decide (regK (lst f.regs) x.b = (numK x.n).2.1)
  | 6 => decide (0 < (numK x.n).1) && decide ((numK x.n).2.1 = 0) && decide (regK (lst f.regs) x.d = (numK x.n).2.2) && decide (regK (lst f.regs) x.a = (numK x.n).1)
  | 12 => y83 x.s
  | 21 => y83 x.s
  | 22 => y83 x.s
  | 16 => decide (0 ≤ x.n)
  | 17 => decide (0 ≤ x.n)
  | 23 => yp0 (lst f.regs) x
  | 24 => yp0 (lst f.regs) x
  | 25 => yp0 (lst f.regs) x
  | 26 => yp0 (lst f.regs) x
  | 27 => y52 (lst f.code).length x.t
  | 28 => decide (0 ≤ x.n) && decide (x.n ≤ 5) && y52 (lst f.code).length x.t
  | 29 => (decide (x.n = 0) || decide (x.n = 1)) && (decide (x.b = -1) || decide (regK (lst f.regs) x.b = 3)) && y52 (lst f.code).length x.t
  | 30 => if f.ret = 0 then decide (x.a = -1) else !decide (x.a = -1) && decide (regK (lst f.regs) x.a = f.ret)
  | _ => true
def oneM (f : Fn) (x : Ins) : Bool :=
  decide (1 ≤ x.op) && decide (x.op ≤ 33) && (y5k (regK (lst f.regs) x.d) ((rowM x.op).getD 0 0) && (y5k (regK (lst f.regs) x.a) ((rowM x.op).getD 1 0) && (y5k (regK (lst f.regs) x.b) ((rowM x.op).getD 2 0) && (y5k (regK (lst f.regs) x.c) ((rowM x.op).getD 3 0) && y68 f x))))
set_option maxHeartbeats 8000000 in
theorem y2ln (f : Fn) (x : Ins) (hs : x.s.length ≤ 9223372036854775807) (hl : (lst x.args).length ≤ 9223372036854775807) (v55 : AV) (hv : v55 = .int .i64 x.op) :
    y1g Q0 Q1 (.int .i64 (numK x.n).1) (.int .i64 (numK x.n).2.1) (.int .i64 (numK x.n).2.2) v55 (H3 f x) = some ⟨.bool (y68 f x), [], true, [], []⟩ := by
  subst hv
  have hkd := yl4 f x.d
  have hka := yl4 f x.a
  have hkb := yl4 f x.b
  have hty := y2a4 x.s hs
  have hcl := y2iq f x hl
  have hpl := y297 f x.t
  unfold y68
  generalize regK (lst f.regs) x.d = kd at *
  generalize regK (lst f.regs) x.a = ka at *
  generalize regK (lst f.regs) x.b = kb at *
  generalize y83 x.s = ty at *
  generalize yp0 (lst f.regs) x = cl at *
  generalize y52 (lst f.code).length x.t = pl at *
  generalize numK x.n = k at *
  obtain ⟨a, b, d⟩ := k
  simp only
  by_cases o1 : x.op = 1
  · by_cases h2 : kd = 2
    · simp [o1, y1g, y1j, hkd, h2, yg, yt, meets]
    · by_cases h3 : -2147483648 ≤ x.n <;> simp [o1, y1g, y1j, hkd, h2, h3, yg, yt, meets]
  by_cases o4 : x.op = 4
  · simp [o4, y1g, y1j, y1n, y1o, hkd, hka, yg, yt, meets]
  by_cases o5 : x.op = 5
  · by_cases h1 : 0 < b
    · by_cases h2 : kd = d
      · by_cases h3 : ka = a
        · simp [o5, h1, h2, h3, hkd, hka, hkb, y1g, y1j, y1n, y1o, y1t, y1z, y1y, y20, y21, y1l, y1u, y1q, y1s, y1i, y1w, y1v, y2r, y2t, y2w, y2x, y2s, y2q, y2u, y2v, y2y, yg, yt, meets]
        · simp [o5, h1, h2, h3, hkd, hka, hkb, y1g, y1j, y1n, y1o, y1t, y1z, y1y, y20, y21, y1l, y1u, y1q, y1s, y1i, y1w, y1v, y2r, y2t, y2w, y2x, y2s, y2q, y2u, y2v, y2y, yg, yt, meets]
      · simp [o5, h1, h2, hkd, hka, hkb, y1g, y1j, y1n, y1o, y1t, y1z, y1y, y20, y21, y1l, y1u, y1q, y1s, y1i, y1w, y1v, y2r, y2t, y2w, y2x, y2s, y2q, y2u, y2v, y2y, yg, yt, meets]
    · simp [o5, h1, y1g, y1j, y1n, y1o, y1t, y1z, y1y, y20, y21, y1l, y1u, y1q, y1s, y1i, y1w, y1v, y2r, y2t, y2w, y2x, y2s, y2q, y2u, y2v, y2y, yg, yt, meets]
  by_cases o6 : x.op = 6
  · by_cases h1 : 0 < a
    · by_cases h2 : b = 0
      · by_cases h3 : kd = d
        · simp [o6, h1, h2, h3, hkd, hka, y1g, y1j, y1n, y1o, y1t, y1z, y1y, y20, y21, y1l, y1u, y1q, y1s, y1i, y1w, y1v, y2r, y2t, y2w, y2x, y2s, y2q, y2u, y2v, y2y, yg, yt, meets]
        · simp [o6, h1, h2, h3, hkd, hka, y1g, y1j, y1n, y1o, y1t, y1z, y1y, y20, y21, y1l, y1u, y1q, y1s, y1i, y1w, y1v, y2r, y2t, y2w, y2x, y2s, y2q, y2u, y2v, y2y, yg, yt, meets]
      · simp [o6, h1, h2, y1g, y1j, y1n, y1o, y1t, y1z, y1y, y20, y21, y1l, y1u, y1q, y1s, y1i, y1w, y1v, y2r, y2t, y2w, y2x, y2s, y2q, y2u, y2v, y2y, yg, yt, meets]
    · simp [o6, h1, y1g, y1j, y1n, y1o, y1t, y1z, y1y, y20, y21, y1l, y1u, y1q, y1s, y1i, y1w, y1v, y2r, y2t, y2w, y2x, y2s, y2q, y2u, y2v, y2y, yg, yt, meets]
  by_cases o12 : x.op = 12
  · simp [o12, hty, y1g, y1j, y1n, y1o, y1t, y1z, y1y, y20, y21, y1l, y1u, y1q, y1s, y1i, y1w, y1v, y2r, y2t, y2w, y2x, y2s, y2q, y2u, y2v, y2y, yg, yt, meets]
  by_cases o21 : x.op = 21
  · simp [o21, hty, y1g, y1j, y1n, y1o, y1t, y1z, y1y, y20, y21, y1l, y1u, y1q, y1s, y1i, y1w, y1v, y2r, y2t, y2w, y2x, y2s, y2q, y2u, y2v, y2y, yg, yt, meets]
  by_cases o22 : x.op = 22
  · simp [o22, hty, y1g, y1j, y1n, y1o, y1t, y1z, y1y, y20, y21, y1l, y1u, y1q, y1s, y1i, y1w, y1v, y2r, y2t, y2w, y2x, y2s, y2q, y2u, y2v, y2y, yg, yt, meets]
  by_cases o16 : x.op = 16
  · simp [o16, y1g, y1j, y1n, y1o, y1t, y1z, y1y, y20, y21, y1l, y1u, y1q, y1s, y1i, y1w, y1v, y2r, y2t, y2w, y2x, y2s, y2q, y2u, y2v, y2y, yg, yt, meets]
  by_cases o17 : x.op = 17
  · simp [o17, y1g, y1j, y1n, y1o, y1t, y1z, y1y, y20, y21, y1l, y1u, y1q, y1s, y1i, y1w, y1v, y2r, y2t, y2w, y2x, y2s, y2q, y2u, y2v, y2y, yg, yt, meets]
  by_cases o23 : x.op = 23
  · simp [o23, hcl, y1g, y1j, y1n, y1o, y1t, y1z, y1y, y20, y21, y1l, y1u, y1q, y1s, y1i, y1w, y1v, y2r, y2t, y2w, y2x, y2s, y2q, y2u, y2v, y2y, yg, yt, meets]
  by_cases o24 : x.op = 24
  · simp [o24, hcl, y1g, y1j, y1n, y1o, y1t, y1z, y1y, y20, y21, y1l, y1u, y1q, y1s, y1i, y1w, y1v, y2r, y2t, y2w, y2x, y2s, y2q, y2u, y2v, y2y, yg, yt, meets]
  by_cases o25 : x.op = 25
  · simp [o25, hcl, y1g, y1j, y1n, y1o, y1t, y1z, y1y, y20, y21, y1l, y1u, y1q, y1s, y1i, y1w, y1v, y2r, y2t, y2w, y2x, y2s, y2q, y2u, y2v, y2y, yg, yt, meets]
  by_cases o26 : x.op = 26
  · simp [o26, hcl, y1g, y1j, y1n, y1o, y1t, y1z, y1y, y20, y21, y1l, y1u, y1q, y1s, y1i, y1w, y1v, y2r, y2t, y2w, y2x, y2s, y2q, y2u, y2v, y2y, yg, yt, meets]
  by_cases o28 : x.op = 28
  · by_cases h1 : 0 ≤ x.n
    · by_cases h2 : x.n ≤ 5 <;> simp [o28, h1, h2, hpl, y1g, y1j, y1n, y1o, y1t, y1z, y1y, y20, y21, y1l, y1u, y1q, y1s, y1i, y1w, y1v, y2r, y2t, y2w, y2x, y2s, y2q, y2u, y2v, y2y, yg, yt, meets]
    · simp [o28, h1, y1g, y1j, y1n, y1o, y1t, y1z, y1y, y20, y21, y1l, y1u, y1q, y1s, y1i, y1w, y1v, y2r, y2t, y2w, y2x, y2s, y2q, y2u, y2v, y2y, yg, yt, meets]
  by_cases o27 : x.op = 27
  · simp [o27, hpl, y1g, y1j, y1n, y1o, y1t, y1z, y1y, y20, y21, y1l, y1u, y1q, y1s, y1i, y1w, y1v, y2r, y2t, y2w, y2x, y2s, y2q, y2u, y2v, y2y, yg, yt, meets]
  by_cases o29 : x.op = 29
  · by_cases h1 : x.n = 0
    · by_cases h2 : x.b = -1
      · simp [o29, h1, h2, hpl, y1g, y1j, y1n, y1o, y1t, y1z, y1y, y20, y21, y1l, y1u, y1q, y1s, y1i, y1w, y1v, y2r, y2t, y2w, y2x, y2s, y2q, y2u, y2v, y2y, yg, yt, meets]
      · by_cases h3 : kb = 3 <;> simp [o29, h1, h2, h3, hpl, hkb, y1g, y1j, y1n, y1o, y1t, y1z, y1y, y20, y21, y1l, y1u, y1q, y1s, y1i, y1w, y1v, y2r, y2t, y2w, y2x, y2s, y2q, y2u, y2v, y2y, yg, yt, meets]
    · by_cases h1' : x.n = 1
      · by_cases h2 : x.b = -1
        · simp [o29, h1', h2, hpl, y1g, y1j, y1n, y1o, y1t, y1z, y1y, y20, y21, y1l, y1u, y1q, y1s, y1i, y1w, y1v, y2r, y2t, y2w, y2x, y2s, y2q, y2u, y2v, y2y, yg, yt, meets]
        · by_cases h3 : kb = 3 <;> simp [o29, h1', h2, h3, hpl, hkb, y1g, y1j, y1n, y1o, y1t, y1z, y1y, y20, y21, y1l, y1u, y1q, y1s, y1i, y1w, y1v, y2r, y2t, y2w, y2x, y2s, y2q, y2u, y2v, y2y, yg, yt, meets]
      · simp [o29, h1, h1', y1g, y1j, y1n, y1o, y1t, y1z, y1y, y20, y21, y1l, y1u, y1q, y1s, y1i, y1w, y1v, y2r, y2t, y2w, y2x, y2s, y2q, y2u, y2v, y2y, yg, yt, meets]
  by_cases o30 : x.op = 30
  · by_cases h1 : f.ret = 0
    · simp [o30, h1, y1g, y1j, y1n, y1o, y1t, y1z, y1y, y20, y21, y1l, y1u, y1q, y1s, y1i, y1w, y1v, y2r, y2t, y2w, y2x, y2s, y2q, y2u, y2v, y2y, yg, yt, meets]
    · by_cases h2 : x.a = -1 <;> simp [o30, h1, h2, hka, y1g, y1j, y1n, y1o, y1t, y1z, y1y, y20, y21, y1l, y1u, y1q, y1s, y1i, y1w, y1v, y2r, y2t, y2w, y2x, y2s, y2q, y2u, y2v, y2y, yg, yt, meets]
  · have e : (match x.op with
      | 1 => decide (kd = 2) || (decide (-2147483648 ≤ x.n) && decide (x.n < 2147483648))
      | 4 => decide (kd = ka)
      | 5 => decide (0 < b) && decide (kd = d) && decide (ka = a) && decide (kb = b)
      | 6 => decide (0 < a) && decide (b = 0) && decide (kd = d) && decide (ka = a)
      | 12 => ty
      | 21 => ty
      | 22 => ty
      | 16 => decide (0 ≤ x.n)
      | 17 => decide (0 ≤ x.n)
      | 23 => cl
      | 24 => cl
      | 25 => cl
      | 26 => cl
      | 27 => pl
      | 28 => decide (0 ≤ x.n) && decide (x.n ≤ 5) && pl
      | 29 => (decide (x.n = 0) || decide (x.n = 1)) && (decide (x.b = -1) || decide (kb = 3)) && pl
      | 30 => if f.ret = 0 then decide (x.a = -1) else !decide (x.a = -1) && decide (ka = f.ret)
      | _ => true) = true := by
      split <;> first | rfl | contradiction
    rw [show _ = true from e]
    simp [o1, o4, o5, o6, o12, o21, o22, o16, o17, o23, o24, o25, o26, o27, o28, o29, o30, y1g, y1j, y1n, y1o, y1t, y1z, y1y, y20, y21, y1l, y1u, y1q, y1s, y1i, y1w, y1v, y2r, y2t, y2w, y2x, y2s, y2q, y2u, y2v, y2y, yg, yt, meets]
end Go.Vm
namespace Go.Vm
open Cel
attribute [local simp] y9 y2a yu y4l
def y1fn (c : UInt8) : Bool := decide (c = 45) || decide (c = 63) || decide (c = 42) || decide (c = 61) || decide (c = 110) || decide (c = 49) || decide (c = 50) || decide (c = 51)
theorem y20l {c : UInt8} (h : y1fn c = true) : c = 45 ∨ c = 63 ∨ c = 42 ∨ c = 61 ∨ c = 110 ∨ c = 49 ∨ c = 50 ∨ c = 51 := by
  simp only [y1fn, Bool.or_eq_true, decide_eq_true_eq] at h
  simp only [or_assoc] at h
  exact h
@[simp] theorem y2nk (h : Heap) (a b c : Int) : fz h y19 (.tup [.int .i64 a, .int .i64 b, .int .i64 c]) = some ⟨.tup [.int .i64 a, .int .i64 b, .int .i64 c], true, []⟩ := rfl
theorem y1gr : ((List.range 33).all fun i => decide ((rowM (1 + i)).length = 4) && (rowM (1 + i)).all y1fn) = true := by kernel_rfl
theorem y2iy {op : Int} (h1 : 1 ≤ op) (h2 : op ≤ 33) : (rowM op).length = 4 ∧ (rowM op).all y1fn = true := by
  have := yaf y1gr (op - 1).toNat (by omega)
  have e : (1 + ((op - 1).toNat : Int)) = op := by omega
  simp only [e, Bool.and_eq_true, decide_eq_true_eq] at this
  exact this
theorem yel (f : Fn) (x : Ins) (w : List UInt8) (i : Nat) (r : Int) (c : UInt8) (hi : i < 4) (hw : w[i]? = some c) (hc : y1fn c = true) (hr : [x.d, x.a, x.b, x.c][i]? = some r) :
    y5e Q0 Q1 (.str w) (.ls 2 1 1 0 4) (.int .i64 i) (H3 f x) = if y5k (regK (lst f.regs) r) c then y5e Q0 Q1 (.str w) (.ls 2 1 1 0 4) (.int .i64 (i + 1 : Nat)) (H3 f x) else some ⟨.bool false, [], true, [], []⟩ := by
  have hn : ((i : Int) < (4 : Int)) := by omega
  have hw2 : IntKind.wrap .i64 ((i : Int) + 1) = ((i + 1 : Nat) : Int) := by rw [y33] <;> omega
  have hs := y1xf f r c (y20l hc)
  have k1 : yw 1 (.ls 2 1 1 0 4) (.int .i64 i) = some (.lp 2 1 i 0) := by simp [yw, hi, hn]
  have k2 : evLd false 1 (.lp 2 1 i 0) (H3 f x) = some (.int .i64 r) := by
    match i, hi, hr with
    | 0, _, hr => simp at hr; simp [hr]
    | 1, _, hr => simp at hr; simp [hr]
    | 2, _, hr => simp at hr; simp [hr]
    | 3, _, hr => simp at hr; simp [hr]
  have k3 := ixstr hw
  rw [yib]
  generalize y5k (regK (lst f.regs) r) c = T at *
  simp only [yfh, yq, y7, hn, decide_true, y1k]
  generalize hZ : y5e Q0 Q1 (.str w) (.ls 2 1 1 0 4) (.int .i64 (i + 1 : Nat)) (H3 f x) = Z
  have e32 : yos Q0 Q1 (.str w) (.ls 2 1 1 0 4) (.int .i64 i) (H3 f x) = Z := by
    rw [← hZ]; simp only [yos, y2e, y7, hw2]
  have e5 : evLd true 5 Q0 (H3 f x) = some (.agg (enc f)) := by simp
  simp only [yv4, k1, k2, k3, e5, y7]
  cases T with
  | true => simp [hs, e32, yg]
  | false => simp [hs, yg]
set_option maxHeartbeats 1000000 in
theorem y2pt (f : Fn) (x : Ins) (hn : -9223372036854775808 ≤ x.n ∧ x.n < 9223372036854775808) (hs : x.s.length ≤ 9223372036854775807) (hl : (lst x.args).length ≤ 9223372036854775807) :
    (yb E).p 64 [.agg (enc f), .agg (enc x)] = some ⟨.bool (oneM f x), [], true, [], []⟩ := by
  rw [y2jj]
  have hrow := y2qh x.op
  by_cases h1 : 1 ≤ x.op
  · by_cases h2 : x.op ≤ 33
    · obtain ⟨hlen, hsg⟩ := y2iy h1 h2
      rw [oneM]
      simp only [h1, h2, decide_true, Bool.true_and]
      generalize rowM x.op = w at *
      match w, hlen, hsg with
      | [c0, c1, c2, c3], _, hsg =>
        simp only [List.all_cons, List.all_nil, Bool.and_true, Bool.and_eq_true] at hsg
        have e0 : yfk (.agg (enc f)) (.agg (enc x)) [⟨0, .dead⟩, ⟨0, .dead⟩, ⟨0, .dead⟩] = y5e Q0 Q1 (.str [c0, c1, c2, c3]) (.ls 2 1 1 0 4) (.int .i64 0) (H3 f x) := by
          simp [yfk, yhr, yi6, ywo, yv0, hrow, y12, y1f]
        have s0 := yel f x [c0, c1, c2, c3] 0 x.d c0 (by omega) rfl hsg.1 rfl
        have s1 := yel f x [c0, c1, c2, c3] 1 x.a c1 (by omega) rfl hsg.2.1 rfl
        have s2 := yel f x [c0, c1, c2, c3] 2 x.b c2 (by omega) rfl hsg.2.2.1 rfl
        have s3 := yel f x [c0, c1, c2, c3] 3 x.c c3 (by omega) rfl hsg.2.2.2 rfl
        simp only [Int.ofNat_zero] at s0
        have e4 : y5e Q0 Q1 (.str [c0, c1, c2, c3]) (.ls 2 1 1 0 4) (.int .i64 (3 + 1 : Nat)) (H3 f x) = some ⟨.bool (y68 f x), [], true, [], []⟩ := by
          have h25 := y2ln f x hs hl (.int .i64 x.op) rfl
          show y5e Q0 Q1 (.str [c0, c1, c2, c3]) (.ls 2 1 1 0 4) (.int .i64 4) (H3 f x) = _
          rw [yib]
          by_cases hk0 : 0 ≤ x.n
          · by_cases hk1 : x.n < 1000
            · have hK := y1wy x.n hk0 hk1
              simp [yfh, ykh, yik, hk0, hk1, hK, yfw]
              exact h25
            · have : numK x.n = (0, 0, 0) := yhl (by omega)
              rw [this] at h25
              simp [yfh, ykh, yik, hk0, hk1, yfw]
              exact h25
          · have : numK x.n = (0, 0, 0) := yhl (by omega)
            rw [this] at h25
            simp [yfh, ykh, yik, hk0, yfw]
            exact h25
        rw [e0, s0]
        simp only [List.getD_cons_zero, List.getD_cons_succ]
        cases y5k (regK (lst f.regs) x.d) c0 with
        | false => simp
        | true =>
          rw [if_pos rfl, s1]
          cases y5k (regK (lst f.regs) x.a) c1 with
          | false => simp
          | true =>
            rw [if_pos rfl, s2]
            cases y5k (regK (lst f.regs) x.b) c2 with
            | false => simp
            | true =>
              rw [if_pos rfl, s3]
              cases y5k (regK (lst f.regs) x.c) c3 with
              | false => simp
              | true => rw [if_pos rfl, e4]; simp
    · have : rowM x.op = [] := by rw [rowM, if_pos (by omega)]
      rw [this] at hrow
      simp [yfk, yhr, yi6, hrow, oneM, h2]
  · have : rowM x.op = [] := by rw [rowM, if_pos (by omega)]
    rw [this] at hrow
    simp [yfk, yhr, yi6, hrow, oneM, h1]
end Go.Vm
namespace Go.Vm
theorem y1gb (n : Int) : 0 ≤ (numK n).1 ∧ 0 ≤ (numK n).2.1 ∧ 0 ≤ (numK n).2.2 ∧ (numK n).1 ≤ 2 ∧ (numK n).2.1 ≤ 2 ∧ (numK n).2.2 ≤ 2 ∧ (¬ (numK n).1 = 0 → ¬ (numK n).2.2 = 0) ∧ (¬ (numK n).2.1 = 0 → ¬ (numK n).1 = 0 ∧ ¬ (numK n).2.2 = 0) := by
  unfold numK
  repeat' split
  all_goals decide
theorem y57 {R : List Int} (hR : R.all (fun k => decide (1 ≤ k) && decide (k ≤ 3)) = true) (r : Int) : (inR R r = true ∧ (regK R r = 1 ∨ regK R r = 2 ∨ regK R r = 3)) ∨ (inR R r = false ∧ regK R r = 0) := by
  cases h : inR R r with
  | true =>
    obtain ⟨_, h1, h2⟩ := yvd h
    rw [List.all_eq_true] at hR
    have := hR (regK R r) (List.mem_of_getElem? h2)
    simp only [Bool.and_eq_true, decide_eq_true_eq] at this
    refine .inl ⟨rfl, ?_⟩
    omega
  | false =>
    refine .inr ⟨rfl, ?_⟩
    simp only [inR, Bool.and_eq_false_iff, decide_eq_false_iff_not] at h
    unfold regK
    split
    · rfl
    · rw [List.getD_eq_getElem?_getD, List.getElem?_eq_none (by omega)]; rfl
theorem y2hy {n : Int} : n = IntKind.wrap .i64 (IntKind.wrap .i32 n) ↔ -2147483648 ≤ n ∧ n < 2147483648 := by
  have h : -2147483648 ≤ IntKind.wrap .i32 n ∧ IntKind.wrap .i32 n < 2147483648 := by
    simp only [IntKind.wrap, IntKind.bits, IntKind.signed]
    simp
    omega
  rw [y33 (n := IntKind.wrap .i32 n) (by omega) (by omega)]
  constructor
  · intro e; rw [e]; exact h
  · intro e
    simp only [IntKind.wrap, IntKind.bits, IntKind.signed]
    simp
    omega
theorem ypi {R : List Int} {r : Int} : y23 R (-1) r = true := by simp [y23]
theorem y1fq {R : List Int} (hR : R.all (fun k => decide (1 ≤ k) && decide (k ≤ 3)) = true) (r : Int) : y23 R 0 r = decide (0 < regK R r) := by
  rcases y57 hR r with ⟨h1, h2⟩ | ⟨h1, h2⟩
  · simp [y23, h1]; omega
  · simp [y23, h1, h2]
theorem yd7 {R : List Int} (hR : R.all (fun k => decide (1 ≤ k) && decide (k ≤ 3)) = true) (r k : Int) (hk : 0 < k) : y23 R k r = decide (regK R r = k) := by
  have a1 : ¬ k < 0 := by omega
  have a2 : ¬ k ≤ 0 := by omega
  rcases y57 hR r with ⟨h1, h2⟩ | ⟨h1, h2⟩
  · simp [y23, h1, a1, a2]
  · have : ¬ 0 = k := by omega
    simp [y23, h1, h2, a1, a2, this]
theorem y26a {R : List Int} (hR : R.all (fun k => decide (1 ≤ k) && decide (k ≤ 3)) = true) (l : List Int) : (l.all fun r => !decide (regK R r = 0)) = l.all (inR R) := by
  congr 1
  funext r
  rcases y57 hR r with ⟨h1, h2⟩ | ⟨h1, h2⟩
  · rw [h1]; simp; omega
  · rw [h1, h2]; rfl
theorem y2m5 (f : Fn) (x : Ins) (hR : (lst f.regs).all (fun k => decide (1 ≤ k) && decide (k ≤ 3)) = true) (h : x.op = 5) : oneM f x = y1m f x := by
  have hk := y1gb x.n
  have Fm := fun r => ypi (R := lst f.regs) (r := r)
  simp only [oneM, y1m, h, yo, rowM, rowT, y5k, y75, calls, y3a, leads, y68, Fm]
  generalize numK x.n = k at *
  obtain ⟨a, b, d⟩ := k
  simp only at hk ⊢
  by_cases hb : b = 0
  · subst hb; simp
  · rw [yd7 hR x.d d (by omega), yd7 hR x.a a (by omega), yd7 hR x.b b (by omega)]
    rw [Bool.eq_iff_iff]
    simp
    omega
theorem y2hb (f : Fn) (x : Ins) (hR : (lst f.regs).all (fun k => decide (1 ≤ k) && decide (k ≤ 3)) = true) (h : x.op = 6) : oneM f x = y1m f x := by
  have hk := y1gb x.n
  have Fm := fun r => ypi (R := lst f.regs) (r := r)
  simp only [oneM, y1m, h, yo, rowM, rowT, y5k, y75, calls, y3a, leads, y68, Fm]
  generalize numK x.n = k at *
  obtain ⟨a, b, d⟩ := k
  simp only at hk ⊢
  by_cases ha : a = 0
  · subst ha; simp
  · rw [yd7 hR x.d d (by omega), yd7 hR x.a a (by omega)]
    rw [Bool.eq_iff_iff]
    simp
    omega
theorem ytk (f : Fn) (x : Ins) (hR : (lst f.regs).all (fun k => decide (1 ≤ k) && decide (k ≤ 3)) = true) (h : x.op = 23 ∨ x.op = 24 ∨ x.op = 25 ∨ x.op = 26) : oneM f x = y1m f x := by
  have F0 := y1fq hR
  have Fm := fun r => ypi (R := lst f.regs) (r := r)
  have hA := y26a hR (lst x.args)
  have kd := y57 hR x.d
  have hc : yp0 (lst f.regs) x = (!((decide (x.n < 0) && !decide (x.op = 25)) || decide (21 < (lst x.args).length) || (!decide (x.d = -1) && decide (regK (lst f.regs) x.d = 0))) && ((lst x.args).all (inR (lst f.regs)) && ygy (lst f.regs) x)) := by rw [yp0, hA]
  cases ha : lst x.args with
  | nil =>
    by_cases hd : x.d = -1 <;> rcases h with h|h|h|h <;> (rw [Bool.eq_iff_iff]; simp [oneM, y1m, h, yo, rowM, rowT, y5k, y75, calls, y3a, leads, y68, hc, ygy, yke, ha, hd, F0, Fm]; try omega)
  | cons r t =>
    rw [ha] at hc
    generalize hg : (r :: t).all (inR (lst f.regs)) = A at *
    generalize hl : (r :: t).length = n at *
    by_cases hd : x.d = -1 <;> rcases h with h|h|h|h <;> (rw [Bool.eq_iff_iff]; simp [oneM, y1m, h, yo, rowM, rowT, y5k, y75, calls, y3a, leads, y68, hc, ygy, yke, ha, hd, F0, Fm]; first | (simp at hl hg; omega) | (simp at hl hg; grind) | skip)
theorem yps (f : Fn) (x : Ins) (h : x.op < 1 ∨ 33 < x.op) : oneM f x = y1m f x := by
  rw [oneM, y1m, yns h]
  rcases h with h | h
  · have : ¬ 1 ≤ x.op := by omega
    simp [this]
  · have : ¬ x.op ≤ 33 := by omega
    simp [this]
set_option maxHeartbeats 4000000 in
theorem y1vr (f : Fn) (x : Ins) (hR : (lst f.regs).all (fun k => decide (1 ≤ k) && decide (k ≤ 3)) = true) : oneM f x = y1m f x := by
  have F0 := y1fq hR
  have F1 := fun r => yd7 hR r 1 (by omega)
  have F3 := fun r => yd7 hR r 3 (by omega)
  have Fm := fun r => ypi (R := lst f.regs) (r := r)
  have hA := y26a hR (lst x.args)
  have kd := y57 hR x.d
  have ka := y57 hR x.a
  have hd : 0 < regK (lst f.regs) x.d ↔ ¬ regK (lst f.regs) x.d = 0 := by rcases kd with ⟨_, h⟩ | ⟨_, h⟩ <;> omega
  have hw := @y2hy x.n
  rcases ydz x.op with h|h|h|h|h|h|h|h|h|h|h|h|h|h|h|h|h|h|h|h|h|h|h|h|h|h|h|h|h|h|h|h|h|h|h
  all_goals first
    | (simp [oneM, y1m, h, yo, rowM, rowT, y5k, y75, calls, y3a, leads, y68, F0, F1, F3, Fm, y52, Bool.and_assoc]; done)
    | skip
  all_goals first
    | exact y2m5 f x hR h
    | exact y2hb f x hR h
    | exact yps f x (.inl h)
    | exact yps f x (.inr h)
    | exact ytk f x hR (.inl h)
    | exact ytk f x hR (.inr (.inl h))
    | exact ytk f x hR (.inr (.inr (.inl h)))
    | exact ytk f x hR (.inr (.inr (.inr h)))
    | (rw [Bool.eq_iff_iff]; simp [oneM, y1m, h, yo, rowM, rowT, y5k, y75, calls, y3a, leads, y68, F0, F1, F3, Fm, y52]; omega)
    | (rw [Bool.eq_iff_iff]; simp [oneM, y1m, h, yo, rowM, rowT, y5k, y75, calls, y3a, leads, y68, F0, F1, F3, Fm, y52]; grind)
    | exact y2m5 f x hR h
    | exact y2hb f x hR h
    | exact yps f x (.inl h)
    | exact yps f x (.inr h)
    | exact ytk f x hR (.inl h)
    | exact ytk f x hR (.inr (.inl h))
    | exact ytk f x hR (.inr (.inr (.inl h)))
    | exact ytk f x hR (.inr (.inr (.inr h)))
end Go.Vm
namespace Go.Vm
open Cel
attribute [local simp] y9 y2a yu y4l
theorem y2a1 (f : Fn) (o1 : AO) (n : Int) (hn : n = (lst f.code).length) (hl : (lst f.rows).length ≤ 9223372036854775807) : ∀ (d i : Nat) (o2 : AO), i + d = (lst f.rows).length →
    yf1 P0 (.int .i64 n) (.int .i64 i) (HC f o1 o2) = if ((lst f.rows).drop i).all (y4f (lst f.code)) then E0 else E80 := by
  intro d
  induction d with
  | zero =>
    intro i o2 hi
    have e1 : (lst f.rows).drop i = [] := List.drop_eq_nil_of_le (by omega)
    have hn : ¬ ((i : Int) < ((lst f.rows).length : Int)) := by omega
    rw [ylu, e1]
    simp [y71, ykn, hn]
  | succ d ih =>
    intro i o2 hi
    have hlt : i < (lst f.rows).length := by omega
    have hc : ((i : Int) < ((lst f.rows).length : Int)) := by omega
    have k1 := yin (o := f.rows) (i := i) (List.getElem?_eq_getElem hlt) .i64
    rw [ylu]
    have e1 : ((lst f.rows).drop i).all (y4f (lst f.code)) = (y4f (lst f.code) (lst f.rows)[i] && ((lst f.rows).drop (i + 1)).all (y4f (lst f.code))) := by rw [List.drop_eq_getElem_cons hlt, List.all_cons]
    rw [e1]
    generalize hr : (lst f.rows)[i] = r at *
    have ih := fun o2 => ih (i + 1) o2 (by omega)
    push_cast at ih
    subst hn
    by_cases h1 : r.f < 0
    · simp [y71, hc, y7t, k1, y4f, h1]
    by_cases h2 : r.t ≤ r.f
    · simp [y71, hc, y7t, k1, y4f, h1, h2]
    by_cases h3 : ((lst f.code).length : Int) < r.t
    · simp [y71, hc, y7t, k1, y4f, h1, h2, h3]
    by_cases h4 : r.at_ < 0
    · have : ¬ 0 ≤ r.at_ := by omega
      simp [y71, hc, y7t, k1, y4f, h1, h2, h3, h4, y52, this]
    by_cases h5 : ((lst f.code).length : Int) ≤ r.at_
    · have : ¬ r.at_ < ((lst f.code).length : Int) := by omega
      simp [y71, hc, y7t, k1, y4f, h1, h2, h3, h4, h5, y52, this]
    · have hx : r.at_.toNat < (lst f.code).length := by omega
      have a1 : 0 ≤ r.at_ := by omega
      have a2 : r.at_ < ((lst f.code).length : Int) := by omega
      have k2 := y8o (o := f.code) (n := r.at_) (by omega) (List.getElem?_eq_getElem hx) .i64
      by_cases h6 : ((lst f.code)[r.at_.toNat]).op = 32
      · simp [y71, hc, y7t, k1, y4f, h1, h2, h3, h4, h5, y52, a1, a2, k2, h6, hx, yjz, y1p hlt hl, ih]
      · simp [y71, hc, y7t, k1, y4f, h1, h2, h3, h4, h5, y52, a1, a2, k2, h6, hx]
theorem y29m (f : Fn) (o1 o2 : AO) (n : Int) (hl : (lst f.regs).length ≤ 9223372036854775807) : ∀ (d i : Nat), i + d = (lst f.regs).length →
    yc5 P0 (.int .i64 n) (.int .i64 i) (HC f o1 o2) = if ((lst f.regs).drop i).all (fun k => decide (1 ≤ k) && decide (k ≤ 3)) then ybe P0 (.int .i64 n) (HC f o1 o2) else E80 := by
  intro d
  induction d with
  | zero =>
    intro i hi
    have e1 : (lst f.regs).drop i = [] := List.drop_eq_nil_of_le (by omega)
    have hn : ¬ ((i : Int) < ((lst f.regs).length : Int)) := by omega
    rw [yj7, e1]
    simp [y7b, hn]
  | succ d ih =>
    intro i hi
    have hlt : i < (lst f.regs).length := by omega
    have hc : ((i : Int) < ((lst f.regs).length : Int)) := by omega
    have k1 := y3c (o := f.regs) (i := i) (List.getElem?_eq_getElem hlt) .i64
    have e1 : ((lst f.regs).drop i).all (fun k => decide (1 ≤ k) && decide (k ≤ 3)) = ((decide (1 ≤ (lst f.regs)[i]) && decide ((lst f.regs)[i] ≤ 3)) && ((lst f.regs).drop (i + 1)).all (fun k => decide (1 ≤ k) && decide (k ≤ 3))) := by
      rw [List.drop_eq_getElem_cons hlt, List.all_cons]
    rw [yj7, e1]
    generalize hr : (lst f.regs)[i] = r at *
    have ih := ih (i + 1) (by omega)
    push_cast at ih
    by_cases h1 : r < 1
    · have : ¬ 1 ≤ r := by omega
      simp [y7b, hc, y8a, k1, h1, this]
    by_cases h2 : 3 < r
    · have : ¬ r ≤ 3 := by omega
      simp [y7b, hc, y8a, k1, h1, h2, this]
    · have a1 : 1 ≤ r := by omega
      have a2 : r ≤ 3 := by omega
      simp [y7b, hc, y8a, k1, h1, h2, a1, a2, ycv, y1p hlt hl, ih]
def parR (R : List Int) : List Int → List Int → Bool
  | _, [] => true
  | seen, p :: r => (inR R p && !seen.contains p) && parR R (seen ++ [p]) r
theorem y1q4 (f : Fn) (o1 o2 : AO) (n : Int) (hR : (lst f.regs).all (fun k => decide (1 ≤ k) && decide (k ≤ 3)) = true) (hl : (lst f.params).length ≤ 9223372036854775807) : ∀ (d i : Nat), i + d = (lst f.params).length →
    ybx P0 (.int .i64 n) (.int .i64 i) (HC f o1 o2) = if parR (lst f.regs) ((lst f.params).take i) ((lst f.params).drop i) then yb9 P0 (.int .i64 n) (HC f o1 o2) else E80 := by
  intro d
  induction d with
  | zero =>
    intro i hi
    have e1 : (lst f.params).drop i = [] := List.drop_eq_nil_of_le (by omega)
    have hn : ¬ ((i : Int) < ((lst f.params).length : Int)) := by omega
    rw [yiv, e1]
    simp [y76, hn, parR]
  | succ d ih =>
    intro i hi
    have hlt : i < (lst f.params).length := by omega
    have hc : ((i : Int) < ((lst f.params).length : Int)) := by omega
    have k1 := y3c (o := f.params) (i := i) (List.getElem?_eq_getElem hlt) .i64
    have ks := y26f (α := Int) f.params i (by omega) .i64
    simp only [y25y] at ks
    have hlm : lst (f.params.map (List.take i)) = (lst f.params).take i := by cases f.params <;> simp
    have e1 : parR (lst f.regs) ((lst f.params).take i) ((lst f.params).drop i) = ((inR (lst f.regs) (lst f.params)[i] && !((lst f.params).take i).contains (lst f.params)[i]) && parR (lst f.regs) ((lst f.params).take (i + 1)) ((lst f.params).drop (i + 1))) := by
      rw [List.drop_eq_getElem_cons hlt, parR, List.take_append_getElem]
    rw [yiv, e1]
    have hct : (yb E).p 42 [.int .i64 (lst f.params)[i], slA (f.params.map (List.take i))] = some ⟨.bool (((lst f.params).take i).contains (lst f.params)[i]), [], true, [], []⟩ := by
      rw [s_in _ _ (by rw [hlm, List.length_take]; omega), hlm, List.contains_eq_mem]
    generalize hr : (lst f.params)[i] = r at *
    generalize ((lst f.params).take i).contains r = B at *
    have ih := ih (i + 1) (by omega)
    push_cast at ih
    have hs := yl4 f r
    rcases y57 hR r with ⟨a1, a2⟩ | ⟨a1, a2⟩
    · have hz : ¬ regK (lst f.regs) r = 0 := by omega
      rw [a1]
      generalize regK (lst f.regs) r = k at *
      cases B with
      | true => simp [y76, hc, y8z, k1, hs, hz, ks, hct, yg]
      | false =>
        simp [y76, hc, y8z, k1, hs, hz, ks, hct, yg, yct, y1p hlt hl]
        exact ih
    · rw [a2] at hs
      simp [y76, hc, y8z, k1, hs, a1, yg]
theorem y2ip (f : Fn) (o2 : AO) (n : Int) (x : Ins) (i g : Nat) (hR : (lst f.regs).all (fun k => decide (1 ≤ k) && decide (k ≤ 3)) = true) (fit : InsFit x) (hi : i < (lst f.code).length) (hl : (lst f.code).length ≤ 9223372036854775807) (hx : (lst f.code)[i]? = some x) (oc : OC) :
    y4z P0 (.int .i64 n) (.int .i64 i) (HC f ⟨g, oc⟩ o2) =
      if y1m f x && y3o (lst f.code) i x then ybf P0 (.int .i64 n) (.int .i64 i) (HC f ⟨g + 1, .arr true false 9 [enc x]⟩ o2) else E80 := by
  have k0 := y8p (o := f.code) (i := i) hx .i64
  have h1 := y2pt f x fit.n fit.s fit.a
  rw [y1vr f x hR] at h1
  cases hok : y1m f x with
  | false =>
    rw [hok] at h1
    simp [y4z, k0, h1]
  | true =>
    have ht := ykq (f := f) (x := x) hok
    rw [hok] at h1
    by_cases h32 : x.op = 32
    · have hld : leads 32 = false := by simp [leads]
      by_cases h0 : i = 0
      · subst h0
        simp only [Int.ofNat_zero] at k0
        simp [y4z, k0, h1, h32, y3o]
      · have h0' : ¬ ((i : Int) = 0) := by omega
        have hp : i - 1 < (lst f.code).length := by omega
        have k1 := y8p (o := f.code) (i := i - 1) (List.getElem?_eq_getElem hp) .i64
        have hw : IntKind.wrap .i64 ((i : Int) - 1) = ((i - 1 : Nat) : Int) := by rw [y33] <;> omega
        cases he : ends ((lst f.code)[i - 1]).op with
        | true => simp [y4z, k0, h1, h32, y3o, h0, h0', hw, k1, hp, he, hld]
        | false => simp [y4z, k0, h1, h32, y3o, h0, h0', hw, k1, hp, he]
    · cases hld : leads x.op with
      | false => simp [y4z, k0, h1, h32, y3o, hld]
      | true =>
        obtain ⟨t0, t1⟩ := ht hld
        have hxt : x.t.toNat < (lst f.code).length := by omega
        have k2 := y8o (o := f.code) (n := x.t) t0 (List.getElem?_eq_getElem hxt) .i64
        by_cases h6 : ((lst f.code)[x.t.toNat]).op = 32
        · simp [y4z, k0, h1, h32, y3o, hld, k2, h6, hxt]
        · simp [y4z, k0, h1, h32, y3o, hld, k2, h6, hxt]
theorem y28m (f : Fn) (o2 : AO) (n : Int) (hn : n = (lst f.code).length) (hR : (lst f.regs).all (fun k => decide (1 ≤ k) && decide (k ≤ 3)) = true) (hfit : ∀ x ∈ lst f.code, InsFit x) (hl : (lst f.code).length ≤ 9223372036854775807) : ∀ (d i : Nat) (o1 : AO), i + d = (lst f.code).length →
    ∃ o1', yf8 P0 (.int .i64 n) (.int .i64 i) (HC f o1 o2) = if y45 f (lst f.code) i ((lst f.code).drop i) then ygf P0 (.int .i64 n) (HC f o1' o2) else E80 := by
  intro d
  induction d with
  | zero =>
    intro i o1 hi
    have e1 : (lst f.code).drop i = [] := List.drop_eq_nil_of_le (by omega)
    have hnl : ¬ ((i : Int) < n) := by omega
    rw [ymg, e1]
    exact ⟨o1, by simp [yal, hnl, y45]⟩
  | succ d ih =>
    intro i o1 hi
    have hlt : i < (lst f.code).length := by omega
    have hc : ((i : Int) < n) := by omega
    have e1 : y45 f (lst f.code) i ((lst f.code).drop i) = (y1m f (lst f.code)[i] && y3o (lst f.code) i (lst f.code)[i] && y45 f (lst f.code) (i + 1) ((lst f.code).drop (i + 1))) := by
      rw [List.drop_eq_getElem_cons hlt, y45]
    have fit := hfit _ (List.getElem_mem hlt)
    have hone := y2ip f o2 n _ i o1.gen hR fit hlt hl (List.getElem?_eq_getElem hlt) o1.c
    rw [ymg, e1]
    generalize (lst f.code)[i] = x at *
    generalize (y1m f x && y3o (lst f.code) i x) = G at *
    simp only [yal, yq, y7, hc, decide_true, y1k, hone]
    cases G with
    | false => exact ⟨o1, by simp⟩
    | true =>
      obtain ⟨o1', ih⟩ := ih (i + 1) ⟨o1.gen + 1, .arr true false 9 [enc x]⟩ (by omega)
      push_cast at ih
      exact ⟨o1', by simp [ybf, y1p hlt hl, ih]⟩
theorem y12y (R : List Int) : ∀ (l : List Int) (i : Nat) (seen : List Int), i + l.length ≤ 21 → y8b R i seen l = parR R seen l
  | [], _, _, _ => rfl
  | p :: r, i, seen, h => by
    simp only [List.length_cons] at h
    have : i ≤ 20 := by omega
    rw [y8b, parR, y12y R r (i + 1) (seen ++ [p]) (by omega)]
    simp [this]
theorem y17e (R : List Int) : ∀ (l : List Int) (i : Nat) (seen : List Int), 21 < i + l.length → i ≤ 21 → y8b R i seen l = false
  | [], i, _, h, h2 => by simp at h; omega
  | p :: r, i, seen, h, h2 => by
    simp only [List.length_cons] at h
    rw [y8b]
    by_cases hi : i ≤ 20
    · rw [y17e R r (i + 1) (seen ++ [p]) (by omega) (by omega)]; simp
    · simp [hi]
set_option maxRecDepth 100000 in
set_option maxHeartbeats 1000000 in
theorem y15c (f : Fn) (hf : FnFit f) : (yb E).p 29 [.agg (enc f)] = some ⟨.int .i64 (if wf f then 0 else 80), [], true, [], []⟩ := by
  rw [y2jt]
  by_cases h0 : (lst f.code).length = 0
  · have h0' : ((lst f.code).length : Int) = 0 := by omega
    have : ¬ 1 ≤ (lst f.code).length := by omega
    simp [y4g, y4w, y4u, h0', wf, this]
  have h0' : ¬ ((lst f.code).length : Int) = 0 := by omega
  have hne : ¬ lst f.code = [] := fun h => h0 (by rw [h]; rfl)
  have g1 : 1 ≤ (lst f.code).length := by omega
  by_cases h2 : 20000 < (lst f.code).length
  · have h2' : (20000 : Int) < ((lst f.code).length : Int) := by omega
    have : ¬ (lst f.code).length ≤ 20000 := by omega
    simp [y4g, y4w, y4u, h0', hne, h2', wf, this]
  have h2' : ¬ (20000 : Int) < ((lst f.code).length : Int) := by omega
  have g2 : (lst f.code).length ≤ 20000 := by omega
  by_cases h3 : 20000 < (lst f.regs).length
  · have h3' : (20000 : Int) < ((lst f.regs).length : Int) := by omega
    have : ¬ (lst f.regs).length ≤ 20000 := by omega
    simp [y4g, y4w, y4u, h0', hne, h2', h3', wf, this]
  have h3' : ¬ (20000 : Int) < ((lst f.regs).length : Int) := by omega
  have g3 : (lst f.regs).length ≤ 20000 := by omega
  by_cases hp : 21 < (lst f.params).length
  · have hp' : (21 : Int) < ((lst f.params).length : Int) := by omega
    have := y17e (lst f.regs) (lst f.params) 0 [] (by omega) (by omega)
    simp [y4g, y4w, y4u, h0', hne, h2', h3', hp', wf, this]
  have hp' : ¬ (21 : Int) < ((lst f.params).length : Int) := by omega
  by_cases h4 : f.ret < 0
  · have : ¬ 0 ≤ f.ret := by omega
    simp [y4g, y4w, y4u, h0', hne, h2', h3', hp', h4, wf, this]
  have g4 : 0 ≤ f.ret := by omega
  by_cases h5 : 3 < f.ret
  · have : ¬ f.ret ≤ 3 := by omega
    simp [y4g, y4w, y4u, h0', hne, h2', h3', hp', h4, h5, wf, this]
  have g5 : f.ret ≤ 3 := by omega
  have hpl : (lst f.code).length - 1 < (lst f.code).length := by omega
  have k1 := y8p (o := f.code) (i := (lst f.code).length - 1) (List.getElem?_eq_getElem hpl) .i64
  have hw : IntKind.wrap .i64 (((lst f.code).length : Int) - 1) = (((lst f.code).length - 1 : Nat) : Int) := by rw [y33] <;> omega
  have hg : (lst f.code).getD ((lst f.code).length - 1) default = (lst f.code)[(lst f.code).length - 1] := by rw [List.getD_eq_getElem?_getD, List.getElem?_eq_getElem hpl]; rfl
  cases he : ends ((lst f.code)[(lst f.code).length - 1]).op with
  | false =>
    have hwf : wf f = false := by rw [wf, hg, he]; simp
    rw [hwf]
    simp [y4g, y4w, y4u, h0', hne, h2', h3', hp', h4, h5, hw, k1, he]
  | true =>
    have hps := y12y (lst f.regs) (lst f.params) 0 [] (by omega)
    have hwf : wf f = ((lst f.regs).all (fun k => decide (1 ≤ k) && decide (k ≤ 3)) && parR (lst f.regs) [] (lst f.params) && y45 f (lst f.code) 0 (lst f.code) && (lst f.rows).all (y4f (lst f.code))) := by
      rw [wf, hg, he, hps]
      simp only [g1, g2, g3, g4, g5, decide_true, Bool.true_and]
    have e : y4g (.agg (enc f)) [⟨0, .dead⟩, ⟨0, .dead⟩, ⟨0, .dead⟩] = yc5 P0 (.int .i64 (lst f.code).length) (.int .i64 0) (HC f ⟨0, .dead⟩ ⟨0, .dead⟩) := by
      simp [y4g, y4w, y4u, h0', hne, h2', h3', hp', h4, h5, hw, k1, he, ykn, yjz, y7t, y71, ygf, ybf, y4z, yal, yb9, yct, y8z, y76, ybe, ycv, y8a, y7b, yfv, y4u, y4w, y4g]
    have a1 := y29m f ⟨0, .dead⟩ ⟨0, .dead⟩ (lst f.code).length hf.regs _ 0 (Nat.zero_add _)
    simp only [Int.ofNat_zero, List.drop_zero] at a1
    rw [e, a1, hwf]
    cases hR : (lst f.regs).all (fun k => decide (1 ≤ k) && decide (k ≤ 3)) with
    | false => simp
    | true =>
      have a2 := y1q4 f ⟨0, .dead⟩ ⟨0, .dead⟩ (lst f.code).length hR hf.params _ 0 (Nat.zero_add _)
      obtain ⟨o1', a3⟩ := y28m f ⟨0, .dead⟩ _ rfl hR hf.ins hf.code _ 0 ⟨0, .dead⟩ (Nat.zero_add _)
      have a4 := y2a1 f o1' _ rfl hf.rows _ 0 ⟨0, .dead⟩ (Nat.zero_add _)
      simp only [Int.ofNat_zero, List.drop_zero, List.take_zero] at a2 a3 a4
      have e2 : ybe P0 (.int .i64 (lst f.code).length) (HC f ⟨0, .dead⟩ ⟨0, .dead⟩) = ybx P0 (.int .i64 (lst f.code).length) (.int .i64 0) (HC f ⟨0, .dead⟩ ⟨0, .dead⟩) := by simp [ykn, yjz, y7t, y71, ygf, ybf, y4z, yal, yb9, yct, y8z, y76, ybe, ycv, y8a, y7b, yfv, y4u, y4w, y4g]
      have e3 : yb9 P0 (.int .i64 (lst f.code).length) (HC f ⟨0, .dead⟩ ⟨0, .dead⟩) = yf8 P0 (.int .i64 (lst f.code).length) (.int .i64 0) (HC f ⟨0, .dead⟩ ⟨0, .dead⟩) := by simp [ykn, yjz, y7t, y71, ygf, ybf, y4z, yal, yb9, yct, y8z, y76, ybe, ycv, y8a, y7b, yfv, y4u, y4w, y4g]
      have e4 : ygf P0 (.int .i64 (lst f.code).length) (HC f o1' ⟨0, .dead⟩) = yf1 P0 (.int .i64 (lst f.code).length) (.int .i64 0) (HC f o1' ⟨0, .dead⟩) := by simp [ykn, yjz, y7t, y71, ygf, ybf, y4z, yal, yb9, yct, y8z, y76, ybe, ycv, y8a, y7b, yfv, y4u, y4w, y4g]
      rw [e2, a2, e3, a3, e4, a4]
      generalize parR (lst f.regs) [] (lst f.params) = b2
      generalize y45 f (lst f.code) 0 (lst f.code) = b3
      generalize (lst f.rows).all (y4f (lst f.code)) = b4
      cases b2 <;> cases b3 <;> cases b4 <;> rfl
end Go.Vm
namespace Go.Vm
open Cel
def hI0 : Ins := ⟨8, 0, 1, 0, 0, 0, 0, [], none⟩
def hI1 : Ins := ⟨15, 0, 1, 0, 0, 0, 0, [], none⟩
def hI3 : Ins := ⟨30, 0, -1, 0, 0, 0, 0, [], none⟩
def hF0 : Fn := ⟨some [1, 3], some [1], 0, some [hI0, hI1, hI0, hI3], none⟩
def hF1 : Fn := ⟨some [1, 3], some [1], 0, some [hI0, hI1, nopI, hI3], none⟩
theorem y2k1 : wf hF0 = true := by kernel_rfl
theorem y2bb {T : KTab} (v : InvK hF0 (T, [])) : knoF hF0 T = hF1 := by
  have hz := v.ok.zero
  simp only at hz
  have g0 : y85 hF0 T 0 = false := by
    unfold y85
    rw [hz]
    rfl
  have g1 : y85 hF0 T 1 = false := rfl
  have g3 : y85 hF0 T 3 = false := rfl
  have n0 : y26 hF0 (0 : Nat) = [1] := by decide
  have n1 : y26 hF0 (1 : Nat) = [2] := by decide
  have r0 : Rch (lst hF0.code).length (fun i => yp hF0 i ++ y26 hF0 i) [0] 0 := .base (j := 0) (by simp) (by decide) (by decide)
  have r1 : Rch (lst hF0.code).length (fun i => yp hF0 i ++ y26 hF0 i) [0] 1 := .step (j := 1) r0 (by rw [List.mem_append, n0]; right; simp) (by decide) (by decide)
  have r2 : Rch (lst hF0.code).length (fun i => yp hF0 i ++ y26 hF0 i) [0] 2 := .step (j := 2) r1 (by rw [List.mem_append, n1]; right; simp) (by decide) (by decide)
  have g2 : y85 hF0 T 2 = true := y21c v (y1rl v r2) (c := (8, 1, -1)) rfl ⟨by decide, .inr ⟨⟨by decide, .inl rfl⟩, .inr ⟨by decide, by decide⟩⟩⟩
  have e : knoL hF0 T = [knoI hF0 T 0, knoI hF0 T 1, knoI hF0 T 2, knoI hF0 T 3] := rfl
  have i0 : knoI hF0 T 0 = hI0 := by rw [knoI, g0]; rfl
  have i1 : knoI hF0 T 1 = hI1 := by rw [knoI, g1]; rfl
  have i2 : knoI hF0 T 2 = nopI := by rw [knoI, g2]; rfl
  have i3 : knoI hF0 T 3 = hI3 := by rw [knoI, g3]; rfl
  rw [knoF, e, i0, i1, i2, i3]
  rfl
theorem y1s7 : FnFit hF0 ∧ FnSm hF0 := by
  refine ⟨⟨fun x hx => ?_, by decide, by decide, by decide, by decide⟩, ⟨by decide, by decide, by decide, by decide, fun x hx => ?_⟩⟩
  · have hx' : x ∈ [hI0, hI1, hI0, hI3] := hx
    simp only [List.mem_cons, List.not_mem_nil, or_false] at hx'
    rcases hx' with rfl | rfl | rfl | rfl <;> exact ⟨by decide, by decide, by decide⟩
  · have hx' : x ∈ [hI0, hI1, hI0, hI3] := hx
    simp only [List.mem_cons, List.not_mem_nil, or_false] at hx'
    rcases hx' with rfl | rfl | rfl | rfl <;> decide
@[simp] theorem y2az : (yb E).p 165 [] = some ⟨.bool true, [], true, [], []⟩ := by
  have e2 : y12 0 (some 0) 1 2 [.int .i64 0] [(0, .int .i64 1), (1, .int .i64 3)] [D0, D0, D0, D0] = some (.ls 0 1 1 0 2, [AI 1 [1, 3], D0, D0, D0]) := rfl
  have e3 : y12 0 (some 1) 1 1 [.int .i64 0] [(0, .int .i64 1)] [AI 1 [1, 3], D0, D0, D0] = some (.ls 1 1 1 0 1, [AI 1 [1, 3], AI 1 [1], D0, D0]) := rfl
  have b4 : y13 y1ad [(0, 1, .int .i64 8), (2, 1, .int .i64 1)] = some (.agg (enc hI0)) := rfl
  have b5 : y13 y1ad [(0, 1, .int .i64 15), (1, 1, .int .i64 0), (2, 1, .int .i64 1)] = some (.agg (enc hI1)) := rfl
  have b7 : y13 y1ad [(0, 1, .int .i64 30), (2, 1, .int .i64 (-1))] = some (.agg (enc hI3)) := rfl
  have e8 : y12 0 (some 2) 9 4 y1ad [(0, .agg (enc hI0)), (1, .agg (enc hI1)), (2, .agg (enc hI0)), (3, .agg (enc hI3))] [AI 1 [1, 3], AI 1 [1], D0, D0] = some (.ls 2 1 9 0 4, [AI 1 [1, 3], AI 1 [1], ⟨1, .arr false false 9 ([hI0, hI1, hI0, hI3].map enc)⟩, D0]) := rfl
  have b9 : y13 [.nils, .nils, .int .i64 0, .nils, .nils] [(0, 1, .ls 0 1 1 0 2), (1, 1, .ls 1 1 1 0 1), (3, 1, .ls 2 1 9 0 4)] = some (.agg [.ls 0 1 1 0 2, .ls 1 1 1 0 1, .int .i64 0, .ls 2 1 9 0 4, .nils]) := rfl
  obtain ⟨_, d2⟩ := y1tu hF0 y1s7.1 y1s7.2 (by decide) (by decide) (by decide)
  obtain ⟨T, v, hP⟩ := d2 y2k1
  rw [y2bb v] at hP
  have hz : ym (fz [AI 1 [1, 3], AI 1 [1], ⟨1, .arr false false 9 ([hI0, hI1, hI0, hI3].map enc)⟩, D0] y19) [.agg [.ls 0 1 1 0 2, .ls 1 1 1 0 1, .int .i64 0, .ls 2 1 9 0 4, .nils]] = some ⟨[.agg (enc hF0)], true, [0, 1, 2]⟩ := rfl
  have c := yp5 (E := E) (C := yb E) (fb := 0) (f := 166) rfl hz (by rfl) hP (ynm hF1)
  rw [y2o1, show ([⟨0, .dead⟩, ⟨0, .dead⟩, ⟨0, .dead⟩, ⟨0, .dead⟩] : Heap) = [D0, D0, D0, D0] from rfl, y2cb, e2, ye, e3, ye, b4, y7, b5, y7, y7, b7, y7, e8, ye, b9, y7, c, ye]
  rfl
end Go.Vm
