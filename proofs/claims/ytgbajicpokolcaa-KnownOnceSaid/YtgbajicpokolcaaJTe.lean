/- What the pass 'known' leaves is fit. The document's answers for single operations: numbers in a list, ways, ends. The document's table of operations. The document's answers for single operations. The document's answer whether an operation is a call. The document's answer which register an instruction writes. The document's Heads. Chapter 17's document: what was checked ahead, in plain words and on the machine. A function trimmed, in plain words. Rows of equal checks, and what the pass 'known' leaves of them. flow.Reach: which places can be reached. -/
import Derived.Test.YtgbajicpokolcaaJX
import Derived.Test.YtgbajicpokolcaaJTd
set_option linter.unusedSimpArgs false
set_option linter.unusedVariables false
set_option linter.unusedSectionVars false
namespace Go.Vm
theorem Swap.argsN {f g : Fn} (h : ∀ i, i < (lst f.code).length → ye g i = ye f i ∨ ye g i = nopI) (s : Swap f g) {P : Ins → Prop} (h0 : P nopI) (hp : ∀ x ∈ lst f.code, P x) : ∀ x ∈ lst g.code, P x := by
  intro x hx
  obtain ⟨i, hi, e⟩ := List.getElem_of_mem hx
  have hi' : i < (lst f.code).length := by rw [← s.len]; exact hi
  have ex : ye g i = x := by rw [ye, List.getD_eq_getElem?_getD, List.getElem?_eq_getElem hi, e]; rfl
  rcases h i hi' with h | h
  · rw [← ex, h]
    exact hp _ (List.mem_of_getElem? (y3e hi'))
  · rw [← ex, h]; exact h0
theorem y286 {x : Ins} {c : Fa} (h : ofM x = some c) : x.op = 7 ∨ x.op = 8 ∨ x.op = 9 ∨ x.op = 10 := by
  unfold ofM at h
  split at h
  · omega
  · split at h
    · omega
    · cases h
theorem yxo {x : Ins} {c : Fa} (h : ofM x = some c) : ends x.op = false ∧ leads x.op = false ∧ x.op ≠ 32 := by
  rcases y286 h with e | e | e | e <;> rw [e] <;> decide
section
variable (f : Fn) (T : KTab)
theorem yk7 : (knoL f T).length = (lst f.code).length := by simp [knoL]
theorem y61 : Swap f (knoF f T) := ⟨rfl, rfl, rfl, rfl, yk7 f T⟩
theorem ykd {i : Nat} (hi : i < (lst f.code).length) : ye (knoF f T) i = knoI f T i := by
  rw [ye, List.getD_eq_getElem?_getD]
  show ((knoL f T)[i]?).getD default = _
  rw [knoL, List.getElem?_map, List.getElem?_range hi]
  rfl
variable {f T}
theorem y1t2 {i : Nat} (h : y3l f T i = true) : ∃ c s, ofM (ye f i) = some c ∧ kAt T i = some s ∧ c ∈ s := by
  unfold y3l at h
  split at h
  · rename_i c s h1 h2
    exact ⟨c, s, h1, h2, of_decide_eq_true h⟩
  · cases h
theorem yt4 (i : Nat) : knoI f T i = ye f i ∨ (knoI f T i = nopI ∧ ∃ c, ofM (ye f i) = some c) := by
  unfold knoI
  cases h : y3l f T i with
  | false => exact .inl rfl
  | true =>
    obtain ⟨c, s, h1, _⟩ := y1t2 h
    exact .inr ⟨rfl, c, h1⟩
theorem y1xp (hw : wf f = true) : wf (knoF f T) = true := by
  have w := y1hv hw
  refine y1ya (y61 f T) hw fun i hi => ?_
  rw [ykd f T hi]
  rcases yt4 (f := f) (T := T) i with h | ⟨h, c, hc⟩
  · rw [h]; exact ⟨w.ins i hi, id, Iff.rfl, fun h => ⟨h, rfl⟩⟩
  · obtain ⟨h1, h2, h3⟩ := yxo hc
    rw [h]
    exact ⟨yya, (fun h => by rw [h1] at h; cases h), ⟨(fun h => by cases h), fun h => (h3 h).elim⟩, (fun h => by cases h)⟩
theorem y1e2 (i : Nat) : y1v (knoF f T) i = y1v f i := by
  unfold y1v
  rw [show (lst (knoF f T).code).length = (lst f.code).length from yk7 f T]
  by_cases h : (i : Int) < 0 ∨ ((lst f.code).length : Int) ≤ i
  · rw [if_pos h, if_pos h]
  · rw [if_neg h, if_neg h, Int.toNat_natCast, ykd f T (by omega)]
    rcases yt4 (f := f) (T := T) i with h | ⟨h, c, hc⟩
    · rw [h]
    · obtain ⟨h1, h2, _⟩ := yxo hc
      rw [h]
      simp only [yk8, h1, h2]
      rfl
theorem y117 (i : Nat) (hi : i < (lst f.code).length) : ye (knoF f T) i = ye f i ∨ ye (knoF f T) i = nopI := by
  rw [ykd f T hi]
  exact (yt4 i).imp id And.left
theorem y1om (hf : FnFit f) : FnFit (knoF f T) :=
  ⟨Swap.argsN y117 (y61 f T) ⟨by decide, by decide, by decide⟩ hf.ins, by rw [(y61 f T).len]; exact hf.code, hf.regs, hf.params, hf.rows⟩
theorem y1fc (hx : y1r4 f) : y1r4 (knoF f T) :=
  Swap.argsN (P := fun x => (lst x.args).length ≤ 17592186043904) y117 (y61 f T) (by decide) hx
end
theorem yme {f : Fn} {T : KTab} (v : InvK f (T, [])) {i : Nat} (h : Rch (lst f.code).length (fun i => yv f i ++ y1v f i) [0] i) : kAt T i ≠ none := by
  have hz := v.ok.zero
  simp only at hz
  induction h with
  | base hj j0 j1 =>
    rw [List.mem_singleton] at hj
    subst hj
    rw [show (0 : Int).toNat = 0 from rfl, hz]; simp
  | @step i j h hj j0 j1 ih =>
    obtain ⟨t, ht⟩ := notN ih
    have c := (v.closed i t ht).resolve_left (by simp)
    simp only at c
    rw [List.mem_append] at hj
    rcases hj with hj | hj
    · obtain ⟨u, hu, _⟩ := c.1 j hj
      rw [hu]; simp
    · obtain ⟨u, hu, _⟩ := c.2 j hj
      rw [hu]; simp
theorem yiy {f : Fn} {T : KTab} (v : InvK f (T, [])) {i : Nat} (h : kAt T i ≠ none) {c : Fa} (hc : ofM (ye f i) = some c) (hs : y8b f i c) : y3l f T i = true := by
  obtain ⟨s, hs2⟩ := notN h
  have := (v.ok.rows i s hs2).2.2 c hs
  unfold y3l
  rw [hc, hs2]
  exact decide_eq_true this
end Go.Vm
namespace Go.Vm
open Cel
attribute [local simp] y9 y1x yt
theorem y1r7 (op : Int) (o : Option (List Int)) (hl : (lst o).length ≤ 9223372036854775807) (h : Heap) : ∀ (d i : Nat), i + d = (lst o).length →
    yg2 (.int .i64 op) (slA o) (.int .i64 i) h = some ⟨.bool (decide (op ∈ (lst o).drop i)), [], true, [], []⟩ := by
  intro d
  induction d with
  | zero =>
    intro i hi
    have e1 : (lst o).drop i = [] := List.drop_eq_nil_of_le (by omega)
    have hn : ¬ ((i : Int) < ((lst o).length : Int)) := by omega
    rw [ygt, e1]
    simp [yhn, ygs, ygr, yi2, yhb, yhg, hn]
  | succ d ih =>
    intro i hi
    have hlt : i < (lst o).length := by omega
    have hn : ((i : Int) < ((lst o).length : Int)) := by omega
    have k1 := y8g (o := o) (i := i) (List.getElem?_eq_getElem hlt) .i64
    have hm : op ∈ (lst o).drop i ↔ op = (lst o)[i] ∨ op ∈ (lst o).drop (i + 1) := by rw [List.drop_eq_getElem_cons hlt, List.mem_cons]
    rw [ygt]
    simp only [hm]
    have ih := ih (i + 1) (by omega)
    push_cast at ih
    by_cases he : (lst o)[i] = op
    · simp [yhn, ygs, ygr, yi2, yhb, yhg, hn, k1, he]
    · have he' : ¬ op = (lst o)[i] := fun h => he h.symm
      simp [yhn, ygs, ygr, yi2, yhb, yhg, hn, k1, he, he', y2j hlt hl, ih]
theorem s_in (op : Int) (o : Option (List Int)) (hl : (lst o).length ≤ 9223372036854775807) : (yb E).p 42 [.int .i64 op, slA o] = some ⟨.bool (decide (op ∈ lst o)), [], true, [], []⟩ := by
  have := y1r7 op o hl [] _ 0 (Nat.zero_add _)
  simp only [Int.ofNat_zero, List.drop_zero] at this
  rw [y1zh, ← this]
  simp [yhn, ygs, ygr, yi2, yhb, yhg]
theorem y203 (op a b c : Int) : (yb E).p 42 [.int .i64 op, .rs 1 [[.int .i64 a], [.int .i64 b], [.int .i64 c]]] = some ⟨.bool (decide (op ∈ [a, b, c])), [], true, [], []⟩ :=
  s_in op (some [a, b, c]) (by simp)
theorem y11k (g a b c : Nat) (x y z : Int) (t : Heap) : fz (⟨g, .arr false false 1 [[.int .i64 x], [.int .i64 y], [.int .i64 z]]⟩ :: t) y19 (.ls 0 g 1 0 3) = some ⟨.rs 1 [[.int .i64 x], [.int .i64 y], [.int .i64 z]], true, [0]⟩ := by
  rw [y1ly, ya7]; rfl
@[simp] theorem y24h (op : Int) : (yb E).p 23 [.int .i64 op] = some ⟨.bool (leads op), [], true, [], []⟩ := by
  rw [y23c, y1ec]
  simp [ym, y1d, y11k 1 0 0 0, y203, leads, Bool.or_assoc]
@[simp] theorem y25v (op : Int) : (yb E).p 25 [.int .i64 op] = some ⟨.bool (ends op), [], true, [], []⟩ := by
  rw [y1zc, y19e]
  simp [ym, y1d, y11k 1 0 0 0, y203, ends, Bool.or_assoc]
end Go.Vm
namespace Go.Vm
open Cel
attribute [local simp] y9 y1x yt
end Go.Vm
namespace Go.Vm
open Cel
attribute [local simp] y9 y1x yt
@[simp] theorem y28g (f : Fn) (r : Int) : (yb E).p 48 [.agg (enc f), .int .i64 r] = some ⟨.int .i64 (regK (lst f.regs) r), [], true, [], []⟩ := by
  rw [y21g]
  by_cases h0 : r < 0
  · simp [ymc, yn5, yn4, h0, regK]
  by_cases h1 : ((lst f.regs).length : Int) ≤ r
  · have : (lst f.regs)[r.toNat]? = none := List.getElem?_eq_none (by omega)
    simp [ymc, yn5, yn4, h0, h1, regK, this]
  · have hin : inR (lst f.regs) r = true := by
      have a1 : 0 ≤ r := by omega
      have a2 : r < ((lst f.regs).length : Int) := by omega
      simp [inR, a1, a2]
    obtain ⟨a0, a1, a2⟩ := y19d hin
    have k := yxw (o := f.regs) a0 a2 .i64
    simp [ymc, yn5, yn4, h0, h1, k]
@[simp] theorem y27s (f : Fn) (i : Int) : (yb E).p 49 [.agg (enc f), .int .i64 i] = some ⟨.bool (y1dh (lst f.code).length i), [], true, [], []⟩ := by
  rw [y1zr]
  by_cases h0 : 0 ≤ i <;> simp [y1dl, h0, y1dh]
end Go.Vm
namespace Go.Vm
@[simp] theorem y24t (op : Int) : (yb E).p 7 [.int .i64 op] = some ⟨.bool (calls op), [], true, [], []⟩ := by
  rw [y21k, y1gj]
  by_cases h1 : 23 ≤ op
  · by_cases h2 : op ≤ 26 <;> simp [h1, h2, calls]
  · simp [h1, calls]
end Go.Vm
namespace Go.Vm
open Cel
end Go.Vm
namespace Go.Vm
open Cel
attribute [local simp] y9 y1x yt
end Go.Vm
namespace Go.Vm
open Cel
section
variable {f : Fn} (hc : (lst f.code).length ≤ 30000) {x : Ins} {k : Nat}
include hc
end
end Go.Vm
namespace Go.Vm
noncomputable def y5l (f : Fn) (i : Nat) : Bool := (y88 f).getD i false && !decide ((ye f i).op = 33)
noncomputable def plc (f : Fn) : Nat → Nat
  | 0 => 0
  | k + 1 => plc f k + if y5l f k then 1 else 0
noncomputable def y4c (f : Fn) (x : Ins) : Ins := { x with t := if leads x.op then (plc f x.t.toNat : Int) else 0 }
noncomputable def y1a (f : Fn) : Nat → List Ins
  | 0 => []
  | k + 1 => y1a f k ++ if y5l f k then [y4c f (ye f k)] else []
noncomputable def yj6 (f : Fn) (r : Row) : List Row :=
  if y5l f r.at_.toNat && decide (plc f r.f.toNat < plc f r.t.toNat) then [⟨plc f r.f.toNat, plc f r.t.toNat, plc f r.at_.toNat, r.c⟩] else []
noncomputable def y1y (f : Fn) (k : Nat) : List Row := ((lst f.rows).take k).flatMap (yj6 f)
noncomputable def ydo (f : Fn) : Fn :=
  if wf f then { regs := f.regs, params := f.params, ret := f.ret, code := nz (y1a f (lst f.code).length), rows := nz (y1y f (lst f.rows).length) } else f
theorem y12i (f : Fn) : ∀ k, plc f k ≤ k
  | 0 => Nat.le_refl _
  | k + 1 => by
    have := y12i f k
    rw [plc]
    split <;> omega
theorem yfo (f : Fn) : ∀ k, (y1a f k).length = plc f k
  | 0 => rfl
  | k + 1 => by
    rw [y1a, plc, List.length_append, yfo f k]
    split <;> rfl
theorem y09 (f : Fn) (k : Nat) : (y1y f k).length ≤ k := by
  have : ∀ (l : List Row), (l.flatMap (yj6 f)).length ≤ l.length := by
    intro l
    induction l with
    | nil => simp
    | cons r l ih =>
      rw [List.flatMap_cons, List.length_append, List.length_cons]
      have : (yj6 f r).length ≤ 1 := by unfold yj6; split <;> simp
      omega
  have h := this ((lst f.rows).take k)
  rw [List.length_take] at h
  unfold y1y
  omega
theorem yy6 {f : Fn} {k : Nat} {r : Row} (h : (lst f.rows)[k]? = some r) : y1y f (k + 1) = y1y f k ++ yj6 f r := by
  unfold y1y
  have hk := (List.getElem?_eq_some_iff.1 h).1
  have e : (lst f.rows).take (k + 1) = (lst f.rows).take k ++ [r] := by
    rw [← List.take_append_getElem hk]
    rw [List.getElem?_eq_getElem hk] at h
    injection h with h
    rw [h]
  rw [e, List.flatMap_append]
  simp
noncomputable def kpL (f : Fn) (k : Nat) : List Bool := (List.range (lst f.code).length).map fun j => if j < k then y5l f j else (y88 f).getD j false
theorem y27v (f : Fn) : kpL f 0 = y88 f := by
  refine List.ext_getElem (by simp [kpL, ybt]) fun i h1 h2 => ?_
  simp [kpL, h2]
theorem y1x9 (f : Fn) (k : Nat) : (kpL f k).length = (lst f.code).length := by simp [kpL]
theorem y1uy {f : Fn} {k : Nat} (h : (ye f k).op = 33) : (kpL f k).set k false = kpL f (k + 1) := by
  refine ylj ?_ fun j hj => ?_
  · simp [y5l, h]
  · by_cases h1 : j < k
    · simp [h1, show j < k + 1 by omega]
    · simp [h1, show ¬ j < k + 1 by omega]
theorem y22f {f : Fn} {k : Nat} (h : ¬ (ye f k).op = 33) : kpL f (k + 1) = kpL f k := by
  refine List.map_congr_left fun j _ => ?_
  by_cases e : j = k
  · subst e; simp [y5l, h]
  · by_cases h1 : j < k
    · simp [h1, show j < k + 1 by omega]
    · simp [h1, show ¬ j < k + 1 by omega]
theorem ynb {f : Fn} {j : Nat} (h : j < (lst f.code).length) : (kpL f (lst f.code).length)[j]? = some (y5l f j) := by
  simp [kpL, h]
noncomputable def plcL (f : Fn) (k : Nat) : List Int := (List.range ((lst f.code).length + 1)).map fun j => if j < k then (plc f j : Int) else 0
theorem ysu (f : Fn) (k : Nat) : (plcL f k).length = (lst f.code).length + 1 := by simp [plcL]
theorem y21x (f : Fn) : plcL f 0 = List.replicate ((lst f.code).length + 1) 0 := by
  refine List.ext_getElem (by simp [plcL]) fun i h1 h2 => ?_
  simp [plcL]
theorem yxc (f : Fn) (k : Nat) : (plcL f k).set k (plc f k : Int) = plcL f (k + 1) := by
  refine ylj ?_ fun j hj => ?_
  · simp
  · by_cases h1 : j < k
    · simp [h1, show j < k + 1 by omega]
    · simp [h1, show ¬ j < k + 1 by omega]
theorem yxj {f : Fn} {j : Nat} (h : j ≤ (lst f.code).length) : (plcL f ((lst f.code).length + 1))[j]? = some (plc f j : Int) := by
  have : j < (lst f.code).length + 1 := by omega
  simp [plcL, this]
end Go.Vm
namespace Go.Vm
def gsI (d n : Int) : Ins := ⟨18, d, 0, 0, 0, n, 0, [], none⟩
def cNul : Ins := ⟨8, 0, 1, 0, 0, 0, 0, [], none⟩
def cBnd : Ins := ⟨9, 0, 1, 0, 0, 0, 0, [], none⟩
def cZer : Ins := ⟨7, 0, 0, 0, 0, 0, 0, [], none⟩
def cSiz : Ins := ⟨10, 0, 0, 0, 0, 0, 0, [], none⟩
def rtI : Ins := ⟨30, 0, -1, 0, 0, 0, 0, [], none⟩
def IsC (x : Ins) : Prop := x = cNul ∨ x = cBnd ∨ x = cZer ∨ x = cSiz
def onC (x : Ins) (n m : Nat) : List Ins := List.replicate n x ++ ([gsI 0 0, gsI 1 2] ++ (List.replicate m x ++ [rtI]))
def onF (x : Ins) (n m : Nat) : Fn := ⟨some [1, 3], some [0, 1], 0, some (onC x n m), none⟩
theorem y8k (x : Ins) (n m : Nat) : (onC x n m).length = n + m + 3 := by
  simp [onC]; omega
theorem ycn (x : Ins) (n m i : Nat) (h : i < n + m + 3) : ye (onF x n m) i = if i < n then x else if i = n then gsI 0 0 else if i = n + 1 then gsI 1 2 else if i < n + 2 + m then x else rtI := by
  rw [ye, List.getD_eq_getElem?_getD]
  show ((onC x n m)[i]?).getD default = _
  unfold onC
  by_cases h1 : i < n
  · rw [if_pos h1, List.getElem?_append_left (by simpa using h1), List.getElem?_replicate, if_pos h1]; rfl
  · rw [if_neg h1, List.getElem?_append_right (by simpa using h1), List.length_replicate]
    by_cases h2 : i = n
    · rw [if_pos h2, h2, Nat.sub_self]; rfl
    · rw [if_neg h2]
      by_cases h3 : i = n + 1
      · rw [if_pos h3, h3, Nat.add_sub_cancel_left]; rfl
      · rw [if_neg h3, List.getElem?_append_right (by simp; omega)]
        by_cases h4 : i < n + 2 + m
        · rw [if_pos h4, List.getElem?_append_left (by simp; omega), List.getElem?_replicate, if_pos (by simp; omega)]; rfl
        · rw [if_neg h4, List.getElem?_append_right (by simp; omega)]
          have : i - n - [gsI 0 0, gsI 1 2].length - (List.replicate m x).length = 0 := by simp; omega
          rw [this]; rfl
theorem y210 (x : Ins) (n m i : Nat) (h : i < n + m + 3) : ye (onF x n m) i = x ∨ ye (onF x n m) i = gsI 0 0 ∨ ye (onF x n m) i = gsI 1 2 ∨ ye (onF x n m) i = rtI := by
  rw [ycn x n m i h]
  split
  · exact .inl rfl
  · split
    · exact .inr (.inl rfl)
    · split
      · exact .inr (.inr (.inl rfl))
      · split
        · exact .inl rfl
        · exact .inr (.inr (.inr rfl))
section
variable {x : Ins} (hx : IsC x) {n m : Nat} (hn : 1 ≤ n) (hm : 1 ≤ m) (hn2 : n ≤ 30) (hm2 : m ≤ 30)
include hx
theorem y8y : ends x.op = false ∧ leads x.op = false ∧ x.op ≠ 32 ∧ x.op ≠ 33 ∧ x.n = 0 ∧ x.s = [] ∧ x.args = none := by
  rcases hx with rfl | rfl | rfl | rfl <;> exact ⟨rfl, rfl, by decide, by decide, rfl, rfl, rfl⟩
theorem y1zm {i : Nat} (h : i < n + m + 2) : ends (ye (onF x n m) i).op = false ∧ leads (ye (onF x n m) i).op = false := by
  obtain ⟨h1, h2, _⟩ := y8y hx
  rw [ycn x n m i (by omega)]
  split
  · exact ⟨h1, h2⟩
  · split
    · exact ⟨rfl, rfl⟩
    · split
      · exact ⟨rfl, rfl⟩
      · rw [if_pos (by omega)]
        exact ⟨h1, h2⟩
theorem yu4 {y : Ins} (h : y ∈ lst (onF x n m).code) : y = x ∨ y = gsI 0 0 ∨ y = gsI 1 2 ∨ y = rtI := by
  have h' : y ∈ onC x n m := h
  unfold onC at h'
  simp only [List.mem_append, List.mem_replicate, List.mem_cons, List.not_mem_nil, or_false] at h'
  rcases h' with h | (h | h) | h | h
  · exact .inl h.2
  · exact .inr (.inl h)
  · exact .inr (.inr (.inl h))
  · exact .inl h.2
  · exact .inr (.inr (.inr h))
theorem y26f (hn : 1 ≤ n) (hn2 : n ≤ 30) (hm2 : m ≤ 30) : wf (onF x n m) = true := by
  have hl : (lst (onF x n m).code).length = n + m + 3 := y8k x n m
  have hlast : ye (onF x n m) (n + m + 2) = rtI := by
    rw [ycn x n m _ (by omega), if_neg (by omega), if_neg (by omega), if_neg (by omega), if_neg (by omega)]
  unfold wf
  simp only [Bool.and_eq_true, decide_eq_true_eq]
  refine ⟨⟨⟨⟨⟨⟨⟨⟨⟨by omega, by omega⟩, by show 2 ≤ 20000; decide⟩, by show (0 : Int) ≤ 0; decide⟩, by show (0 : Int) ≤ 3; decide⟩, ?_⟩, rfl⟩, rfl⟩, yei _ 0 fun k y hy => ?_⟩, rfl⟩
  · rw [hl]
    show ends (ye (onF x n m) (n + m + 3 - 1)).op = true
    rw [show n + m + 3 - 1 = n + m + 2 by omega, hlast]
    rfl
  · have hmem := yu4 hx (List.mem_of_getElem? hy)
    obtain ⟨_, hlx, h32, _⟩ := y8y hx
    constructor
    · rcases hmem with rfl | rfl | rfl | rfl
      · rcases hx with rfl | rfl | rfl | rfl <;> rfl
      · rfl
      · rfl
      · rfl
    · have key : leads y.op = false ∧ y.op ≠ 32 := by
        rcases hmem with rfl | rfl | rfl | rfl
        · exact ⟨hlx, h32⟩
        · exact ⟨rfl, by decide⟩
        · exact ⟨rfl, by decide⟩
        · exact ⟨rfl, by decide⟩
      unfold y47
      rw [key.1, decide_eq_false key.2]
      rfl
theorem y1si {i : Nat} (h0 : 0 < i) (h : i ≤ n + m + 2) : ycq (onF x n m) i = false := by
  have hh : ¬ ycq (onF x n m) i = true := by
    rw [ybh]
    rintro (h1 | h1 | ⟨y, h1, h2, _⟩ | ⟨r, h1, _⟩)
    · omega
    · obtain ⟨a, b⟩ := y1zm hx (n := n) (m := m) (i := i - 1) (by omega)
      rw [a, b] at h1
      cases h1
    · rcases yu4 hx h1 with rfl | rfl | rfl | rfl
      · rw [(y8y hx).2.1] at h2; cases h2
      · cases h2
      · cases h2
      · cases h2
    · cases h1
  simpa using hh
theorem yjy {i : Nat} (h : i < n + m + 2) : y1v (onF x n m) i = [(i : Int) + 1] := by
  obtain ⟨a, b⟩ := y1zm hx h
  have hl : (lst (onF x n m).code).length = n + m + 3 := y8k x n m
  rw [y1v, hl, if_neg (by omega), show ((i : Int)).toNat = i by omega, yk8, a, b]
  rfl
theorem ywl : ∀ {i : Nat}, i < n + m + 3 → Rch (lst (onF x n m).code).length (fun i => yv (onF x n m) i ++ y1v (onF x n m) i) [0] i
  | 0, _ => .base (j := 0) (by simp) (by decide) (by rw [show (lst (onF x n m).code).length = n + m + 3 from y8k x n m]; omega)
  | i + 1, h => by
    have r := ywl (i := i) (by omega)
    have := Rch.step (j := (i : Int) + 1) r (by rw [List.mem_append, yjy hx (by omega)]; right; simp) (by omega) (by rw [show (lst (onF x n m).code).length = n + m + 3 from y8k x n m]; omega)
    rwa [show ((i : Int) + 1).toNat = i + 1 by omega] at this
variable {T : KTab} (v : InvK (onF x n m) (T, []))
include v hn hm
theorem y1sc {i : Nat} (hi : i < n + m + 3) : y3l (onF x n m) T i = (decide (0 < i) && decide (i ≠ n) && decide (i ≠ n + 1) && decide (i ≠ n + 2) && decide (i ≠ n + m + 2)) := by
  obtain ⟨c, hc⟩ : ∃ c, ofM x = some c := by rcases hx with rfl | rfl | rfl | rfl <;> exact ⟨_, rfl⟩
  have hz := v.ok.zero
  simp only at hz
  have at_ := ycn x n m i hi
  have said : ∀ {k : Nat}, k < n + m + 3 → kAt T k ≠ none := fun h => yme v (ywl hx h)
  have sure : ∀ {k : Nat}, k + 1 < n + m + 3 → ye (onF x n m) k = x → y8b (onF x n m) (k + 1) c := fun h e => ⟨y1si hx (by omega) (by omega), .inl (by rw [e]; exact hc)⟩
  by_cases h0 : i = 0
  · subst h0
    have : y3l (onF x n m) T 0 = false := by
      unfold y3l
      rw [hz]
      cases ofM (ye (onF x n m) 0) <;> rfl
    rw [this]; rfl
  by_cases h1 : i < n
  · rw [if_pos h1] at at_
    have e1 : ye (onF x n m) (i - 1) = x := by rw [ycn x n m _ (by omega), if_pos (by omega)]
    have := sure (k := i - 1) (by omega) e1
    rw [show i - 1 + 1 = i by omega] at this
    rw [yiy v (said hi) (by rw [at_]; exact hc) this, decide_eq_true (show 0 < i by omega), decide_eq_true (show i ≠ n by omega), decide_eq_true (show i ≠ n + 1 by omega), decide_eq_true (show i ≠ n + 2 by omega), decide_eq_true (show i ≠ n + m + 2 by omega)]
    rfl
  rw [if_neg h1] at at_
  by_cases h2 : i = n
  · rw [if_pos h2] at at_
    rw [decide_eq_false (show ¬ i ≠ n from fun h => h h2), Bool.and_false]
    unfold y3l; rw [at_]; rfl
  rw [if_neg h2] at at_
  by_cases h3 : i = n + 1
  · rw [if_pos h3] at at_
    rw [decide_eq_false (show ¬ i ≠ n + 1 from fun h => h h3), Bool.and_false]
    unfold y3l; rw [at_]; rfl
  rw [if_neg h3] at at_
  by_cases h4 : i = n + 2
  · rw [if_pos (by omega)] at at_
    rw [decide_eq_false (show ¬ i ≠ n + 2 from fun h => h h4), Bool.and_false]
    subst h4
    obtain ⟨t0, ht0⟩ := notN (said (k := n) (by omega))
    obtain ⟨t1, ht1⟩ := notN (said (k := n + 1) (by omega))
    obtain ⟨t2, ht2⟩ := notN (said (k := n + 2) hi)
    have i0 : ye (onF x n m) n = gsI 0 0 := by rw [ycn x n m _ (by omega), if_neg (by omega), if_pos rfl]
    have i1 : ye (onF x n m) (n + 1) = gsI 1 2 := by rw [ycn x n m _ (by omega), if_neg (by omega), if_neg (by omega), if_pos rfl]
    have c0 := ((v.closed n t0 ht0).resolve_left (by simp)).2 ((n : Int) + 1) (by rw [yjy hx (by omega)]; simp)
    have c1 := ((v.closed (n + 1) t1 ht1).resolve_left (by simp)).2 (((n + 1 : Nat) : Int) + 1) (by rw [yjy hx (by omega)]; simp)
    obtain ⟨u1, hu1, s1⟩ := c0
    obtain ⟨u2, hu2, s2⟩ := c1
    rw [show ((n : Int) + 1).toNat = n + 1 by omega] at hu1
    rw [show (((n + 1 : Nat) : Int) + 1).toNat = n + 2 by omega] at hu2
    simp only at hu1 hu2
    rw [ht1] at hu1
    rw [ht2] at hu2
    injection hu1 with hu1
    injection hu2 with hu2
    subst hu1
    subst hu2
    rw [i0] at s1
    rw [i1] at s2
    have b0 : behK t0 (gsI 0 0) = t0.filter fun c => !hitF 0 c := rfl
    have b1 : behK t1 (gsI 1 2) = t1.filter fun c => !hitF 1 c := rfl
    have hnot : c ∉ t2 := fun hm2 => by
      have q1 := s2 c hm2
      rw [b1, List.mem_filter] at q1
      have q2 := s1 c q1.1
      rw [b0, List.mem_filter] at q2
      have r1 := q1.2
      have r2 := q2.2
      rcases hx with rfl | rfl | rfl | rfl <;> (injection hc with hc; subst hc; first | (exact absurd r1 (by decide)) | exact absurd r2 (by decide))
    have : y3l (onF x n m) T (n + 2) = false := by
      unfold y3l
      rw [at_, hc, ht2]
      exact decide_eq_false hnot
    rw [this]; rfl
  by_cases h5 : i < n + 2 + m
  · rw [if_pos h5] at at_
    have e1 : ye (onF x n m) (i - 1) = x := by rw [ycn x n m _ (by omega), if_neg (by omega), if_neg (by omega), if_neg (by omega), if_pos (by omega)]
    have := sure (k := i - 1) (by omega) e1
    rw [show i - 1 + 1 = i by omega] at this
    rw [yiy v (said hi) (by rw [at_]; exact hc) this, decide_eq_true (show 0 < i by omega), decide_eq_true h2, decide_eq_true h3, decide_eq_true h4, decide_eq_true (show i ≠ n + m + 2 by omega)]
    rfl
  · rw [if_neg h5] at at_
    rw [decide_eq_false (show ¬ i ≠ n + m + 2 by omega), Bool.and_false]
    unfold y3l; rw [at_]; rfl
theorem y1xx {i : Nat} (hi : i < n + m + 3) : y5l (knoF (onF x n m) T) i = decide (i = 0 ∨ i = n ∨ i = n + 1 ∨ i = n + 2 ∨ i = n + m + 2) := by
  have hl : (lst (onF x n m).code).length = n + m + 3 := y8k x n m
  have hlk : (lst (knoF (onF x n m) T).code).length = n + m + 3 := (yk7 _ _).trans hl
  have rr : ∀ {i : Nat}, i < n + m + 3 → Rch (lst (knoF (onF x n m) T).code).length (ycy (knoF (onF x n m) T)) [0] i := by
    intro i
    induction i with
    | zero => exact fun _ => .base (j := 0) (by simp) (by decide) (by rw [hlk]; omega)
    | succ i ih =>
      intro h
      have r := ih (by omega)
      have := Rch.step (j := (i : Int) + 1) r (by unfold ycy; rw [List.mem_append, y1e2, yjy hx (by omega)]; left; simp) (by omega) (by rw [hlk]; omega)
      rwa [show ((i : Int) + 1).toNat = i + 1 by omega] at this
  have h1 := (yi4 (knoF (onF x n m) T) i).2 (rr hi)
  have h2 : (y88 (knoF (onF x n m) T)).getD i false = true := by rw [List.getD_eq_getElem?_getD, h1]; rfl
  rw [y5l, h2, Bool.true_and, ykd _ _ (by omega), knoI, y1sc hx hn hm v hi]
  have h33 : (ye (onF x n m) i).op ≠ 33 := by
    rcases y210 x n m i hi with e | e | e | e <;> rw [e]
    · exact (y8y hx).2.2.2.1
    · decide
    · decide
    · decide
  by_cases hk : i = 0 ∨ i = n ∨ i = n + 1 ∨ i = n + 2 ∨ i = n + m + 2
  · rw [decide_eq_true hk]
    have e : (decide (0 < i) && decide (i ≠ n) && decide (i ≠ n + 1) && decide (i ≠ n + 2) && decide (i ≠ n + m + 2)) = false := by
      rw [← Bool.not_eq_true]
      simp only [Bool.and_eq_true, decide_eq_true_eq]
      omega
    rw [e]
    simp [h33]
  · rw [decide_eq_false hk]
    have e : (decide (0 < i) && decide (i ≠ n) && decide (i ≠ n + 1) && decide (i ≠ n + 2) && decide (i ≠ n + m + 2)) = true := by
      simp only [Bool.and_eq_true, decide_eq_true_eq]
      omega
    rw [e]
    rfl
theorem y1qm : ∀ k, k ≤ n + m + 3 → plc (knoF (onF x n m) T) k = (if k = 0 then 0 else if k ≤ n then 1 else if k = n + 1 then 2 else if k = n + 2 then 3 else if k ≤ n + m + 2 then 4 else 5)
  | 0, _ => rfl
  | k + 1, h => by
    rw [plc, y1qm k (by omega), y1xx hx hn hm v (by omega)]
    by_cases h0 : k = 0
    · rw [if_pos h0, decide_eq_true (.inl h0), if_pos rfl, if_neg (by omega), if_pos (by omega)]
    rw [if_neg h0, if_neg (show ¬ k + 1 = 0 by omega)]
    by_cases h1 : k < n
    · rw [if_pos (by omega), decide_eq_false (by omega), if_neg (by simp), if_pos (by omega)]
    by_cases h2 : k = n
    · rw [if_pos (by omega), decide_eq_true (.inr (.inl h2)), if_pos rfl, if_neg (by omega), if_pos (by omega)]
    rw [if_neg (show ¬ k ≤ n by omega), if_neg (show ¬ k + 1 ≤ n by omega), if_neg (show ¬ k + 1 = n + 1 by omega)]
    by_cases h3 : k = n + 1
    · rw [if_pos h3, decide_eq_true (.inr (.inr (.inl h3))), if_pos rfl, if_pos (by omega)]
    rw [if_neg h3, if_neg (show ¬ k + 1 = n + 2 by omega)]
    by_cases h4 : k = n + 2
    · rw [if_pos h4, decide_eq_true (.inr (.inr (.inr (.inl h4)))), if_pos rfl, if_pos (by omega)]
    rw [if_neg h4]
    by_cases h5 : k = n + m + 2
    · rw [if_pos (by omega), decide_eq_true (.inr (.inr (.inr (.inr h5)))), if_pos rfl, if_neg (by omega)]
    · rw [if_pos (by omega), decide_eq_false (by omega), if_neg (by simp), if_pos (by omega)]
end
theorem y1wk {x : Ins} (hx : IsC x) {n m : Nat} (hn : n ≤ 30) (hm : m ≤ 30) : FnFit (onF x n m) ∧ FnSm (onF x n m) := by
  have e38 : (2:Nat)^38 = 274877906944 := by decide
  have hq : ∀ y ∈ lst (onF x n m).code, (y.n = 0 ∨ y.n = 2) ∧ y.s = [] ∧ y.args = none := fun y hy => by
    obtain ⟨_, _, _, _, h1, h2, h3⟩ := y8y hx
    rcases yu4 hx hy with rfl | rfl | rfl | rfl
    · exact ⟨.inl h1, h2, h3⟩
    · exact ⟨.inl rfl, rfl, rfl⟩
    · exact ⟨.inr rfl, rfl, rfl⟩
    · exact ⟨.inl rfl, rfl, rfl⟩
  have hl : (lst (onF x n m).code).length = n + m + 3 := y8k x n m
  have hr : (lst (onF x n m).regs).length = 2 := rfl
  have hp : (lst (onF x n m).params).length = 2 := rfl
  have hrr : (lst (onF x n m).rows).length = 0 := rfl
  refine ⟨⟨fun y h => ?_, by omega, by omega, by omega, by omega⟩, ⟨by omega, by omega, by omega, by omega, fun y h => ?_⟩⟩
  · obtain ⟨h1, h2, h3⟩ := hq y h
    refine ⟨by omega, by rw [h2]; exact Nat.zero_le _, by rw [h3]; exact Nat.zero_le _⟩
  · rw [(hq y h).2.2]; exact Nat.zero_le _
theorem y1or {x : Ins} (hx : IsC x) {n m : Nat} {T : KTab} : ∀ y ∈ lst (knoF (onF x n m) T).code, y.args = none := by
  intro y hy
  have hy' : y ∈ knoL (onF x n m) T := hy
  unfold knoL at hy'
  obtain ⟨i, hi, rfl⟩ := List.mem_map.1 hy'
  rw [List.mem_range] at hi
  rcases yt4 (f := onF x n m) (T := T) i with h | ⟨h, _⟩
  · rw [h]
    rcases yu4 hx (List.mem_of_getElem? (y3e hi)) with e | e | e | e <;> rw [e]
    · exact (y8y hx).2.2.2.2.2.2
    · rfl
    · rfl
    · rfl
  · rw [h]; rfl
end Go.Vm
namespace Go.Vm
open Cel
attribute [local simp] y9 y1x yt
theorem yzc (f : Fn) (hc : (lst f.code).length ≤ 9223372036854775807) (hr : (lst f.rows).length ≤ 274877906944) : ∀ (k : Nat) (seen : List Bool) (op T : List Int) (g : Nat) (o3 o4 : AO) (r : List Bool), seen.length = (lst f.code).length →
    unseen seen * ((lst f.rows).length + 3) + op.length ≤ 137438953472 → dfs (lst f.code).length (ycy f) k seen op = some r →
    ygn (.lp 0 1 0 0) (.ls 1 1 1 0 (lst f.code).length) (.ls 2 g 1 0 op.length) [⟨1, .arr true false 5 [enc f]⟩, ⟨1, .arr false false 1 (seen.map enc)⟩, ⟨g, .arr false false 1 ((op ++ T).map enc)⟩, o3, o4] = some (exO (some r)) := by
  intro k
  induction k with
  | zero => intro seen op T g o3 o4 r _ _ h; cases h
  | succ k ih =>
    intro seen op T g o3 o4 r hl hm h
    rw [dfs] at h
    rw [y1eg]
    cases hop : op.getLast? with
    | none =>
      rw [hop] at h
      injection h with h
      subst h
      rw [List.getLast?_eq_none_iff] at hop
      subst hop
      simp [y1de, y1t1]
      rw [← hl]
      exact y5g (α := Bool) (by simp)
    | some i =>
      rw [hop] at h
      simp only at h
      have e := y4b hop
      generalize op.dropLast = L at *
      subst e
      simp only [List.length_append, List.length_singleton] at hm
      have hlen : ((L ++ [i]).length : Int) = (L.length : Int) + 1 := by simp
      have hp : (0 : Int) < (L.length : Int) + 1 := by omega
      have hw : IntKind.wrap .i64 ((L.length : Int) + 1 - 1) = (L.length : Int) := by rw [y22] <;> omega
      have s1 := y1pl 2 g L.length
      have s2 := y14n 2 g L.length
      have s3 : evLd false 1 (.lp 2 g L.length 0) [⟨1, .arr true false 5 [enc f]⟩, ⟨1, .arr false false 1 (seen.map enc)⟩, ⟨g, .arr false false 1 ((L ++ [i] ++ T).map enc)⟩, o3, o4] = some (.int .i64 i) :=
        y21p (T := T) (by simp)
      have e8 : y1de (.lp 0 1 0 0) (.ls 1 1 1 0 (lst f.code).length) (.ls 2 g 1 0 (L ++ [i]).length) [⟨1, .arr true false 5 [enc f]⟩, ⟨1, .arr false false 1 (seen.map enc)⟩, ⟨g, .arr false false 1 ((L ++ [i] ++ T).map enc)⟩, o3, o4] =
          ymw (.lp 0 1 0 0) (.ls 1 1 1 0 (lst f.code).length) (.ls 2 g 1 0 L.length) (.int .i64 i) [⟨1, .arr true false 5 [enc f]⟩, ⟨1, .arr false false 1 (seen.map enc)⟩, ⟨g, .arr false false 1 ((L ++ (i :: T)).map enc)⟩, o3, o4] := by
        simp only [y1de, y1ta, y1xh, List.length_append, List.length_singleton, y53, y4, Int.natCast_add, Int.natCast_one, yaw, hp, decide_true, y1h, ymi, hw, s1, s2, s3]
        simp
      rw [e8]
      have skip := fun h => ih seen L (i :: T) g o3 o4 r hl (by omega) h
      by_cases h0 : i < 0
      · rw [if_pos (.inl h0)] at h
        simpa [ymw, h0] using skip h
      by_cases h1 : ((lst f.code).length : Int) ≤ i
      · rw [if_pos (.inr (.inl h1))] at h
        simpa [ymw, h0, h1] using skip h
      have g0 : 0 ≤ i := by omega
      have g1 : i < ((lst f.code).length : Int) := by omega
      have hi : i.toNat < seen.length := by omega
      have r1 : yu 1 (.ls 1 1 1 0 (lst f.code).length) (.int .i64 i) = some (.lp 1 1 i.toNat 0) := by simp [yu, g0, g1]
      cases hs : seen[i.toNat] with
      | true =>
        have hsg : seen.getD i.toNat true = true := by rw [List.getD_eq_getElem?_getD, List.getElem?_eq_getElem hi, hs]; rfl
        rw [if_pos (.inr (.inr hsg))] at h
        simpa [ymw, h0, h1, r1, hi, hs] using skip h
      | false =>
        have hsg : ¬ (i < 0 ∨ ((lst f.code).length : Int) ≤ i ∨ seen.getD i.toNat true = true) := by
          rw [List.getD_eq_getElem?_getD, List.getElem?_eq_getElem hi, hs]
          simp [h0, h1]
        rw [if_neg hsg] at h
        have hu := yit hi hs
        have hS := yl8 f i.toNat
        have hn2 := ydp f i
        have hN := y1qi f i hc
        have hC := yx1 f i (by omega)
        have ei : ((i.toNat : Nat) : Int) = i := by omega
        have hSe : ycy f i.toNat = y1v f i ++ yv f i := by rw [ycy, ei]
        rw [hSe] at h hS
        rw [List.length_append] at hS
        rw [← hu, Nat.add_mul] at hm
        have b1 := ye5 (a := L.length) (b := (y1v f i).length) (by omega)
        have b2 := ye5 (a := (L ++ y1v f i).length) (b := (yv f i).length) (by rw [List.length_append]; omega)
        have a1 := yk2 (α := Int) (H := [⟨1, .arr true false 5 [enc f]⟩, ⟨1, .arr false false 1 ((seen.set i.toNat true).map enc)⟩, ⟨g, .arr false false 1 ((L ++ (i :: T)).map enc)⟩, o3, o4]) (fb := 0) (sl := some 3) (id := 2) (g := g) (y := slA (nz (y1v f i))) (L := L) (M := y1v f i) (T := i :: T) (by simp) rfl b1
        have a2 := yk2 (α := Int) (H := [⟨1, .arr true false 5 [enc f]⟩, ⟨1, .arr false false 1 ((seen.set i.toNat true).map enc)⟩, ⟨g + 1, .arr false false 1 ((L ++ y1v f i).map enc)⟩, o3, o4]) (fb := 0) (sl := some 4) (id := 2) (g := g + 1) (y := slA (nz (yv f i))) (L := L ++ y1v f i) (M := yv f i) (T := []) (by simp) (by simp) b2
        have := ih (seen.set i.toNat true) (L ++ y1v f i ++ yv f i) [] (g + 1 + 1) o3 o4 r (by simpa using hl) (by simp only [List.length_append]; omega) (by rw [List.append_assoc]; exact h)
        simp only [List.append_nil] at this
        simp only [yuj, List.set_cons_succ, List.set_cons_zero] at a1 a2
        have e4 : ymw (.lp 0 1 0 0) (.ls 1 1 1 0 (lst f.code).length) (.ls 2 g 1 0 L.length) (.int .i64 i) [⟨1, .arr true false 5 [enc f]⟩, ⟨1, .arr false false 1 (seen.map enc)⟩, ⟨g, .arr false false 1 ((L ++ (i :: T)).map enc)⟩, o3, o4] =
            y1is (.lp 0 1 0 0) (.ls 1 1 1 0 (lst f.code).length) (.ls 2 g 1 0 L.length) (.int .i64 i) [⟨1, .arr true false 5 [enc f]⟩, ⟨1, .arr false false 1 (seen.map enc)⟩, ⟨g, .arr false false 1 ((L ++ (i :: T)).map enc)⟩, o3, o4] := by
          simp [ymw, h0, h1, r1, hi, hs]
        rw [e4]
        have st : evSt 1 (.lp 1 1 i.toNat 0) (.bool true) [⟨1, .arr true false 5 [enc f]⟩, ⟨1, .arr false false 1 (seen.map enc)⟩, ⟨g, .arr false false 1 ((L ++ (i :: T)).map enc)⟩, o3, o4] =
            some (.tup [], [⟨1, .arr true false 5 [enc f]⟩, ⟨1, .arr false false 1 ((seen.set i.toNat true).map enc)⟩, ⟨g, .arr false false 1 ((L ++ (i :: T)).map enc)⟩, o3, o4]) := by
          exact yeb (α := Bool) (v := .bool true) (y := true) rfl hi rfl
        have l1 : ∀ t : Heap, evLd true 5 (.lp 0 1 0 0) (⟨1, .arr true false 5 [enc f]⟩ :: t) = some (.agg (enc f)) := fun t => by simp
        have c1 : ∀ h : Heap, y9 E (yb E) 0 none true 81 [.agg (enc f), .int .i64 i] h = some (slA (nz (y1v f i)), h) := fun h => by simp [hN]
        have c2 : ∀ h : Heap, y9 E (yb E) 0 none true 79 [.agg (enc f), .int .i64 i] h = some (slA (nz (yv f i)), h) := fun h => by simp [hC]
        simp only [y1is, r1, y4, st, y8, l1, c1, a1, c2, a2, this]
theorem y1wd (f : Fn) (hc : (lst f.code).length ≤ 30000) (hr : (lst f.rows).length ≤ 1000000) : (yb E).p 101 [.agg (enc f)] = some (exO (some (y88 f))) := by
  rw [y25m]
  have hm : unseen (List.replicate (lst f.code).length false) * ((lst f.rows).length + 3) + [(0 : Int)].length < 30000 * 1000003 + 2 := by
    have h1 : unseen (List.replicate (lst f.code).length false) ≤ 30000 := by
      unfold unseen
      exact Nat.le_trans List.countP_le_length (by simpa using hc)
    have := Nat.mul_le_mul h1 (show (lst f.rows).length + 3 ≤ 1000003 by omega)
    simp only [List.length_singleton]
    omega
  obtain ⟨r, h⟩ := yjh (n := (lst f.code).length) (S := ycy f) (B := (lst f.rows).length + 2) (fun i _ => yl8 f i) _ (List.replicate (lst f.code).length false) [0] (by simp) hm
  obtain ⟨h1, h2⟩ := yk4 _ _ _ r DfsI.start h
  have e := y1b7 h1 h2
  subst e
  have := yzc f (by omega) (by omega) _ _ [0] [] 1 D0 D0 _ (by simp) (by omega) h
  have b1 : ((lst f.code).length : Int) ≤ 140737488355328 := by omega
  have b2 : ((lst f.code).length : Int) ≤ 4611686018427387904 := by omega
  simp only [List.map_replicate, List.append_nil] at this
  simp [y1cq, y15f, y1a9, mkSC, b1, b2, ym, y1d]
  exact this
end Go.Vm
