/- The document's answers for single operations. The document's answers for names and types: the program's own. The document's answer whether a call, an instruction is well formed. The document's answer whether an instruction is well formed. The document's answer whether an instruction is well formed, whole. The document's answer for an instruction is the program's. The document's answer whether a function is well formed: the program's own. What a function that is handed in is fit for, for a check. The pass 'dead' as laws see it. Chapter 16's anchor. A function trimmed, in plain words. A row of sums, and what the pass 'dead' leaves of it. flow.Reach: which places can be reached. Where blocks begin, in plain words. -/
import Derived.Test.YtgbajicpokolcaaCX
import Derived.Test.YtgbajicpokolcaaCTd
set_option linter.unusedSimpArgs false
set_option linter.unusedVariables false
set_option linter.unusedSectionVars false
namespace Go.Vm
open Cel
attribute [local simp] y6 y1n yj
@[simp] theorem y2eg (f : Fn) (r : Int) : (y8 E).p 48 [.agg (enc f), .int .i64 r] = some ⟨.int .i64 (regK (lst f.regs) r), [], true, [], []⟩ := by
  rw [y23y]
  by_cases h0 : r < 0
  · simp [ylx, ymg, ym1, h0, regK]
  by_cases h1 : ((lst f.regs).length : Int) ≤ r
  · have : (lst f.regs)[r.toNat]? = none := List.getElem?_eq_none (by omega)
    simp [ylx, ymg, ym1, h0, h1, regK, this]
  · have hin : inR (lst f.regs) r = true := by
      have a1 : 0 ≤ r := by omega
      have a2 : r < ((lst f.regs).length : Int) := by omega
      simp [inR, a1, a2]
    obtain ⟨a0, a1, a2⟩ := y1dd hin
    have k := yt0 (o := f.regs) a0 a2 .i64
    simp [ylx, ymg, ym1, h0, h1, k]
@[simp] theorem y2bx (f : Fn) (i : Int) : (y8 E).p 49 [.agg (enc f), .int .i64 i] = some ⟨.bool (y1h6 (lst f.code).length i), [], true, [], []⟩ := by
  rw [y23x]
  by_cases h0 : 0 ≤ i <;> simp [y17e, h0, y1h6]
end Go.Vm
namespace Go.Vm
open Cel
attribute [local simp] y6 y1n yj
def mayB : List UInt8 := [97, 98, 99, 100, 101, 102, 103, 104, 105, 106, 107, 108, 109, 110, 111, 112, 113, 114, 115, 116, 117, 118, 119, 120, 121, 122, 65, 66, 67, 68, 69, 70, 71, 72, 73, 74, 75, 76, 77, 78, 79, 80, 81, 82, 83, 84, 85, 86, 87, 88, 89, 90, 48, 49, 50, 51, 52, 53, 54, 55, 56, 57, 95, 36, 47]
theorem y26f : ((List.range 256).all fun n => mayB.contains (UInt8.ofNat n) == okB (UInt8.ofNat n)) = true := by kernel_rfl
theorem y275 (c : UInt8) : mayB.contains c = okB c := by
  have := yny y26f c.toNat c.toNat_lt
  rw [UInt8.ofNat_toNat] at this
  exact eq_of_beq this
@[simp] theorem y2df : E.pure 53 = true := rfl
theorem y2b7 (s : List UInt8) (c : UInt8) : (y8 E).p 53 [.str s, .str [c]] = some ⟨.bool (s.contains c), [], true, [], []⟩ := by
  rw [yix, y54, show E.fn 53 = none by kernel_rfl]
  rfl
theorem y113 (s : List UInt8) (hs : s.length ≤ 9223372036854775807) (h : Heap) : ∀ (d i : Nat), i + d = s.length →
    ybt (.str s) (.str mayB) (.int .i64 i) h = if (s.drop i).all okB then yft (.str s) h else some ⟨.bool false, [], true, [], []⟩ := by
  intro d
  induction d with
  | zero =>
    intro i hi
    have e1 : s.drop i = [] := List.drop_eq_nil_of_le (by omega)
    have hc : ¬ ((i : Int) < (s.length : Int)) := by omega
    rw [yj5, e1]
    simp [yms, hc]
  | succ d ih =>
    intro i hi
    have hlt : i < s.length := by omega
    have hc : ((i : Int) < (s.length : Int)) := by omega
    have ih := ih (i + 1) (by omega)
    push_cast at ih
    have e1 : (s.drop i).all okB = (okB s[i] && (s.drop (i + 1)).all okB) := by rw [List.drop_eq_getElem_cons hlt, List.all_cons]
    have hsl : yn5 (.str s) (some (.int .i64 (i : Int))) (some (.int .i64 ((i : Int) + 1))) = some (.str [s[i]]) := by
      have a1 : ((0 : Int) ≤ (i : Int) + 1 ∧ (i : Int) + 1 ≤ (s.length : Int)) := by omega
      have a2 : ((0 : Int) ≤ (i : Int) ∧ (i : Int) ≤ (((i : Int) + 1).toNat : Int)) := by omega
      simp only [yn5, y9h, yl0, if_pos a1, if_pos a2]
      have e2 : ((i : Int) + 1).toNat = i + 1 := by omega
      rw [e2, Int.toNat_natCast, List.drop_take, show i + 1 - i = 1 by omega, List.drop_eq_getElem_cons hlt]
      rfl
    have hm := y2b7 mayB s[i]
    rw [y275] at hm
    rw [yj5, e1]
    simp only [yms, yb4, y9, yi, hc, decide_true, y23]
    cases hb : okB s[i] with
    | true =>
      rw [hb] at hm
      simp [ym8, y1j hlt hs, hsl, hm, yz8, ih]
    | false =>
      rw [hb] at hm
      simp [ym8, y1j hlt hs, hsl, hm]
@[simp] theorem y2d0 (s : List UInt8) (hs : s.length ≤ 9223372036854775807) : (y8 E).p 69 [.str s, .bool false] = some ⟨.bool (yb3 s), [], true, [], []⟩ := by
  have h0 := y113 s hs [] _ 0 (Nat.zero_add _)
  simp only [Int.ofNat_zero, List.drop_zero] at h0
  rw [y27u]
  have e : yjz (.str s) (.bool false) [] = ybt (.str s) (.str mayB) (.int .i64 0) [] := by simp [yft, yz8, ym8, yms, yvp, y1f5, yo9, yjz]; rfl
  rw [e, h0, yb3]
  cases hal : s.all okB with
  | false => simp
  | true =>
    by_cases h1 : s = []
    · subst h1; simp [yft]
    · have h2 : 1 ≤ s.length := by have := List.length_pos_iff.2 h1; omega
      by_cases h3 : s.length ≤ 60
      · have : ((s.length : Int) ≤ 60) := by omega
        simp [yft, h1, h2, h3, this]
      · have : ¬ ((s.length : Int) ≤ 60) := by omega
        simp [yft, h1, h2, h3, this]
end Go.Vm
namespace Go.Vm
open Cel
attribute [local simp] y6 y1n yj y5d
abbrev H2 (f : Fn) (x : Ins) : Heap := [⟨1, .arr true false 5 [enc f]⟩, ⟨1, .arr true false 9 [enc x]⟩]
abbrev H3 (f : Fn) (x : Ins) : Heap := [⟨1, .arr true false 5 [enc f]⟩, ⟨1, .arr true false 9 [enc x]⟩, ⟨1, .arr false false 1 [[.int .i64 x.d], [.int .i64 x.a], [.int .i64 x.b], [.int .i64 x.c]]⟩]
abbrev Q1 : AV := .lp 1 1 0 0
end Go.Vm
namespace Go.Vm
open Cel
attribute [local simp] y6 y1n yj y5d
end Go.Vm
namespace Go.Vm
open Cel
attribute [local simp] y6 y1n yj y5d
@[simp] theorem y2a2 (h : Heap) (a b c : Int) : fz h y18 (.tup [.int .i64 a, .int .i64 b, .int .i64 c]) = some ⟨.tup [.int .i64 a, .int .i64 b, .int .i64 c], true, []⟩ := rfl
end Go.Vm
namespace Go.Vm
end Go.Vm
namespace Go.Vm
open Cel
attribute [local simp] y6 y1n yj y5d
end Go.Vm
namespace Go.Vm
end Go.Vm
namespace Go.Vm
open Cel
theorem DeadOk.fit {f g : Fn} (k : DeadOk f g) (hf : FnFit f) : FnFit g := by
  refine ⟨Swap.args (fun i hi => (k.at_ i hi).imp id And.left) k.swap ⟨by decide, by decide, by decide⟩ hf.ins, by rw [k.swap.len]; exact hf.code, by rw [k.swap.regs]; exact hf.regs, by rw [k.swap.params]; exact hf.params, by rw [k.swap.rows]; exact hf.rows⟩
theorem DeadOk.args {f g : Fn} (k : DeadOk f g) (hx : yhw f) : yhw g :=
  Swap.args (P := fun x => (lst x.args).length ≤ 17592186043904) (fun i hi => (k.at_ i hi).imp id And.left) k.swap (by decide) hx
theorem fz_f (f : Fn) (H : Heap) : yn (fz H y18) [.agg (enc f)] = some ⟨[.agg (enc f)], scal f && true, []⟩ := by
  rw [yh, y8f, yx]; rfl
theorem FnIn.sm {f : Fn} (hf : FnIn f) (h1 : (lst f.code).length ≤ 400) (h3 : (lst f.rows).length ≤ 100) : FnSm f := by
  have e : reachBytes = 140737488351232 := rfl
  have e38 : (2:Nat)^38 = 274877906944 := by decide
  refine ⟨?_, ?_, ?_, ?_, fun x hx => ?_⟩
  · have := hf.regs; omega
  · have := hf.params; omega
  · omega
  · omega
  · have := (hf.insI x hx).len; omega
abbrev AFn (f : Fn) : AO := ⟨1, .arr true false 5 [enc f]⟩
end Go.Vm
namespace Go.Vm
@[simp] theorem y21i : (y8 E).p 117 [] = some ⟨.bool true, [], true, [], []⟩ := y1uj 60 (by kernel_rfl)
end Go.Vm
namespace Go.Vm
noncomputable def y5w (f : Fn) (i : Nat) : Bool := (y9n f).getD i false && !decide ((yd f i).op = 33)
noncomputable def plc (f : Fn) : Nat → Nat
  | 0 => 0
  | k + 1 => plc f k + if y5w f k then 1 else 0
noncomputable def y4l (f : Fn) (x : Ins) : Ins := { x with t := if leads x.op then (plc f x.t.toNat : Int) else 0 }
noncomputable def y1a (f : Fn) : Nat → List Ins
  | 0 => []
  | k + 1 => y1a f k ++ if y5w f k then [y4l f (yd f k)] else []
noncomputable def ykk (f : Fn) (r : Row) : List Row :=
  if y5w f r.at_.toNat && decide (plc f r.f.toNat < plc f r.t.toNat) then [⟨plc f r.f.toNat, plc f r.t.toNat, plc f r.at_.toNat, r.c⟩] else []
noncomputable def y29 (f : Fn) (k : Nat) : List Row := ((lst f.rows).take k).flatMap (ykk f)
noncomputable def ybp (f : Fn) : Fn :=
  if wf f then { regs := f.regs, params := f.params, ret := f.ret, code := nz (y1a f (lst f.code).length), rows := nz (y29 f (lst f.rows).length) } else f
theorem y1fa (f : Fn) : ∀ k, plc f k ≤ k
  | 0 => Nat.le_refl _
  | k + 1 => by
    have := y1fa f k
    rw [plc]
    split <;> omega
theorem yg8 (f : Fn) : ∀ k, (y1a f k).length = plc f k
  | 0 => rfl
  | k + 1 => by
    rw [y1a, plc, List.length_append, yg8 f k]
    split <;> rfl
theorem y16e (f : Fn) (k : Nat) : (y29 f k).length ≤ k := by
  have : ∀ (l : List Row), (l.flatMap (ykk f)).length ≤ l.length := by
    intro l
    induction l with
    | nil => simp
    | cons r l ih =>
      rw [List.flatMap_cons, List.length_append, List.length_cons]
      have : (ykk f r).length ≤ 1 := by unfold ykk; split <;> simp
      omega
  have h := this ((lst f.rows).take k)
  rw [List.length_take] at h
  unfold y29
  omega
theorem y0t {f : Fn} {k : Nat} {r : Row} (h : (lst f.rows)[k]? = some r) : y29 f (k + 1) = y29 f k ++ ykk f r := by
  unfold y29
  have hk := (List.getElem?_eq_some_iff.1 h).1
  have e : (lst f.rows).take (k + 1) = (lst f.rows).take k ++ [r] := by
    rw [← List.take_append_getElem hk]
    rw [List.getElem?_eq_getElem hk] at h
    injection h with h
    rw [h]
  rw [e, List.flatMap_append]
  simp
noncomputable def kpL (f : Fn) (k : Nat) : List Bool := (List.range (lst f.code).length).map fun j => if j < k then y5w f j else (y9n f).getD j false
theorem y2bu (f : Fn) : kpL f 0 = y9n f := by
  refine List.ext_getElem (by simp [kpL, yca]) fun i h1 h2 => ?_
  simp [kpL, h2]
theorem y1zw (f : Fn) (k : Nat) : (kpL f k).length = (lst f.code).length := by simp [kpL]
theorem y213 {f : Fn} {k : Nat} (h : (yd f k).op = 33) : (kpL f k).set k false = kpL f (k + 1) := by
  refine yn3 ?_ fun j hj => ?_
  · simp [y5w, h]
  · by_cases h1 : j < k
    · simp [h1, show j < k + 1 by omega]
    · simp [h1, show ¬ j < k + 1 by omega]
theorem y288 {f : Fn} {k : Nat} (h : ¬ (yd f k).op = 33) : kpL f (k + 1) = kpL f k := by
  refine List.map_congr_left fun j _ => ?_
  by_cases e : j = k
  · subst e; simp [y5w, h]
  · by_cases h1 : j < k
    · simp [h1, show j < k + 1 by omega]
    · simp [h1, show ¬ j < k + 1 by omega]
theorem yp1 {f : Fn} {j : Nat} (h : j < (lst f.code).length) : (kpL f (lst f.code).length)[j]? = some (y5w f j) := by
  simp [kpL, h]
noncomputable def plcL (f : Fn) (k : Nat) : List Int := (List.range ((lst f.code).length + 1)).map fun j => if j < k then (plc f j : Int) else 0
theorem yxr (f : Fn) (k : Nat) : (plcL f k).length = (lst f.code).length + 1 := by simp [plcL]
theorem y24n (f : Fn) : plcL f 0 = List.replicate ((lst f.code).length + 1) 0 := by
  refine List.ext_getElem (by simp [plcL]) fun i h1 h2 => ?_
  simp [plcL]
theorem yvu (f : Fn) (k : Nat) : (plcL f k).set k (plc f k : Int) = plcL f (k + 1) := by
  refine yn3 ?_ fun j hj => ?_
  · simp
  · by_cases h1 : j < k
    · simp [h1, show j < k + 1 by omega]
    · simp [h1, show ¬ j < k + 1 by omega]
theorem yty {f : Fn} {j : Nat} (h : j ≤ (lst f.code).length) : (plcL f ((lst f.code).length + 1))[j]? = some (plc f j : Int) := by
  have : j < (lst f.code).length + 1 := by omega
  simp [plcL, this]
end Go.Vm
namespace Go.Vm
def sumI : Ins := ⟨5, 1, 0, 0, 0, 96, 0, [], none⟩
def mulI : Ins := ⟨5, 1, 1, 1, 0, 104, 0, [], none⟩
def retI (a : Int) : Ins := ⟨30, 0, a, 0, 0, 0, 0, [], none⟩
def chP : Nat → List Ins
  | 0 => []
  | n + 1 => chP n ++ [sumI, mulI]
def chF (n : Nat) (a : Int) : Fn := ⟨some [1, 1], some [0], 1, some (chP n ++ [retI a]), none⟩
theorem y5o : ∀ n, (chP n).length = 2 * n
  | 0 => rfl
  | n + 1 => by rw [chP, List.length_append, y5o n]; simp; omega
theorem ya0 (n : Nat) (a : Int) : (lst (chF n a).code).length = 2 * n + 1 := by simp [chF, y5o]
theorem y1tw : ∀ (n i : Nat), i < 2 * n → (chP n)[i]? = some (if i % 2 = 0 then sumI else mulI)
  | 0, i, h => by omega
  | n + 1, i, h => by
    rw [chP]
    by_cases hi : i < 2 * n
    · rw [List.getElem?_append_left (by rw [y5o]; exact hi), y1tw n i hi]
    · rw [List.getElem?_append_right (by rw [y5o]; omega), y5o]
      have : i = 2 * n ∨ i = 2 * n + 1 := by omega
      rcases this with rfl | rfl
      · simp
      · have : (2 * n + 1) % 2 = 1 := by omega
        simp
theorem yss {n : Nat} {a : Int} {i : Nat} (h : i < 2 * n) : yd (chF n a) i = if i % 2 = 0 then sumI else mulI := by
  have := y1tw n i h
  have hl : i < (chP n).length := by rw [y5o]; exact h
  rw [yd, List.getD_eq_getElem?_getD]
  show ((chP n ++ [retI a])[i]?).getD default = _
  rw [List.getElem?_append_left hl, this]; rfl
theorem y1dr {n : Nat} {a : Int} : yd (chF n a) (2 * n) = retI a := by
  rw [yd, List.getD_eq_getElem?_getD]
  show ((chP n ++ [retI a])[2 * n]?).getD default = _
  rw [List.getElem?_append_right (by rw [y5o]; omega), y5o]
  simp
theorem y23b : ((List.range 61).all fun n => wf (chF n 0) && wf (chF n 1)) = true := by kernel_rfl
theorem y27c {n : Nat} {a : Int} (hn : n ≤ 60) (ha : a = 0 ∨ a = 1) : wf (chF n a) = true := by
  have := List.all_eq_true.1 y23b n (List.mem_range.2 (by omega))
  simp only [Bool.and_eq_true] at this
  rcases ha with rfl | rfl
  · exact this.1
  · exact this.2
section
variable {n : Nat} {a : Int} {g : Fn} (k : DeadOk (chF n a) g)
include k
theorem y1y5 {i : Nat} (h : i < 2 * n) : purel (yd (chF n a) i).op = true ∧ (yd (chF n a) i).d = 1 := by
  rw [yss h]; split <;> exact ⟨rfl, rfl⟩
theorem y6o : (lst g.code).length = 2 * n + 1 := by rw [k.swap.len, ya0]
theorem yjl {i : Nat} (h : i < 2 * n) : y1l g (i : Int) = [(i : Int) + 1] := by
  have hl := y6o k
  unfold y1l
  rw [if_neg (by omega), Int.toNat_natCast]
  rcases k.at_ i (by rw [ya0]; omega) with e | e
  · rw [e, yss h]; split <;> rfl
  · rw [e.1]; rfl
theorem ypi {i : Nat} (h : i < 2 * n) : aftR g i 1 = true ↔ Way g ((1 : Nat) : Int) (i + 1) := by
  have hl := y6o k
  have hr : (lst g.regs).length = 2 := by rw [k.swap.regs]; rfl
  unfold aftR
  rw [yjl k h]
  simp only [show (0 : Int) ≤ i by omega, show (i : Int) < ((lst g.code).length : Int) by omega, show (0 : Int) ≤ 1 by omega, hr, show (1 : Int) < ((2 : Nat) : Int) by omega, decide_true, Bool.true_and, decide_eq_true_eq]
  rw [show (1 : Int).toNat = 1 from rfl, ybr]
  constructor
  · rintro ⟨b, hb, b0, b1, w⟩
    rw [List.mem_singleton] at hb
    subst hb
    rwa [show ((i : Int) + 1).toNat = i + 1 by omega] at w
  · intro w
    exact ⟨(i : Int) + 1, by simp, by omega, by omega, by rwa [show ((i : Int) + 1).toNat = i + 1 by omega]⟩
theorem ykn {m : Nat} (hm : m ≤ 2 * n) (hw : ¬ Way g ((1 : Nat) : Int) m) : ∀ (d i : Nat), i + d = m → ¬ Way g ((1 : Nat) : Int) i ∧ (0 < d → yd g i = nopI)
  | 0, i, h => by
    rw [Nat.add_zero] at h
    subst h
    exact ⟨hw, fun h => by omega⟩
  | d + 1, i, h => by
    have hi : i < 2 * n := by omega
    have hl := y6o k
    obtain ⟨h1, _⟩ := ykn hm hw d (i + 1) (by omega)
    have hna : aftR g i 1 = false := by
      rw [← Bool.not_eq_true, ypi k hi]; exact h1
    obtain ⟨p1, p2⟩ := y1y5 k hi
    have hnop : yd g i = nopI := by
      rcases k.at_ i (by rw [ya0]; omega) with e | e
      · have : y20 g i = true := by
          rw [y20, e, p1, p2, hna]; rfl
        have hd := List.any_eq_false.1 k.left i (List.mem_range.2 (by omega))
        rw [this] at hd
        exact (hd rfl).elim
      · exact e.1
    refine ⟨fun w => ?_, fun _ => hnop⟩
    cases w with
    | use _ hu => rw [y5b, hnop, yu8] at hu; cases hu
    | @step _ j _ hj j0 j1 w =>
      rw [ya7, hnop, y1bk, if_neg (by decide), yjl k hi] at hj
      have hc : yq g (i : Int) = [] := by
        unfold yq
        rw [Int.toNat_natCast, hnop]
        split <;> rfl
      rw [hc, List.nil_append, List.mem_singleton] at hj
      subst hj
      rw [show ((i : Int) + 1).toNat = i + 1 by omega] at w
      exact h1 w
theorem ynw : ∀ i, i ≤ 2 * n → Rch (lst g.code).length (ycf g) [0] i
  | 0, _ => by
    have hl := y6o k
    exact .base (j := 0) (by simp) (by omega) (by omega)
  | i + 1, h => by
    have hl := y6o k
    have := ynw i (by omega)
    have hs : ((i : Int) + 1) ∈ ycf g i := by
      rw [ycf, yjl k (by omega)]; simp
    have r := Rch.step this hs (by omega) (by omega)
    rwa [show ((i : Int) + 1).toNat = i + 1 by omega] at r
theorem yao {i : Nat} (h : i ≤ 2 * n) : y5w g i = !decide ((yd g i).op = 33) := by
  have := (yig g i).2 (ynw k i h)
  rw [y5w, List.getD_eq_getElem?_getD, this]
  simp
theorem ykz {m : Nat} (hm : m ≤ 2 * n) (h : ∀ i, i < m → yd g i = nopI) : ∀ i, i ≤ m → plc g i = 0
  | 0, _ => rfl
  | i + 1, hi => by
    rw [plc, ykz hm h i (by omega), yao k (by omega), h i (by omega)]
    rfl
theorem y1i7 : yd g (2 * n) = retI a := by
  rcases k.at_ (2 * n) (by rw [ya0]; omega) with e | e
  · rw [e, y1dr]
  · rw [y1dr] at e
    have := e.2
    cases this
theorem yrc {m : Nat} (hn : plc g (2 * n + 1) = m) : (lst (ybp g).code).length = m := by
  rw [ybp, if_pos k.wf]
  show (lst (nz (y1a g (lst g.code).length))).length = m
  rw [yed, yg8, y6o k, hn]
end
theorem y20k {n : Nat} {g : Fn} (k : DeadOk (chF n 0) g) : (lst (ybp g).code).length = 1 := by
  have hr := y1i7 k
  have hl := y6o k
  have hw : ¬ Way g ((1 : Nat) : Int) (2 * n) := by
    intro w
    cases w with
    | use _ hu => rw [y5b, hr] at hu; simp [retI, uses, calls] at hu
    | @step _ j _ hj j0 j1 w =>
      have e1 : yq g ((2 * n : Nat) : Int) = [] := by
        unfold yq
        rw [Int.toNat_natCast, hr]
        split <;> rfl
      have e2 : y1l g ((2 * n : Nat) : Int) = [] := by
        unfold y1l
        rw [Int.toNat_natCast, hr]
        split <;> rfl
      rw [ya7, e1, e2] at hj
      simp at hj
  have hd := fun i (h : i < 2 * n) => (ykn k (Nat.le_refl _) hw (2 * n - i) i (by omega)).2 (by omega)
  refine yrc k ?_
  rw [plc, ykz k (Nat.le_refl _) hd _ (Nat.le_refl _), yao k (Nat.le_refl _), hr]
  rfl
theorem y21p {n : Nat} {g : Fn} (k : DeadOk (chF (n + 1) 1) g) : (lst (ybp g).code).length = 3 := by
  have hr := y1i7 k
  have hl := y6o k
  -- the product stays
  have hm : yd g (2 * n + 1) = mulI := by
    have hf : yd (chF (n + 1) 1) (2 * n + 1) = mulI := by
      rw [yss (by omega), if_neg (by omega)]
    rcases k.gone (2 * n + 1) (by rw [ya0]; omega) with e | e
    · rw [e, hf]
    · rw [hf] at e
      have : aftR g ((2 * n + 1 : Nat) : Int) 1 = true := (ypi k (by omega)).2 (.use (by omega) (by
        rw [y5b, show 2 * n + 1 + 1 = 2 * (n + 1) by omega, hr]; simp [retI, uses, calls]))
      have e' : aftR g ((2 * n + 1 : Nat) : Int) 1 = false := e
      rw [this] at e'
      cases e'
  have hs : yd g (2 * n) = sumI := by
    have hf : yd (chF (n + 1) 1) (2 * n) = sumI := by
      rw [yss (by omega), if_pos (by omega)]
    rcases k.gone (2 * n) (by rw [ya0]; omega) with e | e
    · rw [e, hf]
    · rw [hf] at e
      have : aftR g ((2 * n : Nat) : Int) 1 = true := (ypi k (by omega)).2 (.use (by omega) (by
        rw [y5b, hm]; decide))
      have e' : aftR g ((2 * n : Nat) : Int) 1 = false := e
      rw [this] at e'
      cases e'
  have hw : ¬ Way g ((1 : Nat) : Int) (2 * n) := by
    intro w
    cases w with
    | use _ hu => rw [y5b, hs] at hu; revert hu; decide
    | @step _ j _ hj j0 j1 w =>
      have e1 : yq g ((2 * n : Nat) : Int) = [] := by
        unfold yq
        rw [Int.toNat_natCast, hs]
        split <;> rfl
      rw [ya7, e1, hs, show defr sumI = ((1 : Nat) : Int) by decide] at hj
      simp at hj
  have hd := fun i (h : i < 2 * n) => (ykn k (by omega) hw (2 * n - i) i (by omega)).2 (by omega)
  refine yrc k ?_
  have p0 := ykz k (show 2 * n ≤ 2 * (n + 1) by omega) hd _ (Nat.le_refl _)
  rw [show 2 * (n + 1) + 1 = 2 * n + 1 + 1 + 1 by omega, plc, plc, plc, p0, yao k (by omega), yao k (by omega), yao k (by omega), hs, hm, show 2 * n + 1 + 1 = 2 * (n + 1) by omega, hr]
  rfl
end Go.Vm
namespace Go.Vm
open Cel
attribute [local simp] y6 y1n yj
theorem y11s (f : Fn) (hc : (lst f.code).length ≤ 9223372036854775807) (hr : (lst f.rows).length ≤ 274877906944) : ∀ (k : Nat) (seen : List Bool) (op T : List Int) (g : Nat) (o3 o4 : AO) (r : List Bool), seen.length = (lst f.code).length →
    unseen seen * ((lst f.rows).length + 3) + op.length ≤ 137438953472 → dfs (lst f.code).length (ycf f) k seen op = some r →
    yht (.lp 0 1 0 0) (.ls 1 1 1 0 (lst f.code).length) (.ls 2 g 1 0 op.length) [⟨1, .arr true false 5 [enc f]⟩, ⟨1, .arr false false 1 (seen.map enc)⟩, ⟨g, .arr false false 1 ((op ++ T).map enc)⟩, o3, o4] = some (exO (some r)) := by
  intro k
  induction k with
  | zero => intro seen op T g o3 o4 r _ _ h; cases h
  | succ k ih =>
    intro seen op T g o3 o4 r hl hm h
    rw [dfs] at h
    rw [y1cr]
    cases hop : op.getLast? with
    | none =>
      rw [hop] at h
      injection h with h
      subst h
      rw [List.getLast?_eq_none_iff] at hop
      subst hop
      simp [y1dj, y22x]
      rw [← hl]
      exact y2d (α := Bool) (by simp)
    | some i =>
      rw [hop] at h
      simp only at h
      have e := y4n hop
      generalize op.dropLast = L at *
      subst e
      simp only [List.length_append, List.length_singleton] at hm
      have hlen : ((L ++ [i]).length : Int) = (L.length : Int) + 1 := by simp
      have hp : (0 : Int) < (L.length : Int) + 1 := by omega
      have hw : IntKind.wrap .i64 ((L.length : Int) + 1 - 1) = (L.length : Int) := by rw [y1o] <;> omega
      have s1 := y26b 2 g L.length
      have s2 := y1z5 2 g L.length
      have s3 : evLd false 1 (.lp 2 g L.length 0) [⟨1, .arr true false 5 [enc f]⟩, ⟨1, .arr false false 1 (seen.map enc)⟩, ⟨g, .arr false false 1 ((L ++ [i] ++ T).map enc)⟩, o3, o4] = some (.int .i64 i) :=
        y28d (T := T) (by simp)
      have e8 : y1dj (.lp 0 1 0 0) (.ls 1 1 1 0 (lst f.code).length) (.ls 2 g 1 0 (L ++ [i]).length) [⟨1, .arr true false 5 [enc f]⟩, ⟨1, .arr false false 1 (seen.map enc)⟩, ⟨g, .arr false false 1 ((L ++ [i] ++ T).map enc)⟩, o3, o4] =
          ynr (.lp 0 1 0 0) (.ls 1 1 1 0 (lst f.code).length) (.ls 2 g 1 0 L.length) (.int .i64 i) [⟨1, .arr true false 5 [enc f]⟩, ⟨1, .arr false false 1 (seen.map enc)⟩, ⟨g, .arr false false 1 ((L ++ (i :: T)).map enc)⟩, o3, o4] := by
        simp only [y1dj, y20c, y1vu, List.length_append, List.length_singleton, yju, y9, Int.natCast_add, Int.natCast_one, y169, hp, decide_true, y23, yfp, hw, s1, s2, s3]
        simp
      rw [e8]
      have skip := fun h => ih seen L (i :: T) g o3 o4 r hl (by omega) h
      by_cases h0 : i < 0
      · rw [if_pos (.inl h0)] at h
        simpa [ynr, h0] using skip h
      by_cases h1 : ((lst f.code).length : Int) ≤ i
      · rw [if_pos (.inr (.inl h1))] at h
        simpa [ynr, h0, h1] using skip h
      have g0 : 0 ≤ i := by omega
      have g1 : i < ((lst f.code).length : Int) := by omega
      have hi : i.toNat < seen.length := by omega
      have r1 : yv 1 (.ls 1 1 1 0 (lst f.code).length) (.int .i64 i) = some (.lp 1 1 i.toNat 0) := by simp [yv, g0, g1]
      cases hs : seen[i.toNat] with
      | true =>
        have hsg : seen.getD i.toNat true = true := by rw [List.getD_eq_getElem?_getD, List.getElem?_eq_getElem hi, hs]; rfl
        rw [if_pos (.inr (.inr hsg))] at h
        simpa [ynr, h0, h1, r1, hi, hs] using skip h
      | false =>
        have hsg : ¬ (i < 0 ∨ ((lst f.code).length : Int) ≤ i ∨ seen.getD i.toNat true = true) := by
          rw [List.getD_eq_getElem?_getD, List.getElem?_eq_getElem hi, hs]
          simp [h0, h1]
        rw [if_neg hsg] at h
        have hu := yiz hi hs
        have hS := ym5 f i.toNat
        have hn2 := yek f i
        have hN := y1ul f i hc
        have hC := yqf f i (by omega)
        have ei : ((i.toNat : Nat) : Int) = i := by omega
        have hSe : ycf f i.toNat = y1l f i ++ yq f i := by rw [ycf, ei]
        rw [hSe] at h hS
        rw [List.length_append] at hS
        rw [← hu, Nat.add_mul] at hm
        have b1 := ymn (a := L.length) (b := (y1l f i).length) (by omega)
        have b2 := ymn (a := (L ++ y1l f i).length) (b := (yq f i).length) (by rw [List.length_append]; omega)
        have a1 := ypc (α := Int) (H := [⟨1, .arr true false 5 [enc f]⟩, ⟨1, .arr false false 1 ((seen.set i.toNat true).map enc)⟩, ⟨g, .arr false false 1 ((L ++ (i :: T)).map enc)⟩, o3, o4]) (fb := 0) (sl := some 3) (id := 2) (g := g) (y := slA (nz (y1l f i))) (L := L) (M := y1l f i) (T := i :: T) (by simp) rfl b1
        have a2 := ypc (α := Int) (H := [⟨1, .arr true false 5 [enc f]⟩, ⟨1, .arr false false 1 ((seen.set i.toNat true).map enc)⟩, ⟨g + 1, .arr false false 1 ((L ++ y1l f i).map enc)⟩, o3, o4]) (fb := 0) (sl := some 4) (id := 2) (g := g + 1) (y := slA (nz (yq f i))) (L := L ++ y1l f i) (M := yq f i) (T := []) (by simp) (by simp) b2
        have := ih (seen.set i.toNat true) (L ++ y1l f i ++ yq f i) [] (g + 1 + 1) o3 o4 r (by simpa using hl) (by simp only [List.length_append]; omega) (by rw [List.append_assoc]; exact h)
        simp only [List.append_nil] at this
        simp only [yv4, List.set_cons_succ, List.set_cons_zero] at a1 a2
        have e4 : ynr (.lp 0 1 0 0) (.ls 1 1 1 0 (lst f.code).length) (.ls 2 g 1 0 L.length) (.int .i64 i) [⟨1, .arr true false 5 [enc f]⟩, ⟨1, .arr false false 1 (seen.map enc)⟩, ⟨g, .arr false false 1 ((L ++ (i :: T)).map enc)⟩, o3, o4] =
            y1q3 (.lp 0 1 0 0) (.ls 1 1 1 0 (lst f.code).length) (.ls 2 g 1 0 L.length) (.int .i64 i) [⟨1, .arr true false 5 [enc f]⟩, ⟨1, .arr false false 1 (seen.map enc)⟩, ⟨g, .arr false false 1 ((L ++ (i :: T)).map enc)⟩, o3, o4] := by
          simp [ynr, h0, h1, r1, hi, hs]
        rw [e4]
        have st : evSt 1 (.lp 1 1 i.toNat 0) (.bool true) [⟨1, .arr true false 5 [enc f]⟩, ⟨1, .arr false false 1 (seen.map enc)⟩, ⟨g, .arr false false 1 ((L ++ (i :: T)).map enc)⟩, o3, o4] =
            some (.tup [], [⟨1, .arr true false 5 [enc f]⟩, ⟨1, .arr false false 1 ((seen.set i.toNat true).map enc)⟩, ⟨g, .arr false false 1 ((L ++ (i :: T)).map enc)⟩, o3, o4]) := by
          exact y8c (α := Bool) (v := .bool true) (y := true) rfl hi rfl
        have l1 : ∀ t : Heap, evLd true 5 (.lp 0 1 0 0) (⟨1, .arr true false 5 [enc f]⟩ :: t) = some (.agg (enc f)) := fun t => by simp
        have c1 : ∀ h : Heap, y6 E (y8 E) 0 none true 81 [.agg (enc f), .int .i64 i] h = some (slA (nz (y1l f i)), h) := fun h => by simp [hN]
        have c2 : ∀ h : Heap, y6 E (y8 E) 0 none true 79 [.agg (enc f), .int .i64 i] h = some (slA (nz (yq f i)), h) := fun h => by simp [hC]
        simp only [y1q3, r1, y9, st, yr, l1, c1, a1, c2, a2, this]
theorem y1y7 (f : Fn) (hc : (lst f.code).length ≤ 30000) (hr : (lst f.rows).length ≤ 1000000) : (y8 E).p 101 [.agg (enc f)] = some (exO (some (y9n f))) := by
  rw [y2ci]
  have hm : unseen (List.replicate (lst f.code).length false) * ((lst f.rows).length + 3) + [(0 : Int)].length < 30000 * 1000003 + 2 := by
    have h1 : unseen (List.replicate (lst f.code).length false) ≤ 30000 := by
      unfold unseen
      exact Nat.le_trans List.countP_le_length (by simpa using hc)
    have := Nat.mul_le_mul h1 (show (lst f.rows).length + 3 ≤ 1000003 by omega)
    simp only [List.length_singleton]
    omega
  obtain ⟨r, h⟩ := yjm (n := (lst f.code).length) (S := ycf f) (B := (lst f.rows).length + 2) (fun i _ => ym5 f i) _ (List.replicate (lst f.code).length false) [0] (by simp) hm
  obtain ⟨h1, h2⟩ := yk7 _ _ _ r DfsI.start h
  have e := y19n h1 h2
  subst e
  have := y11s f (by omega) (by omega) _ _ [0] [] 1 D0 D0 _ (by simp) (by omega) h
  have b1 : ((lst f.code).length : Int) ≤ 140737488355328 := by omega
  have b2 : ((lst f.code).length : Int) ≤ 4611686018427387904 := by omega
  simp only [List.map_replicate, List.append_nil] at this
  simp [y1ha, y1i1, y172, mkSC, b1, b2, yp, y15]
  exact this
end Go.Vm
namespace Go.Vm
def putP (n : Nat) (p : Int) (a : List Bool) : List Bool := if 0 ≤ p ∧ p < n then a.set p.toNat true else a
def y1wp (n i : Nat) (x : Ins) (a : List Bool) : List Bool :=
  if leads x.op || ends x.op then (if leads x.op then putP n x.t a else a).set (i + 1) true else (if leads x.op then putP n x.t a else a)
def hA1 (n : Nat) : Nat → List Ins → List Bool → List Bool
  | _, [], a => a
  | i, x :: r, a => hA1 n (i + 1) r (y1wp n i x a)
def hA2 (n : Nat) : List Row → List Bool → List Bool
  | [], a => a
  | r :: rs, a => hA2 n rs (putP n r.at_ (putP n r.t (putP n r.f a)))
def hA0 (n : Nat) : List Bool := if 0 < n then (List.replicate (n + 1) false).set 0 true else List.replicate (n + 1) false
@[simp] theorem y2ae (n : Nat) (p : Int) (a : List Bool) : (putP n p a).length = a.length := by unfold putP; split <;> simp
@[simp] theorem y27x (n i : Nat) (x : Ins) (a : List Bool) : (y1wp n i x a).length = a.length := by
  unfold y1wp
  split <;> split <;> simp
@[simp] theorem y2by (n : Nat) : (hA0 n).length = n + 1 := by unfold hA0; split <;> simp
def hA (f : Fn) : List Bool := hA2 (lst f.code).length (lst f.rows) (hA1 (lst f.code).length 0 (lst f.code) (hA0 (lst f.code).length))
end Go.Vm
