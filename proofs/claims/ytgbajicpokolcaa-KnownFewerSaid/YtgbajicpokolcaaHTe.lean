/- What the pass 'known' leaves is fit. The document's answers for single operations: numbers in a list, ways, ends. The document's table of operations. The document's answers for single operations. The document's answer whether an operation is a call. The document's answer which register an instruction writes. The document's Heads. Chapter 17's document: what was checked ahead, in plain words and on the machine. The document's Next, Caught. The document's All, Reach. Whether two lists of numbers are the same. Whether two lists of numbers, two instructions are the same; a number in a list. Whether two functions are the same. What a function that is handed in is fit for, for a check. A pass as laws see it. Chapter 17's document: Fewer, on the machine. What the document says that the stack's instructions over numbers take and give. -/
import Derived.Test.YtgbajicpokolcaaHX
import Derived.Test.YtgbajicpokolcaaHTd
set_option linter.unusedSimpArgs false
set_option linter.unusedVariables false
set_option linter.unusedSectionVars false
namespace Go.Vm
theorem y2u7 {x : Ins} {c : Fa} (h : ofM x = some c) : x.op = 7 ∨ x.op = 8 ∨ x.op = 9 ∨ x.op = 10 := by
  unfold ofM at h
  split at h
  · omega
  · split at h
    · omega
    · cases h
section
variable (f : Fn) (T : KTab)
theorem yrc : (knoL f T).length = (lst f.code).length := by simp [knoL]
variable {f T}
end
theorem ywy {f : Fn} {T : KTab} (v : InvK f (T, [])) {i : Nat} (h : Rch (lst f.code).length (fun i => y11 f i ++ y3d f i) [0] i) : kAt T i ≠ none := by
  have hz := v.ok.zero
  simp only at hz
  induction h with
  | base hj j0 j1 =>
    rw [List.mem_singleton] at hj
    subst hj
    rw [show (0 : Int).toNat = 0 from rfl, hz]; simp
  | @step i j h hj j0 j1 ih =>
    obtain ⟨t, ht⟩ := notN ih
    have c := (v.closed i t ht).resolve_left (by simp)
    simp only at c
    rw [List.mem_append] at hj
    rcases hj with hj | hj
    · obtain ⟨u, hu, _⟩ := c.1 j hj
      rw [hu]; simp
    · obtain ⟨u, hu, _⟩ := c.2 j hj
      rw [hu]; simp
theorem y1ak {f : Fn} {T : KTab} (v : InvK f (T, [])) {i : Nat} (h : kAt T i ≠ none) {c : Fa} (hc : ofM (yk f i) = some c) (hs : yav f i c) : y7p f T i = true := by
  obtain ⟨s, hs2⟩ := notN h
  have := (v.ok.rows i s hs2).2.2 c hs
  unfold y7p
  rw [hc, hs2]
  exact decide_eq_true this
end Go.Vm
namespace Go.Vm
open Cel
attribute [local simp] y7 y25 ym
theorem y2i9 (op : Int) (o : Option (List Int)) (hl : (lst o).length ≤ 9223372036854775807) (h : Heap) : ∀ (d i : Nat), i + d = (lst o).length →
    yku (.int .i64 op) (slA o) (.int .i64 i) h = some ⟨.bool (decide (op ∈ (lst o).drop i)), [], true, [], []⟩ := by
  intro d
  induction d with
  | zero =>
    intro i hi
    have e1 : (lst o).drop i = [] := List.drop_eq_nil_of_le (by omega)
    have hn : ¬ ((i : Int) < ((lst o).length : Int)) := by omega
    rw [ym9, e1]
    simp [ypb, yoy, yph, ynz, ynb, ymo, hn]
  | succ d ih =>
    intro i hi
    have hlt : i < (lst o).length := by omega
    have hn : ((i : Int) < ((lst o).length : Int)) := by omega
    have k1 := y3l (o := o) (i := i) (List.getElem?_eq_getElem hlt) .i64
    have hm : op ∈ (lst o).drop i ↔ op = (lst o)[i] ∨ op ∈ (lst o).drop (i + 1) := by rw [List.drop_eq_getElem_cons hlt, List.mem_cons]
    rw [ym9]
    simp only [hm]
    have ih := ih (i + 1) (by omega)
    push_cast at ih
    by_cases he : (lst o)[i] = op
    · simp [ypb, yoy, yph, ynz, ynb, ymo, hn, k1, he]
    · have he' : ¬ op = (lst o)[i] := fun h => he h.symm
      simp [ypb, yoy, yph, ynz, ynb, ymo, hn, k1, he, he', y1j hlt hl, ih]
theorem s_in (op : Int) (o : Option (List Int)) (hl : (lst o).length ≤ 9223372036854775807) : (y8 E).p 42 [.int .i64 op, slA o] = some ⟨.bool (decide (op ∈ lst o)), [], true, [], []⟩ := by
  have := y2i9 op o hl [] _ 0 (Nat.zero_add _)
  simp only [Int.ofNat_zero, List.drop_zero] at this
  rw [y2pq, ← this]
  simp [ypb, yoy, yph, ynz, ynb, ymo]
theorem y24s (op a b c : Int) : (y8 E).p 42 [.int .i64 op, .rs 1 [[.int .i64 a], [.int .i64 b], [.int .i64 c]]] = some ⟨.bool (decide (op ∈ [a, b, c])), [], true, [], []⟩ :=
  s_in op (some [a, b, c]) (by simp)
theorem yr7 (g a b c : Nat) (x y z : Int) (t : Heap) : fz (⟨g, .arr false false 1 [[.int .i64 x], [.int .i64 y], [.int .i64 z]]⟩ :: t) y18 (.ls 0 g 1 0 3) = some ⟨.rs 1 [[.int .i64 x], [.int .i64 y], [.int .i64 z]], true, [0]⟩ := by
  rw [y1z9, ye9]; rfl
@[simp] theorem y2qu (op : Int) : (y8 E).p 23 [.int .i64 op] = some ⟨.bool (leads op), [], true, [], []⟩ := by
  rw [y2ow, y204]
  simp [y10, y1b, yr7 1 0 0 0, y24s, leads, Bool.or_assoc]
@[simp] theorem y2ue (op : Int) : (y8 E).p 25 [.int .i64 op] = some ⟨.bool (ends op), [], true, [], []⟩ := by
  rw [y2ms, y1m3]
  simp [y10, y1b, yr7 1 0 0 0, y24s, ends, Bool.or_assoc]
end Go.Vm
namespace Go.Vm
open Cel
attribute [local simp] y7 y25 ym
def rowT : List (List UInt8) := [[], [110, 45, 45, 45], [51, 45, 45, 45], [51, 45, 45, 45], [42, 61, 45, 45], [63, 63, 63, 63], [63, 63, 63, 63], [45, 110, 45, 45], [45, 51, 45, 45], [45, 51, 49, 45], [45, 49, 45, 45], [45, 51, 51, 45], [45, 51, 45, 45], [42, 51, 49, 45], [45, 51, 49, 42], [49, 51, 45, 45], [42, 51, 45, 45], [45, 51, 42, 45], [42, 45, 45, 45], [45, 42, 45, 45], [51, 45, 45, 45], [51, 49, 45, 45], [49, 51, 45, 45], [63, 63, 63, 63], [63, 63, 63, 63], [63, 63, 63, 63], [63, 63, 63, 63], [45, 45, 45, 45], [45, 49, 49, 45], [45, 51, 63, 45], [45, 63, 45, 45], [45, 51, 45, 45], [51, 45, 45, 45], [45, 45, 45, 45]]
def rowM (op : Int) : List UInt8 := if op < 1 ∨ 33 < op then [] else rowT.getD op.toNat []
def y1qs (r : Option (Ex AV)) (s : List UInt8) : Bool :=
  match r with
  | some ⟨.str a, [], true, [], []⟩ => a == s
  | _ => false
theorem y1uc {r : Option (Ex AV)} {s : List UInt8} (h : y1qs r s = true) : r = some ⟨.str s, [], true, [], []⟩ := by
  unfold y1qs at h
  split at h
  · rw [eq_of_beq h]
  · cases h
theorem y2qg : ((List.range 33).all fun i => y1qs ((both E 30).1.p 38 [.int .i64 (1 + i)]) (rowM (1 + i))) = true := by kernel_rfl
set_option maxHeartbeats 2000000 in
theorem y2mq (op : Int) : (y8 E).p 38 [.int .i64 op] = some ⟨.str (rowM op), [], true, [], []⟩ := by
  by_cases h : op < 1 ∨ 33 < op
  · rw [rowM, if_pos h, y2la]
    simp only [y1m8, y1k6, y1w6, y1qu]
    generalize hb : y10 0 (some 0) 1 34 _ _ _ = B
    have hB : ∃ v t, B = some (.ls 0 1 1 0 34, ⟨1, .arr false false 1 v⟩ :: t) := by
      rw [← hb]; exact ⟨_, _, rfl⟩
    obtain ⟨v, t, rfl⟩ := hB
    rcases h with h | h
    · simp [h]
    · have h1 : ¬ op < 1 := by omega
      have h2 : 34 ≤ op := by omega
      simp [h1, h2]
  · have := yak y2qg (op - 1).toNat (by omega)
    have e : (1 + ((op - 1).toNat : Int)) = op := by omega
    simp only [e] at this
    exact y1wf 30 (y1uc this)
end Go.Vm
namespace Go.Vm
open Cel
attribute [local simp] y7 y25 ym
@[simp] theorem yi5 (f : Fn) (r : Int) : (y8 E).p 48 [.agg (enc f), .int .i64 r] = some ⟨.int .i64 (regK (lst f.regs) r), [], true, [], []⟩ := by
  rw [y2q6]
  by_cases h0 : r < 0
  · simp [yxa, yx2, yw6, h0, regK]
  by_cases h1 : ((lst f.regs).length : Int) ≤ r
  · have : (lst f.regs)[r.toNat]? = none := List.getElem?_eq_none (by omega)
    simp [yxa, yx2, yw6, h0, h1, regK, this]
  · have hin : inR (lst f.regs) r = true := by
      have a1 : 0 ≤ r := by omega
      have a2 : r < ((lst f.regs).length : Int) := by omega
      simp [inR, a1, a2]
    obtain ⟨a0, a1, a2⟩ := yzl hin
    have k := y19h (o := f.regs) a0 a2 .i64
    simp [yxa, yx2, yw6, h0, h1, k]
def y5f (k : Int) (c : UInt8) : Bool :=
  if c = 45 ∨ c = 63 then true else if c = 42 ∨ c = 61 then decide (0 < k) else if c = 110 then decide (k = 1) || decide (k = 2) else decide (k = (c.toNat : Int) - 48)
theorem y21o (f : Fn) (r : Int) (c : UInt8) (hc : c = 45 ∨ c = 63 ∨ c = 42 ∨ c = 61 ∨ c = 110 ∨ c = 49 ∨ c = 50 ∨ c = 51) :
    (y8 E).p 65 [.agg (enc f), .int .i64 r, .int .u8 c.toNat] = some ⟨.bool (y5f (regK (lst f.regs) r) c), [], true, [], []⟩ := by
  rw [y2o3]
  generalize hk : regK (lst f.regs) r = k
  have hk' := yi5 f r
  rw [hk] at hk'
  rcases hc with rfl | rfl | rfl | rfl | rfl | rfl | rfl | rfl
  · simp [ycn, yb6, ycl, yab, yck, ycq, ycf, y72, hk', y5f]
  · simp [ycn, yb6, ycl, yab, yck, ycq, ycf, y72, hk', y5f]
  · simp [ycn, yb6, ycl, yab, yck, ycq, ycf, y72, hk', y5f]
  · simp [ycn, yb6, ycl, yab, yck, ycq, ycf, y72, hk', y5f]
  · by_cases h1 : k = 1 <;> simp [ycn, yb6, ycl, yab, yck, ycq, ycf, y72, hk', y5f, h1]
  · simp [ycn, yb6, ycl, yab, yck, ycq, ycf, y72, hk', y5f, IntKind.wrap, IntKind.bits, IntKind.signed]
  · simp [ycn, yb6, ycl, yab, yck, ycq, ycf, y72, hk', y5f, IntKind.wrap, IntKind.bits, IntKind.signed]
  · simp [ycn, yb6, ycl, yab, yck, ycq, ycf, y72, hk', y5f, IntKind.wrap, IntKind.bits, IntKind.signed]
@[simp] theorem y2dp (f : Fn) (i : Int) : (y8 E).p 49 [.agg (enc f), .int .i64 i] = some ⟨.bool (y4z (lst f.code).length i), [], true, [], []⟩ := by
  rw [y2l8]
  by_cases h0 : 0 ≤ i <;> simp [y1z5, h0, y4z]
end Go.Vm
namespace Go.Vm
@[simp] theorem y2r6 (op : Int) : (y8 E).p 7 [.int .i64 op] = some ⟨.bool (calls op), [], true, [], []⟩ := by
  rw [y2nv, y1l6]
  by_cases h1 : 23 ≤ op
  · by_cases h2 : op ≤ 26 <;> simp [h1, h2, calls]
  · simp [h1, calls]
end Go.Vm
namespace Go.Vm
open Cel
set_option maxHeartbeats 1000000 in
theorem y2ku (x : Ins) : (y8 E).p 16 [.agg (enc x)] = some ⟨.int .i64 (defr x), [], true, [], []⟩ := by
  rw [y2m8]
  have n0 : newC 0 (some 0) (cellsOf (.agg (enc x))) [D0] = some (.lp 0 1 0 0, [AX 1 x]) := by simp
  have lop : ∀ t : Heap, evLd false 1 (.lp 0 1 0 0) (AX 1 x :: t) = some (.int .i64 x.op) := fun t => by simp
  have ld : ∀ t : Heap, evLd false 1 (.lp 0 1 0 1) (AX 1 x :: t) = some (.int .i64 x.d) := fun t => by simp
  have cR : ∀ h : Heap, y7 E (y8 E) 0 none true 38 [.int .i64 x.op] h = some (.str (rowM x.op), h) := fun h => by simp [y7, y25, ym, y2mq]
  have e : y18n (.agg (enc x)) [D0] = ymx (.lp 0 1 0 0) (.str (rowM x.op)) [AX 1 x] := by
    simp only [y18n, n0, yc, y1le, yq3, Nat.zero_add, lop, y5, cR]
  rw [e]
  rcases ybp x.op with h|h|h|h|h|h|h|h|h|h|h|h|h|h|h|h|h|h|h|h|h|h|h|h|h|h|h|h|h|h|h|h|h|h|h
  all_goals first
    | (simp [ymx, yrm, h, rowM, rowT, y43, defr, writes, calls]; done)
    | (simp [ymx, yrm, h, lo_f h, rowM, y43, defr, writes, calls]; done)
    | (simp [ymx, yrm, h, hi_f h, rowM, y43, defr, writes, calls]; done)
end Go.Vm
namespace Go.Vm
open Cel
attribute [local simp] y7 y25 ym
theorem yzc (f : Fn) (v3 : AV) (i : Nat) (t : Heap) (hl : (lst f.code).length ≤ 9223372036854775807) : ∀ (d k : Nat) (b : Bool), k + d = (lst f.code).length →
    ye1 (.lp 0 1 0 0) v3 (.int .i64 i) (.bool b) (.int .i64 k) (⟨1, .arr true false 5 [enc f]⟩ :: t) =
      yqx (.lp 0 1 0 0) v3 (.int .i64 i) (.bool (b || ((lst f.code).drop k).any (fun x => leads x.op && decide (x.t = i)))) (⟨1, .arr true false 5 [enc f]⟩ :: t) := by
  intro d
  induction d with
  | zero =>
    intro k b hk
    have e1 : (lst f.code).drop k = [] := List.drop_eq_nil_of_le (by omega)
    have hn : ¬ ((k : Int) < ((lst f.code).length : Int)) := by omega
    rw [yjf, e1]
    simp [yfe, hn]
  | succ d ih =>
    intro k b hk
    have hlt : k < (lst f.code).length := by omega
    have hc : ((k : Int) < ((lst f.code).length : Int)) := by omega
    have k1 := y4v (o := f.code) (i := k) (List.getElem?_eq_getElem hlt) .i64
    have hw := y1j hlt hl
    rw [yjf, List.drop_eq_getElem_cons hlt, List.any_cons]
    generalize (lst f.code)[k] = x at *
    cases b with
    | true => simp [yfe, hc]
    | false =>
      have ih0 := fun b => ih (k + 1) b (by omega)
      push_cast at ih0
      cases hd : leads x.op with
      | false => simp [yfe, yq9, yqz, hc, k1, hd, hw, ih0]
      | true => simp [yfe, yq9, yqz, hc, k1, hd, hw, ih0]
theorem yzo (f : Fn) (v3 : AV) (i : Nat) (t : Heap) (hl : (lst f.rows).length ≤ 9223372036854775807) : ∀ (d k : Nat) (b : Bool), k + d = (lst f.rows).length →
    yj5 (.lp 0 1 0 0) v3 (.int .i64 i) (.bool b) (.int .i64 k) (⟨1, .arr true false 5 [enc f]⟩ :: t) =
      yke (.lp 0 1 0 0) v3 (.int .i64 i) (.bool (b || ((lst f.rows).drop k).any (fun r => decide (r.f = i) || decide (r.t = i) || decide (r.at_ = i)))) (⟨1, .arr true false 5 [enc f]⟩ :: t) := by
  intro d
  induction d with
  | zero =>
    intro k b hk
    have e1 : (lst f.rows).drop k = [] := List.drop_eq_nil_of_le (by omega)
    have hn : ¬ ((k : Int) < ((lst f.rows).length : Int)) := by omega
    rw [yo1, e1]
    simp [ykb, hn]
  | succ d ih =>
    intro k b hk
    have hlt : k < (lst f.rows).length := by omega
    have hc : ((k : Int) < ((lst f.rows).length : Int)) := by omega
    have k1 := ydi (o := f.rows) (i := k) (List.getElem?_eq_getElem hlt) .i64
    have hw := y1j hlt hl
    rw [yo1, List.drop_eq_getElem_cons hlt, List.any_cons]
    generalize (lst f.rows)[k] = r at *
    cases b with
    | true => simp [ykb, hc]
    | false =>
      have ih0 := fun b => ih (k + 1) b (by omega)
      push_cast at ih0
      by_cases h1 : r.f = i
      · simp [ykb, yvi, ytt, hc, k1, h1, hw, ih0]
      by_cases h2 : r.t = i
      · simp [ykb, yvi, ytt, hc, k1, h1, h2, hw, ih0]
      · simp [ykb, yvi, ytt, hc, k1, h1, h2, hw, ih0]
theorem yzn (f : Fn) (hc : (lst f.code).length ≤ 274877906944) (hr : (lst f.rows).length ≤ 9223372036854775807) : ∀ (d k g : Nat) (o1 : AO), k + d = (lst f.code).length →
    yjy (.lp 0 1 0 0) (y2g Int 2 g (y2p f k)) (.int .i64 k) [⟨1, .arr true false 5 [enc f]⟩, o1, y2d g D0 (y2p f k)] = some (exO (nz (y21 f))) := by
  intro d
  induction d with
  | zero =>
    intro k g o1 hk
    have hk' : k = (lst f.code).length := by omega
    have hn : ¬ ((k : Int) < ((lst f.code).length : Int)) := by omega
    have hx := y50 (H := [⟨1, .arr true false 5 [enc f]⟩, o1, y2d g D0 (y2p f k)]) (j := 2) (g := g) (o := D0) (L := y2p f k) rfl
    rw [yn1, y21, ← hk', ← hx]
    simp [yct, y1nr, hk']
  | succ d ih =>
    intro k g o1 hk
    have hlt : k < (lst f.code).length := by omega
    have hck : ((k : Int) < ((lst f.code).length : Int)) := by omega
    have hw := y1j hlt (by omega)
    rw [yn1]
    have ih0 := fun g o1 => ih (k + 1) g o1 (by omega)
    push_cast at ih0
    simp only [y2p] at ih0
    have step : ∀ b : Bool, yke (.lp 0 1 0 0) (y2g Int 2 g (y2p f k)) (.int .i64 k) (.bool b) [⟨1, .arr true false 5 [enc f]⟩, o1, y2d g D0 (y2p f k)] = (if b = y5v f k then some (exO (nz (y21 f))) else yke (.lp 0 1 0 0) (y2g Int 2 g (y2p f k)) (.int .i64 k) (.bool b) [⟨1, .arr true false 5 [enc f]⟩, o1, y2d g D0 (y2p f k)]) := by
      intro b
      split
      · rename_i hb
        cases b with
        | false =>
          have ih0 := ih0 g o1
          rw [← hb] at ih0
          simp only [Bool.false_eq_true, if_false, List.append_nil] at ih0
          simp [yke, yxq, hw, ih0]
        | true =>
          rw [← hb] at ih0
          simp only [if_true] at ih0
          obtain ⟨g', ha⟩ := yyi (H := [⟨1, .arr true false 5 [enc f]⟩, ⟨o1.gen + 1, .arr false false 1 [[.int .i64 k]]⟩, y2d g D0 (y2p f k)]) (fb := 0) (j := 2) (g := g) (o := D0) (y := .ls 1 (o1.gen + 1) 1 0 1) (L := y2p f k) (n := k) (by simp) rfl (by have := yfh f k; omega)
          have ha' : y3c 0 (some 2) 1 8 (y2g Int 2 g (y2p f k)) (.ls 1 (o1.gen + 1) 1 0 1) [⟨1, .arr true false 5 [enc f]⟩, ⟨o1.gen + 1, .arr false false 1 [[.int .i64 k]]⟩, y2d g D0 (y2p f k)] = some (y2g Int 2 g' (y2p f k ++ [(k : Int)]), [⟨1, .arr true false 5 [enc f]⟩, ⟨o1.gen + 1, .arr false false 1 [[.int .i64 k]]⟩, y2d g' D0 (y2p f k ++ [(k : Int)])]) := ha
          simp [yke, yxq, hw, y10, y1b, ha', ih0]
      · rfl
    have cr := fun v3 t b => yzc f v3 k t (by omega) _ 0 b (Nat.zero_add _)
    have rr := fun v3 t b => yzo f v3 k t hr _ 0 b (Nat.zero_add _)
    simp only [List.drop_zero, Int.ofNat_zero] at cr rr
    have cr' : ∀ v3 t b, yfy (.lp 0 1 0 0) v3 (.int .i64 k) (.bool b) (⟨1, .arr true false 5 [enc f]⟩ :: t) = _ := cr
    have rr' : ∀ v3 t b, yqx (.lp 0 1 0 0) v3 (.int .i64 k) (.bool b) (⟨1, .arr true false 5 [enc f]⟩ :: t) = _ := rr
    by_cases h0 : k = 0
    · have hh : y5v f k = true := by rw [y22b h0]
      have h00 : ¬ (0 : Int) < (k : Int) := by omega
      have hkz : (k : Int) = 0 := by omega
      have e : yct (.lp 0 1 0 0) (y2g Int 2 g (y2p f k)) (.int .i64 k) [⟨1, .arr true false 5 [enc f]⟩, o1, y2d g D0 (y2p f k)] = yfy (.lp 0 1 0 0) (y2g Int 2 g (y2p f k)) (.int .i64 k) (.bool true) [⟨1, .arr true false 5 [enc f]⟩, o1, y2d g D0 (y2p f k)] := by
        subst h0
        simp [yct, yqo, ypl, hlt]
      rw [e, cr', rr', step, if_pos (by rw [hh]; simp)]
    · have h01 : (0 : Int) < (k : Int) := by omega
      have hkz : ¬ (k : Int) = 0 := by omega
      have hp : k - 1 < (lst f.code).length := by omega
      have k1 := y4v (o := f.code) (i := k - 1) (y3p hp) .i64
      have hw2 : IntKind.wrap .i64 ((k : Int) - 1) = ((k - 1 : Nat) : Int) := by rw [y2r] <;> omega
      have e : yct (.lp 0 1 0 0) (y2g Int 2 g (y2p f k)) (.int .i64 k) [⟨1, .arr true false 5 [enc f]⟩, o1, y2d g D0 (y2p f k)] =
          yfy (.lp 0 1 0 0) (y2g Int 2 g (y2p f k)) (.int .i64 k) (.bool (leads (yk f (k - 1)).op || ends (yk f (k - 1)).op)) [⟨1, .arr true false 5 [enc f]⟩, o1, y2d g D0 (y2p f k)] := by
        cases hd : leads (yk f (k - 1)).op <;> simp [yct, yqo, ypl, hlt, h0, show 0 < k by omega, hw2, k1, hd]
      rw [e, cr', rr', step, if_pos (by simp [y5v, h0])]
theorem y254 (f : Fn) (hc : (lst f.code).length ≤ 30000) (hr : (lst f.rows).length ≤ 1000000) : (y8 E).p 106 [.agg (enc f)] = some (exO (nz (y21 f))) := by
  rw [y2mx]
  have h := yzn f (by omega) (by omega) _ 0 0 D0 (Nat.zero_add _)
  simp only [Int.ofNat_zero, y2p, ydm, ydv] at h
  have h' : y0d (.lp 0 1 0 0) .nils [⟨1, .arr true false 5 [enc f]⟩, D0, D0] = _ := h
  simp [y08, yyk, h']
end Go.Vm
namespace Go.Vm
open Cel
def yzb (x y : Ins) : Bool := decide (x.op = y.op) && decide (x.a = y.a) && (decide (x.op ≠ 9) || decide (x.b = y.b))
def hitX (x : Ins) (d : Int) : Bool := decide (0 ≤ d) && (decide (d = x.a) || (decide (x.op = 9) && decide (d = x.b)))
def yci (f : Fn) (x : Ins) : Nat → Bool
  | 0 => false
  | k + 1 => if y5v f (k + 1) then false else if yzb x (yk f k) then true else if hitX x (defr (yk f k)) then false else yci f x k
theorem y2bt {x y : Ins} (h : yzb x y = true) : ofM y = ofM x := by
  simp only [yzb, Bool.and_eq_true, Bool.or_eq_true, decide_eq_true_eq] at h
  obtain ⟨⟨h1, h2⟩, h3⟩ := h
  unfold ofM
  rw [← h1, ← h2]
  by_cases h9 : x.op = 9
  · rw [h3.resolve_left (fun h => h h9)]
  · by_cases h7 : x.op = 7 ∨ x.op = 8 ∨ x.op = 10
    · rw [if_pos h7, if_pos h7]
    · rw [if_neg h7, if_neg h7, if_neg h9, if_neg h9]
theorem yo2 {f : Fn} {x : Ins} {c : Fa} (hc : ofM x = some c) : ∀ {k : Nat}, yci f x k = true → yav f k c
  | 0, h => by cases h
  | k + 1, h => by
    rw [yci] at h
    split at h
    · cases h
    · rename_i hh
      refine ⟨by simpa using hh, ?_⟩
      split at h
      · rename_i hs
        exact .inl ((y2bt hs).trans hc)
      · split at h
        · cases h
        · rename_i hx
          refine .inr ⟨yo2 hc h, ?_⟩
          by_cases hd : defr (yk f k) < 0
          · exact .inl hd
          · right
            have h0 : decide (0 ≤ defr (yk f k)) = true := decide_eq_true (by omega)
            simp only [hitX, h0, Bool.true_and, Bool.or_eq_true, Bool.and_eq_true, decide_eq_true_eq, not_or, not_and] at hx
            unfold ofM at hc
            split at hc
            · injection hc with hc
              subst hc
              exact ⟨fun e => hx.1 e.symm, fun e => hd (by simp only at e; omega)⟩
            · split at hc
              · rename_i h9
                injection hc with hc
                subst hc
                exact ⟨fun e => hx.1 e.symm, fun e => hx.2 h9 e.symm⟩
              · cases hc
theorem ynv {f : Fn} {i : Nat} (hi : i < (lst f.code).length) : (i : Int) ∈ y21 f ↔ y5v f i = true := by
  have key : ∀ n : Nat, (i : Int) ∈ y2p f n ↔ i < n ∧ y5v f i = true := by
    intro n
    induction n with
    | zero => simp [y2p]
    | succ n ih =>
      rw [y2p, List.mem_append, ih]
      constructor
      · rintro (⟨h1, h2⟩ | h)
        · exact ⟨by omega, h2⟩
        · split at h
          · rename_i hn
            rw [List.mem_singleton] at h
            have : i = n := by omega
            subst this
            exact ⟨by omega, hn⟩
          · cases h
      · rintro ⟨h1, h2⟩
        by_cases e : i = n
        · subst e; right; rw [if_pos h2]; simp
        · exact .inl ⟨by omega, h2⟩
  rw [y21, key]
  exact ⟨fun h => h.2, fun h => ⟨hi, h⟩⟩
theorem y21y (o : Int) : (y8 E).p 173 [.int .i64 o] = some ⟨.bool (decide (7 ≤ o) && decide (o ≤ 10)), [], true, [], []⟩ := by
  rw [y2lf, y1ii]
  by_cases h1 : 7 ≤ o
  · by_cases h2 : o ≤ 10
    · simp [h1, h2]
    · simp [h1, h2]
  · simp [h1]
theorem y2j0 (x y : Ins) : (y8 E).p 175 [.agg (enc x), .agg (enc y)] = some ⟨.bool (yzb x y), [], true, [], []⟩ := by
  have n0 : newC 0 (some 0) (cellsOf (.agg (enc x))) [D0, D0] = some (.lp 0 1 0 0, [AX 1 x, D0]) := by simp
  have n1 : newC 0 (some 1) (cellsOf (.agg (enc y))) [AX 1 x, D0] = some (.lp 1 1 0 0, [AX 1 x, AX 1 y]) := by simp
  have a0 : evLd false 1 (.lp 0 1 0 0) [AX 1 x, AX 1 y] = some (.int .i64 x.op) := rfl
  have a2 : evLd false 1 (.lp 0 1 0 2) [AX 1 x, AX 1 y] = some (.int .i64 x.a) := rfl
  have a3 : evLd false 1 (.lp 0 1 0 3) [AX 1 x, AX 1 y] = some (.int .i64 x.b) := rfl
  have b0 : evLd false 1 (.lp 1 1 0 0) [AX 1 x, AX 1 y] = some (.int .i64 y.op) := rfl
  have b2 : evLd false 1 (.lp 1 1 0 2) [AX 1 x, AX 1 y] = some (.int .i64 y.a) := rfl
  have b3 : evLd false 1 (.lp 1 1 0 3) [AX 1 x, AX 1 y] = some (.int .i64 y.b) := rfl
  have f : ∀ i k, evFa k (.lp i 1 0 0) = some (.lp i 1 0 (0 + k)) := fun i k => rfl
  have ex : ∀ b, yd [AX 1 x, AX 1 y] (.bool b) = some ⟨.bool b, [], true, [], []⟩ := fun b => rfl
  rw [y2ns, show ([⟨0, .dead⟩, ⟨0, .dead⟩] : Heap) = [D0, D0] from rfl, y1ut, n0, yc, n1, yc]
  simp only [f, y5, Nat.zero_add, a0, b0, yu]
  unfold yzb
  by_cases h1 : x.op = y.op
  · have e1 := decide_eq_true h1
    by_cases h2 : x.a = y.a
    · have e2 := decide_eq_true h2
      by_cases h9 : x.op = 9
      · have e9 : decide (x.op ≠ 9) = false := decide_eq_false (fun h => h h9)
        simp only [e1, e2, e9, y5o, a2, b2, a0, a3, b3, y5, yu, yij, Bool.true_and, y1c, y1i, yff, Bool.false_or, ex]
      · have e9 : decide (x.op ≠ 9) = true := decide_eq_true h9
        simp only [e1, e2, e9, y5o, yr4, y4i, a2, b2, a0, y5, yu, yij, Bool.true_and, y1c, Bool.true_or, ex]
    · have e2 := decide_eq_false h2
      simp only [e1, e2, y5o, y82, y4i, a2, b2, y5, yu, Bool.and_false, Bool.false_and, y1c, y1i, ex]
  · have e1 := decide_eq_false h1
    simp only [e1, y82, y4i, y5, Bool.false_and, y1i, ex]
section
variable {f : Fn} (hc : (lst f.code).length ≤ 30000) {x : Ins} {k : Nat}
include hc
theorem y01 (hk : k < (lst f.code).length) {H : Heap} : ∀ (d j : Nat), j + d = (y21 f).length →
    ykk (slA (nz (y21 f))) (.lp 0 1 0 0) (.lp 1 1 0 0) (.int .i64 (k : Int)) (.int .i64 (j : Int)) H =
      if (k : Int) ∈ (y21 f).drop j then some ⟨.bool false, [], true, [], []⟩ else y14b (slA (nz (y21 f))) (.lp 0 1 0 0) (.lp 1 1 0 0) (.int .i64 (k : Int)) H := by
  have ln : yv 1 (slA (nz (y21 f))) H = some (.int .i64 (y21 f).length) := by rw [y8z, y9j]
  intro d
  induction d with
  | zero =>
    intro j hd
    have hq : ¬ (j : Int) < ((y21 f).length : Int) := by omega
    have e : (y21 f).drop j = [] := List.drop_eq_nil_of_le (by omega)
    rw [yne, yqe, ln, y5, y12, y5, decide_eq_false hq, y28, e, if_neg (by simp)]
  | succ d ih =>
    intro j hd
    have hlt : j < (y21 f).length := by omega
    have hq : (j : Int) < ((y21 f).length : Int) := by omega
    have hhl : (y21 f).length ≤ (lst f.code).length := yfh f _
    have kx := y3l (o := nz (y21 f)) (i := j) (by rw [y9j]; exact List.getElem?_eq_getElem hlt) .i64
    have hdr : (y21 f).drop j = (y21 f)[j] :: (y21 f).drop (j + 1) := List.drop_eq_getElem_cons hlt
    rw [hdr]
    generalize (y21 f)[j] = u at *
    have lx : evLd false 1 (.rp [.int .i64 u]) H = some (.int .i64 u) := by simp
    have nl : y6 .add (.int .i64 (j : Int)) (.int .i64 1) = some (.int .i64 ((j + 1 : Nat) : Int)) := yik hlt (by omega)
    rw [yne, yqe, ln, y5, y12, y5, decide_eq_true hq, y22, y1so, kx, y5, lx, y5, yu, y5]
    by_cases e : u = k
    · rw [decide_eq_true e, y22, if_pos (by simp [e])]
      rfl
    · have e' : ¬ (k : Int) = u := fun h => e h.symm
      rw [decide_eq_false e, y28, y1r2, nl, y5, ih (j + 1) (by omega)]
      simp only [List.mem_cons, e', false_or]
theorem y1di : ∀ (k : Nat) (H : Heap), k < (lst f.code).length → (∃ o, H = [AB f, AX 1 x, o]) →
    ykt (slA (nz (y21 f))) (.lp 0 1 0 0) (.lp 1 1 0 0) (.int .i64 (k : Int)) H = some ⟨.bool (yci f x k), [], true, [], []⟩ := by
  intro k
  induction k with
  | zero =>
    intro H _ _
    have z : y6 .gtr (.int .i64 ((0 : Nat) : Int)) (.int .i64 0) = some (.bool false) := rfl
    rw [ynh, yqn, z, y5, y28]
    rfl
  | succ k ih =>
    rintro H hk ⟨o, rfl⟩
    have z : y6 .gtr (.int .i64 ((k + 1 : Nat) : Int)) (.int .i64 0) = some (.bool true) := by rw [y7o, decide_eq_true (by omega)]
    have hh := y01 hc (k := k + 1) hk (H := [AB f, AX 1 x, o]) _ 0 (Nat.zero_add _)
    rw [List.drop_zero] at hh
    have z0 : ((0 : Nat) : Int) = 0 := rfl
    rw [z0] at hh
    rw [ynh, yqn, z, y5, y22, yy6, hh, yci]
    cases hd : y5v f (k + 1) with
    | true =>
      rw [if_pos ((ynv hk).2 hd)]
      rfl
    | false =>
      have hn : ¬ ((k + 1 : Nat) : Int) ∈ y21 f := fun h => by rw [(ynv hk).1 h] at hd; cases hd
      rw [if_neg hn]
      have fa3 : evFa 3 (.lp 0 1 0 0) = some (.lp 0 1 0 3) := rfl
      have l3 : evLd false 1 (.lp 0 1 0 3) [AB f, AX 1 x, o] = some (slA f.code) := rfl
      have sb : y6 .sub (.int .i64 ((k + 1 : Nat) : Int)) (.int .i64 1) = some (.int .i64 (k : Int)) := by
        rw [yuq]
        congr 2
        rw [y2r] <;> omega
      have ix := y4v (o := f.code) (i := k) (y3p (by omega)) .i64
      generalize yk f k = y at *
      have lx : ∀ H : Heap, evLd true 9 (.rp (enc y)) H = some (.agg (enc y)) := fun H => rfl
      have nx : newC 0 (some 2) ypr [AB f, AX 1 x, o] = some (.lp 2 (o.gen + 1) 0 0, [AB f, AX 1 x, AX (o.gen + 1) default]) := y23a (H := [AB f, AX 1 x, o]) (fb := 0) (j := 2) (o := o) rfl
      have sx : evSt 9 (.lp 2 (o.gen + 1) 0 0) (.agg (enc y)) [AB f, AX 1 x, AX (o.gen + 1) default] = some (.tup [], [AB f, AX 1 x, AX (o.gen + 1) y]) := st_x (H := [AB f, AX 1 x, AX (o.gen + 1) default]) (id := 2) (g := o.gen + 1) (x := default) rfl
      have la : evLd true 9 (.lp 2 (o.gen + 1) 0 0) [AB f, AX 1 x, AX (o.gen + 1) y] = some (.agg (enc y)) := y1no (H := [AB f, AX 1 x, AX (o.gen + 1) y]) (id := 2) (g := o.gen + 1) rfl
      have l1 : evLd true 9 (.lp 1 1 0 0) [AB f, AX 1 x, AX (o.gen + 1) y] = some (.agg (enc x)) := y1no (H := [AB f, AX 1 x, AX (o.gen + 1) y]) (id := 1) (g := 1) rfl
      have fz2 : ∀ H : Heap, yl (fz H y18) [.agg (enc x), .agg (enc y)] = some ⟨[.agg (enc x), .agg (enc y)], scal x && (scal y && true), []⟩ := fun H => by
        rw [yj, yj, y81, y81, y15]; rfl
      have c175 : ∀ H, y7 E (y8 E) 0 none true 175 [.agg (enc x), .agg (enc y)] H = some (.bool (yzb x y), H) := fun H => y27 rfl (fz2 H) rfl (y2j0 x y) ⟨_, rfl, rfl⟩
      have c16 : ∀ H, y7 E (y8 E) 0 none true 16 [.agg (enc y)] H = some (.int .i64 (defr y), H) := fun H => y27 rfl (fz_x y H) rfl (y2ku y) ⟨_, rfl, rfl⟩
      rw [y14b, fa3, y5, l3, y5, sb, y5, ix, y5, lx, y5, nx, yc, sx, yc, y1tc, l1, y5, la, y5, c175, yc]
      cases hs : yzb x y with
      | true => rw [y22]; rfl
      | false =>
        rw [y28, y1u9, la, y5, c16, yc, yej, y5]
        have xo : evLd false 1 (.lp 1 1 0 0) [AB f, AX 1 x, AX (o.gen + 1) y] = some (.int .i64 x.op) := rfl
        have xa : evLd false 1 (.lp 1 1 0 2) [AB f, AX 1 x, AX (o.gen + 1) y] = some (.int .i64 x.a) := rfl
        have xb : evLd false 1 (.lp 1 1 0 3) [AB f, AX 1 x, AX (o.gen + 1) y] = some (.int .i64 x.b) := rfl
        have fx0 : evFa 0 (.lp 1 1 0 0) = some (.lp 1 1 0 0) := rfl
        have fx2 : evFa 2 (.lp 1 1 0 0) = some (.lp 1 1 0 2) := rfl
        have fx3 : evFa 3 (.lp 1 1 0 0) = some (.lp 1 1 0 3) := rfl
        have go : y11a (slA (nz (y21 f))) (.lp 0 1 0 0) (.lp 1 1 0 0) (.int .i64 ((k + 1 : Nat) : Int)) [AB f, AX 1 x, AX (o.gen + 1) y] = some ⟨.bool (yci f x k), [], true, [], []⟩ := by
          rw [y11a, sb, y5]
          exact ih _ (by omega) ⟨_, rfl⟩
        have no : yd [AB f, AX 1 x, AX (o.gen + 1) y] (.bool false) = some ⟨.bool false, [], true, [], []⟩ := rfl
        simp only [Bool.false_eq_true, if_false]
        by_cases h0 : 0 ≤ defr y
        · have e0 := decide_eq_true h0
          by_cases ha : defr y = x.a
          · have ea := decide_eq_true ha
            have hx : hitX x (defr y) = true := by rw [hitX, e0, ea]; rfl
            rw [hx]
            simp only [e0, ea, y5o, yr4, y4i, fx2, xa, yu, y5, y1c, y22, no, if_true]
          · have ea := decide_eq_false ha
            by_cases h9 : x.op = 9
            · have e9 := decide_eq_true h9
              by_cases hb : defr y = x.b
              · have eb := decide_eq_true hb
                have hx : hitX x (defr y) = true := by rw [hitX, e0, ea, e9, eb]; rfl
                rw [hx]
                simp only [e0, ea, e9, eb, y5o, yff, y4i, fx0, fx2, fx3, xo, xa, xb, yu, y5, y1i, y1c, y22, no, if_true]
              · have eb := decide_eq_false hb
                have hx : hitX x (defr y) = false := by rw [hitX, e0, ea, e9, eb]; rfl
                rw [hx]
                simp only [e0, ea, e9, eb, y5o, yff, y4i, fx0, fx2, fx3, xo, xa, xb, yu, y5, y1i, y1c, y28, go, Bool.false_eq_true, if_false]
            · have e9 := decide_eq_false h9
              have hx : hitX x (defr y) = false := by rw [hitX, e0, ea, e9]; rfl
              rw [hx]
              simp only [e0, ea, e9, y5o, yff, y82, y4i, fx0, fx2, xo, xa, yu, y5, y1i, y1c, y28, go, Bool.false_eq_true, if_false]
        · have e0 := decide_eq_false h0
          have hx : hitX x (defr y) = false := by rw [hitX, e0]; rfl
          rw [hx]
          simp only [e0, y82, yff, y4i, y5, y1i, y28, go, Bool.false_eq_true, if_false]
theorem y2ig {i : Nat} (hi : i < (lst f.code).length) : (y8 E).p 174 [.agg (enc f), slA (nz (y21 f)), .int .i64 (i : Int)] = some ⟨.bool (yci f (yk f i) i), [], true, [], []⟩ := by
  have n0 : newC 0 (some 0) (cellsOf (.agg (enc f))) [D0, D0, D0] = some (.lp 0 1 0 0, [AB f, D0, D0]) := by simp
  have fa3 : evFa 3 (.lp 0 1 0 0) = some (.lp 0 1 0 3) := rfl
  have l3 : evLd false 1 (.lp 0 1 0 3) [AB f, D0, D0] = some (slA f.code) := rfl
  have ix := y4v (o := f.code) (i := i) (y3p hi) .i64
  have lx : ∀ H : Heap, evLd true 9 (.rp (enc (yk f i))) H = some (.agg (enc (yk f i))) := fun H => rfl
  have nx : newC 0 (some 1) ypr [AB f, D0, D0] = some (.lp 1 1 0 0, [AB f, AX 1 default, D0]) := y23a (H := [AB f, D0, D0]) (fb := 0) (j := 1) (o := D0) rfl
  have sx : evSt 9 (.lp 1 1 0 0) (.agg (enc (yk f i))) [AB f, AX 1 default, D0] = some (.tup [], [AB f, AX 1 (yk f i), D0]) := st_x (H := [AB f, AX 1 default, D0]) (id := 1) (g := 1) (x := default) rfl
  rw [y2kp, show ([⟨0, .dead⟩, ⟨0, .dead⟩, ⟨0, .dead⟩] : Heap) = [D0, D0, D0] from rfl, y0j, n0, yc, yz9, fa3, y5, l3, y5, ix, y5, lx, y5, nx, yc, sx, yc, yyv]
  exact y1di hc i _ hi ⟨_, rfl⟩
end
end Go.Vm
namespace Go.Vm
open Cel
attribute [local simp] y7 y25 ym
@[simp] theorem y2oc (op : Int) : (y8 E).p 19 [.int .i64 op] = some ⟨.bool (throws op), [], true, [], []⟩ := by
  rw [y2oe, y1zy]
  by_cases h1 : 7 ≤ op
  · by_cases h2 : op ≤ 12
    · simp [h1, h2, throws]
    · simp [h1, h2, y10, y1b, yr7 1 0 0 0, y24s, throws]
      by_cases h3 : op = 20
      · simp [h3]
      by_cases h4 : op = 21
      · simp [h4]
      by_cases h5 : op = 31 <;> simp [h3, h4, h5]
  · have h4 : ¬ op = 20 ∧ ¬ op = 21 ∧ ¬ op = 31 := by omega
    simp [h1, y10, y1b, yr7 1 0 0 0, y24s, throws, h4]
theorem y1rd (n : Int) (o : Option (List Int)) (hl : (lst o).length ≤ 9223372036854775807) (h : Heap) : ∀ (d i : Nat), i + d = (lst o).length →
    ylk (slA o) (.int .i64 n) (.int .i64 i) h = some ⟨.bool (((lst o).drop i).contains n), [], true, [], []⟩ := by
  intro d
  induction d with
  | zero =>
    intro i hi
    have e1 : (lst o).drop i = [] := List.drop_eq_nil_of_le (by omega)
    have hn : ¬ ((i : Int) < ((lst o).length : Int)) := by omega
    rw [yni, e1]
    simp [yog, yo0, yn3, yms, yom, ymc, hn]
  | succ d ih =>
    intro i hi
    have hlt : i < (lst o).length := by omega
    have hn : ((i : Int) < ((lst o).length : Int)) := by omega
    have k1 := y3l (o := o) (i := i) (List.getElem?_eq_getElem hlt) .i64
    rw [yni, List.drop_eq_getElem_cons hlt, List.contains_cons]
    have ih := ih (i + 1) (by omega)
    push_cast at ih
    generalize (lst o)[i] = x at *
    by_cases he : x = n
    · simp [yog, yo0, yn3, yms, yom, ymc, hn, k1, he]
    · have he' : ¬ n = x := fun h => he h.symm
      simp [yog, yo0, yn3, yms, yom, ymc, hn, k1, he, he', y1j hlt hl, ih]
theorem y1wq (n : Int) (o : Option (List Int)) (hl : (lst o).length ≤ 9223372036854775807) : (y8 E).p 96 [slA o, .int .i64 n] = some ⟨.bool ((lst o).contains n), [], true, [], []⟩ := by
  have := y1rd n o hl [] _ 0 (Nat.zero_add _)
  simp only [Int.ofNat_zero, List.drop_zero] at this
  rw [y2lr, ← this]
  simp [yog, yo0, yn3, yms, yom, ymc]
theorem yp5 (a b : Int) : (y8 E).p 96 [.rs 1 [[.int .i64 a]], .int .i64 b] = some ⟨.bool ([a].contains b), [], true, [], []⟩ := by
  have := y1wq b (some [a]) (by simp)
  exact this
theorem y2k6 (f : Fn) (i : Int) (hl : (lst f.code).length ≤ 9223372036854775807) : (y8 E).p 95 [.agg (enc f), .int .i64 i] = some (exO (nz (y3d f i))) := by
  rw [y2o5]
  by_cases h0 : i < 0
  · simp [ycd, ycj, yco, yv2, ywp, yse, ym5, h0, y3d, nz]; rfl
  by_cases h1 : ((lst f.code).length : Int) ≤ i
  · simp [ycd, ycj, yco, yv2, ywp, yse, ym5, h0, h1, y3d, nz]; rfl
  have g0 : 0 ≤ i := by omega
  have hx := y3p (f := f) (i := i.toNat) (by omega)
  have k1 := y6s (o := f.code) g0 hx .i64
  have hw := ywe g0 (by omega) hl
  have hn : y3d f i = yr1 (yk f i.toNat) i := by rw [y3d, if_neg (by omega)]
  rw [hn]
  generalize yk f i.toNat = x at *
  have e : ym5 (.agg (enc f)) (.int .i64 i) [⟨0, .dead⟩, ⟨0, .dead⟩, ⟨0, .dead⟩, ⟨0, .dead⟩, ⟨0, .dead⟩] = yco (.int .i64 i) (.lp 1 1 0 0) .nils [⟨1, .arr true false 5 [enc f]⟩, ⟨1, .arr true false 9 [enc x]⟩, ⟨0, .dead⟩, ⟨0, .dead⟩, ⟨0, .dead⟩] := by
    simp [ym5, yse, ywp, yv2, h0, h1, k1]
  rw [e, yr1]
  cases he : ends x.op with
  | true =>
    cases hd : leads x.op with
    | false => simp [yco, ycj, ycd, he, hd, nz]; rfl
    | true =>
      have := y1wq x.t none (by simp)
      simp [yco, ycj, ycd, he, hd, nz, slA] at this ⊢
      simp [this, y10, y1b, y3c, addN]
      exact y61 (by simp)
  | false =>
    cases hd : leads x.op with
    | false =>
      simp [yco, ycj, ycd, he, hd, hw, y10, y1b, y3c]
      exact y61 (by simp)
    | true =>
      have hz : fz [⟨1, .arr true false 5 [enc f]⟩, ⟨1, .arr true false 9 [enc x]⟩, ⟨1, .arr false false 1 [[.int .i64 (i + 1)]]⟩, ⟨0, .dead⟩, ⟨0, .dead⟩] y18 (.ls 2 1 1 0 1) = some ⟨.rs 1 [[.int .i64 (i + 1)]], true, [2]⟩ := by
        rw [y1z9]; rfl
      generalize hxt : x.t = t at *
      by_cases hc : i + 1 = t
      · subst hc
        simp [yco, ycj, ycd, he, hd, hw, y10, y1b, y3c, hz, yp5, addN, hxt]
        exact y61 (by simp)
      · have hc' : ¬ t = i + 1 := fun h => hc h.symm
        simp [yco, ycj, ycd, he, hd, hw, y10, y1b, y3c, hz, yp5, hc, hc', addN, hxt]
        exact yo4 (by simp)
theorem yx1 (f : Fn) (i : Int) (hl : (lst f.rows).length ≤ 10000000000000) : ∀ (d k g : Nat) (L : List Int) (o1 o2 : AO), k + d = (lst f.rows).length → L.length ≤ k →
    yiy (.int .i64 i) (.lp 0 1 0 0) (y2g Int 3 g L) (.int .i64 k) [⟨1, .arr true false 5 [enc f]⟩, o1, o2, y2d g D0 L] = some (exO (nz (y2o i ((lst f.rows).drop k) L))) := by
  intro d
  induction d with
  | zero =>
    intro k g L o1 o2 hk _
    have e1 : (lst f.rows).drop k = [] := List.drop_eq_nil_of_le (by omega)
    have hn : ¬ ((k : Int) < ((lst f.rows).length : Int)) := by omega
    have hx := y50 (H := [⟨1, .arr true false 5 [enc f]⟩, o1, o2, y2d g D0 L]) (j := 3) (g := g) (o := D0) (L := L) rfl
    rw [ymz, e1]
    simp [ykr, y1i9, hn, y2o, hx]
  | succ d ih =>
    intro k g L o1 o2 hk hL
    have hlt : k < (lst f.rows).length := by omega
    have hc : ((k : Int) < ((lst f.rows).length : Int)) := by omega
    have k1 := ydi (o := f.rows) (i := k) (List.getElem?_eq_getElem hlt) .i64
    rw [ymz, List.drop_eq_getElem_cons hlt]
    generalize hr : (lst f.rows)[k] = r at *
    have ih0 := fun g L o1 o2 hL => ih (k + 1) g L o1 o2 (by omega) hL
    push_cast at ih0
    have hw := y1j hlt (by omega)
    have e11 : ykr (.int .i64 i) (.lp 0 1 0 0) (y2g Int 3 g L) (.int .i64 k) [⟨1, .arr true false 5 [enc f]⟩, o1, o2, y2d g D0 L] =
        yl4 (.int .i64 i) (.lp 0 1 0 0) (y2g Int 3 g L) (.int .i64 k) (.lp 1 (o1.gen + 1) 0 0) [⟨1, .arr true false 5 [enc f]⟩, ⟨o1.gen + 1, .arr true false 4 [enc r]⟩, o2, y2d g D0 L] := by
      simp [ykr, y1kz, hc, k1]
    rw [e11]
    generalize (o1.gen + 1) = g1
    by_cases h1 : r.f ≤ i
    rotate_left
    · have : ¬ (r.f ≤ i ∧ i < r.t) := by omega
      simp [yl4, yoc, yoq, h1, hw, y2o, ih0 g L _ _ (by omega)]
    by_cases h2 : i < r.t
    rotate_left
    · have : ¬ (r.f ≤ i ∧ i < r.t) := by omega
      simp [yl4, yoc, yoq, h1, h2, hw, y2o, ih0 g L _ _ (by omega)]
    rw [y2o, if_pos ⟨h1, h2⟩]
    have hz : ∀ o2, fz [⟨1, .arr true false 5 [enc f]⟩, ⟨g1, .arr true false 4 [enc r]⟩, o2, y2d g D0 L] y18 (y2g Int 3 g L) = some ⟨slA (nz L), true, ids1 (y2g Int 3 g L)⟩ := fun o2 => y13k rfl
    have hct := y1wq r.at_ (nz L) (by rw [y9j]; omega)
    rw [y9j] at hct
    have tail : ∀ g L o2, L.length ≤ k + 1 → yow (.int .i64 i) (.lp 0 1 0 0) (y2g Int 3 g L) (.int .i64 k) (.lp 1 g1 0 0) [⟨1, .arr true false 5 [enc f]⟩, ⟨g1, .arr true false 4 [enc r]⟩, o2, y2d g D0 L] =
        some (exO (nz (if r.c = [] then L else y2o i ((lst f.rows).drop (k + 1)) L))) := by
      intro g L o2 hL
      have hx := y50 (H := [⟨1, .arr true false 5 [enc f]⟩, ⟨g1, .arr true false 4 [enc r]⟩, o2, y2d g D0 L]) (j := 3) (g := g) (o := D0) (L := L) rfl
      by_cases hcl : r.c = []
      · simp [yow, hcl, hx]
      · simp [yow, yoq, hcl, hw, ih0 g L _ _ hL]
    unfold addN
    cases hb : L.contains r.at_ with
    | true =>
      rw [hb] at hct
      rw [if_pos rfl]
      have := tail g L o2 (by omega)
      simp [yl4, yoc, y17m, h1, h2, hz, hct, this]
    | false =>
      rw [hb] at hct
      rw [if_neg Bool.false_ne_true]
      obtain ⟨g', ha⟩ := yyi (H := [⟨1, .arr true false 5 [enc f]⟩, ⟨g1, .arr true false 4 [enc r]⟩, ⟨o2.gen + 1, .arr false false 1 [[.int .i64 r.at_]]⟩, y2d g D0 L]) (fb := 0) (j := 3) (g := g) (o := D0) (y := .ls 2 (o2.gen + 1) 1 0 1) (L := L) (n := r.at_) (by simp) rfl (by omega)
      have ha' : y3c 0 (some 3) 1 8 (y2g Int 3 g L) (.ls 2 (o2.gen + 1) 1 0 1) [⟨1, .arr true false 5 [enc f]⟩, ⟨g1, .arr true false 4 [enc r]⟩, ⟨o2.gen + 1, .arr false false 1 [[.int .i64 r.at_]]⟩, y2d g D0 L] = some (y2g Int 3 g' (L ++ [r.at_]), [⟨1, .arr true false 5 [enc f]⟩, ⟨g1, .arr true false 4 [enc r]⟩, ⟨o2.gen + 1, .arr false false 1 [[.int .i64 r.at_]]⟩, y2d g' D0 (L ++ [r.at_])]) := ha
      have := tail g' (L ++ [r.at_]) ⟨o2.gen + 1, .arr false false 1 [[.int .i64 r.at_]]⟩ (by simp; omega)
      simp [yl4, yoc, y17m, h1, h2, hz, hct, y10, y1b, ha', this]
theorem y1me (f : Fn) (i : Int) (hl : (lst f.rows).length ≤ 10000000000000) : (y8 E).p 92 [.agg (enc f), .int .i64 i] = some (exO (nz (y11 f i))) := by
  rw [y2ne]
  by_cases h0 : i < 0
  · simp [yfb, yg4, yf2, h0, y11, nz]; rfl
  by_cases h1 : ((lst f.code).length : Int) ≤ i
  · simp [yfb, yg4, yf2, h0, h1, y11, nz]; rfl
  have g0 : 0 ≤ i := by omega
  have hx := y3p (f := f) (i := i.toNat) (by omega)
  have k1 := y6s (o := f.code) g0 hx .i64
  have hn : y11 f i = if throws (yk f i.toNat).op then y2o i (lst f.rows) [] else [] := by rw [y11, if_neg (by omega)]
  rw [hn]
  generalize yk f i.toNat = x at *
  have lp := yx1 f i hl _ 0 0 [] D0 D0 (Nat.zero_add _) (Nat.zero_le _)
  simp only [ydm, ydv, List.drop_zero, Int.ofNat_zero] at lp
  have lp' : y04 (.int .i64 i) (.lp 0 1 0 0) .nils [⟨1, .arr true false 5 [enc f]⟩, D0, D0, D0] = some (exO (nz (y2o i (lst f.rows) []))) := lp
  cases ht : throws x.op with
  | false => simp [yfb, yg4, yf2, h0, h1, k1, ht, nz]; rfl
  | true => simp [yfb, yg4, yf2, h0, h1, k1, ht, lp']
end Go.Vm
namespace Go.Vm
open Cel
attribute [local simp] y7 y25 ym
theorem y2s9 (f : Fn) (i : Int) (hc : (lst f.code).length ≤ 9223372036854775807) (hr : (lst f.rows).length ≤ 100000000000) : (y8 E).p 105 [.agg (enc f), .int .i64 i] = some (exO (nz (y3d f i ++ y11 f i))) := by
  rw [y2o2]
  have hN := y2k6 f i hc
  have hC := y1me f i (by omega)
  have c2 : ∀ h : Heap, y7 E (y8 E) 0 none true 92 [.agg (enc f), .int .i64 i] h = some (slA (nz (y11 f i)), h) := fun h => by simp [hC]
  have hl1 := yhs f i
  have hl2 := yd4 f i
  generalize y3d f i = N at *
  generalize y11 f i = M at *
  have c1 := y1j5 (α := Int) (E := E) (C := y8 E) (fb := 0) (j := 1) (f := 95) (args := [.agg (enc f), .int .i64 i]) (H := [⟨1, .arr true false 5 [enc f]⟩, D0, D0]) (N := N) (o := D0) rfl (by simp; rfl) hN (.inl (by simp)) rfl
  have f2 : ∀ fb h, y2k E (y8 E) fb none true 92 [.agg (enc f), .int .i64 i] h = some ([], []) := fun fb h => by simp [y2k, hC]
  have f1 : y2k E (y8 E) 0 (some 1) false 95 [.agg (enc f), .int .i64 i] [⟨1, .arr true false 5 [enc f]⟩, D0, D0] = some ([], if N = [] then [] else [1]) := by
    cases N with
    | nil => simp [y2k, hN]
    | cons x N => simp [y2k, hN]
  have hb := ywm (a := N.length) (b := M.length) (by omega)
  have l1 : ∀ t : Heap, evLd true 5 (.lp 0 1 0 0) (⟨1, .arr true false 5 [enc f]⟩ :: t) = some (.agg (enc f)) := fun t => by simp
  cases N with
  | nil =>
    have a1 := y1bj (α := Int) (H := [⟨1, .arr true false 5 [enc f]⟩, D0, D0]) (fb := 0) (j := 2) (g := 0) (b := 8) (o := D0) (y := slA (nz M)) (L := []) (M := M) (by simp) rfl hb
    obtain ⟨g', a1⟩ := a1
    simp only [ydm, ydv, List.set_cons_zero, List.set_cons_succ, Nat.zero_add, List.nil_append, if_true, ywx] at c1 f1 a1
    have hx := y50 (H := [⟨1, .arr true false 5 [enc f]⟩, D0, y2d g' D0 M]) (j := 2) (g := g') (o := D0) (L := M) rfl
    have hp : ye [(ids1 (.lp 0 1 0 0), []), ([], []), ([], []), (ids1 (.lp 0 1 0 0), []), ([], []), ([], []), (ids1 (slA (nz M)), ids1 AV.nils ++ [0 + 2]), ([], [])] [(2, 3)] = true := by simp [ye, yq, meets]
    simp only [y17q, newC, ykc, yzf, if_true, y89, place, List.getElem?_cons_zero, Nat.zero_add, List.set_cons_zero, yc, y2b3, l1, y5, f1, y6v, c1, f2, c2, a1]
    simp only [Nat.zero_add] at hp
    rw [hp, y23m, hx, List.nil_append]
  | cons x N =>
    have a1 := y1rl (α := Int) (H := [⟨1, .arr true false 5 [enc f]⟩, ⟨1, .arr false false 1 ((x :: N).map enc)⟩, D0]) (fb := 0) (sl := some 2) (id := 1) (g := 1) (b := 8) (y := slA (nz M)) (L := x :: N) (M := M) (T := []) (by simp) (by simp) hb
    simp only [y2g, y2d, List.set_cons_zero, List.set_cons_succ, Nat.zero_add, ywx, List.length_cons, List.cons_append, reduceCtorEq, if_false] at c1 f1 a1
    have hx := y66 (α := Int) (h := [⟨1, .arr true false 5 [enc f]⟩, ⟨1 + 1, .arr false false 1 ((x :: (N ++ M)).map enc)⟩, D0]) (id := 1) (g := 1 + 1) (L := x :: (N ++ M)) (by simp)
    simp only [ywx, List.length_cons] at hx
    have hp : ye [(ids1 (.lp 0 1 0 0), []), ([], []), ([], [1]), (ids1 (.lp 0 1 0 0), []), ([], []), ([], []), (ids1 (slA (nz M)), ids1 (.ls 1 1 1 0 (N.length + 1)) ++ [0 + 2]), ([], [])] [(2, 3)] = true := by simp [ye, yq, meets]
    have c1' : y7 E (y8 E) 0 (some 1) false 95 [.agg (enc f), .int .i64 i] [⟨1, .arr true false 5 [enc f]⟩, D0, D0] = some (.ls 1 1 1 0 (N.length + 1), [⟨1, .arr true false 5 [enc f]⟩, ⟨1, .arr false false 1 ((x :: N).map enc)⟩, D0]) := c1
    simp only [y17q, newC, ykc, yzf, if_true, y89, place, List.getElem?_cons_zero, Nat.zero_add, List.set_cons_zero, yc, y2b3, l1, y5, f1, y6v, c1', f2, c2, a1]
    simp only [Nat.zero_add] at hp
    rw [hp, y23m, hx]
    rfl
theorem y1wd (v1 v5 : AV) (n : Nat) (b : AO) (l : List Int) (hl : l.length ≤ 9223372036854775807) : ∀ (d k : Nat) (seen : List Bool) (more : Bool), k + d = l.length → seen.length = n →
    yki v1 (.ls 1 1 1 0 n) (.bool more) v5 (slA (nz l)) (.int .i64 k) [b, ⟨1, .arr false false 1 (seen.map enc)⟩] =
      ynw v1 (.ls 1 1 1 0 n) (.bool (rIn (l.drop k) (seen, more)).2) v5 [b, ⟨1, .arr false false 1 ((rIn (l.drop k) (seen, more)).1.map enc)⟩] := by
  intro d
  induction d with
  | zero =>
    intro k seen more hk hn
    have e1 : l.drop k = [] := List.drop_eq_nil_of_le (by omega)
    have hnk : ¬ ((k : Int) < (l.length : Int)) := by omega
    rw [ypf, e1]
    simp [ygw, hnk, rIn]
  | succ d ih =>
    intro k seen more hk hn
    have hlt : k < l.length := by omega
    have hc : ((k : Int) < (l.length : Int)) := by omega
    have k1 := y3l (o := nz l) (i := k) (x := l[k]) (by rw [y9j]; exact List.getElem?_eq_getElem hlt) .i64
    have hw := y1j hlt hl
    rw [ypf, List.drop_eq_getElem_cons hlt]
    generalize l[k] = j at *
    have ih0 := fun seen more hn => ih (k + 1) seen more (by omega) hn
    push_cast at ih0
    rw [rIn]
    simp only
    by_cases h0 : 0 ≤ j
    rotate_left
    · rw [if_neg (fun h => h0 h.1)]
      simp [ygw, ymj, yh0, hc, k1, h0, hw, ih0 seen more hn]
    by_cases h1 : j < (n : Int)
    rotate_left
    · rw [if_neg (fun h => h1 (by rw [← hn]; exact h.2.1))]
      simp [ygw, ymj, yh0, hc, k1, h0, h1, hw, ih0 seen more hn]
    have hj : j.toNat < seen.length := by omega
    have r1 : yn 1 (.ls 1 1 1 0 n) (.int .i64 j) = some (.lp 1 1 j.toNat 0) := by simp [yn, h0, h1]
    have hgd : seen.getD j.toNat true = seen[j.toNat] := by rw [List.getD_eq_getElem?_getD, List.getElem?_eq_getElem hj]; rfl
    cases hs : seen[j.toNat] with
    | true =>
      rw [if_neg (fun h => by rw [hgd, hs] at h; cases h.2.2)]
      simp [ygw, ymj, yh0, hc, k1, h0, h1, r1, hj, hs, hw, ih0 seen more hn]
    | false =>
      rw [if_pos ⟨h0, by omega, by rw [hgd, hs]⟩]
      have st : evSt 1 (.lp 1 1 j.toNat 0) (.bool true) [b, ⟨1, .arr false false 1 (seen.map enc)⟩] = some (.tup [], [b, ⟨1, .arr false false 1 ((seen.set j.toNat true).map enc)⟩]) :=
        yqk (α := Bool) (v := .bool true) (y := true) rfl hj rfl
      have ihs := ih0 (seen.set j.toNat true) true (by simpa using hn)
      have e : ygw v1 (.ls 1 1 1 0 n) (.bool more) v5 (slA (nz l)) (.int .i64 k) [b, ⟨1, .arr false false 1 (seen.map enc)⟩] =
          ob (yn 1 (slA (nz l)) (.int .i64 k)) fun v65 => ob (evLd false 1 v65 [b, ⟨1, .arr false false 1 (seen.map enc)⟩]) fun v66 => ob (yn 1 (.ls 1 1 1 0 n) v66) fun v67 =>
            oh (evSt 1 v67 (.bool true) [b, ⟨1, .arr false false 1 (seen.map enc)⟩]) fun _ h1 => yh0 v1 (.ls 1 1 1 0 n) (.bool true) v5 (slA (nz l)) (.int .i64 k) h1 := by
        simp [ygw, ymj, hc, k1, h0, h1, r1, hj, hs]
      have l1 : ∀ H : Heap, evLd false 1 (.rp [.int .i64 j]) H = some (.int .i64 j) := fun H => by simp
      rw [e]
      simp only [k1, y5, l1, r1, st, yc, yh0, y46, hw, ihs]
theorem yru (f : Fn) (hc : (lst f.code).length ≤ 9223372036854775807) (hr : (lst f.rows).length ≤ 100000000000) : ∀ (d i : Nat) (seen : List Bool) (more : Bool), i + d = (lst f.code).length → seen.length = (lst f.code).length →
    yhx (.lp 0 1 0 0) (.ls 1 1 1 0 (lst f.code).length) (.bool more) (.int .i64 i) [⟨1, .arr true false 5 [enc f]⟩, ⟨1, .arr false false 1 (seen.map enc)⟩] =
      yev (.lp 0 1 0 0) (.ls 1 1 1 0 (lst f.code).length) (.bool (y62 (y6l f) d i (seen, more)).2) [⟨1, .arr true false 5 [enc f]⟩, ⟨1, .arr false false 1 ((y62 (y6l f) d i (seen, more)).1.map enc)⟩] := by
  intro d
  induction d with
  | zero =>
    intro i seen more hi hn
    have h1 : ¬ ((i : Int) < ((lst f.code).length : Int)) := by omega
    rw [yn0]
    simp [yfo, h1, y62]
  | succ d ih =>
    intro i seen more hi hn
    have hlt : i < (lst f.code).length := by omega
    have h1 : ((i : Int) < ((lst f.code).length : Int)) := by omega
    have hw := y1j hlt hc
    rw [yn0, y62]
    have ih0 := fun seen more hn => ih (i + 1) seen more (by omega) hn
    push_cast at ih0
    have hj : i < seen.length := by omega
    have r1 : yn 1 (.ls 1 1 1 0 (lst f.code).length) (.int .i64 i) = some (.lp 1 1 i 0) := by simp [yn, h1]
    have hgd : seen.getD i false = seen[i] := by rw [List.getD_eq_getElem?_getD, List.getElem?_eq_getElem hj]; rfl
    simp only [hgd]
    cases hs : seen[i] with
    | false =>
      rw [if_neg Bool.false_ne_true]
      simp [yfo, ypt, ynw, h1, r1, hj, hs, hw, ih0 seen more hn]
    | true =>
      rw [if_pos rfl]
      have hA := y2s9 f i hc hr
      have hs2 : y6l f i = y3d f i ++ y11 f i := rfl
      rw [← hs2] at hA
      have hlen := y1io f i
      have lp := y1wd (.lp 0 1 0 0) (.int .i64 i) (lst f.code).length ⟨1, .arr true false 5 [enc f]⟩ (y6l f i) (by omega) _ 0 seen more (Nat.zero_add _) hn
      simp only [List.drop_zero, Int.ofNat_zero] at lp
      have hln : (rIn (y6l f i) (seen, more)).1.length = (lst f.code).length := by
        have : ∀ (l : List Int) (s : List Bool × Bool), (rIn l s).1.length = s.1.length := by
          intro l
          induction l with
          | nil => intro s; rfl
          | cons j l ih => intro s; rw [rIn, ih]; split <;> simp
        rw [this]; exact hn
      have ihs := ih0 (rIn (y6l f i) (seen, more)).1 (rIn (y6l f i) (seen, more)).2 hln
      have lp' : y09 (.lp 0 1 0 0) (.ls 1 1 1 0 (lst f.code).length) (.bool more) (.int .i64 i) (slA (nz (y6l f i))) [⟨1, .arr true false 5 [enc f]⟩, ⟨1, .arr false false 1 (seen.map enc)⟩] = _ := lp
      have c1 : ∀ h : Heap, y7 E (y8 E) 0 none true 105 [.agg (enc f), .int .i64 i] h = some (slA (nz (y6l f i)), h) := fun h => by simp [hA]
      have e : yfo (.lp 0 1 0 0) (.ls 1 1 1 0 (lst f.code).length) (.bool more) (.int .i64 i) [⟨1, .arr true false 5 [enc f]⟩, ⟨1, .arr false false 1 (seen.map enc)⟩] =
          yqg (.lp 0 1 0 0) (.ls 1 1 1 0 (lst f.code).length) (.bool more) (.int .i64 i) [⟨1, .arr true false 5 [enc f]⟩, ⟨1, .arr false false 1 (seen.map enc)⟩] := by
        simp [yfo, ypt, h1, r1, hj, hs]
      have l1 : ∀ t : Heap, evLd true 5 (.lp 0 1 0 0) (⟨1, .arr true false 5 [enc f]⟩ :: t) = some (.agg (enc f)) := fun t => by simp
      rw [e]
      simp only [yqg, l1, y5, c1, yc, lp', ynw, y46, hw, ihs]
theorem yn7 (f : Fn) (hc : (lst f.code).length ≤ 9223372036854775807) (hr : (lst f.rows).length ≤ 100000000000) : ∀ (k : Nat) (seen r : List Bool), seen.length = (lst f.code).length → rAll (lst f.code).length (y6l f) k seen = some r →
    yev (.lp 0 1 0 0) (.ls 1 1 1 0 (lst f.code).length) (.bool true) [⟨1, .arr true false 5 [enc f]⟩, ⟨1, .arr false false 1 (seen.map enc)⟩] = some (exO (some r)) := by
  intro k
  induction k with
  | zero => intro seen r _ h; cases h
  | succ k ih =>
    intro seen r hn h
    rw [rAll] at h
    rw [ym4]
    have lp := yru f hc hr _ 0 seen false (Nat.zero_add _) hn
    have lp' : yzs (.lp 0 1 0 0) (.ls 1 1 1 0 (lst f.code).length) (.bool false) [⟨1, .arr true false 5 [enc f]⟩, ⟨1, .arr false false 1 (seen.map enc)⟩] = _ := lp
    have hln : (y62 (y6l f) (lst f.code).length 0 (seen, false)).1.length = (lst f.code).length := by
      have h1 : ∀ (l : List Int) (s : List Bool × Bool), (rIn l s).1.length = s.1.length := by
        intro l
        induction l with
        | nil => intro s; rfl
        | cons j l ih => intro s; rw [rIn, ih]; split <;> simp
      have h2 : ∀ (d i : Nat) (s : List Bool × Bool), (y62 (y6l f) d i s).1.length = s.1.length := by
        intro d
        induction d with
        | zero => intro i s; rfl
        | succ d ih => intro i s; rw [y62, ih]; split <;> simp [h1]
      rw [h2]; exact hn
    generalize y62 (y6l f) (lst f.code).length 0 (seen, false) = p at *
    obtain ⟨s, more⟩ := p
    simp only at h hln lp'
    simp only [ypq, y22, y03, lp']
    cases more with
    | true => exact ih s r hln h
    | false =>
      simp only [Bool.false_eq_true, if_false, Option.some.injEq] at h
      subst h
      rw [ym4, ypq, y28, y1ju, ← hln]
      exact y66 (α := Bool) (by simp)
theorem y24y (f : Fn) (hc : (lst f.code).length ≤ 30000) (hr : (lst f.rows).length ≤ 1000000) : (y8 E).p 104 [.agg (enc f)] = some (exO (some (y3e f))) := by
  rw [y2pf]
  have b1 : ((lst f.code).length : Int) ≤ 140737488355328 := by omega
  have b2 : ((lst f.code).length : Int) ≤ 4611686018427387904 := by omega
  by_cases h0 : (lst f.code).length = 0
  · have hnil : lst f.code = [] := List.eq_nil_of_length_eq_zero h0
    have e : y3e f = [] := by
      have := ybg f
      rw [h0] at this
      exact List.eq_nil_of_length_eq_zero this
    obtain ⟨r, h, h1, h2⟩ := yj6 (n := (lst f.code).length) (S := y6l f) (A := [0]) 1 [] (by simp [h0]) (fun i h => by simp at h) (by simp [unseen]) (fun j _ h3 h4 => by omega)
    have er := yrz h1 h2
    subst er
    have := yn7 f (by omega) (by omega) _ _ _ (by simp [h0]) h
    have t' : yjo (.lp 0 1 0 0) (.ls 1 1 1 0 (lst f.code).length) [⟨1, .arr true false 5 [enc f]⟩, ⟨1, .arr false false 1 (([] : List Bool).map enc)⟩] = _ := this
    simp only [List.map_nil, h0] at t'
    simp [ykz, yra, ylb, mkSC, hnil]
    exact t'
  · have hp : 0 < (lst f.code).length := by omega
    have hp' : (0 : Int) < ((lst f.code).length : Int) := by omega
    have hset : ∀ i : Nat, ((List.replicate (lst f.code).length false).set 0 true)[i]? = some true → i = 0 := by
      intro i hi
      rw [List.getElem?_set] at hi
      split at hi
      · rename_i e; exact e.symm
      · rw [List.getElem?_replicate] at hi
        split at hi <;> cases hi
    have h00 : ((List.replicate (lst f.code).length false).set 0 true)[0]? = some true := by simp [hp]
    obtain ⟨r, h, h1, h2⟩ := yj6 (n := (lst f.code).length) (S := y6l f) (A := [0]) ((lst f.code).length + 1) ((List.replicate (lst f.code).length false).set 0 true) (by simp)
      (fun i hi => by rw [hset i hi]; exact Rch.base (j := 0) (by simp) (by omega) hp') (by
        unfold unseen
        exact Nat.lt_succ_of_le (Nat.le_trans List.countP_le_length (by rw [List.length_set, List.length_replicate]; exact Nat.le_refl _))) (fun j hj h3 h4 => by
        rw [List.mem_singleton] at hj
        subst hj
        exact h00)
    have er := yrz h1 h2
    subst er
    have := yn7 f (by omega) (by omega) _ _ _ (by simp) h
    have t' : yjo (.lp 0 1 0 0) (.ls 1 1 1 0 (lst f.code).length) [⟨1, .arr true false 5 [enc f]⟩, ⟨1, .arr false false 1 (((List.replicate (lst f.code).length false).set 0 true).map enc)⟩] = _ := this
    have st : evSt 1 (.lp 1 1 0 0) (.bool true) [⟨1, .arr true false 5 [enc f]⟩, ⟨1, .arr false false 1 ((List.replicate (lst f.code).length false).map enc)⟩] = some (.tup [], [⟨1, .arr true false 5 [enc f]⟩, ⟨1, .arr false false 1 (((List.replicate (lst f.code).length false).set 0 true).map enc)⟩]) :=
      yqk (α := Bool) (v := .bool true) (y := true) rfl (by rw [List.length_replicate]; exact hp) rfl
    have hix : yn 1 (.ls 1 1 1 0 (lst f.code).length) (.int .i64 0) = some (.lp 1 1 0 0) := by
      have hne : lst f.code ≠ [] := fun e => by rw [e] at hp; exact Nat.lt_irrefl _ hp
      simp [yn, hne]
    have e26 : ykz (.agg (enc f)) [⟨0, .dead⟩, ⟨0, .dead⟩] = ylb (.lp 0 1 0 0) (.ls 1 1 1 0 (lst f.code).length) [⟨1, .arr true false 5 [enc f]⟩, ⟨1, .arr false false 1 ((List.replicate (lst f.code).length false).map enc)⟩] := by
      simp [ykz, yra, mkSC, b1, b2]
    rw [e26]
    simp only [ylb, y6q, y5, y7o, hp', decide_true, y22, hix, st, yc]
    exact t'
end Go.Vm
namespace Go.Vm
open Cel
attribute [local simp] y7 y25 ym
theorem y1i1 (a b : Option (List Int)) (hn : (lst a).length = (lst b).length) (hl : (lst a).length ≤ 9223372036854775807) (h : Heap) : ∀ (d i : Nat), i + d = (lst a).length →
    yf1 (slA a) (slA b) (.int .i64 i) h = some ⟨.bool (decide ((lst a).drop i = (lst b).drop i)), [], true, [], []⟩ := by
  intro d
  induction d with
  | zero =>
    intro i hi
    have e1 : (lst a).drop i = [] := List.drop_eq_nil_of_le (by omega)
    have e2 : (lst b).drop i = [] := List.drop_eq_nil_of_le (by omega)
    rw [yoi, e1, e2]
    have : ¬ ((i : Int) < ((lst a).length : Int)) := by omega
    simp [yl9, yk8, yih, ykg, yi9, yll, ycu, this]
  | succ d ih =>
    intro i hi
    have h1 : i < (lst a).length := by omega
    have h2 : i < (lst b).length := by omega
    have hc : ((i : Int) < ((lst a).length : Int)) := by omega
    have k1 := y3l (o := a) (i := i) (List.getElem?_eq_getElem h1) .i64
    have k2 := y3l (o := b) (i := i) (List.getElem?_eq_getElem h2) .i64
    rw [yoi, y1ay h1 h2]
    by_cases he : (lst a)[i] = (lst b)[i]
    · have := ih (i + 1) (by omega)
      push_cast at this
      simp [yl9, yk8, yih, ykg, yi9, yll, ycu, hc, k1, k2, he, y1j h1 hl, this]
    · simp [yl9, yk8, yih, ykg, yi9, yll, ycu, hc, k1, k2, he]
@[simp] theorem y1ph (a b : Option (List Int)) (hl : (lst a).length ≤ 9223372036854775807) : (y8 E).p 11 [slA a, slA b] = some ⟨.bool (decide (lst a = lst b)), [], true, [], []⟩ := by
  rw [y2lx]
  by_cases hn : (lst a).length = (lst b).length
  · have := y1i1 a b hn hl [] (lst a).length 0 (by omega)
    simp only [Int.ofNat_zero, List.drop_zero] at this
    have hn' : ((lst a).length : Int) = ((lst b).length : Int) := by omega
    simp [yl9, yk8, yih, ykg, yi9, yll, ycu, hn', show yf1 (slA a) (slA b) (.int .i64 0) [] = _ from this]
  · have hn' : ¬ ((lst a).length : Int) = ((lst b).length : Int) := by omega
    have : ¬ lst a = lst b := fun h => hn (by rw [h])
    simp [yl9, yk8, yih, ykg, yi9, yll, ycu, hn', this]
end Go.Vm
namespace Go.Vm
open Cel
attribute [local simp] y7 y25 ym
def y59 (x y : Ins) : Bool := decide (x.op = y.op) && decide (x.d = y.d) && decide (x.a = y.a) && decide (x.b = y.b) && decide (x.c = y.c) && decide (x.n = y.n) && decide (x.t = y.t) && decide (x.s = y.s) && decide (lst x.args = lst y.args)
set_option maxHeartbeats 1000000 in
@[simp] theorem y1op (x y : Ins) (hl : (lst x.args).length ≤ 9223372036854775807) : (y8 E).p 28 [.agg (enc x), .agg (enc y)] = some ⟨.bool (y59 x y), [], true, [], []⟩ := by
  rw [y2nz]
  have hi := y1ph x.args y.args hl
  by_cases h1 : x.op = y.op
  · by_cases h2 : x.d = y.d
    · by_cases h3 : x.a = y.a
      · by_cases h4 : x.b = y.b
        · by_cases h5 : x.c = y.c
          · by_cases h6 : x.n = y.n
            · by_cases h7 : x.t = y.t
              · by_cases h8 : x.s = y.s
                · simp [yah, y59, h1, h2, h3, h4, h5, h6, h7, h8, hi]
                · simp [yah, y59, h1, h2, h3, h4, h5, h6, h7, h8]
              · simp [yah, y59, h1, h2, h3, h4, h5, h6, h7]
            · simp [yah, y59, h1, h2, h3, h4, h5, h6]
          · simp [yah, y59, h1, h2, h3, h4, h5]
        · simp [yah, y59, h1, h2, h3, h4]
      · simp [yah, y59, h1, h2, h3]
    · simp [yah, y59, h1, h2]
  · simp [yah, y59, h1]
end Go.Vm
namespace Go.Vm
open Cel
attribute [local simp] y7 y25 ym
def y4u : List Ins → List Ins → Bool
  | [], [] => true
  | x :: xs, y :: ys => y59 x y && y4u xs ys
  | _, _ => false
def y18w (a b : Fn) : Bool := decide (lst a.regs = lst b.regs) && decide (lst a.params = lst b.params) && decide (a.ret = b.ret) && y4u (lst a.code) (lst b.code) && decide (lst a.rows = lst b.rows)
theorem ygr : ∀ {a b : List Ins}, y4u a b = true → a.length = b.length
  | [], [], _ => rfl
  | x :: a, y :: b, h => by
    simp only [y4u, Bool.and_eq_true] at h
    simp [ygr h.2]
  | [], _ :: _, h => by cases h
  | _ :: _, [], h => by cases h
theorem yeh : ∀ (a : List Ins), y4u a a = true
  | [] => rfl
  | x :: a => by simp [y4u, yeh a, y59]
theorem yzt (f : Fn) : y18w f f = true := by simp [y18w, yeh]
theorem y1nh (r s : Row) : y1jj true [0, 0, 0, 2] (.agg (enc r)) (.agg (enc s)) = some (.bool (decide (¬ r = s))) := by
  obtain ⟨a, b, c, d⟩ := r
  obtain ⟨a', b', c', d'⟩ := s
  simp [y1jj, y2eq, yh, y1p]
  by_cases h1 : a = a' <;> by_cases h2 : b = b' <;> by_cases h3 : c = c' <;> by_cases h4 : d = d' <;> simp [h1, h2, h3, h4]
abbrev HS2 (a b : Fn) : Heap := [⟨1, .arr true false 5 [enc a]⟩, ⟨1, .arr true false 5 [enc b]⟩]
theorem y1hv (a b : Fn) (hn : (lst a.rows).length = (lst b.rows).length) (hl : (lst a.rows).length ≤ 9223372036854775807) : ∀ (d i : Nat), i + d = (lst a.rows).length →
    yk3 (.lp 0 1 0 0) (.lp 1 1 0 0) (.int .i64 i) (HS2 a b) = some ⟨.bool (decide ((lst a.rows).drop i = (lst b.rows).drop i)), [], true, [], []⟩ := by
  intro d
  induction d with
  | zero =>
    intro i hi
    have e1 : (lst a.rows).drop i = [] := List.drop_eq_nil_of_le (by omega)
    have e2 : (lst b.rows).drop i = [] := List.drop_eq_nil_of_le (by omega)
    have hc : ¬ ((i : Int) < ((lst a.rows).length : Int)) := by omega
    rw [ymn, e1, e2]
    simp [yvx, y1s0, hc]
  | succ d ih =>
    intro i hi
    have h1 : i < (lst a.rows).length := by omega
    have h2 : i < (lst b.rows).length := by omega
    have hc : ((i : Int) < ((lst a.rows).length : Int)) := by omega
    have k1 := ydi (o := a.rows) (i := i) (List.getElem?_eq_getElem h1) .i64
    have k2 := ydi (o := b.rows) (i := i) (List.getElem?_eq_getElem h2) .i64
    rw [ymn, y1ay h1 h2]
    generalize (lst a.rows)[i] = r at *
    generalize (lst b.rows)[i] = s at *
    have q := y1nh r s
    have ih := ih (i + 1) (by omega)
    push_cast at ih
    by_cases he : r = s
    · simp [yvx, y188, y17i, hc, k1, k2, he, y1j h1 hl, ih, y1nh]
    · simp [yvx, y188, y17i, hc, k1, k2, he, q]
theorem y207 (a b : Fn) (hn : (lst a.code).length = (lst b.code).length) (hl : (lst a.code).length ≤ 9223372036854775807) (ha : ∀ x ∈ lst a.code, (lst x.args).length ≤ 9223372036854775807) (R : Bool)
    (hR : y1ud (.lp 0 1 0 0) (.lp 1 1 0 0) (HS2 a b) = some ⟨.bool R, [], true, [], []⟩) : ∀ (d i : Nat), i + d = (lst a.code).length →
    yjn (.lp 0 1 0 0) (.lp 1 1 0 0) (.int .i64 i) (HS2 a b) = some ⟨.bool (y4u ((lst a.code).drop i) ((lst b.code).drop i) && R), [], true, [], []⟩ := by
  intro d
  induction d with
  | zero =>
    intro i hi
    have e1 : (lst a.code).drop i = [] := List.drop_eq_nil_of_le (by omega)
    have e2 : (lst b.code).drop i = [] := List.drop_eq_nil_of_le (by omega)
    have hc : ¬ ((i : Int) < ((lst a.code).length : Int)) := by omega
    rw [yoh, e1, e2]
    simp [yiz, hR, hc, y4u]
  | succ d ih =>
    intro i hi
    have h1 : i < (lst a.code).length := by omega
    have h2 : i < (lst b.code).length := by omega
    have hc : ((i : Int) < ((lst a.code).length : Int)) := by omega
    have k1 := y4v (o := a.code) (i := i) (List.getElem?_eq_getElem h1) .i64
    have k2 := y4v (o := b.code) (i := i) (List.getElem?_eq_getElem h2) .i64
    have hx := ha _ (List.getElem_mem h1)
    rw [yoh, List.drop_eq_getElem_cons h1, List.drop_eq_getElem_cons h2, y4u]
    generalize (lst a.code)[i] = x at *
    generalize (lst b.code)[i] = y at *
    have q := y1op x y hx
    have ih := ih (i + 1) (by omega)
    push_cast at ih
    cases hs : y59 x y with
    | true =>
      rw [hs] at q
      simp [yiz, yq6, yza, hc, k1, k2, q, y1j h1 hl, ih]
    | false =>
      rw [hs] at q
      simp [yiz, yq6, hc, k1, k2, q]
structure FnLen (f : Fn) : Prop where
  regs : (lst f.regs).length ≤ 9223372036854775807
  params : (lst f.params).length ≤ 9223372036854775807
  code : (lst f.code).length ≤ 9223372036854775807
  rows : (lst f.rows).length ≤ 9223372036854775807
  args : ∀ x ∈ lst f.code, (lst x.args).length ≤ 9223372036854775807
set_option maxHeartbeats 1000000 in
theorem y2ou (a b : Fn) (hl : FnLen a) : (y8 E).p 14 [.agg (enc a), .agg (enc b)] = some ⟨.bool (y18w a b), [], true, [], []⟩ := by
  rw [y2nm]
  have i1 := y1ph a.regs b.regs hl.regs
  have i2 := y1ph a.params b.params hl.params
  unfold y18w
  by_cases h1 : lst a.regs = lst b.regs
  rotate_left
  · simp [yao, yb5, h1, i1]
  by_cases h2 : lst a.params = lst b.params
  rotate_left
  · simp [yao, yb5, h1, i1, h2, i2]
  by_cases h3 : a.ret = b.ret
  rotate_left
  · simp [yao, yb5, h1, i1, h2, i2, h3]
  by_cases h4 : (lst a.code).length = (lst b.code).length
  rotate_left
  · have h4' : ¬ ((lst a.code).length : Int) = ((lst b.code).length : Int) := by omega
    have hs : y4u (lst a.code) (lst b.code) = false := by
      cases hs : y4u (lst a.code) (lst b.code) with
      | false => rfl
      | true => exact (h4 (ygr hs)).elim
    simp [yao, yb5, h1, i1, h2, i2, h3, h4', hs]
  have h4' : ((lst a.code).length : Int) = ((lst b.code).length : Int) := by omega
  by_cases h5 : (lst a.rows).length = (lst b.rows).length
  rotate_left
  · have h5' : ¬ ((lst a.rows).length : Int) = ((lst b.rows).length : Int) := by omega
    have hs : ¬ lst a.rows = lst b.rows := fun h => h5 (by rw [h])
    simp [yao, yb5, h1, i1, h2, i2, h3, h4', h5', hs]
  have h5' : ((lst a.rows).length : Int) = ((lst b.rows).length : Int) := by omega
  have r := y1hv a b h5 hl.rows _ 0 (Nat.zero_add _)
  simp only [List.drop_zero, Int.ofNat_zero] at r
  have c := y207 a b h4 hl.code hl.args _ r _ 0 (Nat.zero_add _)
  simp only [List.drop_zero, Int.ofNat_zero] at c
  have c' : yzp (.lp 0 1 0 0) (.lp 1 1 0 0) (HS2 a b) = _ := c
  simp [yao, yb5, h1, i1, h2, i2, h3, h4', h5', c']
end Go.Vm
namespace Go.Vm
theorem FnIn.fit3 {f : Fn} (h : FnIn f) : FnFit f := by
  have e : reachBytes = 140737488351232 := rfl
  refine ⟨fun x hx => ?_, ?_, ?_, ?_, ?_⟩
  · have k := h.insI x hx
    refine ⟨⟨k.n.1, ?_⟩, ?_, ?_⟩
    · have := k.n.2; omega
    · have := k.s; omega
    · have := k.len; omega
  · have := h.code; omega
  · have := h.regs; omega
  · have := h.params; omega
  · have := h.rows; omega
end Go.Vm
namespace Go.Vm
open Cel
theorem fz_f (f : Fn) (H : Heap) : yl (fz H y18) [.agg (enc f)] = some ⟨[.agg (enc f)], scal f && true, []⟩ := by
  rw [yj, y81, y15]; rfl
theorem y2mv (f g : Fn) (H : Heap) : yl (fz H y18) [.agg (enc f), .agg (enc g)] = some ⟨[.agg (enc f), .agg (enc g)], scal f && (scal g && true), []⟩ := by
  rw [yj, yj, y81, y81, y15]; rfl
theorem FnIn.sm {f : Fn} (hf : FnIn f) (h1 : (lst f.code).length ≤ 400) (h3 : (lst f.rows).length ≤ 100) : FnSm f := by
  have e : reachBytes = 140737488351232 := rfl
  have e38 : (2:Nat)^38 = 274877906944 := by decide
  refine ⟨?_, ?_, ?_, ?_, fun x hx => ?_⟩
  · have := hf.regs; omega
  · have := hf.params; omega
  · omega
  · omega
  · have := (hf.insI x hx).len; omega
end Go.Vm
namespace Go.Vm
open Cel
def y67 (f : Fn) (T : KTab) (k : Nat) : List Ins := (List.range (lst f.code).length).map fun j => if j < k then yk f j else knoI f T j
theorem y1vo (f : Fn) (T : KTab) (k : Nat) : (y67 f T k).length = (lst f.code).length := by simp [y67]
theorem y2ck (f : Fn) (T : KTab) : y67 f T 0 = knoL f T := List.map_congr_left fun i _ => if_neg (by omega)
theorem y1kf (f : Fn) (T : KTab) : y67 f T (lst f.code).length = lst f.code := by
  refine List.ext_getElem? fun i => ?_
  unfold y67
  rw [List.getElem?_map]
  by_cases h : i < (lst f.code).length
  · rw [List.getElem?_range h, Option.map_some, if_pos h, y3p h]
  · rw [List.getElem?_eq_none (by simpa using h), List.getElem?_eq_none (by omega)]; rfl
theorem y1mv (f : Fn) (T : KTab) (k : Nat) (hk : k < (lst f.code).length) : (y67 f T k).set k (yk f k) = y67 f T (k + 1) := by
  refine List.ext_getElem? fun j => ?_
  rw [List.getElem?_set]
  unfold y67
  by_cases hj : j < (lst f.code).length
  · simp only [List.getElem?_map, List.getElem?_range hj, List.length_map, List.length_range, Option.map_some]
    by_cases e : k = j
    · subst e
      rw [if_pos rfl, if_pos hk, if_pos (by omega)]
    · rw [if_neg e]
      by_cases h : j < k
      · rw [if_pos h, if_pos (by omega)]
      · rw [if_neg h, if_neg (by omega)]
  · rw [if_neg (by omega), List.getElem?_eq_none (by simpa using hj), List.getElem?_eq_none (by simpa using hj)]
theorem yo5 {f : Fn} {T : KTab} {k : Nat} (h : knoI f T k = yk f k) : y67 f T (k + 1) = y67 f T k := by
  refine List.map_congr_left fun j hj => ?_
  by_cases e : j = k
  · subst e
    rw [if_pos (by omega), if_neg (by omega), h]
  · by_cases h : j < k
    · rw [if_pos h, if_pos (by omega)]
    · rw [if_neg h, if_neg (by omega)]
theorem y1go {f : Fn} {T : KTab} (v : InvK f (T, [])) {i : Nat} (h : Rch (lst f.code).length (y6l f) [0] i) : kAt T i ≠ none := by
  refine ywy v ?_
  induction h with
  | base hj j0 j1 => exact .base hj j0 j1
  | @step i j _ hj j0 j1 ih =>
    refine .step ih ?_ j0 j1
    unfold y6l at hj
    rw [List.mem_append] at hj ⊢
    exact hj.symm
theorem y26u {x : Ins} : (decide (7 ≤ x.op) && decide (x.op ≤ 10)) = (ofM x).isSome := by
  unfold ofM
  by_cases h : 7 ≤ x.op ∧ x.op ≤ 10
  · rw [decide_eq_true h.1, decide_eq_true h.2]
    by_cases h9 : x.op = 9
    · rw [if_neg (by omega), if_pos h9]; rfl
    · rw [if_pos (by omega)]; rfl
  · rw [if_neg (by omega), if_neg (by omega)]
    by_cases h1 : 7 ≤ x.op
    · rw [decide_eq_true h1, decide_eq_false (fun h2 => h ⟨h1, h2⟩)]; rfl
    · rw [decide_eq_false h1]; rfl
section
variable {f : Fn} (w : Wf f) {T : KTab} (v : InvK f (T, [])) (hc : (lst f.code).length ≤ 30000) (hr : (lst f.rows).length ≤ 1000000)
abbrev P0_ : AV := .lp 0 1 0 0
abbrev P1_ : AV := .lp 1 1 0 0
abbrev P2_ : AV := .lp 2 1 0 0
abbrev hBx (f : Fn) : AO := ⟨1, .arr true false 5 [[slA f.regs, slA f.params, .int .i64 f.ret, .ls 3 1 9 0 (lst f.code).length, slA f.rows]]⟩
abbrev hHp (f : Fn) (T : KTab) (L : List Ins) (o : AO) : Heap := [AB f, AB (knoF f T), hBx f, ⟨1, .arr false false 9 (L.map enc)⟩, o]
include w v hc hr
theorem y1fl : ∀ (d k : Nat) (o : AO), k + d = (lst f.code).length →
    ∃ o', yg1 P0_ P1_ (slA (nz (y21 f))) (slA (some (y3e f))) P2_ (.int .i64 (k : Int)) (hHp f T (y67 f T k) o) = yvq P0_ P2_ (hHp f T (lst f.code) o') := by
  have fa3 : evFa 3 P0_ = some (.lp 0 1 0 3) := rfl
  have l3 : ∀ L o, evLd false 1 (.lp 0 1 0 3) (hHp f T L o) = some (slA f.code) := fun L o => rfl
  have g3 : evFa 3 P1_ = some (.lp 1 1 0 3) := rfl
  have lg : ∀ L o, evLd false 1 (.lp 1 1 0 3) (hHp f T L o) = some (slA (knoF f T).code) := fun L o => rfl
  have lf : ∀ L o, evLd true 5 P0_ (hHp f T L o) = some (.agg (enc f)) := fun L o => rfl
  have k3 : evFa 3 P2_ = some (.lp 2 1 0 3) := rfl
  have lk : ∀ L o, evLd false 1 (.lp 2 1 0 3) (hHp f T L o) = some (.ls 3 1 9 0 (lst f.code).length) := fun L o => rfl
  have ln : ∀ H, yv 1 (slA f.code) H = some (.int .i64 (lst f.code).length) := fun H => y8z ..
  intro d
  induction d with
  | zero =>
    intro k o hd
    have hq : ¬ (k : Int) < ((lst f.code).length : Int) := by omega
    have e : k = (lst f.code).length := by omega
    subst e
    refine ⟨o, ?_⟩
    rw [ymu, ypo, fa3, y5, l3, y5, ln, y5, y12, y5, decide_eq_false hq, y28, y1kf]
  | succ d ih =>
    intro k o hd
    have hk : k < (lst f.code).length := by omega
    have hq : (k : Int) < ((lst f.code).length : Int) := by omega
    have ix := y4v (o := f.code) (i := k) (y3p hk) .i64
    have hgl : (lst (knoF f T).code)[k]? = some (knoI f T k) := by
      show (knoL f T)[k]? = _
      rw [knoL, List.getElem?_map, List.getElem?_range hk]; rfl
    have ixg := y4v (o := (knoF f T).code) (i := k) hgl .i64
    have lx : ∀ (x : Ins) (H : Heap), evLd true 9 (.rp (enc x)) H = some (.agg (enc x)) := fun x H => rfl
    have lo : ∀ (x : Ins) (H : Heap), evLd false 1 (.rp (enc x)) H = some (.int .i64 x.op) := fun x H => rfl
    have fo : ∀ (x : Ins), evFa 0 (.rp (enc x)) = some (.rp (enc x)) := fun x => rfl
    have nx : ∀ L, newC 0 (some 4) ypr (hHp f T L o) = some (.lp 4 (o.gen + 1) 0 0, hHp f T L (AX (o.gen + 1) default)) := fun L => y23a (H := hHp f T L o) (fb := 0) (j := 4) (o := o) rfl
    have sx : ∀ L, evSt 9 (.lp 4 (o.gen + 1) 0 0) (.agg (enc (yk f k))) (hHp f T L (AX (o.gen + 1) default)) = some (.tup [], hHp f T L (AX (o.gen + 1) (yk f k))) := fun L => st_x (H := hHp f T L (AX (o.gen + 1) default)) (id := 4) (g := o.gen + 1) (x := default) rfl
    have la : ∀ L, evLd true 9 (.lp 4 (o.gen + 1) 0 0) (hHp f T L (AX (o.gen + 1) (yk f k))) = some (.agg (enc (yk f k))) := fun L => y1no (H := hHp f T L (AX (o.gen + 1) (yk f k))) (id := 4) (g := o.gen + 1) rfl
    have f40 : evFa 0 (.lp 4 (o.gen + 1) 0 0) = some (.lp 4 (o.gen + 1) 0 0) := rfl
    have l40 : ∀ L, evLd false 1 (.lp 4 (o.gen + 1) 0 0) (hHp f T L (AX (o.gen + 1) (yk f k))) = some (.int .i64 (yk f k).op) := fun L => ld_x (H := hHp f T L (AX (o.gen + 1) (yk f k))) (id := 4) (g := o.gen + 1) rfl rfl
    have c173 : ∀ H, y7 E (y8 E) 0 none true 173 [.int .i64 (yk f k).op] H = some (.bool (ofM (yk f k)).isSome, H) := fun H => by
      have := y27 (E := E) (C := y8 E) (fb := 0) (f := 173) (args := [.int .i64 (yk f k).op]) (h := H) (fa := ⟨[.int .i64 (yk f k).op], true, []⟩) rfl rfl rfl (y21y (yk f k).op) ⟨_, rfl, rfl⟩
      rw [← y26u]
      exact this
    have next : ∀ o', ∃ o'', ygj P0_ P1_ (slA (nz (y21 f))) (slA (some (y3e f))) P2_ (.int .i64 (k : Int)) (hHp f T (y67 f T (k + 1)) o') = yvq P0_ P2_ (hHp f T (lst f.code) o'') := by
      intro o'
      obtain ⟨o'', r⟩ := ih (k + 1) o' (by omega)
      refine ⟨o'', ?_⟩
      rw [ygj, yik hk (by omega), y5]
      exact r
    have pfx : yg1 P0_ P1_ (slA (nz (y21 f))) (slA (some (y3e f))) P2_ (.int .i64 (k : Int)) (hHp f T (y67 f T k) o) =
        y14a P0_ P1_ (slA (nz (y21 f))) (slA (some (y3e f))) P2_ (.int .i64 (k : Int)) (.lp 4 (o.gen + 1) 0 0) (hHp f T (y67 f T k) (AX (o.gen + 1) (yk f k))) := by
      rw [ymu, ypo, fa3, y5, l3, y5, ln, y5, y12, y5, decide_eq_true hq, y22, y1pu, fa3, y5, l3, y5, ix, y5, lx, y5, nx, yc, sx, yc]
    rw [pfx, y14a, f40, y5, l40, y5, c173, yc, y47, y5]
    cases hof : ofM (yk f k) with
    | none =>
      have hg : y7p f T k = false := by unfold y7p; rw [hof]
      have he : knoI f T k = yk f k := by rw [knoI, hg]; rfl
      simp only [Option.isSome_none, Bool.not_false, y22]
      rw [← yo5 he]
      exact next _
    | some c =>
      simp only [Option.isSome_some, Bool.not_true, y28]
      have hop := y2u7 hof
      have lrc : yn 1 (slA (some (y3e f))) (.int .i64 (k : Int)) = some (.rp [.bool ((y3e f).getD k false)]) := by
        have hkl : k < (y3e f).length := by rw [ybg]; exact hk
        have h1 : (lst (some (y3e f)))[k]? = some ((y3e f).getD k false) := by
          show (y3e f)[k]? = _
          rw [List.getD_eq_getElem?_getD, List.getElem?_eq_getElem hkl]; rfl
        exact yei h1 .i64
      have lb : ∀ (b : Bool) (H : Heap), evLd false 1 (.rp [.bool b]) H = some (.bool b) := fun b H => rfl
      have hA := y2ig hc hk
      have fz3 : ∀ H : Heap, ∃ fr, yl (fz H y18) [.agg (enc f), slA (nz (y21 f)), .int .i64 (k : Int)] = some ⟨[.agg (enc f), slA (nz (y21 f)), .int .i64 (k : Int)], fr, []⟩ := fun H => by
        refine ⟨scal f && ((lst (nz (y21 f))).isEmpty && (true && true)), ?_⟩
        rw [yj, yj, yj, y81, y1qz, y1pw, y15]
        rfl
      have c174 : ∀ H, y7 E (y8 E) 0 none true 174 [.agg (enc f), slA (nz (y21 f)), .int .i64 (k : Int)] H = some (.bool (yci f (yk f k) k), H) := fun H => by
        obtain ⟨fr, hz⟩ := fz3 H
        exact y27 rfl hz rfl hA ⟨_, rfl, rfl⟩
      rw [y1lp, g3, y5, lg, y5, ixg, y5, fo, y5, lo, y5, yu, y5, y1za, lrc, y5, lb, y5]
      cases hg : y7p f T k with
      | true =>
        have he : knoI f T k = nopI := by rw [knoI, hg]; rfl
        have e33 : decide ((knoI f T k).op = 33) = true := by rw [he]; rfl
        rw [e33]
        have st : evSt 9 (.lp 3 1 k 0) (.agg (enc (yk f k))) (hHp f T (y67 f T k) (AX (o.gen + 1) (yk f k))) = some (.tup [], hHp f T (y67 f T (k + 1)) (AX (o.gen + 1) (yk f k))) := by
          have := yqk (α := Ins) (H := hHp f T (y67 f T k) (AX (o.gen + 1) (yk f k))) (id := 3) (g := 1) (i := k) (L := y67 f T k) (v := .agg (enc (yk f k))) (y := yk f k) rfl (by rw [y1vo]; exact hk) rfl
          rw [y1mv f T k hk] at this
          exact this
        have ixk := y1mn hk 3 1 9 .i64
        have tail : yox P0_ P1_ (slA (nz (y21 f))) (slA (some (y3e f))) P2_ (.int .i64 (k : Int)) (.lp 4 (o.gen + 1) 0 0) (.bool true) (hHp f T (y67 f T k) (AX (o.gen + 1) (yk f k))) =
            ygj P0_ P1_ (slA (nz (y21 f))) (slA (some (y3e f))) P2_ (.int .i64 (k : Int)) (hHp f T (y67 f T (k + 1)) (AX (o.gen + 1) (yk f k))) := by
          rw [yox, y22, k3, y5, lk, y5, la, y5, ixk, y5, st, yc]
        obtain ⟨o'', r⟩ := next (AX (o.gen + 1) (yk f k))
        refine ⟨o'', ?_⟩
        rw [← r, ← tail]
        cases (y3e f).getD k false with
        | false => simp only [y82, y1sk, y4i, ysz, y5, y1i, y28]
        | true =>
          simp only [y5o, y28w, lf, c174, yc, y1c, y5]
          cases yci f (yk f k) k with
          | false => simp only [y82, y4i, y1i, y5, y28]
          | true => simp only [y5o, y47, Bool.not_true, y1c, y5, y28]
      | false =>
        have he : knoI f T k = yk f k := by rw [knoI, hg]; rfl
        have e33 : decide ((knoI f T k).op = 33) = false := by rw [he]; exact decide_eq_false (by omega)
        rw [e33]
        have tail : yox P0_ P1_ (slA (nz (y21 f))) (slA (some (y3e f))) P2_ (.int .i64 (k : Int)) (.lp 4 (o.gen + 1) 0 0) (.bool false) (hHp f T (y67 f T k) (AX (o.gen + 1) (yk f k))) =
            ygj P0_ P1_ (slA (nz (y21 f))) (slA (some (y3e f))) P2_ (.int .i64 (k : Int)) (hHp f T (y67 f T (k + 1)) (AX (o.gen + 1) (yk f k))) := by
          rw [yox, y28, yo5 he]
        obtain ⟨o'', r⟩ := next (AX (o.gen + 1) (yk f k))
        refine ⟨o'', ?_⟩
        rw [← r, ← tail]
        cases hrc : (y3e f).getD k false with
        | false => simp only [y82, y1sk, y4i, ysz, y5, y1i, y28]
        | true =>
          simp only [y5o, y28w, lf, c174, yc, y1c, y5]
          cases hag : yci f (yk f k) k with
          | false => simp only [y82, y4i, y1i, y5, y28]
          | true =>
            exfalso
            have hkl : k < (y3e f).length := by rw [ybg]; exact hk
            have h1 : (y3e f)[k]? = some true := by
              rw [← hrc, List.getD_eq_getElem?_getD, List.getElem?_eq_getElem hkl]; rfl
            have := y1ak v (y1go v ((yo7 f k).1 h1)) hof (yo2 hof hag)
            rw [hg] at this
            cases this
end
end Go.Vm
namespace Go.Vm
open Cel
attribute [local simp] y7 y25 ym
theorem y2gt : ((List.range 60).all fun i => y17w ((both E 30).1.p 66 [.int .i64 (95 + i)]) (numK (95 + i))) = true := by kernel_rfl
theorem y288 (c : Int) (h1 : 0 ≤ c) (h2 : c < 1000) : (y8 E).p 66 [.int .i64 c] = some ⟨.tup [.int .i64 (numK c).1, .int .i64 (numK c).2.1, .int .i64 (numK c).2.2], [], true, [], []⟩ := by
  by_cases h : c < 96 ∨ 148 < c
  · rw [yhe h, y2s3]
    have h2 : ∀ k : Int, 96 ≤ k → k ≤ 148 → ¬ c = k := by omega
    rcases h with h | h
    · have a1 : ¬ 96 ≤ c := by omega
      have a2 : ¬ 120 ≤ c := by omega
      have a3 : ¬ 145 ≤ c := by omega
      simp [y20i, y277, y278, y24q, h2, a1, a2, a3]
      rfl
    · have a1 : 96 ≤ c := by omega
      have a2 : 120 ≤ c := by omega
      have a3 : 145 ≤ c := by omega
      have b1 : ¬ c ≤ 113 := by omega
      have b2 : ¬ c ≤ 131 := by omega
      have b3 : ¬ c ≤ 147 := by omega
      simp [y20i, y277, y278, y24q, h2, a1, a2, a3, b1, b2, b3]
      rfl
  · have := yak y2gt (c - 95).toNat (by omega)
    have e : (95 + ((c - 95).toNat : Int)) = c := by omega
    simp only [e] at this
    exact y1wf 30 (ytw this)
end Go.Vm
