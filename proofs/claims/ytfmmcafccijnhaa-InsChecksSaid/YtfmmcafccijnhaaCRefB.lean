/- The document's answers for single operations. -/
import Derived.Test.YtfmmcafccijnhaaCWfM
import Derived.Test.YtfmmcafccijnhaaCX
namespace Go.Vm
open Cel
attribute [local simp] callAny callP heapOf_nil

theorem in_loop (op : Int) (o : Option (List Int)) (hl : (lst o).length ≤ 9223372036854775807) (h : Heap) : ∀ (d i : Nat), i + d = (lst o).length →
    regletref10_in_L2 (.int .i64 op) (slA o) (.int .i64 i) h = some ⟨.bool (decide (op ∈ (lst o).drop i)), [], true, [], []⟩ := by
  intro d
  induction d with
  | zero =>
    intro i hi
    have e1 : (lst o).drop i = [] := List.drop_eq_nil_of_le (by omega)
    have hn : ¬ ((i : Int) < ((lst o).length : Int)) := by omega
    rw [regletref10_in_L2_go, e1]
    simp [regletref10_in_1, regletref10_in_3, regletref10_in_4, regletref10_in_5, regletref10_in_7, regletref10_in_9, hn]
  | succ d ih =>
    intro i hi
    have hlt : i < (lst o).length := by omega
    have hn : ((i : Int) < ((lst o).length : Int)) := by omega
    have k1 := ixs_int (o := o) (i := i) (List.getElem?_eq_getElem hlt) .i64
    have hm : op ∈ (lst o).drop i ↔ op = (lst o)[i] ∨ op ∈ (lst o).drop (i + 1) := by rw [List.drop_eq_getElem_cons hlt, List.mem_cons]
    rw [regletref10_in_L2_go]
    simp only [hm]
    have ih := ih (i + 1) (by omega)
    push_cast at ih
    by_cases he : (lst o)[i] = op
    · simp [regletref10_in_1, regletref10_in_3, regletref10_in_4, regletref10_in_5, regletref10_in_7, regletref10_in_9, hn, k1, he]
    · have he' : ¬ op = (lst o)[i] := fun h => he h.symm
      simp [regletref10_in_1, regletref10_in_3, regletref10_in_4, regletref10_in_5, regletref10_in_7, regletref10_in_9, hn, k1, he, he', wrap_up hlt hl, ih]
theorem s_in (op : Int) (o : Option (List Int)) (hl : (lst o).length ≤ 9223372036854775807) : (callW E).p 42 [.int .i64 op, slA o] = some ⟨.bool (decide (op ∈ lst o)), [], true, [], []⟩ := by
  have := in_loop op o hl [] _ 0 (Nat.zero_add _)
  simp only [Int.ofNat_zero, List.drop_zero] at this
  rw [x_regletref10_in, ← this]
  simp [regletref10_in_1, regletref10_in_3, regletref10_in_4, regletref10_in_5, regletref10_in_7, regletref10_in_9]
theorem s_in3 (op a b c : Int) : (callW E).p 42 [.int .i64 op, .rs 1 [[.int .i64 a], [.int .i64 b], [.int .i64 c]]] = some ⟨.bool (decide (op ∈ [a, b, c])), [], true, [], []⟩ :=
  s_in op (some [a, b, c]) (by simp)
theorem freeze3 (g a b c : Nat) (x y z : Int) (t : Heap) : fz (⟨g, .arr false false 1 [[.int .i64 x], [.int .i64 y], [.int .i64 z]]⟩ :: t) fuelF (.ls 0 g 1 0 3) = some ⟨.rs 1 [[.int .i64 x], [.int .i64 y], [.int .i64 z]], true, [0]⟩ := by
  rw [fz_ls, rowsAt_0]; rfl

@[simp] theorem s_RLeads (op : Int) : (callW E).p 23 [.int .i64 op] = some ⟨.bool (leads op), [], true, [], []⟩ := by
  rw [x_regletref10_Leads, regletref10_Leads_1]
  simp [buildSC, fillRows, freeze3 1 0 0 0, s_in3, leads, Bool.or_assoc]
@[simp] theorem s_REnds (op : Int) : (callW E).p 25 [.int .i64 op] = some ⟨.bool (ends op), [], true, [], []⟩ := by
  rw [x_regletref10_Ends, regletref10_Ends_1]
  simp [buildSC, fillRows, freeze3 1 0 0 0, s_in3, ends, Bool.or_assoc]

def rowT : List (List UInt8) := [[], [110, 45, 45, 45], [51, 45, 45, 45], [51, 45, 45, 45], [42, 61, 45, 45], [63, 63, 63, 63], [63, 63, 63, 63], [45, 110, 45, 45], [45, 51, 45, 45], [45, 51, 49, 45], [45, 49, 45, 45], [45, 51, 51, 45], [45, 51, 45, 45], [42, 51, 49, 45], [45, 51, 49, 42], [49, 51, 45, 45], [42, 51, 45, 45], [45, 51, 42, 45], [42, 45, 45, 45], [45, 42, 45, 45], [51, 45, 45, 45], [51, 49, 45, 45], [49, 51, 45, 45], [63, 63, 63, 63], [63, 63, 63, 63], [63, 63, 63, 63], [63, 63, 63, 63], [45, 45, 45, 45], [45, 49, 49, 45], [45, 51, 63, 45], [45, 63, 45, 45], [45, 51, 45, 45], [51, 45, 45, 45], [45, 45, 45, 45]]
def rowM (op : Int) : List UInt8 := if op < 1 ∨ 33 < op then [] else rowT.getD op.toNat []
def isStrR (r : Option (Ex AV)) (s : List UInt8) : Bool :=
  match r with
  | some ⟨.str a, [], true, [], []⟩ => a == s
  | _ => false
theorem isStrR_eq {r : Option (Ex AV)} {s : List UInt8} (h : isStrR r s = true) : r = some ⟨.str s, [], true, [], []⟩ := by
  unfold isStrR at h
  split at h
  · rw [eq_of_beq h]
  · cases h
theorem row_in : ((List.range 33).all fun i => isStrR ((both E 30).1.p 38 [.int .i64 (1 + i)]) (rowM (1 + i))) = true := by kernel_rfl
set_option maxHeartbeats 2000000 in
theorem s_row (op : Int) : (callW E).p 38 [.int .i64 op] = some ⟨.str (rowM op), [], true, [], []⟩ := by
  by_cases h : op < 1 ∨ 33 < op
  · rw [rowM, if_pos h, x_regletref10_row]
    simp only [regletref10_row_1, regletref10_row_2, regletref10_row_3, regletref10_row_4]
    generalize hb : buildSC 0 (some 0) 1 34 _ _ _ = B
    have hB : ∃ v t, B = some (.ls 0 1 1 0 34, ⟨1, .arr false false 1 v⟩ :: t) := by
      rw [← hb]; exact ⟨_, _, rfl⟩
    obtain ⟨v, t, rfl⟩ := hB
    rcases h with h | h
    · simp [h]
    · have h1 : ¬ op < 1 := by omega
      have h2 : 34 ≤ op := by omega
      simp [h1, h2]
  · have := range_all row_in (op - 1).toNat (by omega)
    have e : (1 + ((op - 1).toNat : Int)) = op := by omega
    simp only [e] at this
    exact lift_p 30 (isStrR_eq this)

@[simp] theorem s_kind (f : Fn) (r : Int) : (callW E).p 48 [.agg (enc f), .int .i64 r] = some ⟨.int .i64 (regK (lst f.regs) r), [], true, [], []⟩ := by
  rw [x_regletref10_kind]
  by_cases h0 : r < 0
  · simp [regletref10_kind_1, regletref10_kind_2, regletref10_kind_3, h0, regK]
  by_cases h1 : ((lst f.regs).length : Int) ≤ r
  · have : (lst f.regs)[r.toNat]? = none := List.getElem?_eq_none (by omega)
    simp [regletref10_kind_1, regletref10_kind_2, regletref10_kind_3, h0, h1, regK, this]
  · have hin : inR (lst f.regs) r = true := by
      have a1 : 0 ≤ r := by omega
      have a2 : r < ((lst f.regs).length : Int) := by omega
      simp [inR, a1, a2]
    obtain ⟨a0, a1, a2⟩ := inR_get hin
    have k := ixs_intI (o := f.regs) a0 a2 .i64
    simp [regletref10_kind_1, regletref10_kind_2, regletref10_kind_3, h0, h1, k]

def wantM (k : Int) (c : UInt8) : Bool :=
  if c = 45 ∨ c = 63 then true else if c = 42 ∨ c = 61 then decide (0 < k) else if c = 110 then decide (k = 1) || decide (k = 2) else decide (k = (c.toNat : Int) - 48)
theorem s_wanted (f : Fn) (r : Int) (c : UInt8) (hc : c = 45 ∨ c = 63 ∨ c = 42 ∨ c = 61 ∨ c = 110 ∨ c = 49 ∨ c = 50 ∨ c = 51) :
    (callW E).p 65 [.agg (enc f), .int .i64 r, .int .u8 c.toNat] = some ⟨.bool (wantM (regK (lst f.regs) r) c), [], true, [], []⟩ := by
  rw [x_regletref10_wanted]
  generalize hk : regK (lst f.regs) r = k
  have hk' := s_kind f r
  rw [hk] at hk'
  rcases hc with rfl | rfl | rfl | rfl | rfl | rfl | rfl | rfl
  · simp [regletref10_wanted_1, regletref10_wanted_2, regletref10_wanted_3, regletref10_wanted_4, regletref10_wanted_5, regletref10_wanted_7, regletref10_wanted_9, regletref10_wanted_10, hk', wantM]
  · simp [regletref10_wanted_1, regletref10_wanted_2, regletref10_wanted_3, regletref10_wanted_4, regletref10_wanted_5, regletref10_wanted_7, regletref10_wanted_9, regletref10_wanted_10, hk', wantM]
  · simp [regletref10_wanted_1, regletref10_wanted_2, regletref10_wanted_3, regletref10_wanted_4, regletref10_wanted_5, regletref10_wanted_7, regletref10_wanted_9, regletref10_wanted_10, hk', wantM]
  · simp [regletref10_wanted_1, regletref10_wanted_2, regletref10_wanted_3, regletref10_wanted_4, regletref10_wanted_5, regletref10_wanted_7, regletref10_wanted_9, regletref10_wanted_10, hk', wantM]
  · by_cases h1 : k = 1 <;> simp [regletref10_wanted_1, regletref10_wanted_2, regletref10_wanted_3, regletref10_wanted_4, regletref10_wanted_5, regletref10_wanted_7, regletref10_wanted_9, regletref10_wanted_10, hk', wantM, h1]
  · simp [regletref10_wanted_1, regletref10_wanted_2, regletref10_wanted_3, regletref10_wanted_4, regletref10_wanted_5, regletref10_wanted_7, regletref10_wanted_9, regletref10_wanted_10, hk', wantM, IntKind.wrap, IntKind.bits, IntKind.signed]
  · simp [regletref10_wanted_1, regletref10_wanted_2, regletref10_wanted_3, regletref10_wanted_4, regletref10_wanted_5, regletref10_wanted_7, regletref10_wanted_9, regletref10_wanted_10, hk', wantM, IntKind.wrap, IntKind.bits, IntKind.signed]
  · simp [regletref10_wanted_1, regletref10_wanted_2, regletref10_wanted_3, regletref10_wanted_4, regletref10_wanted_5, regletref10_wanted_7, regletref10_wanted_9, regletref10_wanted_10, hk', wantM, IntKind.wrap, IntKind.bits, IntKind.signed]
@[simp] theorem s_place (f : Fn) (i : Int) : (callW E).p 49 [.agg (enc f), .int .i64 i] = some ⟨.bool (placeOk (lst f.code).length i), [], true, [], []⟩ := by
  rw [x_regletref10_place]
  by_cases h0 : 0 ≤ i <;> simp [regletref10_place_1, h0, placeOk]
end Go.Vm
