/- live.Of: what it answers. What the document says that the stack's instructions over numbers take and give. The document's answers for single operations: numbers in a list, ways, ends. The document's table of operations. The document's answers for single operations. The document's answers for names and types: the program's own. The document's answer whether a call, an instruction is well formed. The document's answer whether an instruction is well formed. The document's answer whether an instruction is well formed, whole. The document's answer for an instruction is the program's. The document's answer whether a function is well formed: the program's own. What a function that is handed in is fit for, for a check. Maps from whole numbers, as lists of pairs. Chapter 13's anchor. The table of what is set tells whether each register is written ahead of all that reads it. Clones of lists of marks. -/
import Derived.Test.YthemfgeagohdhaaSX
import Derived.Test.YthemfgeagohdhaaSTc
set_option linter.unusedSimpArgs false
set_option linter.unusedVariables false
set_option linter.unusedSectionVars false
namespace Go.Vm
open Cel
theorem s_OfF (f : Fn) (hf : FnFit f) (hr : (lst f.rows).length ≤ 10000000000000) (hx : ∀ x ∈ lst f.code, (lst x.args).length ≤ 17592186043904) (hw : wf f = true) :
    ∃ r t, (callW E).p 75 [.agg (enc f)] = some r ∧ r.fresh = true ∧ Reads r (.rp [slA (some t.b), slA (some t.a), slA (some t.h), .int .i64 (lst f.regs).length]) ∧ TbOk (lst f.code).length ((lst f.regs).length / 64 + 1) t ∧ LvSnd f t ∧ ∀ i, i < (lst f.code).length → Cl f t i := by
  rw [x_q35]
  have w := wf_of hw
  have hn1 := w.n1
  have hn2 := w.n2
  have hR := w.regs
  have hck := s_Check f hf
  rw [hw] at hck
  have ha : ∀ H : Heap, fzList (fz H fuelF) [.agg (enc f)] = some ⟨[.agg (enc f)], scal f && true, []⟩ := fun H => by
    rw [fzList_cons, fz_enc, fzList_nil]; rfl
  have c8 : ∀ H, callAny E (callW E) 0 none true 8 [.agg (enc f)] H = some (.int .i64 0, H) := fun H => call_reads rfl (ha H) rfl hck ⟨_, rfl, rfl⟩
  have l0 : ∀ t : Heap, evLd true 5 (.lp 0 1 0 0) (AB f :: t) = some (.agg (enc f)) := fun t => by simp
  have l3 : ∀ t : Heap, evLd false 1 (.lp 0 1 0 3) (AB f :: t) = some (slA f.code) := fun t => by simp
  have lr : ∀ t : Heap, evLd false 1 (.lp 0 1 0 0) (AB f :: t) = some (slA f.regs) := fun t => by simp
  have n0 : newC 0 (some 0) (cellsOf (.agg (enc f))) [D0, D0, D0] = some (.lp 0 1 0 0, [AB f, D0, D0]) := by simp
  obtain ⟨q1, _⟩ := quo_rem (r := (lst f.regs).length) (by omega)
  have hwr : IntKind.wrap .i64 ((((lst f.regs).length / 64 : Nat) : Int) + 1) = (((lst f.regs).length / 64 + 1 : Nat) : Int) := by
    rw [wrap_i64] <;> omega
  have bd : evBuild [.nils, .nils, .nils, .int .i64 0] [(3, 1, .int .i64 (lst f.regs).length)] = some (.agg [.nils, .nils, .nils, .int .i64 (lst f.regs).length]) := by rfl
  have n1 : newC 0 (some 1) (cellsOf (.agg [.nils, .nils, .nils, .int .i64 (lst f.regs).length])) [AB f, D0, D0] = some (.lp 1 1 0 0, HB0 f) := by rfl
  obtain ⟨H1, P1, Q1, e1, R1⟩ := make_walk (f := f) hn2 hR ((lst f.code).length - 1) 1 _ _ _ (by omega) (by omega) (rep1 f)
  obtain ⟨t, ht1, ht2, ht3, ht4⟩ := liveLoop_ends w ((lst f.code).length * ((lst f.regs).length + 1) + 1) (tb0 f) tb0_ok tb0_sound (by omega)
  obtain ⟨H2, e2, L2⟩ := loop_walk w hr hx _ (tb0 f) H1 t (R1.done hn1) ht1
  obtain ⟨r, e3, fr, rd⟩ := L2.reads
  refine ⟨r, t, ?_, fr, rd, ht2, ht3, ht4⟩
  rw [← e3, ← e2]
  have hc : (0 : Int) < ((lst f.code).length : Int) := by omega
  have hw1 : IntKind.wrap .i64 ((0 : Int) + 1) = ((1 : Nat) : Int) := by rw [wrap_i64] <;> omega
  have ef := first f (.int .i64 (lst f.code).length) (.int .i64 (lst f.code).length) (.int .i64 0) (W := (lst f.regs).length / 64 + 1) (by omega)
  have e42 : q35_42 (.lp 0 1 0 0) (.int .i64 (lst f.code).length) (.lp 1 1 0 0) H1 = q35_L2 (.lp 0 1 0 0) (.int .i64 (lst f.code).length) (.lp 1 1 0 0) (.bool true) H1 := rfl
  rw [← e42, ← e1]
  simp only [q35_55, n0, oh_some, q35_54, l0, ob_some, c8, evBin_neq, show decide ((0 : Int) ≠ 0) = false from rfl, cnd_f, q35_53, evFa_lp, Nat.zero_add, l3, evLen_sl, lr, q1, evBin_add, hwr, q35_52, bd, n1, q35_50]
  rw [q35_L44_go]
  simp only [q35_48, evBin_lss, ob_some, hc, decide_true, q35_47, cnd_t, ef, q35_45, evBin_add, hw1]
theorem s_Of (f : Fn) (hf : FnFit f) (hr : (lst f.rows).length ≤ 10000000000000) (hx : ∀ x ∈ lst f.code, (lst x.args).length ≤ 17592186043904) (hw : wf f = true) :
    ∃ r t, (callW E).p 75 [.agg (enc f)] = some r ∧ Reads r (.rp [slA (some t.b), slA (some t.a), slA (some t.h), .int .i64 (lst f.regs).length]) ∧ TbOk (lst f.code).length ((lst f.regs).length / 64 + 1) t ∧ LvSnd f t ∧ ∀ i, i < (lst f.code).length → Cl f t i := by
  obtain ⟨r, t, h1, _, h2⟩ := s_OfF f hf hr hx hw
  exact ⟨r, t, h1, h2⟩
end Go.Vm
namespace Go.Vm
open Cel
attribute [local simp] callAny callP heapOf_nil
theorem num_inR : ((List.range 60).all fun i => isTup3 ((both E 30).1.p 66 [.int .i64 (95 + i)]) (numK (95 + i))) = true := by kernel_rfl
theorem s_RKinds (c : Int) (h1 : 0 ≤ c) (h2 : c < 1000) : (callW E).p 66 [.int .i64 c] = some ⟨.tup [.int .i64 (numK c).1, .int .i64 (numK c).2.1, .int .i64 (numK c).2.2], [], true, [], []⟩ := by
  by_cases h : c < 96 ∨ 148 < c
  · rw [numK_out h, x_q56]
    have h2 : ∀ k : Int, 96 ≤ k → k ≤ 148 → ¬ c = k := by omega
    rcases h with h | h
    · have a1 : ¬ 96 ≤ c := by omega
      have a2 : ¬ 120 ≤ c := by omega
      have a3 : ¬ 145 ≤ c := by omega
      simp [q56_1, q56_2, q56_3, q56_4, h2, a1, a2, a3]
      rfl
    · have a1 : 96 ≤ c := by omega
      have a2 : 120 ≤ c := by omega
      have a3 : 145 ≤ c := by omega
      have b1 : ¬ c ≤ 113 := by omega
      have b2 : ¬ c ≤ 131 := by omega
      have b3 : ¬ c ≤ 147 := by omega
      simp [q56_1, q56_2, q56_3, q56_4, h2, a1, a2, a3, b1, b2, b3]
      rfl
  · have := range_all num_inR (c - 95).toNat (by omega)
    have e : (95 + ((c - 95).toNat : Int)) = c := by omega
    simp only [e] at this
    exact lift_p 30 (isTup3_eq this)
end Go.Vm
namespace Go.Vm
open Cel
attribute [local simp] callAny callP heapOf_nil
theorem in_loop (op : Int) (o : Option (List Int)) (hl : (lst o).length ≤ 9223372036854775807) (h : Heap) : ∀ (d i : Nat), i + d = (lst o).length →
    q70_L2 (.int .i64 op) (slA o) (.int .i64 i) h = some ⟨.bool (decide (op ∈ (lst o).drop i)), [], true, [], []⟩ := by
  intro d
  induction d with
  | zero =>
    intro i hi
    have e1 : (lst o).drop i = [] := List.drop_eq_nil_of_le (by omega)
    have hn : ¬ ((i : Int) < ((lst o).length : Int)) := by omega
    rw [q70_L2_go, e1]
    simp [q70_1, q70_3, q70_4, q70_5, q70_7, q70_9, hn]
  | succ d ih =>
    intro i hi
    have hlt : i < (lst o).length := by omega
    have hn : ((i : Int) < ((lst o).length : Int)) := by omega
    have k1 := ixs_int (o := o) (i := i) (List.getElem?_eq_getElem hlt) .i64
    have hm : op ∈ (lst o).drop i ↔ op = (lst o)[i] ∨ op ∈ (lst o).drop (i + 1) := by rw [List.drop_eq_getElem_cons hlt, List.mem_cons]
    rw [q70_L2_go]
    simp only [hm]
    have ih := ih (i + 1) (by omega)
    push_cast at ih
    by_cases he : (lst o)[i] = op
    · simp [q70_1, q70_3, q70_4, q70_5, q70_7, q70_9, hn, k1, he]
    · have he' : ¬ op = (lst o)[i] := fun h => he h.symm
      simp [q70_1, q70_3, q70_4, q70_5, q70_7, q70_9, hn, k1, he, he', wrap_up hlt hl, ih]
theorem s_in (op : Int) (o : Option (List Int)) (hl : (lst o).length ≤ 9223372036854775807) : (callW E).p 42 [.int .i64 op, slA o] = some ⟨.bool (decide (op ∈ lst o)), [], true, [], []⟩ := by
  have := in_loop op o hl [] _ 0 (Nat.zero_add _)
  simp only [Int.ofNat_zero, List.drop_zero] at this
  rw [x_q70, ← this]
  simp [q70_1, q70_3, q70_4, q70_5, q70_7, q70_9]
theorem s_in3 (op a b c : Int) : (callW E).p 42 [.int .i64 op, .rs 1 [[.int .i64 a], [.int .i64 b], [.int .i64 c]]] = some ⟨.bool (decide (op ∈ [a, b, c])), [], true, [], []⟩ :=
  s_in op (some [a, b, c]) (by simp)
theorem freeze3 (g a b c : Nat) (x y z : Int) (t : Heap) : fz (⟨g, .arr false false 1 [[.int .i64 x], [.int .i64 y], [.int .i64 z]]⟩ :: t) fuelF (.ls 0 g 1 0 3) = some ⟨.rs 1 [[.int .i64 x], [.int .i64 y], [.int .i64 z]], true, [0]⟩ := by
  rw [fz_ls, rowsAt_0]; rfl
@[simp] theorem s_RLeads (op : Int) : (callW E).p 23 [.int .i64 op] = some ⟨.bool (leads op), [], true, [], []⟩ := by
  rw [x_q64, q64_1]
  simp [buildSC, fillRows, freeze3 1 0 0 0, s_in3, leads, Bool.or_assoc]
@[simp] theorem s_REnds (op : Int) : (callW E).p 25 [.int .i64 op] = some ⟨.bool (ends op), [], true, [], []⟩ := by
  rw [x_q62, q62_1]
  simp [buildSC, fillRows, freeze3 1 0 0 0, s_in3, ends, Bool.or_assoc]
end Go.Vm
namespace Go.Vm
open Cel
attribute [local simp] callAny callP heapOf_nil
def rowT : List (List UInt8) := [[], [110, 45, 45, 45], [51, 45, 45, 45], [51, 45, 45, 45], [42, 61, 45, 45], [63, 63, 63, 63], [63, 63, 63, 63], [45, 110, 45, 45], [45, 51, 45, 45], [45, 51, 49, 45], [45, 49, 45, 45], [45, 51, 51, 45], [45, 51, 45, 45], [42, 51, 49, 45], [45, 51, 49, 42], [49, 51, 45, 45], [42, 51, 45, 45], [45, 51, 42, 45], [42, 45, 45, 45], [45, 42, 45, 45], [51, 45, 45, 45], [51, 49, 45, 45], [49, 51, 45, 45], [63, 63, 63, 63], [63, 63, 63, 63], [63, 63, 63, 63], [63, 63, 63, 63], [45, 45, 45, 45], [45, 49, 49, 45], [45, 51, 63, 45], [45, 63, 45, 45], [45, 51, 45, 45], [51, 45, 45, 45], [45, 45, 45, 45]]
def rowM (op : Int) : List UInt8 := if op < 1 ∨ 33 < op then [] else rowT.getD op.toNat []
def isStrR (r : Option (Ex AV)) (s : List UInt8) : Bool :=
  match r with
  | some ⟨.str a, [], true, [], []⟩ => a == s
  | _ => false
theorem isStrR_eq {r : Option (Ex AV)} {s : List UInt8} (h : isStrR r s = true) : r = some ⟨.str s, [], true, [], []⟩ := by
  unfold isStrR at h
  split at h
  · rw [eq_of_beq h]
  · cases h
theorem row_in : ((List.range 33).all fun i => isStrR ((both E 30).1.p 38 [.int .i64 (1 + i)]) (rowM (1 + i))) = true := by kernel_rfl
set_option maxHeartbeats 2000000 in
theorem s_row (op : Int) : (callW E).p 38 [.int .i64 op] = some ⟨.str (rowM op), [], true, [], []⟩ := by
  by_cases h : op < 1 ∨ 33 < op
  · rw [rowM, if_pos h, x_q74]
    simp only [q74_1, q74_2, q74_3, q74_4]
    generalize hb : buildSC 0 (some 0) 1 34 _ _ _ = B
    have hB : ∃ v t, B = some (.ls 0 1 1 0 34, ⟨1, .arr false false 1 v⟩ :: t) := by
      rw [← hb]; exact ⟨_, _, rfl⟩
    obtain ⟨v, t, rfl⟩ := hB
    rcases h with h | h
    · simp [h]
    · have h1 : ¬ op < 1 := by omega
      have h2 : 34 ≤ op := by omega
      simp [h1, h2]
  · have := range_all row_in (op - 1).toNat (by omega)
    have e : (1 + ((op - 1).toNat : Int)) = op := by omega
    simp only [e] at this
    exact lift_p 30 (isStrR_eq this)
end Go.Vm
namespace Go.Vm
open Cel
attribute [local simp] callAny callP heapOf_nil
@[simp] theorem s_kind (f : Fn) (r : Int) : (callW E).p 48 [.agg (enc f), .int .i64 r] = some ⟨.int .i64 (regK (lst f.regs) r), [], true, [], []⟩ := by
  rw [x_q71]
  by_cases h0 : r < 0
  · simp [q71_1, q71_2, q71_3, h0, regK]
  by_cases h1 : ((lst f.regs).length : Int) ≤ r
  · have : (lst f.regs)[r.toNat]? = none := List.getElem?_eq_none (by omega)
    simp [q71_1, q71_2, q71_3, h0, h1, regK, this]
  · have hin : inR (lst f.regs) r = true := by
      have a1 : 0 ≤ r := by omega
      have a2 : r < ((lst f.regs).length : Int) := by omega
      simp [inR, a1, a2]
    obtain ⟨a0, a1, a2⟩ := inR_get hin
    have k := ixs_intI (o := f.regs) a0 a2 .i64
    simp [q71_1, q71_2, q71_3, h0, h1, k]
def wantM (k : Int) (c : UInt8) : Bool :=
  if c = 45 ∨ c = 63 then true else if c = 42 ∨ c = 61 then decide (0 < k) else if c = 110 then decide (k = 1) || decide (k = 2) else decide (k = (c.toNat : Int) - 48)
theorem s_wanted (f : Fn) (r : Int) (c : UInt8) (hc : c = 45 ∨ c = 63 ∨ c = 42 ∨ c = 61 ∨ c = 110 ∨ c = 49 ∨ c = 50 ∨ c = 51) :
    (callW E).p 65 [.agg (enc f), .int .i64 r, .int .u8 c.toNat] = some ⟨.bool (wantM (regK (lst f.regs) r) c), [], true, [], []⟩ := by
  rw [x_q75]
  generalize hk : regK (lst f.regs) r = k
  have hk' := s_kind f r
  rw [hk] at hk'
  rcases hc with rfl | rfl | rfl | rfl | rfl | rfl | rfl | rfl
  · simp [q75_1, q75_2, q75_3, q75_4, q75_5, q75_7, q75_9, q75_10, hk', wantM]
  · simp [q75_1, q75_2, q75_3, q75_4, q75_5, q75_7, q75_9, q75_10, hk', wantM]
  · simp [q75_1, q75_2, q75_3, q75_4, q75_5, q75_7, q75_9, q75_10, hk', wantM]
  · simp [q75_1, q75_2, q75_3, q75_4, q75_5, q75_7, q75_9, q75_10, hk', wantM]
  · by_cases h1 : k = 1 <;> simp [q75_1, q75_2, q75_3, q75_4, q75_5, q75_7, q75_9, q75_10, hk', wantM, h1]
  · simp [q75_1, q75_2, q75_3, q75_4, q75_5, q75_7, q75_9, q75_10, hk', wantM, IntKind.wrap, IntKind.bits, IntKind.signed]
  · simp [q75_1, q75_2, q75_3, q75_4, q75_5, q75_7, q75_9, q75_10, hk', wantM, IntKind.wrap, IntKind.bits, IntKind.signed]
  · simp [q75_1, q75_2, q75_3, q75_4, q75_5, q75_7, q75_9, q75_10, hk', wantM, IntKind.wrap, IntKind.bits, IntKind.signed]
@[simp] theorem s_place (f : Fn) (i : Int) : (callW E).p 49 [.agg (enc f), .int .i64 i] = some ⟨.bool (placeOk (lst f.code).length i), [], true, [], []⟩ := by
  rw [x_q73]
  by_cases h0 : 0 ≤ i <;> simp [q73_1, h0, placeOk]
end Go.Vm
namespace Go.Vm
open Cel
attribute [local simp] callAny callP heapOf_nil
def mayB : List UInt8 := [97, 98, 99, 100, 101, 102, 103, 104, 105, 106, 107, 108, 109, 110, 111, 112, 113, 114, 115, 116, 117, 118, 119, 120, 121, 122, 65, 66, 67, 68, 69, 70, 71, 72, 73, 74, 75, 76, 77, 78, 79, 80, 81, 82, 83, 84, 85, 86, 87, 88, 89, 90, 48, 49, 50, 51, 52, 53, 54, 55, 56, 57, 95, 36, 47]
theorem may_in : ((List.range 256).all fun n => mayB.contains (UInt8.ofNat n) == okB (UInt8.ofNat n)) = true := by kernel_rfl
theorem may_ok (c : UInt8) : mayB.contains c = okB c := by
  have := range_all may_in c.toNat c.toNat_lt
  rw [UInt8.ofNat_toNat] at this
  exact eq_of_beq this
@[simp] theorem pure_53 : E.pure 53 = true := rfl
theorem s_has (s : List UInt8) (c : UInt8) : (callW E).p 53 [.str s, .str [c]] = some ⟨.bool (s.contains c), [], true, [], []⟩ := by
  rw [callW_p_eq, runPure, show E.fn 53 = none by kernel_rfl]
  rfl
theorem RName_loop (s : List UInt8) (hs : s.length ≤ 9223372036854775807) (h : Heap) : ∀ (d i : Nat), i + d = s.length →
    q57_L2 (.str s) (.str mayB) (.int .i64 i) h = if (s.drop i).all okB then q57_1 (.str s) h else some ⟨.bool false, [], true, [], []⟩ := by
  intro d
  induction d with
  | zero =>
    intro i hi
    have e1 : s.drop i = [] := List.drop_eq_nil_of_le (by omega)
    have hc : ¬ ((i : Int) < (s.length : Int)) := by omega
    rw [q57_L2_go, e1]
    simp [q57_5, hc]
  | succ d ih =>
    intro i hi
    have hlt : i < s.length := by omega
    have hc : ((i : Int) < (s.length : Int)) := by omega
    have ih := ih (i + 1) (by omega)
    push_cast at ih
    have e1 : (s.drop i).all okB = (okB s[i] && (s.drop (i + 1)).all okB) := by rw [List.drop_eq_getElem_cons hlt, List.all_cons]
    have hsl : evSls (.str s) (some (.int .i64 (i : Int))) (some (.int .i64 ((i : Int) + 1))) = some (.str [s[i]]) := by
      have a1 : ((0 : Int) ≤ (i : Int) + 1 ∧ (i : Int) + 1 ≤ (s.length : Int)) := by omega
      have a2 : ((0 : Int) ≤ (i : Int) ∧ (i : Int) ≤ (((i : Int) + 1).toNat : Int)) := by omega
      simp only [evSls, optIxv, asNat, if_pos a1, if_pos a2]
      have e2 : ((i : Int) + 1).toNat = i + 1 := by omega
      rw [e2, Int.toNat_natCast, List.drop_take, show i + 1 - i = 1 by omega, List.drop_eq_getElem_cons hlt]
      rfl
    have hm := s_has mayB s[i]
    rw [may_ok] at hm
    rw [q57_L2_go, e1]
    simp only [q57_5, evLen_str, ob_some, evBin_lss, hc, decide_true, cnd_t]
    cases hb : okB s[i] with
    | true =>
      rw [hb] at hm
      simp [q57_4, wrap_up hlt hs, hsl, hm, q57_3, ih]
    | false =>
      rw [hb] at hm
      simp [q57_4, wrap_up hlt hs, hsl, hm]
@[simp] theorem s_RName (s : List UInt8) (hs : s.length ≤ 9223372036854775807) : (callW E).p 69 [.str s, .bool false] = some ⟨.bool (nameOk s), [], true, [], []⟩ := by
  have h0 := RName_loop s hs [] _ 0 (Nat.zero_add _)
  simp only [Int.ofNat_zero, List.drop_zero] at h0
  rw [x_q57]
  have e : q57_11 (.str s) (.bool false) [] = q57_L2 (.str s) (.str mayB) (.int .i64 0) [] := by simp [q57_1, q57_3, q57_4, q57_5, q57_7, q57_9, q57_10, q57_11]; rfl
  rw [e, h0, nameOk]
  cases hal : s.all okB with
  | false => simp
  | true =>
    by_cases h1 : s = []
    · subst h1; simp [q57_1]
    · have h2 : 1 ≤ s.length := by have := List.length_pos_iff.2 h1; omega
      by_cases h3 : s.length ≤ 60
      · have : ((s.length : Int) ≤ 60) := by omega
        simp [q57_1, h1, h2, h3, this]
      · have : ¬ ((s.length : Int) ≤ 60) := by omega
        simp [q57_1, h1, h2, h3, this]
def refTypeM (s : List UInt8) : Bool :=
  decide (lead s ≤ 8) && (decide (s.drop (lead s) = [73]) || decide (s.drop (lead s) = [74]) ||
    (decide (2 < (s.drop (lead s)).length) && decide ((s.drop (lead s))[0]? = some 76) && decide ((s.drop (lead s))[(s.drop (lead s)).length - 1]? = some 59) && nameOk (((s.drop (lead s)).take ((s.drop (lead s)).length - 1)).drop 1)))
theorem RType_lead (s : List UInt8) (hs : s.length ≤ 9223372036854775807) (h : Heap) : ∀ (d i : Nat), i + d = lead s → q58_L5 (.str s) (.int .i64 i) h = q58_4 (.str s) (.int .i64 (lead s)) h := by
  intro d
  induction d with
  | zero =>
    intro i hi
    obtain rfl : i = lead s := by omega
    rw [q58_L5_go]
    have := lead_le s
    by_cases hc : lead s < s.length
    · have e := List.getElem?_eq_getElem hc
      have hne := lead_at e
      have hc' : ((lead s : Int) < (s.length : Int)) := by omega
      have hb : ¬ ((s[lead s].toNat : Int) = 91) := fun hh => hne ((byte_eq _ 91).1 hh)
      simp [q58_7, hc', ixstr e, hb]
    · have hc' : ¬ ((lead s : Int) < (s.length : Int)) := by omega
      simp [q58_7, hc']
  | succ d ih =>
    intro i hi
    have e := lead_lt (s := s) (i := i) (by omega)
    have := lead_le s
    have hc' : ((i : Int) < (s.length : Int)) := by omega
    have ih := ih (i + 1) (by omega)
    push_cast at ih
    rw [q58_L5_go]
    simp [q58_7, hc', ixstr e, q58_6, wrap_up (show i < s.length by omega) hs, ih]
theorem s_RType0 (s : List UInt8) (hs : s.length ≤ 9223372036854775807) : (callW E).p 67 [.str s] = some ⟨.bool (refTypeM s), [], true, [], []⟩ := by
  have h0 := RType_lead s hs [] _ 0 (Nat.zero_add _)
  simp only [Int.ofNat_zero] at h0
  rw [x_q58]
  have e : q58_11 (.str s) [] = q58_L5 (.str s) (.int .i64 0) [] := by simp [q58_1, q58_2, q58_3, q58_4, q58_6, q58_7, q58_10, q58_11]
  rw [e, h0, refTypeM]
  have hle := lead_le s
  have hsl : evSls (.str s) (some (.int .i64 (lead s))) none = some (.str (s.drop (lead s))) := by
    have a2 : ((0 : Int) ≤ (lead s : Int) ∧ (lead s : Int) ≤ (s.length : Int)) := by omega
    simp only [evSls, optIxv, asNat, if_pos a2]
    simp
  by_cases h8 : 8 < lead s
  · have h8' : ((8 : Int) < (lead s : Int)) := by omega
    have : ¬ lead s ≤ 8 := by omega
    simp [q58_4, hsl, q58_3, h8', this]
  · have h8' : ¬ ((8 : Int) < (lead s : Int)) := by omega
    have h8n : lead s ≤ 8 := by omega
    have hrl : (s.drop (lead s)).length ≤ 9223372036854775807 := by rw [List.length_drop]; omega
    simp only [q58_4, hsl, ob_some, q58_3, evBin_gtr, h8', decide_false, cnd_f, h8n, decide_true, Bool.true_and]
    generalize s.drop (lead s) = r at *
    by_cases c1 : r = [73]
    · simp [q58_2, c1]
    by_cases c2 : r = [74]
    · simp [q58_2, c2]
    by_cases c3 : 2 < r.length
    · have c3' : ((2 : Int) < (r.length : Int)) := by omega
      have k0 := List.getElem?_eq_getElem (l := r) (i := 0) (by omega)
      have k1 := List.getElem?_eq_getElem (l := r) (i := r.length - 1) (by omega)
      have i0 := ixstr k0
      have i1 := ixstr k1
      simp only [Int.ofNat_zero] at i0
      have hw : IntKind.wrap .i64 ((r.length : Int) - 1) = ((r.length - 1 : Nat) : Int) := by rw [wrap_i64] <;> omega
      have hs2 : evSls (.str r) (some (.int .i64 1)) (some (.int .i64 ((r.length - 1 : Nat) : Int))) = some (.str ((r.take (r.length - 1)).drop 1)) := by
        have a1 : ((0 : Int) ≤ ((r.length - 1 : Nat) : Int) ∧ ((r.length - 1 : Nat) : Int) ≤ (r.length : Int)) := by omega
        have a2 : ((0 : Int) ≤ (1 : Int) ∧ (1 : Int) ≤ (((r.length - 1 : Nat) : Int).toNat : Int)) := by omega
        simp only [evSls, optIxv, asNat, if_pos a1, if_pos a2]
        rfl
      have hn := s_RName ((r.take (r.length - 1)).drop 1) (by rw [List.length_drop, List.length_take]; omega)
      rw [k0, k1]
      generalize r[0] = b0 at *
      generalize r[r.length - 1] = b1 at *
      generalize nameOk ((r.take (r.length - 1)).drop 1) = N at *
      have hn' := hn
      simp only [List.drop_one] at hn'
      by_cases d0 : b0 = 76
      · by_cases d1 : b1 = 59
        · simp [q58_2, q58_1, c1, c2, c3, c3', i0, i1, hw, hs2, hn', d0, d1]
        · have d1' : ¬ ((b1.toNat : Int) = 59) := fun hh => d1 ((byte_eq _ 59).1 hh)
          simp [q58_2, q58_1, c1, c2, c3, c3', i0, i1, hw, d0, d1, d1']
      · have d0' : ¬ ((b0.toNat : Int) = 76) := fun hh => d0 ((byte_eq _ 76).1 hh)
        simp [q58_2, q58_1, c1, c2, c3, c3', i0, d0, d0']
    · have c3' : ¬ ((2 : Int) < (r.length : Int)) := by omega
      simp [q58_2, q58_1, c1, c2, c3, c3']
theorem nameOk_59 {l : List UInt8} (h : nameOk l = true) : 59 ∉ l ∧ 1 ≤ l.length := by
  simp only [nameOk, Bool.and_eq_true, decide_eq_true_eq, List.all_eq_true] at h
  refine ⟨fun hm => ?_, h.1.1⟩
  have := h.2 59 hm
  exact absurd this (by decide)
theorem type_same (s : List UInt8) : refTypeM s = typeOk s := by
  rw [Bool.eq_iff_iff]
  simp only [refTypeM, typeOk, Bool.and_eq_true, Bool.or_eq_true, decide_eq_true_eq]
  have hle := lead_le s
  have hdl : (s.drop (lead s)).length = s.length - lead s := List.length_drop
  by_cases hne : s = []
  · subst hne; simp [lead, takeM]
  have hpos : 0 < s.length := List.length_pos_iff.2 hne
  simp only [hne, not_false_eq_true, true_and, ne_eq]
  unfold takeM
  by_cases h8 : 8 < lead s
  · rw [if_pos (.inl h8)]
    constructor
    · rintro ⟨h, _⟩; omega
    · intro h; omega
  by_cases hl : lead s = s.length
  · rw [if_pos (.inr hl)]
    have : s.drop (lead s) = [] := List.drop_eq_nil_of_le (by omega)
    rw [this]
    constructor
    · rintro ⟨_, h⟩; simp at h
    · intro h; omega
  rw [if_neg (by omega)]
  have hlt : lead s < s.length := by omega
  have hd : s.drop (lead s) = s[lead s] :: s.drop (lead s + 1) := List.drop_eq_getElem_cons hlt
  have h8n : lead s ≤ 8 := by omega
  rw [List.getElem?_eq_getElem hlt]
  have hrl : (s.drop (lead s + 1)).length = s.length - (lead s + 1) := List.length_drop
  have htk : ∀ j, (s.take (lead s + 1 + j)).drop (lead s + 1) = (s.drop (lead s + 1)).take j := by
    intro j; rw [List.drop_take]; congr 1; omega
  simp only [htk]
  rw [hd]
  generalize s[lead s] = c at *
  generalize hr : s.drop (lead s + 1) = r at *
  simp only [h8n, true_and, Option.some.injEq, List.cons.injEq, List.length_cons, List.getElem?_cons_zero, Nat.add_sub_cancel]
  by_cases c1 : c = 73
  · subst c1
    simp only [true_or, if_true, true_and]
    have e1 : (s.length = lead s + 1) ↔ r = [] := by rw [← List.length_eq_zero_iff, hrl]; omega
    constructor
    · rintro (h | h)
      · rcases h with h | h
        · exact (e1.2 h).symm
        · exact absurd h.1 (by decide)
      · exact absurd h.1.1.2 (by decide)
    · intro h; exact .inl (.inl (e1.1 h.symm))
  by_cases c2 : c = 74
  · subst c2
    simp only [or_true, if_true, true_and]
    have e1 : (s.length = lead s + 1) ↔ r = [] := by rw [← List.length_eq_zero_iff, hrl]; omega
    constructor
    · rintro (h | h)
      · rcases h with h | h
        · exact absurd h.1 (by decide)
        · exact (e1.2 h).symm
      · exact absurd h.1.1.2 (by decide)
    · intro h; exact .inl (.inr (e1.1 h.symm))
  simp only [c1, c2, or_self, if_false, false_and, false_or]
  by_cases c3 : c = 76
  · subst c3
    simp only [if_true, true_and, and_true]
    have idx : ∀ j, j < r.length → r[j]? = some 59 → 59 ∉ r.take j → r.findIdx (· == 59) = j := by
      intro j hj h1 h2
      rw [List.getElem?_eq_getElem hj] at h1
      rw [List.findIdx_eq hj]
      refine ⟨by simpa using h1, fun k hk => ?_⟩
      have : r[k]'(by omega) ∈ r.take j := List.mem_take_iff_getElem.2 ⟨k, by omega, rfl⟩
      simp only [beq_eq_false_iff_ne, ne_eq]
      intro he
      rw [he] at this
      exact h2 this
    constructor
    · rintro ⟨⟨h1, h2⟩, h3⟩
      have e0 : (76 :: r : List UInt8)[r.length]? = r[r.length - 1]? := by
        rw [show r.length = (r.length - 1) + 1 by omega]; simp
      rw [e0] at h2
      have e1 : ((76 :: r : List UInt8).take r.length).drop 1 = r.take (r.length - 1) := by
        rw [show r.length = (r.length - 1) + 1 by omega]; simp
      rw [e1] at h3
      have := idx (r.length - 1) (by omega) h2 (nameOk_59 h3).1
      rw [this, if_pos ⟨by omega, h3⟩]
      omega
    · intro h
      split at h
      · rename_i hc
        have hj : r.findIdx (· == 59) = r.length - 1 := by omega
        have hn := nameOk_59 hc.2
        have hlen := hn.2
        rw [List.length_take, hj] at hlen
        have h59 : r[r.length - 1]? = some 59 := by
          have := List.findIdx_getElem (w := hc.1)
          rw [List.getElem?_eq_getElem (by omega)]
          simp only [hj] at this
          simpa using this
        rw [hj] at hc
        refine ⟨⟨by omega, ?_⟩, ?_⟩
        · rw [show r.length = (r.length - 1) + 1 by omega]; simpa using h59
        · have e1 : ((76 :: r : List UInt8).take r.length).drop 1 = r.take (r.length - 1) := by
            rw [show r.length = (r.length - 1) + 1 by omega]; simp
          rw [e1]; exact hc.2
      · omega
  · simp only [c3, if_false, and_false, false_and]
    constructor
    · intro h; exact h.elim
    · intro h; omega
theorem s_RType (s : List UInt8) (hs : s.length ≤ 9223372036854775807) : (callW E).p 67 [.str s] = some ⟨.bool (typeOk s), [], true, [], []⟩ := by
  rw [s_RType0 s hs, type_same]
end Go.Vm
namespace Go.Vm
open Cel
attribute [local simp] callAny callP heapOf_nil fpCall
abbrev H2 (f : Fn) (x : Ins) : Heap := [⟨1, .arr true false 5 [enc f]⟩, ⟨1, .arr true false 9 [enc x]⟩]
abbrev H3 (f : Fn) (x : Ins) : Heap := [⟨1, .arr true false 5 [enc f]⟩, ⟨1, .arr true false 9 [enc x]⟩, ⟨1, .arr false false 1 [[.int .i64 x.d], [.int .i64 x.a], [.int .i64 x.b], [.int .i64 x.c]]⟩]
abbrev Q0 : AV := .lp 0 1 0 0
abbrev Q1 : AV := .lp 1 1 0 0
def lastM (R : List Int) (x : Ins) : Bool :=
  (!decide (x.op = 24) && !decide (x.op = 25)) || (match lst x.args with
    | [] => false
    | r :: _ => decide (regK R r = 3))
def callM (R : List Int) (x : Ins) : Bool :=
  !((decide (x.n < 0) && !decide (x.op = 25)) || decide (21 < (lst x.args).length) || (!decide (x.d = -1) && decide (regK R x.d = 0))) && ((lst x.args).all (fun r => !decide (regK R r = 0)) && lastM R x)
theorem call_last (f : Fn) (x : Ins) : q69_1 Q0 Q1 (H2 f x) = some ⟨.bool (lastM (lst f.regs) x), [], true, [], []⟩ := by
  by_cases o1 : x.op = 24
  · cases ha : lst x.args with
    | nil => simp [q69_1, o1, lastM, ha, pairsOk]
    | cons r t =>
      have k1 := ixs_int (o := x.args) (i := 0) (x := r) (by rw [ha]; rfl) .i64
      simp only [Int.ofNat_zero] at k1
      simp [q69_1, o1, lastM, ha, k1, pairsOk]
  · by_cases o2 : x.op = 25
    · cases ha : lst x.args with
      | nil => simp [q69_1, o2, lastM, ha, pairsOk]
      | cons r t =>
        have k1 := ixs_int (o := x.args) (i := 0) (x := r) (by rw [ha]; rfl) .i64
        simp only [Int.ofNat_zero] at k1
        simp [q69_1, o2, lastM, ha, k1, pairsOk]
    · simp [q69_1, o1, o2, lastM, pairsOk]
theorem call_loop (f : Fn) (x : Ins) (hl : (lst x.args).length ≤ 9223372036854775807) : ∀ (d i : Nat), i + d = (lst x.args).length →
    q69_L2 Q0 Q1 (.int .i64 i) (H2 f x) = some ⟨.bool (((lst x.args).drop i).all (fun r => !decide (regK (lst f.regs) r = 0)) && lastM (lst f.regs) x), [], true, [], []⟩ := by
  intro d
  induction d with
  | zero =>
    intro i hi
    have e1 : (lst x.args).drop i = [] := List.drop_eq_nil_of_le (by omega)
    have hn : ¬ ((i : Int) < ((lst x.args).length : Int)) := by omega
    rw [q69_L2_go, e1]
    simp [q69_5, hn, call_last]
  | succ d ih =>
    intro i hi
    have hlt : i < (lst x.args).length := by omega
    have hn : ((i : Int) < ((lst x.args).length : Int)) := by omega
    have k1 := ixs_int (o := x.args) (i := i) (List.getElem?_eq_getElem hlt) .i64
    have e1 : ((lst x.args).drop i).all (fun r => !decide (regK (lst f.regs) r = 0)) = ((!decide (regK (lst f.regs) (lst x.args)[i] = 0)) && ((lst x.args).drop (i + 1)).all (fun r => !decide (regK (lst f.regs) r = 0))) := by
      rw [List.drop_eq_getElem_cons hlt, List.all_cons]
    have ih := ih (i + 1) (by omega)
    push_cast at ih
    rw [q69_L2_go, e1]
    generalize (lst x.args)[i] = r at *
    have hs := s_kind f r
    by_cases hz : regK (lst f.regs) r = 0
    · rw [hz] at hs
      simp [q69_5, hn, q69_4, k1, hs, hz, pairsOk]
    · generalize regK (lst f.regs) r = k at *
      simp [q69_5, hn, q69_4, k1, hs, hz, pairsOk, q69_3, wrap_up hlt hl]
      exact ih
theorem s_call (f : Fn) (x : Ins) (hl : (lst x.args).length ≤ 9223372036854775807) : (callW E).p 68 [.agg (enc f), .agg (enc x)] = some ⟨.bool (callM (lst f.regs) x), [], true, [], []⟩ := by
  rw [x_q69]
  have h0 := call_loop f x hl _ 0 (Nat.zero_add _)
  simp only [Int.ofNat_zero, List.drop_zero] at h0
  have hs := s_kind f x.d
  have e21 : ((21 : Int) < ((lst x.args).length : Int)) ↔ 21 < (lst x.args).length := by omega
  unfold callM
  generalize ((lst x.args).all (fun r => !decide (regK (lst f.regs) r = 0)) && lastM (lst f.regs) x) = T at *
  generalize regK (lst f.regs) x.d = kd at *
  by_cases h21 : 21 < (lst x.args).length
  · have h21' := e21.2 h21
    by_cases hn : x.n < 0
    · by_cases o5 : x.op = 25 <;> simp [q69_1, q69_3, q69_4, q69_5, q69_7, q69_9, q69_10, hn, o5, h21, h21', pairsOk, fpApart, meets]
    · simp [q69_1, q69_3, q69_4, q69_5, q69_7, q69_9, q69_10, hn, h21, h21', pairsOk, fpApart, meets]
  · have h21' : ¬ ((21 : Int) < ((lst x.args).length : Int)) := by omega
    by_cases hn : x.n < 0
    · by_cases o5 : x.op = 25
      · by_cases hd : x.d = -1
        · simp [q69_1, q69_3, q69_4, q69_5, q69_7, q69_9, q69_10, hn, o5, h21, h21', hd, h0, pairsOk, fpApart, meets]
        · by_cases hk : kd = 0
          · simp [q69_1, q69_3, q69_4, q69_5, q69_7, q69_9, q69_10, hn, o5, h21, h21', hd, hs, hk, h0, pairsOk, fpApart, meets]
          · simp [q69_1, q69_3, q69_4, q69_5, q69_7, q69_9, q69_10, hn, o5, h21, h21', hd, hs, hk, h0, pairsOk, fpApart, meets]
      · simp [q69_1, q69_3, q69_4, q69_5, q69_7, q69_9, q69_10, hn, o5, h21, h21', pairsOk, fpApart, meets]
    · by_cases hd : x.d = -1
      · simp [q69_1, q69_3, q69_4, q69_5, q69_7, q69_9, q69_10, hn, h21, h21', hd, h0, pairsOk, fpApart, meets]
      · by_cases hk : kd = 0
        · simp [q69_1, q69_3, q69_4, q69_5, q69_7, q69_9, q69_10, hn, h21, h21', hd, hs, hk, h0, pairsOk, fpApart, meets]
        · simp [q69_1, q69_3, q69_4, q69_5, q69_7, q69_9, q69_10, hn, h21, h21', hd, hs, hk, h0, pairsOk, fpApart, meets]
end Go.Vm
namespace Go.Vm
open Cel
attribute [local simp] callAny callP heapOf_nil fpCall
def switchM (f : Fn) (x : Ins) : Bool :=
  match x.op with
  | 1 => decide (regK (lst f.regs) x.d = 2) || (decide (-2147483648 ≤ x.n) && decide (x.n < 2147483648))
  | 4 => decide (regK (lst f.regs) x.d = regK (lst f.regs) x.a)
  | 5 => decide (0 < (numK x.n).2.1) && decide (regK (lst f.regs) x.d = (numK x.n).2.2) && decide (regK (lst f.regs) x.a = (numK x.n).1) && decide (regK (lst f.regs) x.b = (numK x.n).2.1)
  | 6 => decide (0 < (numK x.n).1) && decide ((numK x.n).2.1 = 0) && decide (regK (lst f.regs) x.d = (numK x.n).2.2) && decide (regK (lst f.regs) x.a = (numK x.n).1)
  | 12 => typeOk x.s
  | 21 => typeOk x.s
  | 22 => typeOk x.s
  | 16 => decide (0 ≤ x.n)
  | 17 => decide (0 ≤ x.n)
  | 23 => callM (lst f.regs) x
  | 24 => callM (lst f.regs) x
  | 25 => callM (lst f.regs) x
  | 26 => callM (lst f.regs) x
  | 27 => placeOk (lst f.code).length x.t
  | 28 => decide (0 ≤ x.n) && decide (x.n ≤ 5) && placeOk (lst f.code).length x.t
  | 29 => (decide (x.n = 0) || decide (x.n = 1)) && (decide (x.b = -1) || decide (regK (lst f.regs) x.b = 3)) && placeOk (lst f.code).length x.t
  | 30 => if f.ret = 0 then decide (x.a = -1) else !decide (x.a = -1) && decide (regK (lst f.regs) x.a = f.ret)
  | _ => true
def oneM (f : Fn) (x : Ins) : Bool :=
  decide (1 ≤ x.op) && decide (x.op ≤ 33) && (wantM (regK (lst f.regs) x.d) ((rowM x.op).getD 0 0) && (wantM (regK (lst f.regs) x.a) ((rowM x.op).getD 1 0) && (wantM (regK (lst f.regs) x.b) ((rowM x.op).getD 2 0) && (wantM (regK (lst f.regs) x.c) ((rowM x.op).getD 3 0) && switchM f x))))
set_option maxHeartbeats 8000000 in
theorem one_25 (f : Fn) (x : Ins) (hs : x.s.length ≤ 9223372036854775807) (hl : (lst x.args).length ≤ 9223372036854775807) (v55 : AV) (hv : v55 = .int .i64 x.op) :
    q72_25 Q0 Q1 (.int .i64 (numK x.n).1) (.int .i64 (numK x.n).2.1) (.int .i64 (numK x.n).2.2) v55 (H3 f x) = some ⟨.bool (switchM f x), [], true, [], []⟩ := by
  subst hv
  have hkd := s_kind f x.d
  have hka := s_kind f x.a
  have hkb := s_kind f x.b
  have hty := s_RType x.s hs
  have hcl := s_call f x hl
  have hpl := s_place f x.t
  unfold switchM
  generalize regK (lst f.regs) x.d = kd at *
  generalize regK (lst f.regs) x.a = ka at *
  generalize regK (lst f.regs) x.b = kb at *
  generalize typeOk x.s = ty at *
  generalize callM (lst f.regs) x = cl at *
  generalize placeOk (lst f.code).length x.t = pl at *
  generalize numK x.n = k at *
  obtain ⟨a, b, d⟩ := k
  simp only
  by_cases o1 : x.op = 1
  · by_cases h2 : kd = 2
    · simp [o1, q72_25, q72_24, hkd, h2, pairsOk, fpApart, meets]
    · by_cases h3 : -2147483648 ≤ x.n <;> simp [o1, q72_25, q72_24, hkd, h2, h3, pairsOk, fpApart, meets]
  by_cases o4 : x.op = 4
  · simp [o4, q72_25, q72_24, q72_23, q72_22, hkd, hka, pairsOk, fpApart, meets]
  by_cases o5 : x.op = 5
  · by_cases h1 : 0 < b
    · by_cases h2 : kd = d
      · by_cases h3 : ka = a
        · simp [o5, h1, h2, h3, hkd, hka, hkb, q72_25, q72_24, q72_23, q72_22, q72_21, q72_20, q72_19, q72_18, q72_17, q72_16, q72_15, q72_14, q72_13, q72_12, q72_11, q72_10, q72_9, q72_8, q72_7, q72_6, q72_5, q72_4, q72_3, q72_2, q72_1, pairsOk, fpApart, meets]
        · simp [o5, h1, h2, h3, hkd, hka, hkb, q72_25, q72_24, q72_23, q72_22, q72_21, q72_20, q72_19, q72_18, q72_17, q72_16, q72_15, q72_14, q72_13, q72_12, q72_11, q72_10, q72_9, q72_8, q72_7, q72_6, q72_5, q72_4, q72_3, q72_2, q72_1, pairsOk, fpApart, meets]
      · simp [o5, h1, h2, hkd, hka, hkb, q72_25, q72_24, q72_23, q72_22, q72_21, q72_20, q72_19, q72_18, q72_17, q72_16, q72_15, q72_14, q72_13, q72_12, q72_11, q72_10, q72_9, q72_8, q72_7, q72_6, q72_5, q72_4, q72_3, q72_2, q72_1, pairsOk, fpApart, meets]
    · simp [o5, h1, q72_25, q72_24, q72_23, q72_22, q72_21, q72_20, q72_19, q72_18, q72_17, q72_16, q72_15, q72_14, q72_13, q72_12, q72_11, q72_10, q72_9, q72_8, q72_7, q72_6, q72_5, q72_4, q72_3, q72_2, q72_1, pairsOk, fpApart, meets]
  by_cases o6 : x.op = 6
  · by_cases h1 : 0 < a
    · by_cases h2 : b = 0
      · by_cases h3 : kd = d
        · simp [o6, h1, h2, h3, hkd, hka, q72_25, q72_24, q72_23, q72_22, q72_21, q72_20, q72_19, q72_18, q72_17, q72_16, q72_15, q72_14, q72_13, q72_12, q72_11, q72_10, q72_9, q72_8, q72_7, q72_6, q72_5, q72_4, q72_3, q72_2, q72_1, pairsOk, fpApart, meets]
        · simp [o6, h1, h2, h3, hkd, hka, q72_25, q72_24, q72_23, q72_22, q72_21, q72_20, q72_19, q72_18, q72_17, q72_16, q72_15, q72_14, q72_13, q72_12, q72_11, q72_10, q72_9, q72_8, q72_7, q72_6, q72_5, q72_4, q72_3, q72_2, q72_1, pairsOk, fpApart, meets]
      · simp [o6, h1, h2, q72_25, q72_24, q72_23, q72_22, q72_21, q72_20, q72_19, q72_18, q72_17, q72_16, q72_15, q72_14, q72_13, q72_12, q72_11, q72_10, q72_9, q72_8, q72_7, q72_6, q72_5, q72_4, q72_3, q72_2, q72_1, pairsOk, fpApart, meets]
    · simp [o6, h1, q72_25, q72_24, q72_23, q72_22, q72_21, q72_20, q72_19, q72_18, q72_17, q72_16, q72_15, q72_14, q72_13, q72_12, q72_11, q72_10, q72_9, q72_8, q72_7, q72_6, q72_5, q72_4, q72_3, q72_2, q72_1, pairsOk, fpApart, meets]
  by_cases o12 : x.op = 12
  · simp [o12, hty, q72_25, q72_24, q72_23, q72_22, q72_21, q72_20, q72_19, q72_18, q72_17, q72_16, q72_15, q72_14, q72_13, q72_12, q72_11, q72_10, q72_9, q72_8, q72_7, q72_6, q72_5, q72_4, q72_3, q72_2, q72_1, pairsOk, fpApart, meets]
  by_cases o21 : x.op = 21
  · simp [o21, hty, q72_25, q72_24, q72_23, q72_22, q72_21, q72_20, q72_19, q72_18, q72_17, q72_16, q72_15, q72_14, q72_13, q72_12, q72_11, q72_10, q72_9, q72_8, q72_7, q72_6, q72_5, q72_4, q72_3, q72_2, q72_1, pairsOk, fpApart, meets]
  by_cases o22 : x.op = 22
  · simp [o22, hty, q72_25, q72_24, q72_23, q72_22, q72_21, q72_20, q72_19, q72_18, q72_17, q72_16, q72_15, q72_14, q72_13, q72_12, q72_11, q72_10, q72_9, q72_8, q72_7, q72_6, q72_5, q72_4, q72_3, q72_2, q72_1, pairsOk, fpApart, meets]
  by_cases o16 : x.op = 16
  · simp [o16, q72_25, q72_24, q72_23, q72_22, q72_21, q72_20, q72_19, q72_18, q72_17, q72_16, q72_15, q72_14, q72_13, q72_12, q72_11, q72_10, q72_9, q72_8, q72_7, q72_6, q72_5, q72_4, q72_3, q72_2, q72_1, pairsOk, fpApart, meets]
  by_cases o17 : x.op = 17
  · simp [o17, q72_25, q72_24, q72_23, q72_22, q72_21, q72_20, q72_19, q72_18, q72_17, q72_16, q72_15, q72_14, q72_13, q72_12, q72_11, q72_10, q72_9, q72_8, q72_7, q72_6, q72_5, q72_4, q72_3, q72_2, q72_1, pairsOk, fpApart, meets]
  by_cases o23 : x.op = 23
  · simp [o23, hcl, q72_25, q72_24, q72_23, q72_22, q72_21, q72_20, q72_19, q72_18, q72_17, q72_16, q72_15, q72_14, q72_13, q72_12, q72_11, q72_10, q72_9, q72_8, q72_7, q72_6, q72_5, q72_4, q72_3, q72_2, q72_1, pairsOk, fpApart, meets]
  by_cases o24 : x.op = 24
  · simp [o24, hcl, q72_25, q72_24, q72_23, q72_22, q72_21, q72_20, q72_19, q72_18, q72_17, q72_16, q72_15, q72_14, q72_13, q72_12, q72_11, q72_10, q72_9, q72_8, q72_7, q72_6, q72_5, q72_4, q72_3, q72_2, q72_1, pairsOk, fpApart, meets]
  by_cases o25 : x.op = 25
  · simp [o25, hcl, q72_25, q72_24, q72_23, q72_22, q72_21, q72_20, q72_19, q72_18, q72_17, q72_16, q72_15, q72_14, q72_13, q72_12, q72_11, q72_10, q72_9, q72_8, q72_7, q72_6, q72_5, q72_4, q72_3, q72_2, q72_1, pairsOk, fpApart, meets]
  by_cases o26 : x.op = 26
  · simp [o26, hcl, q72_25, q72_24, q72_23, q72_22, q72_21, q72_20, q72_19, q72_18, q72_17, q72_16, q72_15, q72_14, q72_13, q72_12, q72_11, q72_10, q72_9, q72_8, q72_7, q72_6, q72_5, q72_4, q72_3, q72_2, q72_1, pairsOk, fpApart, meets]
  by_cases o28 : x.op = 28
  · by_cases h1 : 0 ≤ x.n
    · by_cases h2 : x.n ≤ 5 <;> simp [o28, h1, h2, hpl, q72_25, q72_24, q72_23, q72_22, q72_21, q72_20, q72_19, q72_18, q72_17, q72_16, q72_15, q72_14, q72_13, q72_12, q72_11, q72_10, q72_9, q72_8, q72_7, q72_6, q72_5, q72_4, q72_3, q72_2, q72_1, pairsOk, fpApart, meets]
    · simp [o28, h1, q72_25, q72_24, q72_23, q72_22, q72_21, q72_20, q72_19, q72_18, q72_17, q72_16, q72_15, q72_14, q72_13, q72_12, q72_11, q72_10, q72_9, q72_8, q72_7, q72_6, q72_5, q72_4, q72_3, q72_2, q72_1, pairsOk, fpApart, meets]
  by_cases o27 : x.op = 27
  · simp [o27, hpl, q72_25, q72_24, q72_23, q72_22, q72_21, q72_20, q72_19, q72_18, q72_17, q72_16, q72_15, q72_14, q72_13, q72_12, q72_11, q72_10, q72_9, q72_8, q72_7, q72_6, q72_5, q72_4, q72_3, q72_2, q72_1, pairsOk, fpApart, meets]
  by_cases o29 : x.op = 29
  · by_cases h1 : x.n = 0
    · by_cases h2 : x.b = -1
      · simp [o29, h1, h2, hpl, q72_25, q72_24, q72_23, q72_22, q72_21, q72_20, q72_19, q72_18, q72_17, q72_16, q72_15, q72_14, q72_13, q72_12, q72_11, q72_10, q72_9, q72_8, q72_7, q72_6, q72_5, q72_4, q72_3, q72_2, q72_1, pairsOk, fpApart, meets]
      · by_cases h3 : kb = 3 <;> simp [o29, h1, h2, h3, hpl, hkb, q72_25, q72_24, q72_23, q72_22, q72_21, q72_20, q72_19, q72_18, q72_17, q72_16, q72_15, q72_14, q72_13, q72_12, q72_11, q72_10, q72_9, q72_8, q72_7, q72_6, q72_5, q72_4, q72_3, q72_2, q72_1, pairsOk, fpApart, meets]
    · by_cases h1' : x.n = 1
      · by_cases h2 : x.b = -1
        · simp [o29, h1', h2, hpl, q72_25, q72_24, q72_23, q72_22, q72_21, q72_20, q72_19, q72_18, q72_17, q72_16, q72_15, q72_14, q72_13, q72_12, q72_11, q72_10, q72_9, q72_8, q72_7, q72_6, q72_5, q72_4, q72_3, q72_2, q72_1, pairsOk, fpApart, meets]
        · by_cases h3 : kb = 3 <;> simp [o29, h1', h2, h3, hpl, hkb, q72_25, q72_24, q72_23, q72_22, q72_21, q72_20, q72_19, q72_18, q72_17, q72_16, q72_15, q72_14, q72_13, q72_12, q72_11, q72_10, q72_9, q72_8, q72_7, q72_6, q72_5, q72_4, q72_3, q72_2, q72_1, pairsOk, fpApart, meets]
      · simp [o29, h1, h1', q72_25, q72_24, q72_23, q72_22, q72_21, q72_20, q72_19, q72_18, q72_17, q72_16, q72_15, q72_14, q72_13, q72_12, q72_11, q72_10, q72_9, q72_8, q72_7, q72_6, q72_5, q72_4, q72_3, q72_2, q72_1, pairsOk, fpApart, meets]
  by_cases o30 : x.op = 30
  · by_cases h1 : f.ret = 0
    · simp [o30, h1, q72_25, q72_24, q72_23, q72_22, q72_21, q72_20, q72_19, q72_18, q72_17, q72_16, q72_15, q72_14, q72_13, q72_12, q72_11, q72_10, q72_9, q72_8, q72_7, q72_6, q72_5, q72_4, q72_3, q72_2, q72_1, pairsOk, fpApart, meets]
    · by_cases h2 : x.a = -1 <;> simp [o30, h1, h2, hka, q72_25, q72_24, q72_23, q72_22, q72_21, q72_20, q72_19, q72_18, q72_17, q72_16, q72_15, q72_14, q72_13, q72_12, q72_11, q72_10, q72_9, q72_8, q72_7, q72_6, q72_5, q72_4, q72_3, q72_2, q72_1, pairsOk, fpApart, meets]
  · have e : (match x.op with
      | 1 => decide (kd = 2) || (decide (-2147483648 ≤ x.n) && decide (x.n < 2147483648))
      | 4 => decide (kd = ka)
      | 5 => decide (0 < b) && decide (kd = d) && decide (ka = a) && decide (kb = b)
      | 6 => decide (0 < a) && decide (b = 0) && decide (kd = d) && decide (ka = a)
      | 12 => ty
      | 21 => ty
      | 22 => ty
      | 16 => decide (0 ≤ x.n)
      | 17 => decide (0 ≤ x.n)
      | 23 => cl
      | 24 => cl
      | 25 => cl
      | 26 => cl
      | 27 => pl
      | 28 => decide (0 ≤ x.n) && decide (x.n ≤ 5) && pl
      | 29 => (decide (x.n = 0) || decide (x.n = 1)) && (decide (x.b = -1) || decide (kb = 3)) && pl
      | 30 => if f.ret = 0 then decide (x.a = -1) else !decide (x.a = -1) && decide (ka = f.ret)
      | _ => true) = true := by
      split <;> first | rfl | contradiction
    rw [show _ = true from e]
    simp [o1, o4, o5, o6, o12, o21, o22, o16, o17, o23, o24, o25, o26, o27, o28, o29, o30, q72_25, q72_24, q72_23, q72_22, q72_21, q72_20, q72_19, q72_18, q72_17, q72_16, q72_15, q72_14, q72_13, q72_12, q72_11, q72_10, q72_9, q72_8, q72_7, q72_6, q72_5, q72_4, q72_3, q72_2, q72_1, pairsOk, fpApart, meets]
end Go.Vm
namespace Go.Vm
open Cel
attribute [local simp] callAny callP heapOf_nil fpCall
def signB (c : UInt8) : Bool := decide (c = 45) || decide (c = 63) || decide (c = 42) || decide (c = 61) || decide (c = 110) || decide (c = 49) || decide (c = 50) || decide (c = 51)
theorem signB_or {c : UInt8} (h : signB c = true) : c = 45 ∨ c = 63 ∨ c = 42 ∨ c = 61 ∨ c = 110 ∨ c = 49 ∨ c = 50 ∨ c = 51 := by
  simp only [signB, Bool.or_eq_true, decide_eq_true_eq] at h
  simp only [or_assoc] at h
  exact h
@[simp] theorem fz_tup3' (h : Heap) (a b c : Int) : fz h fuelF (.tup [.int .i64 a, .int .i64 b, .int .i64 c]) = some ⟨.tup [.int .i64 a, .int .i64 b, .int .i64 c], true, []⟩ := rfl
theorem row_signs : ((List.range 33).all fun i => decide ((rowM (1 + i)).length = 4) && (rowM (1 + i)).all signB) = true := by kernel_rfl
theorem row_ok {op : Int} (h1 : 1 ≤ op) (h2 : op ≤ 33) : (rowM op).length = 4 ∧ (rowM op).all signB = true := by
  have := range_all row_signs (op - 1).toNat (by omega)
  have e : (1 + ((op - 1).toNat : Int)) = op := by omega
  simp only [e, Bool.and_eq_true, decide_eq_true_eq] at this
  exact this
theorem one_field (f : Fn) (x : Ins) (w : List UInt8) (i : Nat) (r : Int) (c : UInt8) (hi : i < 4) (hw : w[i]? = some c) (hc : signB c = true) (hr : [x.d, x.a, x.b, x.c][i]? = some r) :
    q72_L31 Q0 Q1 (.str w) (.ls 2 1 1 0 4) (.int .i64 i) (H3 f x) = if wantM (regK (lst f.regs) r) c then q72_L31 Q0 Q1 (.str w) (.ls 2 1 1 0 4) (.int .i64 (i + 1 : Nat)) (H3 f x) else some ⟨.bool false, [], true, [], []⟩ := by
  have hn : ((i : Int) < (4 : Int)) := by omega
  have hw2 : IntKind.wrap .i64 ((i : Int) + 1) = ((i + 1 : Nat) : Int) := by rw [wrap_i64] <;> omega
  have hs := s_wanted f r c (signB_or hc)
  have k1 : evIxs 1 (.ls 2 1 1 0 4) (.int .i64 i) = some (.lp 2 1 i 0) := by simp [evIxs, hi, hn]
  have k2 : evLd false 1 (.lp 2 1 i 0) (H3 f x) = some (.int .i64 r) := by
    match i, hi, hr with
    | 0, _, hr => simp at hr; simp [hr]
    | 1, _, hr => simp at hr; simp [hr]
    | 2, _, hr => simp at hr; simp [hr]
    | 3, _, hr => simp at hr; simp [hr]
  have k3 := ixstr hw
  rw [q72_L31_go]
  generalize wantM (regK (lst f.regs) r) c = T at *
  simp only [q72_34, evBin_lss, ob_some, hn, decide_true, cnd_t]
  generalize hZ : q72_L31 Q0 Q1 (.str w) (.ls 2 1 1 0 4) (.int .i64 (i + 1 : Nat)) (H3 f x) = Z
  have e32 : q72_32 Q0 Q1 (.str w) (.ls 2 1 1 0 4) (.int .i64 i) (H3 f x) = Z := by
    rw [← hZ]; simp only [q72_32, evBin_add, ob_some, hw2]
  have e5 : evLd true 5 Q0 (H3 f x) = some (.agg (enc f)) := by simp
  simp only [q72_33, k1, k2, k3, e5, ob_some]
  cases T with
  | true => simp [hs, e32, pairsOk]
  | false => simp [hs, pairsOk]
set_option maxHeartbeats 1000000 in
theorem s_one (f : Fn) (x : Ins) (hn : -9223372036854775808 ≤ x.n ∧ x.n < 9223372036854775808) (hs : x.s.length ≤ 9223372036854775807) (hl : (lst x.args).length ≤ 9223372036854775807) :
    (callW E).p 64 [.agg (enc f), .agg (enc x)] = some ⟨.bool (oneM f x), [], true, [], []⟩ := by
  rw [x_q72]
  have hrow := s_row x.op
  by_cases h1 : 1 ≤ x.op
  · by_cases h2 : x.op ≤ 33
    · obtain ⟨hlen, hsg⟩ := row_ok h1 h2
      rw [oneM]
      simp only [h1, h2, decide_true, Bool.true_and]
      generalize rowM x.op = w at *
      match w, hlen, hsg with
      | [c0, c1, c2, c3], _, hsg =>
        simp only [List.all_cons, List.all_nil, Bool.and_true, Bool.and_eq_true] at hsg
        have e0 : q72_41 (.agg (enc f)) (.agg (enc x)) [⟨0, .dead⟩, ⟨0, .dead⟩, ⟨0, .dead⟩] = q72_L31 Q0 Q1 (.str [c0, c1, c2, c3]) (.ls 2 1 1 0 4) (.int .i64 0) (H3 f x) := by
          simp [q72_41, q72_40, q72_39, q72_38, q72_36, hrow, buildSC, fillRows]
        have s0 := one_field f x [c0, c1, c2, c3] 0 x.d c0 (by omega) rfl hsg.1 rfl
        have s1 := one_field f x [c0, c1, c2, c3] 1 x.a c1 (by omega) rfl hsg.2.1 rfl
        have s2 := one_field f x [c0, c1, c2, c3] 2 x.b c2 (by omega) rfl hsg.2.2.1 rfl
        have s3 := one_field f x [c0, c1, c2, c3] 3 x.c c3 (by omega) rfl hsg.2.2.2 rfl
        simp only [Int.ofNat_zero] at s0
        have e4 : q72_L31 Q0 Q1 (.str [c0, c1, c2, c3]) (.ls 2 1 1 0 4) (.int .i64 (3 + 1 : Nat)) (H3 f x) = some ⟨.bool (switchM f x), [], true, [], []⟩ := by
          have h25 := one_25 f x hs hl (.int .i64 x.op) rfl
          show q72_L31 Q0 Q1 (.str [c0, c1, c2, c3]) (.ls 2 1 1 0 4) (.int .i64 4) (H3 f x) = _
          rw [q72_L31_go]
          by_cases hk0 : 0 ≤ x.n
          · by_cases hk1 : x.n < 1000
            · have hK := s_RKinds x.n hk0 hk1
              simp [q72_34, q72_30, q72_29, hk0, hk1, hK, q72_27]
              exact h25
            · have : numK x.n = (0, 0, 0) := numK_out (by omega)
              rw [this] at h25
              simp [q72_34, q72_30, q72_29, hk0, hk1, q72_27]
              exact h25
          · have : numK x.n = (0, 0, 0) := numK_out (by omega)
            rw [this] at h25
            simp [q72_34, q72_30, q72_29, hk0, q72_27]
            exact h25
        rw [e0, s0]
        simp only [List.getD_cons_zero, List.getD_cons_succ]
        cases wantM (regK (lst f.regs) x.d) c0 with
        | false => simp
        | true =>
          rw [if_pos rfl, s1]
          cases wantM (regK (lst f.regs) x.a) c1 with
          | false => simp
          | true =>
            rw [if_pos rfl, s2]
            cases wantM (regK (lst f.regs) x.b) c2 with
            | false => simp
            | true =>
              rw [if_pos rfl, s3]
              cases wantM (regK (lst f.regs) x.c) c3 with
              | false => simp
              | true => rw [if_pos rfl, e4]; simp
    · have : rowM x.op = [] := by rw [rowM, if_pos (by omega)]
      rw [this] at hrow
      simp [q72_41, q72_40, q72_39, hrow, oneM, h2]
  · have : rowM x.op = [] := by rw [rowM, if_pos (by omega)]
    rw [this] at hrow
    simp [q72_41, q72_40, q72_39, hrow, oneM, h1]
end Go.Vm
namespace Go.Vm
theorem numK_ge (n : Int) : 0 ≤ (numK n).1 ∧ 0 ≤ (numK n).2.1 ∧ 0 ≤ (numK n).2.2 ∧ (numK n).1 ≤ 2 ∧ (numK n).2.1 ≤ 2 ∧ (numK n).2.2 ≤ 2 ∧ (¬ (numK n).1 = 0 → ¬ (numK n).2.2 = 0) ∧ (¬ (numK n).2.1 = 0 → ¬ (numK n).1 = 0 ∧ ¬ (numK n).2.2 = 0) := by
  unfold numK
  repeat' split
  all_goals decide
theorem regK_range {R : List Int} (hR : R.all (fun k => decide (1 ≤ k) && decide (k ≤ 3)) = true) (r : Int) : (inR R r = true ∧ (regK R r = 1 ∨ regK R r = 2 ∨ regK R r = 3)) ∨ (inR R r = false ∧ regK R r = 0) := by
  cases h : inR R r with
  | true =>
    obtain ⟨_, h1, h2⟩ := inR_get h
    rw [List.all_eq_true] at hR
    have := hR (regK R r) (List.mem_of_getElem? h2)
    simp only [Bool.and_eq_true, decide_eq_true_eq] at this
    refine .inl ⟨rfl, ?_⟩
    omega
  | false =>
    refine .inr ⟨rfl, ?_⟩
    simp only [inR, Bool.and_eq_false_iff, decide_eq_false_iff_not] at h
    unfold regK
    split
    · rfl
    · rw [List.getD_eq_getElem?_getD, List.getElem?_eq_none (by omega)]; rfl
theorem wrap32 {n : Int} : n = IntKind.wrap .i64 (IntKind.wrap .i32 n) ↔ -2147483648 ≤ n ∧ n < 2147483648 := by
  have h : -2147483648 ≤ IntKind.wrap .i32 n ∧ IntKind.wrap .i32 n < 2147483648 := by
    simp only [IntKind.wrap, IntKind.bits, IntKind.signed]
    simp
    omega
  rw [wrap_i64 (n := IntKind.wrap .i32 n) (by omega) (by omega)]
  constructor
  · intro e; rw [e]; exact h
  · intro e
    simp only [IntKind.wrap, IntKind.bits, IntKind.signed]
    simp
    omega
theorem field_m {R : List Int} {r : Int} : fieldOk R (-1) r = true := by simp [fieldOk]
theorem field_0 {R : List Int} (hR : R.all (fun k => decide (1 ≤ k) && decide (k ≤ 3)) = true) (r : Int) : fieldOk R 0 r = decide (0 < regK R r) := by
  rcases regK_range hR r with ⟨h1, h2⟩ | ⟨h1, h2⟩
  · simp [fieldOk, h1]; omega
  · simp [fieldOk, h1, h2]
theorem field_k {R : List Int} (hR : R.all (fun k => decide (1 ≤ k) && decide (k ≤ 3)) = true) (r k : Int) (hk : 0 < k) : fieldOk R k r = decide (regK R r = k) := by
  have a1 : ¬ k < 0 := by omega
  have a2 : ¬ k ≤ 0 := by omega
  rcases regK_range hR r with ⟨h1, h2⟩ | ⟨h1, h2⟩
  · simp [fieldOk, h1, a1, a2]
  · have : ¬ 0 = k := by omega
    simp [fieldOk, h1, h2, a1, a2, this]
theorem all_in {R : List Int} (hR : R.all (fun k => decide (1 ≤ k) && decide (k ≤ 3)) = true) (l : List Int) : (l.all fun r => !decide (regK R r = 0)) = l.all (inR R) := by
  congr 1
  funext r
  rcases regK_range hR r with ⟨h1, h2⟩ | ⟨h1, h2⟩
  · rw [h1]; simp; omega
  · rw [h1, h2]; rfl
theorem one_5 (f : Fn) (x : Ins) (hR : (lst f.regs).all (fun k => decide (1 ≤ k) && decide (k ≤ 3)) = true) (h : x.op = 5) : oneM f x = rightM f x := by
  have hk := numK_ge x.n
  have Fm := fun r => field_m (R := lst f.regs) (r := r)
  simp only [oneM, rightM, h, kindsM, rowM, rowT, wantM, argsOk, calls, tailOk, leads, switchM, Fm]
  generalize numK x.n = k at *
  obtain ⟨a, b, d⟩ := k
  simp only at hk ⊢
  by_cases hb : b = 0
  · subst hb; simp
  · rw [field_k hR x.d d (by omega), field_k hR x.a a (by omega), field_k hR x.b b (by omega)]
    rw [Bool.eq_iff_iff]
    simp
    omega
theorem one_6 (f : Fn) (x : Ins) (hR : (lst f.regs).all (fun k => decide (1 ≤ k) && decide (k ≤ 3)) = true) (h : x.op = 6) : oneM f x = rightM f x := by
  have hk := numK_ge x.n
  have Fm := fun r => field_m (R := lst f.regs) (r := r)
  simp only [oneM, rightM, h, kindsM, rowM, rowT, wantM, argsOk, calls, tailOk, leads, switchM, Fm]
  generalize numK x.n = k at *
  obtain ⟨a, b, d⟩ := k
  simp only at hk ⊢
  by_cases ha : a = 0
  · subst ha; simp
  · rw [field_k hR x.d d (by omega), field_k hR x.a a (by omega)]
    rw [Bool.eq_iff_iff]
    simp
    omega
theorem one_c (f : Fn) (x : Ins) (hR : (lst f.regs).all (fun k => decide (1 ≤ k) && decide (k ≤ 3)) = true) (h : x.op = 23 ∨ x.op = 24 ∨ x.op = 25 ∨ x.op = 26) : oneM f x = rightM f x := by
  have F0 := field_0 hR
  have Fm := fun r => field_m (R := lst f.regs) (r := r)
  have hA := all_in hR (lst x.args)
  have kd := regK_range hR x.d
  have hc : callM (lst f.regs) x = (!((decide (x.n < 0) && !decide (x.op = 25)) || decide (21 < (lst x.args).length) || (!decide (x.d = -1) && decide (regK (lst f.regs) x.d = 0))) && ((lst x.args).all (inR (lst f.regs)) && lastM (lst f.regs) x)) := by rw [callM, hA]
  cases ha : lst x.args with
  | nil =>
    by_cases hd : x.d = -1 <;> rcases h with h|h|h|h <;> (rw [Bool.eq_iff_iff]; simp [oneM, rightM, h, kindsM, rowM, rowT, wantM, argsOk, calls, tailOk, leads, switchM, hc, lastM, firstOk, ha, hd, F0, Fm]; try omega)
  | cons r t =>
    rw [ha] at hc
    generalize hg : (r :: t).all (inR (lst f.regs)) = A at *
    generalize hl : (r :: t).length = n at *
    by_cases hd : x.d = -1 <;> rcases h with h|h|h|h <;> (rw [Bool.eq_iff_iff]; simp [oneM, rightM, h, kindsM, rowM, rowT, wantM, argsOk, calls, tailOk, leads, switchM, hc, lastM, firstOk, ha, hd, F0, Fm]; first | (simp at hl hg; omega) | (simp at hl hg; grind) | skip)
theorem one_out (f : Fn) (x : Ins) (h : x.op < 1 ∨ 33 < x.op) : oneM f x = rightM f x := by
  rw [oneM, rightM, kindsM_out h]
  rcases h with h | h
  · have : ¬ 1 ≤ x.op := by omega
    simp [this]
  · have : ¬ x.op ≤ 33 := by omega
    simp [this]
set_option maxHeartbeats 4000000 in
theorem one_right (f : Fn) (x : Ins) (hR : (lst f.regs).all (fun k => decide (1 ≤ k) && decide (k ≤ 3)) = true) : oneM f x = rightM f x := by
  have F0 := field_0 hR
  have F1 := fun r => field_k hR r 1 (by omega)
  have F3 := fun r => field_k hR r 3 (by omega)
  have Fm := fun r => field_m (R := lst f.regs) (r := r)
  have hA := all_in hR (lst x.args)
  have kd := regK_range hR x.d
  have ka := regK_range hR x.a
  have hd : 0 < regK (lst f.regs) x.d ↔ ¬ regK (lst f.regs) x.d = 0 := by rcases kd with ⟨_, h⟩ | ⟨_, h⟩ <;> omega
  have hw := @wrap32 x.n
  rcases op_cases x.op with h|h|h|h|h|h|h|h|h|h|h|h|h|h|h|h|h|h|h|h|h|h|h|h|h|h|h|h|h|h|h|h|h|h|h
  all_goals first
    | (simp [oneM, rightM, h, kindsM, rowM, rowT, wantM, argsOk, calls, tailOk, leads, switchM, F0, F1, F3, Fm, placeOk, Bool.and_assoc]; done)
    | skip
  all_goals first
    | exact one_5 f x hR h
    | exact one_6 f x hR h
    | exact one_out f x (.inl h)
    | exact one_out f x (.inr h)
    | exact one_c f x hR (.inl h)
    | exact one_c f x hR (.inr (.inl h))
    | exact one_c f x hR (.inr (.inr (.inl h)))
    | exact one_c f x hR (.inr (.inr (.inr h)))
    | (rw [Bool.eq_iff_iff]; simp [oneM, rightM, h, kindsM, rowM, rowT, wantM, argsOk, calls, tailOk, leads, switchM, F0, F1, F3, Fm, placeOk]; omega)
    | (rw [Bool.eq_iff_iff]; simp [oneM, rightM, h, kindsM, rowM, rowT, wantM, argsOk, calls, tailOk, leads, switchM, F0, F1, F3, Fm, placeOk]; grind)
    | exact one_5 f x hR h
    | exact one_6 f x hR h
    | exact one_out f x (.inl h)
    | exact one_out f x (.inr h)
    | exact one_c f x hR (.inl h)
    | exact one_c f x hR (.inr (.inl h))
    | exact one_c f x hR (.inr (.inr (.inl h)))
    | exact one_c f x hR (.inr (.inr (.inr h)))
end Go.Vm
namespace Go.Vm
open Cel
attribute [local simp] callAny callP heapOf_nil fpCall
theorem RC_rows (f : Fn) (o1 : AO) (n : Int) (hn : n = (lst f.code).length) (hl : (lst f.rows).length ≤ 9223372036854775807) : ∀ (d i : Nat) (o2 : AO), i + d = (lst f.rows).length →
    q60_L2 P0 (.int .i64 n) (.int .i64 i) (HC f o1 o2) = if ((lst f.rows).drop i).all (rowOk (lst f.code)) then E0 else E80 := by
  intro d
  induction d with
  | zero =>
    intro i o2 hi
    have e1 : (lst f.rows).drop i = [] := List.drop_eq_nil_of_le (by omega)
    have hn : ¬ ((i : Int) < ((lst f.rows).length : Int)) := by omega
    rw [q60_L2_go, e1]
    simp [q60_5, q60_1, hn]
  | succ d ih =>
    intro i o2 hi
    have hlt : i < (lst f.rows).length := by omega
    have hc : ((i : Int) < ((lst f.rows).length : Int)) := by omega
    have k1 := ixs_row (o := f.rows) (i := i) (List.getElem?_eq_getElem hlt) .i64
    rw [q60_L2_go]
    have e1 : ((lst f.rows).drop i).all (rowOk (lst f.code)) = (rowOk (lst f.code) (lst f.rows)[i] && ((lst f.rows).drop (i + 1)).all (rowOk (lst f.code))) := by rw [List.drop_eq_getElem_cons hlt, List.all_cons]
    rw [e1]
    generalize hr : (lst f.rows)[i] = r at *
    have ih := fun o2 => ih (i + 1) o2 (by omega)
    push_cast at ih
    subst hn
    by_cases h1 : r.f < 0
    · simp [q60_5, hc, q60_4, k1, rowOk, h1]
    by_cases h2 : r.t ≤ r.f
    · simp [q60_5, hc, q60_4, k1, rowOk, h1, h2]
    by_cases h3 : ((lst f.code).length : Int) < r.t
    · simp [q60_5, hc, q60_4, k1, rowOk, h1, h2, h3]
    by_cases h4 : r.at_ < 0
    · have : ¬ 0 ≤ r.at_ := by omega
      simp [q60_5, hc, q60_4, k1, rowOk, h1, h2, h3, h4, placeOk, this]
    by_cases h5 : ((lst f.code).length : Int) ≤ r.at_
    · have : ¬ r.at_ < ((lst f.code).length : Int) := by omega
      simp [q60_5, hc, q60_4, k1, rowOk, h1, h2, h3, h4, h5, placeOk, this]
    · have hx : r.at_.toNat < (lst f.code).length := by omega
      have a1 : 0 ≤ r.at_ := by omega
      have a2 : r.at_ < ((lst f.code).length : Int) := by omega
      have k2 := ixs_insI (o := f.code) (n := r.at_) (by omega) (List.getElem?_eq_getElem hx) .i64
      by_cases h6 : ((lst f.code)[r.at_.toNat]).op = 32
      · simp [q60_5, hc, q60_4, k1, rowOk, h1, h2, h3, h4, h5, placeOk, a1, a2, k2, h6, hx, q60_3, wrap_up hlt hl, ih]
      · simp [q60_5, hc, q60_4, k1, rowOk, h1, h2, h3, h4, h5, placeOk, a1, a2, k2, h6, hx]
theorem RC_regs (f : Fn) (o1 o2 : AO) (n : Int) (hl : (lst f.regs).length ≤ 9223372036854775807) : ∀ (d i : Nat), i + d = (lst f.regs).length →
    q60_L23 P0 (.int .i64 n) (.int .i64 i) (HC f o1 o2) = if ((lst f.regs).drop i).all (fun k => decide (1 ≤ k) && decide (k ≤ 3)) then q60_21 P0 (.int .i64 n) (HC f o1 o2) else E80 := by
  intro d
  induction d with
  | zero =>
    intro i hi
    have e1 : (lst f.regs).drop i = [] := List.drop_eq_nil_of_le (by omega)
    have hn : ¬ ((i : Int) < ((lst f.regs).length : Int)) := by omega
    rw [q60_L23_go, e1]
    simp [q60_26, hn]
  | succ d ih =>
    intro i hi
    have hlt : i < (lst f.regs).length := by omega
    have hc : ((i : Int) < ((lst f.regs).length : Int)) := by omega
    have k1 := ixs_int (o := f.regs) (i := i) (List.getElem?_eq_getElem hlt) .i64
    have e1 : ((lst f.regs).drop i).all (fun k => decide (1 ≤ k) && decide (k ≤ 3)) = ((decide (1 ≤ (lst f.regs)[i]) && decide ((lst f.regs)[i] ≤ 3)) && ((lst f.regs).drop (i + 1)).all (fun k => decide (1 ≤ k) && decide (k ≤ 3))) := by
      rw [List.drop_eq_getElem_cons hlt, List.all_cons]
    rw [q60_L23_go, e1]
    generalize hr : (lst f.regs)[i] = r at *
    have ih := ih (i + 1) (by omega)
    push_cast at ih
    by_cases h1 : r < 1
    · have : ¬ 1 ≤ r := by omega
      simp [q60_26, hc, q60_25, k1, h1, this]
    by_cases h2 : 3 < r
    · have : ¬ r ≤ 3 := by omega
      simp [q60_26, hc, q60_25, k1, h1, h2, this]
    · have a1 : 1 ≤ r := by omega
      have a2 : r ≤ 3 := by omega
      simp [q60_26, hc, q60_25, k1, h1, h2, a1, a2, q60_24, wrap_up hlt hl, ih]
def parR (R : List Int) : List Int → List Int → Bool
  | _, [] => true
  | seen, p :: r => (inR R p && !seen.contains p) && parR R (seen ++ [p]) r
theorem RC_params (f : Fn) (o1 o2 : AO) (n : Int) (hR : (lst f.regs).all (fun k => decide (1 ≤ k) && decide (k ≤ 3)) = true) (hl : (lst f.params).length ≤ 9223372036854775807) : ∀ (d i : Nat), i + d = (lst f.params).length →
    q60_L16 P0 (.int .i64 n) (.int .i64 i) (HC f o1 o2) = if parR (lst f.regs) ((lst f.params).take i) ((lst f.params).drop i) then q60_14 P0 (.int .i64 n) (HC f o1 o2) else E80 := by
  intro d
  induction d with
  | zero =>
    intro i hi
    have e1 : (lst f.params).drop i = [] := List.drop_eq_nil_of_le (by omega)
    have hn : ¬ ((i : Int) < ((lst f.params).length : Int)) := by omega
    rw [q60_L16_go, e1]
    simp [q60_19, hn, parR]
  | succ d ih =>
    intro i hi
    have hlt : i < (lst f.params).length := by omega
    have hc : ((i : Int) < ((lst f.params).length : Int)) := by omega
    have k1 := ixs_int (o := f.params) (i := i) (List.getElem?_eq_getElem hlt) .i64
    have ks := slc_to (α := Int) f.params i (by omega) .i64
    simp only [es_int] at ks
    have hlm : lst (f.params.map (List.take i)) = (lst f.params).take i := by cases f.params <;> simp
    have e1 : parR (lst f.regs) ((lst f.params).take i) ((lst f.params).drop i) = ((inR (lst f.regs) (lst f.params)[i] && !((lst f.params).take i).contains (lst f.params)[i]) && parR (lst f.regs) ((lst f.params).take (i + 1)) ((lst f.params).drop (i + 1))) := by
      rw [List.drop_eq_getElem_cons hlt, parR, List.take_append_getElem]
    rw [q60_L16_go, e1]
    have hct : (callW E).p 42 [.int .i64 (lst f.params)[i], slA (f.params.map (List.take i))] = some ⟨.bool (((lst f.params).take i).contains (lst f.params)[i]), [], true, [], []⟩ := by
      rw [s_in _ _ (by rw [hlm, List.length_take]; omega), hlm, List.contains_eq_mem]
    generalize hr : (lst f.params)[i] = r at *
    generalize ((lst f.params).take i).contains r = B at *
    have ih := ih (i + 1) (by omega)
    push_cast at ih
    have hs := s_kind f r
    rcases regK_range hR r with ⟨a1, a2⟩ | ⟨a1, a2⟩
    · have hz : ¬ regK (lst f.regs) r = 0 := by omega
      rw [a1]
      generalize regK (lst f.regs) r = k at *
      cases B with
      | true => simp [q60_19, hc, q60_18, k1, hs, hz, ks, hct, pairsOk]
      | false =>
        simp [q60_19, hc, q60_18, k1, hs, hz, ks, hct, pairsOk, q60_17, wrap_up hlt hl]
        exact ih
    · rw [a2] at hs
      simp [q60_19, hc, q60_18, k1, hs, a1, pairsOk]
theorem RC_one (f : Fn) (o2 : AO) (n : Int) (x : Ins) (i g : Nat) (hR : (lst f.regs).all (fun k => decide (1 ≤ k) && decide (k ≤ 3)) = true) (fit : InsFit x) (hi : i < (lst f.code).length) (hl : (lst f.code).length ≤ 9223372036854775807) (hx : (lst f.code)[i]? = some x) (oc : OC) :
    q60_11 P0 (.int .i64 n) (.int .i64 i) (HC f ⟨g, oc⟩ o2) =
      if rightM f x && spotOk (lst f.code) i x then q60_10 P0 (.int .i64 n) (.int .i64 i) (HC f ⟨g + 1, .arr true false 9 [enc x]⟩ o2) else E80 := by
  have k0 := ixs_ins (o := f.code) (i := i) hx .i64
  have h1 := s_one f x fit.n fit.s fit.a
  rw [one_right f x hR] at h1
  cases hok : rightM f x with
  | false =>
    rw [hok] at h1
    simp [q60_11, k0, h1]
  | true =>
    have ht := right_leads (f := f) (x := x) hok
    rw [hok] at h1
    by_cases h32 : x.op = 32
    · have hld : leads 32 = false := by simp [leads]
      by_cases h0 : i = 0
      · subst h0
        simp only [Int.ofNat_zero] at k0
        simp [q60_11, k0, h1, h32, spotOk]
      · have h0' : ¬ ((i : Int) = 0) := by omega
        have hp : i - 1 < (lst f.code).length := by omega
        have k1 := ixs_ins (o := f.code) (i := i - 1) (List.getElem?_eq_getElem hp) .i64
        have hw : IntKind.wrap .i64 ((i : Int) - 1) = ((i - 1 : Nat) : Int) := by rw [wrap_i64] <;> omega
        cases he : ends ((lst f.code)[i - 1]).op with
        | true => simp [q60_11, k0, h1, h32, spotOk, h0, h0', hw, k1, hp, he, hld]
        | false => simp [q60_11, k0, h1, h32, spotOk, h0, h0', hw, k1, hp, he]
    · cases hld : leads x.op with
      | false => simp [q60_11, k0, h1, h32, spotOk, hld]
      | true =>
        obtain ⟨t0, t1⟩ := ht hld
        have hxt : x.t.toNat < (lst f.code).length := by omega
        have k2 := ixs_insI (o := f.code) (n := x.t) t0 (List.getElem?_eq_getElem hxt) .i64
        by_cases h6 : ((lst f.code)[x.t.toNat]).op = 32
        · simp [q60_11, k0, h1, h32, spotOk, hld, k2, h6, hxt]
        · simp [q60_11, k0, h1, h32, spotOk, hld, k2, h6, hxt]
theorem RC_code (f : Fn) (o2 : AO) (n : Int) (hn : n = (lst f.code).length) (hR : (lst f.regs).all (fun k => decide (1 ≤ k) && decide (k ≤ 3)) = true) (hfit : ∀ x ∈ lst f.code, InsFit x) (hl : (lst f.code).length ≤ 9223372036854775807) : ∀ (d i : Nat) (o1 : AO), i + d = (lst f.code).length →
    ∃ o1', q60_L9 P0 (.int .i64 n) (.int .i64 i) (HC f o1 o2) = if codeOk f (lst f.code) i ((lst f.code).drop i) then q60_7 P0 (.int .i64 n) (HC f o1' o2) else E80 := by
  intro d
  induction d with
  | zero =>
    intro i o1 hi
    have e1 : (lst f.code).drop i = [] := List.drop_eq_nil_of_le (by omega)
    have hnl : ¬ ((i : Int) < n) := by omega
    rw [q60_L9_go, e1]
    exact ⟨o1, by simp [q60_12, hnl, codeOk]⟩
  | succ d ih =>
    intro i o1 hi
    have hlt : i < (lst f.code).length := by omega
    have hc : ((i : Int) < n) := by omega
    have e1 : codeOk f (lst f.code) i ((lst f.code).drop i) = (rightM f (lst f.code)[i] && spotOk (lst f.code) i (lst f.code)[i] && codeOk f (lst f.code) (i + 1) ((lst f.code).drop (i + 1))) := by
      rw [List.drop_eq_getElem_cons hlt, codeOk]
    have fit := hfit _ (List.getElem_mem hlt)
    have hone := RC_one f o2 n _ i o1.gen hR fit hlt hl (List.getElem?_eq_getElem hlt) o1.c
    rw [q60_L9_go, e1]
    generalize (lst f.code)[i] = x at *
    generalize (rightM f x && spotOk (lst f.code) i x) = G at *
    simp only [q60_12, evBin_lss, ob_some, hc, decide_true, cnd_t, hone]
    cases G with
    | false => exact ⟨o1, by simp⟩
    | true =>
      obtain ⟨o1', ih⟩ := ih (i + 1) ⟨o1.gen + 1, .arr true false 9 [enc x]⟩ (by omega)
      push_cast at ih
      exact ⟨o1', by simp [q60_10, wrap_up hlt hl, ih]⟩
theorem par_same (R : List Int) : ∀ (l : List Int) (i : Nat) (seen : List Int), i + l.length ≤ 21 → parOk R i seen l = parR R seen l
  | [], _, _, _ => rfl
  | p :: r, i, seen, h => by
    simp only [List.length_cons] at h
    have : i ≤ 20 := by omega
    rw [parOk, parR, par_same R r (i + 1) (seen ++ [p]) (by omega)]
    simp [this]
theorem par_long (R : List Int) : ∀ (l : List Int) (i : Nat) (seen : List Int), 21 < i + l.length → i ≤ 21 → parOk R i seen l = false
  | [], i, _, h, h2 => by simp at h; omega
  | p :: r, i, seen, h, h2 => by
    simp only [List.length_cons] at h
    rw [parOk]
    by_cases hi : i ≤ 20
    · rw [par_long R r (i + 1) (seen ++ [p]) (by omega) (by omega)]; simp
    · simp [hi]
set_option maxRecDepth 100000 in
set_option maxHeartbeats 1000000 in
theorem s_RCheck (f : Fn) (hf : FnFit f) : (callW E).p 29 [.agg (enc f)] = some ⟨.int .i64 (if wf f then 0 else 80), [], true, [], []⟩ := by
  rw [x_q60]
  by_cases h0 : (lst f.code).length = 0
  · have h0' : ((lst f.code).length : Int) = 0 := by omega
    have : ¬ 1 ≤ (lst f.code).length := by omega
    simp [q60_32, q60_31, q60_30, h0', wf, this]
  have h0' : ¬ ((lst f.code).length : Int) = 0 := by omega
  have hne : ¬ lst f.code = [] := fun h => h0 (by rw [h]; rfl)
  have g1 : 1 ≤ (lst f.code).length := by omega
  by_cases h2 : 20000 < (lst f.code).length
  · have h2' : (20000 : Int) < ((lst f.code).length : Int) := by omega
    have : ¬ (lst f.code).length ≤ 20000 := by omega
    simp [q60_32, q60_31, q60_30, h0', hne, h2', wf, this]
  have h2' : ¬ (20000 : Int) < ((lst f.code).length : Int) := by omega
  have g2 : (lst f.code).length ≤ 20000 := by omega
  by_cases h3 : 20000 < (lst f.regs).length
  · have h3' : (20000 : Int) < ((lst f.regs).length : Int) := by omega
    have : ¬ (lst f.regs).length ≤ 20000 := by omega
    simp [q60_32, q60_31, q60_30, h0', hne, h2', h3', wf, this]
  have h3' : ¬ (20000 : Int) < ((lst f.regs).length : Int) := by omega
  have g3 : (lst f.regs).length ≤ 20000 := by omega
  by_cases hp : 21 < (lst f.params).length
  · have hp' : (21 : Int) < ((lst f.params).length : Int) := by omega
    have := par_long (lst f.regs) (lst f.params) 0 [] (by omega) (by omega)
    simp [q60_32, q60_31, q60_30, h0', hne, h2', h3', hp', wf, this]
  have hp' : ¬ (21 : Int) < ((lst f.params).length : Int) := by omega
  by_cases h4 : f.ret < 0
  · have : ¬ 0 ≤ f.ret := by omega
    simp [q60_32, q60_31, q60_30, h0', hne, h2', h3', hp', h4, wf, this]
  have g4 : 0 ≤ f.ret := by omega
  by_cases h5 : 3 < f.ret
  · have : ¬ f.ret ≤ 3 := by omega
    simp [q60_32, q60_31, q60_30, h0', hne, h2', h3', hp', h4, h5, wf, this]
  have g5 : f.ret ≤ 3 := by omega
  have hpl : (lst f.code).length - 1 < (lst f.code).length := by omega
  have k1 := ixs_ins (o := f.code) (i := (lst f.code).length - 1) (List.getElem?_eq_getElem hpl) .i64
  have hw : IntKind.wrap .i64 (((lst f.code).length : Int) - 1) = (((lst f.code).length - 1 : Nat) : Int) := by rw [wrap_i64] <;> omega
  have hg : (lst f.code).getD ((lst f.code).length - 1) default = (lst f.code)[(lst f.code).length - 1] := by rw [List.getD_eq_getElem?_getD, List.getElem?_eq_getElem hpl]; rfl
  cases he : ends ((lst f.code)[(lst f.code).length - 1]).op with
  | false =>
    have hwf : wf f = false := by rw [wf, hg, he]; simp
    rw [hwf]
    simp [q60_32, q60_31, q60_30, h0', hne, h2', h3', hp', h4, h5, hw, k1, he]
  | true =>
    have hps := par_same (lst f.regs) (lst f.params) 0 [] (by omega)
    have hwf : wf f = ((lst f.regs).all (fun k => decide (1 ≤ k) && decide (k ≤ 3)) && parR (lst f.regs) [] (lst f.params) && codeOk f (lst f.code) 0 (lst f.code) && (lst f.rows).all (rowOk (lst f.code))) := by
      rw [wf, hg, he, hps]
      simp only [g1, g2, g3, g4, g5, decide_true, Bool.true_and]
    have e : q60_32 (.agg (enc f)) [⟨0, .dead⟩, ⟨0, .dead⟩, ⟨0, .dead⟩] = q60_L23 P0 (.int .i64 (lst f.code).length) (.int .i64 0) (HC f ⟨0, .dead⟩ ⟨0, .dead⟩) := by
      simp [q60_32, q60_31, q60_30, h0', hne, h2', h3', hp', h4, h5, hw, k1, he, q60_1, q60_3, q60_4, q60_5, q60_7, q60_10, q60_11, q60_12, q60_14, q60_17, q60_18, q60_19, q60_21, q60_24, q60_25, q60_26, q60_28, q60_30, q60_31, q60_32]
    have a1 := RC_regs f ⟨0, .dead⟩ ⟨0, .dead⟩ (lst f.code).length hf.regs _ 0 (Nat.zero_add _)
    simp only [Int.ofNat_zero, List.drop_zero] at a1
    rw [e, a1, hwf]
    cases hR : (lst f.regs).all (fun k => decide (1 ≤ k) && decide (k ≤ 3)) with
    | false => simp
    | true =>
      have a2 := RC_params f ⟨0, .dead⟩ ⟨0, .dead⟩ (lst f.code).length hR hf.params _ 0 (Nat.zero_add _)
      obtain ⟨o1', a3⟩ := RC_code f ⟨0, .dead⟩ _ rfl hR hf.ins hf.code _ 0 ⟨0, .dead⟩ (Nat.zero_add _)
      have a4 := RC_rows f o1' _ rfl hf.rows _ 0 ⟨0, .dead⟩ (Nat.zero_add _)
      simp only [Int.ofNat_zero, List.drop_zero, List.take_zero] at a2 a3 a4
      have e2 : q60_21 P0 (.int .i64 (lst f.code).length) (HC f ⟨0, .dead⟩ ⟨0, .dead⟩) = q60_L16 P0 (.int .i64 (lst f.code).length) (.int .i64 0) (HC f ⟨0, .dead⟩ ⟨0, .dead⟩) := by simp [q60_1, q60_3, q60_4, q60_5, q60_7, q60_10, q60_11, q60_12, q60_14, q60_17, q60_18, q60_19, q60_21, q60_24, q60_25, q60_26, q60_28, q60_30, q60_31, q60_32]
      have e3 : q60_14 P0 (.int .i64 (lst f.code).length) (HC f ⟨0, .dead⟩ ⟨0, .dead⟩) = q60_L9 P0 (.int .i64 (lst f.code).length) (.int .i64 0) (HC f ⟨0, .dead⟩ ⟨0, .dead⟩) := by simp [q60_1, q60_3, q60_4, q60_5, q60_7, q60_10, q60_11, q60_12, q60_14, q60_17, q60_18, q60_19, q60_21, q60_24, q60_25, q60_26, q60_28, q60_30, q60_31, q60_32]
      have e4 : q60_7 P0 (.int .i64 (lst f.code).length) (HC f o1' ⟨0, .dead⟩) = q60_L2 P0 (.int .i64 (lst f.code).length) (.int .i64 0) (HC f o1' ⟨0, .dead⟩) := by simp [q60_1, q60_3, q60_4, q60_5, q60_7, q60_10, q60_11, q60_12, q60_14, q60_17, q60_18, q60_19, q60_21, q60_24, q60_25, q60_26, q60_28, q60_30, q60_31, q60_32]
      rw [e2, a2, e3, a3, e4, a4]
      generalize parR (lst f.regs) [] (lst f.params) = b2
      generalize codeOk f (lst f.code) 0 (lst f.code) = b3
      generalize (lst f.rows).all (rowOk (lst f.code)) = b4
      cases b2 <;> cases b3 <;> cases b4 <;> rfl
end Go.Vm
namespace Go.Vm
theorem FnIn.fit3 {f : Fn} (h : FnIn f) : FnFit f := by
  have e : reachBytes = 140737488351232 := rfl
  refine ⟨fun x hx => ?_, ?_, ?_, ?_, ?_⟩
  · have k := h.insI x hx
    refine ⟨⟨k.n.1, ?_⟩, ?_, ?_⟩
    · have := k.n.2; omega
    · have := k.s; omega
    · have := k.len; omega
  · have := h.code; omega
  · have := h.regs; omega
  · have := h.params; omega
  · have := h.rows; omega
end Go.Vm
namespace Go.Vm
open Cel
section
variable {α : Type}
def aset (k : Int) (v : α) : List (Int × α) → List (Int × α)
  | [] => [(k, v)]
  | (k', v') :: r => if k = k' then (k, v) :: r else (k', v') :: aset k v r
def aget (k : Int) : List (Int × α) → Option α
  | [] => none
  | (k', v') :: r => if k = k' then some v' else aget k r
theorem aget_aset (k j : Int) (v : α) : ∀ l, aget j (aset k v l) = if j = k then some v else aget j l
  | [] => by simp only [aset, aget]
  | (k', v') :: r => by
    rw [aset]
    by_cases h : k = k'
    · subst h
      rw [if_pos rfl, aget, aget]
      by_cases h2 : j = k <;> simp [h2]
    · rw [if_neg h, aget, aget_aset k j v r, aget]
      by_cases h2 : j = k'
      · have : ¬ j = k := fun e => h (e.symm.trans h2)
        rw [if_pos h2, if_pos h2, if_neg this]
      · rw [if_neg h2, if_neg h2]
variable (vf : α → AV)
def mEnt (l : List (Int × α)) : List (AV × AV) := l.map fun p => (.int .i64 p.1, vf p.2)
theorem mfind_ent (k : Int) : ∀ l : List (Int × α), mfind false [0] (.int .i64 k) (mEnt vf l) = some ((aget k l).map vf)
  | [] => rfl
  | (k', v') :: r => by
    have ih := mfind_ent k r
    simp only [mEnt, List.map_cons, mfind, keyEq, Bool.false_eq_true, if_false, leafEq, if_true, aget] at ih ⊢
    by_cases e : k = k'
    · simp [e]
    · have : (k == k') = false := by simpa using e
      rw [this]
      simp only [if_neg e]
      exact ih
theorem mset_ent (k : Int) (v : α) : ∀ l : List (Int × α), mset false [0] (.int .i64 k) (vf v) (mEnt vf l) = some (mEnt vf (aset k v l))
  | [] => rfl
  | (k', v') :: r => by
    have ih := mset_ent k v r
    simp only [mEnt, List.map_cons, mset, keyEq, Bool.false_eq_true, if_false, leafEq, if_true, aset] at ih ⊢
    by_cases e : k = k'
    · simp [e]
    · have : (k == k') = false := by simpa using e
      rw [this]
      simp only [if_neg e, ih, Option.map_some, List.map_cons]
abbrev AM (g : Nat) (l : List (Int × α)) : AO := ⟨g, .map false (mEnt vf l)⟩
variable {vf}
theorem mapAt_am {H : Heap} {id g : Nat} {l : List (Int × α)} (h : H[id]? = some (AM vf g l)) : mapAt H id g = some (false, mEnt vf l) := by
  simp [mapAt, objAt, h]
theorem mget_am {H : Heap} {id g : Nat} {l : List (Int × α)} (h : H[id]? = some (AM vf g l)) (z : AV) (k : Int) : evMget false [0] z false (.lm id g) (.int .i64 k) H = some (((aget k l).map vf).getD z) := by
  simp only [evMget, mapAt_am h, Option.map_some, mfind_ent]
  cases aget k l <;> rfl
theorem mput_am {H : Heap} {id g : Nat} {l : List (Int × α)} (h : H[id]? = some (AM vf g l)) (k : Int) (v : α) : evMput false [0] (.lm id g) (.int .i64 k) (vf v) H = some (.tup [], H.set id (AM vf g (aset k v l))) := by
  simp only [evMput, mapAt_am h, mset_ent, setMap, h]
variable (vf) in
theorem mkm_am {H : Heap} {fb j : Nat} {o : AO} (h : H[fb + j]? = some o) : mkmC fb (some j) H = some (.lm (fb + j) (o.gen + 1), H.set (fb + j) (AM vf (o.gen + 1) [])) := by
  have e : AM vf (o.gen + 1) [] = ⟨o.gen + 1, .map false []⟩ := rfl
  rw [e]
  simp [mkmC, place, h]
end
abbrev vI (n : Int) : AV := .int .i64 n
end Go.Vm
namespace Go.Vm
@[simp] theorem holds13 : (callW E).p 74 [] = some ⟨.bool true, [], true, [], []⟩ := lift_p 60 (by kernel_rfl)
end Go.Vm
namespace Go.Vm
def beginB (f : Fn) : List Bool := (List.range (lst f.regs).length).map fun (r : Nat) => decide (((r : Nat) : Int) ∈ lst f.params)
theorem beginB_len (f : Fn) : (beginB f).length = (lst f.regs).length := by simp [beginB]
theorem beginB_get {f : Fn} {r : Nat} (h : r < (lst f.regs).length) : (beginB f)[r]? = some (decide ((r : Int) ∈ lst f.params)) := by simp [beginB, h]
theorem writeB_len (d : Int) (s : List Bool) : (writeB d s).length = s.length := by unfold writeB; split <;> simp
theorem writeB_false {d : Int} {s : List Bool} {r : Nat} (h : (writeB d s)[r]? = some false) : d ≠ r ∧ s[r]? = some false := by
  unfold writeB at h
  split at h
  · rename_i hd
    rw [List.getElem?_set] at h
    split at h
    · split at h <;> cases h
    · exact ⟨by omega, h⟩
  · exact ⟨by omega, h⟩
theorem writeB_true {d : Int} {s : List Bool} {r : Nat} (h : (writeB d s)[r]? = some true) (hd : d ≠ r) : s[r]? = some true := by
  unfold writeB at h
  split at h
  · rw [List.getElem?_set] at h
    split at h
    · omega
    · exact h
  · exact h
section
variable (f : Fn)
def Flows (ins : Tab) (i : Nat) (s : List Bool) : Prop := (∀ to ∈ caughtL f i, LeAt ins to s) ∧ ∀ to ∈ nextL f i, LeAt ins to (writeB (defr (insAt f i)) s)
structure SInv (ins : Tab) (work : List Int) : Prop where
  ok : TblOk (lst f.code).length (lst f.regs).length ins
  src : ∀ (i r : Nat) t, ins[i]? = some (some t) → t[r]? = some false → Rch (lst f.code).length (succR f r) [0] i ∧ (r : Int) ∉ lst f.params
  cl : ∀ (i : Nat) s, ins[i]? = some (some s) → (i : Int) ∈ work ∨ Flows f ins i s
  st : LeAt ins 0 (beginB f)
  wk : ∀ j ∈ work, 0 ≤ j ∧ j < (lst f.code).length ∧ ∃ t, ins[j.toNat]? = some (some t)
def tab0 : Tab := (List.replicate (lst f.code).length none).set 0 (some (beginB f))
variable {f}
theorem Flows.mono {a b : Tab} (h : LeT a b) {i : Nat} {s : List Bool} (hf : Flows f a i s) : Flows f b i s :=
  ⟨fun to ht => (hf.1 to ht).mono h, fun to ht => (hf.2 to ht).mono h⟩
theorem SInv.start (w : Wf f) : SInv f (tab0 f) [0] := by
  have hn := w.n1
  have h0 : (tab0 f)[0]? = some (some (beginB f)) := set_same_at (by rw [List.length_replicate]; omega)
  have hx : ∀ (i : Nat) t, (tab0 f)[i]? = some (some t) → i = 0 ∧ t = beginB f := by
    intro i t ht
    rcases set_at ht with ⟨e, e2⟩ | ⟨_, h⟩
    · injection e2 with e2; exact ⟨e, e2⟩
    · rw [List.getElem?_replicate] at h
      split at h <;> cases h
  refine ⟨⟨by simp [tab0], fun i s hs => by rw [(hx i s hs).2, beginB_len]⟩, fun i r t ht hr => ?_, fun i s hs => .inl (by rw [(hx i s hs).1]; simp), ⟨_, h0, .refl _⟩, fun j hj => ?_⟩
  · obtain ⟨rfl, rfl⟩ := hx i t ht
    have hr1 : r < (lst f.regs).length := by rw [← beginB_len]; exact (List.getElem?_eq_some_iff.1 hr).1
    rw [beginB_get hr1] at hr
    refine ⟨Rch.base (j := 0) (by simp) (by omega) (by omega), ?_⟩
    simpa using hr
  · rw [List.mem_singleton] at hj
    subst hj
    exact ⟨by omega, by omega, _, h0⟩
theorem SInv.step (w : Wf f) {ins : Tab} {work : List Int} (I : SInv f ins work) {i : Int} (hi : work.getLast? = some i) :
    SInv f (meets_ (writeB (defr (insAt f i.toNat)) (tabAt ins i.toNat)) (nextL f i) (meets_ (tabAt ins i.toNat) (caughtL f i) (ins, work.dropLast))).1
      (meets_ (writeB (defr (insAt f i.toNat)) (tabAt ins i.toNat)) (nextL f i) (meets_ (tabAt ins i.toNat) (caughtL f i) (ins, work.dropLast))).2 ∧
    2 * pot (lst f.regs).length (meets_ (writeB (defr (insAt f i.toNat)) (tabAt ins i.toNat)) (nextL f i) (meets_ (tabAt ins i.toNat) (caughtL f i) (ins, work.dropLast))).1 +
      (meets_ (writeB (defr (insAt f i.toNat)) (tabAt ins i.toNat)) (nextL f i) (meets_ (tabAt ins i.toNat) (caughtL f i) (ins, work.dropLast))).2.length + 1 ≤ 2 * pot (lst f.regs).length ins + work.length := by
  have e := getLast_split hi
  obtain ⟨i0, i1, s, hs⟩ := I.wk i (by rw [e]; simp)
  have hts : tabAt ins i.toNat = s := by simp [tabAt, hs]
  rw [hts]
  have hsl := I.ok.rows _ _ hs
  have ei : ((i.toNat : Nat) : Int) = i := by omega
  obtain ⟨a1, a2⟩ := meets_spec (n := (lst f.code).length) hsl (caughtL f i) (ins, work.dropLast) I.ok (fun to h => w.caught h)
  generalize meets_ s (caughtL f i) (ins, work.dropLast) = p1 at *
  obtain ⟨b1, b2⟩ := meets_spec (n := (lst f.code).length) (s := writeB (defr (insAt f i.toNat)) s) (by rw [writeB_len]; exact hsl) (nextL f i) p1 a1.ok (fun to h => by
    rw [← ei] at h
    exact w.next (by omega) h)
  generalize meets_ (writeB (defr (insAt f i.toNat)) s) (nextL f i) p1 = p2 at *
  refine ⟨⟨b1.ok, fun j r t ht hr => ?_, fun j t ht => ?_, (I.st.mono a1.le).mono b1.le, fun j hj => ?_⟩, ?_⟩
  · -- what isn't set
    have old : ∀ u, ins[j]? = some (some u) → u[r]? = some false → Rch (lst f.code).length (succR f r) [0] j ∧ (r : Int) ∉ lst f.params := fun u h1 h2 => I.src j r u h1 h2
    have hjlt : j < (lst f.code).length := by rw [← b1.ok.len]; exact (List.getElem?_eq_some_iff.1 ht).1
    rcases b1.src j r t ht hr with ⟨u, h1, h2⟩ | ⟨h1, h2⟩
    · rcases a1.src j r u h1 h2 with ⟨v, h3, h4⟩ | ⟨h3, h4⟩
      · exact old v h3 h4
      · obtain ⟨k1, k2⟩ := I.src _ _ _ hs h3
        refine ⟨?_, k2⟩
        have := Rch.step (j := (j : Int)) k1 (by rw [succR, ei]; exact List.mem_append_left _ h4) (by omega) (by omega)
        simpa using this
    · obtain ⟨h3, h4⟩ := writeB_false h1
      obtain ⟨k1, k2⟩ := I.src _ _ _ hs h4
      refine ⟨?_, k2⟩
      have := Rch.step (j := (j : Int)) k1 (by rw [succR, if_neg h3, ei]; exact List.mem_append_right _ h2) (by omega) (by omega)
      simpa using this
  · -- closed but for the work
    rcases b1.work j t ht with h | h
    · rcases a1.work j t h with h | h
      · simp only at h
        rcases I.cl j t h with hw | hw
        · rw [e, List.mem_append, List.mem_singleton] at hw
          rcases hw with hw | hw
          · exact .inl (b1.keep _ (a1.keep _ hw))
          · right
            have ej : j = i.toNat := by omega
            subst ej
            rw [hs] at h
            injection h with h; injection h with h
            subst h
            rw [Flows, ei]
            exact ⟨fun to hto => (a2 to hto).mono b1.le, fun to hto => b2 to hto⟩
        · exact .inr ((hw.mono a1.le).mono b1.le)
      · exact .inl (b1.keep _ h)
    · exact .inl h
  · rcases b1.fresh j hj with h | h
    · rcases a1.fresh j h with h | ⟨k1, k2, t, k3⟩
      · obtain ⟨k1, k2, t, k3⟩ := I.wk j (mem_dropLast h)
        obtain ⟨t2, k4, _⟩ := a1.le _ _ k3
        obtain ⟨t3, k5, _⟩ := b1.le _ _ k4
        exact ⟨k1, k2, t3, k5⟩
      · obtain ⟨t2, k4, _⟩ := b1.le _ _ k3
        exact ⟨k1, k2, t2, k4⟩
    · exact h
  · have h1 := a1.pot
    have h2 := b1.pot
    have h3 : work.length = work.dropLast.length + 1 := by rw [e]; simp
    simp only at h1
    omega
theorem setLoop_ends (w : Wf f) : ∀ (k : Nat) (ins : Tab) (work : List Int), SInv f ins work → 2 * pot (lst f.regs).length ins + work.length < k → ∃ r, setLoop f k ins work = some r ∧ SInv f r []
  | 0, _, _, _, h => by omega
  | k + 1, ins, work, I, h => by
    rw [setLoop]
    cases hw : work.getLast? with
    | none =>
      rw [List.getLast?_eq_none_iff] at hw
      subst hw
      exact ⟨ins, rfl, I⟩
    | some i =>
      obtain ⟨I2, hp⟩ := I.step w hw
      exact setLoop_ends w k _ _ I2 (Nat.le_trans hp (Nat.le_of_lt_succ h))
theorem SInv.tells (w : Wf f) {ins : Tab} (I : SInv f ins []) : (∀ i, i < (lst f.code).length → ∀ u ∈ usesAt f i, ∀ s, ins[i]? = some (some s) → s[u.toNat]? = some true) ↔ setP f := by
  constructor
  · intro h r r0 r1 hp ⟨i, hi, hu⟩
    have er : ((r.toNat : Nat) : Int) = r := by omega
    have hle : ∀ {to : Int} {s : List Bool}, LeAt ins to s → s[r.toNat]? ≠ some true → ∃ t, ins[to.toNat]? = some (some t) ∧ t[r.toNat]? = some false := by
      intro to s ⟨t, h1, h2⟩ hne
      refine ⟨t, h1, ?_⟩
      have hl := I.ok.rows _ _ h1
      have hlt : r.toNat < t.length := by omega
      rw [List.getElem?_eq_getElem hlt]
      cases hb : t[r.toNat] with
      | false => rfl
      | true => exact (hne (h2 _ (by rw [List.getElem?_eq_getElem hlt, hb]))).elim
    have key : ∀ {i : Nat}, Rch (lst f.code).length (succR f r) [0] i → ∃ t, ins[i]? = some (some t) ∧ t[r.toNat]? = some false := by
      intro i hr
      induction hr with
      | base hj j0 j1 =>
        rw [List.mem_singleton] at hj
        subst hj
        refine hle I.st ?_
        rw [beginB_get (by omega), er]
        simpa using hp
      | step hr hj j0 j1 ih =>
        rename_i i j
        obtain ⟨t, h1, h2⟩ := ih
        rcases I.cl _ _ h1 with hw | ⟨c1, c2⟩
        · cases hw
        · rw [succR, List.mem_append] at hj
          rcases hj with hj | hj
          · exact hle (c1 _ hj) (by rw [h2]; simp)
          · split at hj
            · cases hj
            · rename_i hd
              refine hle (c2 _ hj) fun ht => ?_
              have := writeB_true ht (by rw [er]; exact hd)
              rw [h2] at this
              cases this
    obtain ⟨t, h1, h2⟩ := key hi
    have := h i hi.lt r hu t h1
    rw [h2] at this
    cases this
  · intro h i hi u hu s hs
    obtain ⟨u0, u1⟩ := w.uses hi hu
    have hl := I.ok.rows _ _ hs
    have hlt : u.toNat < s.length := by omega
    rw [List.getElem?_eq_getElem hlt]
    cases hb : s[u.toNat] with
    | true => rfl
    | false =>
      obtain ⟨k1, k2⟩ := I.src i u.toNat s hs (by rw [List.getElem?_eq_getElem hlt, hb])
      have eu : ((u.toNat : Nat) : Int) = u := by omega
      rw [eu] at k1 k2
      exact (h u u0 u1 k2 ⟨i, k1, hu⟩).elim
end
end Go.Vm
namespace Go.Vm
open Cel
attribute [local simp] callAny callP heapOf_nil
theorem rowsOf_slB (o : Option (List Bool)) (h : Heap) : rowsOf h 1 (slA o) = some ((lst o).map enc) := rowsOf_sl o h
theorem s_CloneB (o : Option (List Bool)) (h : (lst o).length ≤ 1000000) : (callW E).p 78 [slA o] = some (exO o) := by
  rw [x_q103]
  cases o with
  | none => rfl
  | some L =>
    simp only [lst_some] at h
    have h1 : 2 * L.length ≤ 281474976710144 := by omega
    simp [q103_1, q103_2, q103_3, buildSC, fillRows, evApp, rowsOf_slB, h1]
    exact expo1_own (α := Bool) (L := L) (by simp)
end Go.Vm
