/- The document's answers for names and types: the program's own. -/
import Derived.Test.YtfmmcafccijnhaaCDescS2
import Derived.Test.YtfmmcafccijnhaaCNumK
namespace Go.Vm
open Cel
attribute [local simp] callAny callP heapOf_nil

def mayB : List UInt8 := [97, 98, 99, 100, 101, 102, 103, 104, 105, 106, 107, 108, 109, 110, 111, 112, 113, 114, 115, 116, 117, 118, 119, 120, 121, 122, 65, 66, 67, 68, 69, 70, 71, 72, 73, 74, 75, 76, 77, 78, 79, 80, 81, 82, 83, 84, 85, 86, 87, 88, 89, 90, 48, 49, 50, 51, 52, 53, 54, 55, 56, 57, 95, 36, 47]
theorem may_in : ((List.range 256).all fun n => mayB.contains (UInt8.ofNat n) == okB (UInt8.ofNat n)) = true := by kernel_rfl
theorem may_ok (c : UInt8) : mayB.contains c = okB c := by
  have := range_all may_in c.toNat c.toNat_lt
  rw [UInt8.ofNat_toNat] at this
  exact eq_of_beq this
@[simp] theorem pure_53 : E.pure 53 = true := rfl
theorem s_has (s : List UInt8) (c : UInt8) : (callW E).p 53 [.str s, .str [c]] = some ⟨.bool (s.contains c), [], true, [], []⟩ := by
  rw [callW_p_eq, runPure, show E.fn 53 = none by kernel_rfl]
  rfl

theorem RName_loop (s : List UInt8) (hs : s.length ≤ 9223372036854775807) (h : Heap) : ∀ (d i : Nat), i + d = s.length →
    regletref02_Name_L2 (.str s) (.str mayB) (.int .i64 i) h = if (s.drop i).all okB then regletref02_Name_1 (.str s) h else some ⟨.bool false, [], true, [], []⟩ := by
  intro d
  induction d with
  | zero =>
    intro i hi
    have e1 : s.drop i = [] := List.drop_eq_nil_of_le (by omega)
    have hc : ¬ ((i : Int) < (s.length : Int)) := by omega
    rw [regletref02_Name_L2_go, e1]
    simp [regletref02_Name_5, hc]
  | succ d ih =>
    intro i hi
    have hlt : i < s.length := by omega
    have hc : ((i : Int) < (s.length : Int)) := by omega
    have ih := ih (i + 1) (by omega)
    push_cast at ih
    have e1 : (s.drop i).all okB = (okB s[i] && (s.drop (i + 1)).all okB) := by rw [List.drop_eq_getElem_cons hlt, List.all_cons]
    have hsl : evSls (.str s) (some (.int .i64 (i : Int))) (some (.int .i64 ((i : Int) + 1))) = some (.str [s[i]]) := by
      have a1 : ((0 : Int) ≤ (i : Int) + 1 ∧ (i : Int) + 1 ≤ (s.length : Int)) := by omega
      have a2 : ((0 : Int) ≤ (i : Int) ∧ (i : Int) ≤ (((i : Int) + 1).toNat : Int)) := by omega
      simp only [evSls, optIxv, asNat, if_pos a1, if_pos a2]
      have e2 : ((i : Int) + 1).toNat = i + 1 := by omega
      rw [e2, Int.toNat_natCast, List.drop_take, show i + 1 - i = 1 by omega, List.drop_eq_getElem_cons hlt]
      rfl
    have hm := s_has mayB s[i]
    rw [may_ok] at hm
    rw [regletref02_Name_L2_go, e1]
    simp only [regletref02_Name_5, evLen_str, ob_some, evBin_lss, hc, decide_true, cnd_t]
    cases hb : okB s[i] with
    | true =>
      rw [hb] at hm
      simp [regletref02_Name_4, wrap_up hlt hs, hsl, hm, regletref02_Name_3, ih]
    | false =>
      rw [hb] at hm
      simp [regletref02_Name_4, wrap_up hlt hs, hsl, hm]

@[simp] theorem s_RName (s : List UInt8) (hs : s.length ≤ 9223372036854775807) : (callW E).p 69 [.str s, .bool false] = some ⟨.bool (nameOk s), [], true, [], []⟩ := by
  have h0 := RName_loop s hs [] _ 0 (Nat.zero_add _)
  simp only [Int.ofNat_zero, List.drop_zero] at h0
  rw [x_regletref02_Name]
  have e : regletref02_Name_11 (.str s) (.bool false) [] = regletref02_Name_L2 (.str s) (.str mayB) (.int .i64 0) [] := by simp [regletref02_Name_1, regletref02_Name_3, regletref02_Name_4, regletref02_Name_5, regletref02_Name_7, regletref02_Name_9, regletref02_Name_10, regletref02_Name_11]; rfl
  rw [e, h0, nameOk]
  cases hal : s.all okB with
  | false => simp
  | true =>
    by_cases h1 : s = []
    · subst h1; simp [regletref02_Name_1]
    · have h2 : 1 ≤ s.length := by have := List.length_pos_iff.2 h1; omega
      by_cases h3 : s.length ≤ 60
      · have : ((s.length : Int) ≤ 60) := by omega
        simp [regletref02_Name_1, h1, h2, h3, this]
      · have : ¬ ((s.length : Int) ≤ 60) := by omega
        simp [regletref02_Name_1, h1, h2, h3, this]

def refTypeM (s : List UInt8) : Bool :=
  decide (lead s ≤ 8) && (decide (s.drop (lead s) = [73]) || decide (s.drop (lead s) = [74]) ||
    (decide (2 < (s.drop (lead s)).length) && decide ((s.drop (lead s))[0]? = some 76) && decide ((s.drop (lead s))[(s.drop (lead s)).length - 1]? = some 59) && nameOk (((s.drop (lead s)).take ((s.drop (lead s)).length - 1)).drop 1)))

theorem RType_lead (s : List UInt8) (hs : s.length ≤ 9223372036854775807) (h : Heap) : ∀ (d i : Nat), i + d = lead s → regletref02_Type_L5 (.str s) (.int .i64 i) h = regletref02_Type_4 (.str s) (.int .i64 (lead s)) h := by
  intro d
  induction d with
  | zero =>
    intro i hi
    obtain rfl : i = lead s := by omega
    rw [regletref02_Type_L5_go]
    have := lead_le s
    by_cases hc : lead s < s.length
    · have e := List.getElem?_eq_getElem hc
      have hne := lead_at e
      have hc' : ((lead s : Int) < (s.length : Int)) := by omega
      have hb : ¬ ((s[lead s].toNat : Int) = 91) := fun hh => hne ((byte_eq _ 91).1 hh)
      simp [regletref02_Type_7, hc', ixstr e, hb]
    · have hc' : ¬ ((lead s : Int) < (s.length : Int)) := by omega
      simp [regletref02_Type_7, hc']
  | succ d ih =>
    intro i hi
    have e := lead_lt (s := s) (i := i) (by omega)
    have := lead_le s
    have hc' : ((i : Int) < (s.length : Int)) := by omega
    have ih := ih (i + 1) (by omega)
    push_cast at ih
    rw [regletref02_Type_L5_go]
    simp [regletref02_Type_7, hc', ixstr e, regletref02_Type_6, wrap_up (show i < s.length by omega) hs, ih]

theorem s_RType0 (s : List UInt8) (hs : s.length ≤ 9223372036854775807) : (callW E).p 67 [.str s] = some ⟨.bool (refTypeM s), [], true, [], []⟩ := by
  have h0 := RType_lead s hs [] _ 0 (Nat.zero_add _)
  simp only [Int.ofNat_zero] at h0
  rw [x_regletref02_Type]
  have e : regletref02_Type_11 (.str s) [] = regletref02_Type_L5 (.str s) (.int .i64 0) [] := by simp [regletref02_Type_1, regletref02_Type_2, regletref02_Type_3, regletref02_Type_4, regletref02_Type_6, regletref02_Type_7, regletref02_Type_10, regletref02_Type_11]
  rw [e, h0, refTypeM]
  have hle := lead_le s
  have hsl : evSls (.str s) (some (.int .i64 (lead s))) none = some (.str (s.drop (lead s))) := by
    have a2 : ((0 : Int) ≤ (lead s : Int) ∧ (lead s : Int) ≤ (s.length : Int)) := by omega
    simp only [evSls, optIxv, asNat, if_pos a2]
    simp
  by_cases h8 : 8 < lead s
  · have h8' : ((8 : Int) < (lead s : Int)) := by omega
    have : ¬ lead s ≤ 8 := by omega
    simp [regletref02_Type_4, hsl, regletref02_Type_3, h8', this]
  · have h8' : ¬ ((8 : Int) < (lead s : Int)) := by omega
    have h8n : lead s ≤ 8 := by omega
    have hrl : (s.drop (lead s)).length ≤ 9223372036854775807 := by rw [List.length_drop]; omega
    simp only [regletref02_Type_4, hsl, ob_some, regletref02_Type_3, evBin_gtr, h8', decide_false, cnd_f, h8n, decide_true, Bool.true_and]
    generalize s.drop (lead s) = r at *
    by_cases c1 : r = [73]
    · simp [regletref02_Type_2, c1]
    by_cases c2 : r = [74]
    · simp [regletref02_Type_2, c2]
    by_cases c3 : 2 < r.length
    · have c3' : ((2 : Int) < (r.length : Int)) := by omega
      have k0 := List.getElem?_eq_getElem (l := r) (i := 0) (by omega)
      have k1 := List.getElem?_eq_getElem (l := r) (i := r.length - 1) (by omega)
      have i0 := ixstr k0
      have i1 := ixstr k1
      simp only [Int.ofNat_zero] at i0
      have hw : IntKind.wrap .i64 ((r.length : Int) - 1) = ((r.length - 1 : Nat) : Int) := by rw [wrap_i64] <;> omega
      have hs2 : evSls (.str r) (some (.int .i64 1)) (some (.int .i64 ((r.length - 1 : Nat) : Int))) = some (.str ((r.take (r.length - 1)).drop 1)) := by
        have a1 : ((0 : Int) ≤ ((r.length - 1 : Nat) : Int) ∧ ((r.length - 1 : Nat) : Int) ≤ (r.length : Int)) := by omega
        have a2 : ((0 : Int) ≤ (1 : Int) ∧ (1 : Int) ≤ (((r.length - 1 : Nat) : Int).toNat : Int)) := by omega
        simp only [evSls, optIxv, asNat, if_pos a1, if_pos a2]
        rfl
      have hn := s_RName ((r.take (r.length - 1)).drop 1) (by rw [List.length_drop, List.length_take]; omega)
      rw [k0, k1]
      generalize r[0] = b0 at *
      generalize r[r.length - 1] = b1 at *
      generalize nameOk ((r.take (r.length - 1)).drop 1) = N at *
      have hn' := hn
      simp only [List.drop_one] at hn'
      by_cases d0 : b0 = 76
      · by_cases d1 : b1 = 59
        · simp [regletref02_Type_2, regletref02_Type_1, c1, c2, c3, c3', i0, i1, hw, hs2, hn', d0, d1]
        · have d1' : ¬ ((b1.toNat : Int) = 59) := fun hh => d1 ((byte_eq _ 59).1 hh)
          simp [regletref02_Type_2, regletref02_Type_1, c1, c2, c3, c3', i0, i1, hw, d0, d1, d1']
      · have d0' : ¬ ((b0.toNat : Int) = 76) := fun hh => d0 ((byte_eq _ 76).1 hh)
        simp [regletref02_Type_2, regletref02_Type_1, c1, c2, c3, c3', i0, d0, d0']
    · have c3' : ¬ ((2 : Int) < (r.length : Int)) := by omega
      simp [regletref02_Type_2, regletref02_Type_1, c1, c2, c3, c3']

theorem nameOk_59 {l : List UInt8} (h : nameOk l = true) : 59 ∉ l ∧ 1 ≤ l.length := by
  simp only [nameOk, Bool.and_eq_true, decide_eq_true_eq, List.all_eq_true] at h
  refine ⟨fun hm => ?_, h.1.1⟩
  have := h.2 59 hm
  exact absurd this (by decide)

theorem type_same (s : List UInt8) : refTypeM s = typeOk s := by
  rw [Bool.eq_iff_iff]
  simp only [refTypeM, typeOk, Bool.and_eq_true, Bool.or_eq_true, decide_eq_true_eq]
  have hle := lead_le s
  have hdl : (s.drop (lead s)).length = s.length - lead s := List.length_drop
  by_cases hne : s = []
  · subst hne; simp [lead, takeM]
  have hpos : 0 < s.length := List.length_pos_iff.2 hne
  simp only [hne, not_false_eq_true, true_and, ne_eq]
  unfold takeM
  by_cases h8 : 8 < lead s
  · rw [if_pos (.inl h8)]
    constructor
    · rintro ⟨h, _⟩; omega
    · intro h; omega
  by_cases hl : lead s = s.length
  · rw [if_pos (.inr hl)]
    have : s.drop (lead s) = [] := List.drop_eq_nil_of_le (by omega)
    rw [this]
    constructor
    · rintro ⟨_, h⟩; simp at h
    · intro h; omega
  rw [if_neg (by omega)]
  have hlt : lead s < s.length := by omega
  have hd : s.drop (lead s) = s[lead s] :: s.drop (lead s + 1) := List.drop_eq_getElem_cons hlt
  have h8n : lead s ≤ 8 := by omega
  rw [List.getElem?_eq_getElem hlt]
  have hrl : (s.drop (lead s + 1)).length = s.length - (lead s + 1) := List.length_drop
  have htk : ∀ j, (s.take (lead s + 1 + j)).drop (lead s + 1) = (s.drop (lead s + 1)).take j := by
    intro j; rw [List.drop_take]; congr 1; omega
  simp only [htk]
  rw [hd]
  generalize s[lead s] = c at *
  generalize hr : s.drop (lead s + 1) = r at *
  simp only [h8n, true_and, Option.some.injEq, List.cons.injEq, List.length_cons, List.getElem?_cons_zero, Nat.add_sub_cancel]
  by_cases c1 : c = 73
  · subst c1
    simp only [true_or, if_true, true_and]
    have e1 : (s.length = lead s + 1) ↔ r = [] := by rw [← List.length_eq_zero_iff, hrl]; omega
    constructor
    · rintro (h | h)
      · rcases h with h | h
        · exact (e1.2 h).symm
        · exact absurd h.1 (by decide)
      · exact absurd h.1.1.2 (by decide)
    · intro h; exact .inl (.inl (e1.1 h.symm))
  by_cases c2 : c = 74
  · subst c2
    simp only [or_true, if_true, true_and]
    have e1 : (s.length = lead s + 1) ↔ r = [] := by rw [← List.length_eq_zero_iff, hrl]; omega
    constructor
    · rintro (h | h)
      · rcases h with h | h
        · exact absurd h.1 (by decide)
        · exact (e1.2 h).symm
      · exact absurd h.1.1.2 (by decide)
    · intro h; exact .inl (.inr (e1.1 h.symm))
  simp only [c1, c2, or_self, if_false, false_and, false_or]
  by_cases c3 : c = 76
  · subst c3
    simp only [if_true, true_and, and_true]
    have idx : ∀ j, j < r.length → r[j]? = some 59 → 59 ∉ r.take j → r.findIdx (· == 59) = j := by
      intro j hj h1 h2
      rw [List.getElem?_eq_getElem hj] at h1
      rw [List.findIdx_eq hj]
      refine ⟨by simpa using h1, fun k hk => ?_⟩
      have : r[k]'(by omega) ∈ r.take j := List.mem_take_iff_getElem.2 ⟨k, by omega, rfl⟩
      simp only [beq_eq_false_iff_ne, ne_eq]
      intro he
      rw [he] at this
      exact h2 this
    constructor
    · rintro ⟨⟨h1, h2⟩, h3⟩
      have e0 : (76 :: r : List UInt8)[r.length]? = r[r.length - 1]? := by
        rw [show r.length = (r.length - 1) + 1 by omega]; simp
      rw [e0] at h2
      have e1 : ((76 :: r : List UInt8).take r.length).drop 1 = r.take (r.length - 1) := by
        rw [show r.length = (r.length - 1) + 1 by omega]; simp
      rw [e1] at h3
      have := idx (r.length - 1) (by omega) h2 (nameOk_59 h3).1
      rw [this, if_pos ⟨by omega, h3⟩]
      omega
    · intro h
      split at h
      · rename_i hc
        have hj : r.findIdx (· == 59) = r.length - 1 := by omega
        have hn := nameOk_59 hc.2
        have hlen := hn.2
        rw [List.length_take, hj] at hlen
        have h59 : r[r.length - 1]? = some 59 := by
          have := List.findIdx_getElem (w := hc.1)
          rw [List.getElem?_eq_getElem (by omega)]
          simp only [hj] at this
          simpa using this
        rw [hj] at hc
        refine ⟨⟨by omega, ?_⟩, ?_⟩
        · rw [show r.length = (r.length - 1) + 1 by omega]; simpa using h59
        · have e1 : ((76 :: r : List UInt8).take r.length).drop 1 = r.take (r.length - 1) := by
            rw [show r.length = (r.length - 1) + 1 by omega]; simp
          rw [e1]; exact hc.2
      · omega
  · simp only [c3, if_false, and_false, false_and]
    constructor
    · intro h; exact h.elim
    · intro h; omega
theorem s_RType (s : List UInt8) (hs : s.length ≤ 9223372036854775807) : (callW E).p 67 [.str s] = some ⟨.bool (typeOk s), [], true, [], []⟩ := by
  rw [s_RType0 s hs, type_same]
end Go.Vm
