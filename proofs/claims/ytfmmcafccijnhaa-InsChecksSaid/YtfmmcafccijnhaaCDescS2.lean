/- Names, the type at a text's beginning, types. -/
import Derived.Test.YtfmmcafccijnhaaCDescS
namespace Go.Vm
open Cel
attribute [local simp] callAny callP heapOf_nil

theorem Name_loop (s : List UInt8) (hl : s.length ≤ 60) : ∀ (d i : Nat), i + d = s.length →
    desc_Name_L2 (.bool false) (.ls 0 1 1 0 s.length) (.int .i64 s.length) (.int .i64 i) [⟨1, .arr false false 1 (s.map fun b => [.int .u8 b.toNat])⟩] = some ⟨.bool ((s.drop i).all okB), [], true, [], []⟩ := by
  intro d
  induction d with
  | zero =>
    intro i hi
    have e1 : s.drop i = [] := List.drop_eq_nil_of_le (by omega)
    have hc : ¬ ((i : Int) < (s.length : Int)) := by omega
    rw [desc_Name_L2_go, e1]
    simp [desc_Name_6, desc_Name_5, desc_Name_1, hc]
  | succ d ih =>
    intro i hi
    have hlt : i < s.length := by omega
    have hc : ((i : Int) < (s.length : Int)) := by omega
    have := ih (i + 1) (by omega)
    push_cast at this
    have e1 : (s.drop i).all okB = (okB s[i] && (s.drop (i + 1)).all okB) := by rw [List.drop_eq_getElem_cons hlt, List.all_cons]
    have hw : IntKind.wrap .i64 ((i : Int) + 1) = (i : Int) + 1 := wrap_i64 (by omega) (by omega)
    rw [desc_Name_L2_go, e1]
    simp only [desc_Name_6, desc_Name_5, evBin_lss, ob_some, hc, decide_true, cnd_t, Name_step s i hlt]
    cases okB s[i]
    · simp
    · simp [desc_Name_3, hw, this]

@[simp] theorem s_Name (s : List UInt8) : (callW E).p 60 [.str s, .bool false] = some ⟨.bool (nameOk s), [], true, [], []⟩ := by
  rw [x_desc_Name]
  by_cases h1 : ((s.length : Int) < 1)
  · have : ¬ 1 ≤ s.length := by omega
    simp [desc_Name_1, desc_Name_3, desc_Name_4, desc_Name_5, desc_Name_6, desc_Name_8, desc_Name_10, desc_Name_11, h1, nameOk, this]
  by_cases h2 : ((60 : Int) < (s.length : Int))
  · have : ¬ s.length ≤ 60 := by omega
    simp [desc_Name_1, desc_Name_3, desc_Name_4, desc_Name_5, desc_Name_6, desc_Name_8, desc_Name_10, desc_Name_11, h1, h2, nameOk, this]
  · have a1 : 1 ≤ s.length := by omega
    have a2 : s.length ≤ 60 := by omega
    have := Name_loop s a2 s.length 0 (by omega)
    simp only [List.drop_zero] at this
    simp only [nameOk, a1, a2, decide_true, Bool.true_and, ← this]
    simp [desc_Name_11, desc_Name_10, desc_Name_8, h1, h2, s2bC]

/-- How many [ stand at a text's beginning. -/
def lead : List UInt8 → Nat
  | [] => 0
  | c :: r => if c = 91 then lead r + 1 else 0
theorem lead_le : ∀ s : List UInt8, lead s ≤ s.length
  | [] => Nat.le_refl _
  | c :: r => by
    have := lead_le r
    simp only [lead, List.length_cons]
    split <;> omega
theorem lead_lt : ∀ {s : List UInt8} {i : Nat}, i < lead s → s[i]? = some 91
  | [], i, h => by simp [lead] at h
  | c :: r, i, h => by
    simp only [lead] at h
    split at h
    · rename_i e
      cases i with
      | zero => simp [e]
      | succ i => simpa using lead_lt (s := r) (by omega)
    · omega
theorem lead_at : ∀ {s : List UInt8} {c : UInt8}, s[lead s]? = some c → c ≠ 91
  | [], c, h => by simp at h
  | d :: r, c, h => by
    simp only [lead] at h
    split at h
    · exact lead_at (s := r) (by simpa using h)
    · rename_i e; simp at h; rw [← h]; exact e

def takeM (s : List UInt8) : Nat :=
  if 8 < lead s ∨ lead s = s.length then 0
  else if s[lead s]? = some 73 ∨ s[lead s]? = some 74 then lead s + 1
  else if s[lead s]? = some 76 then
    (if (s.drop (lead s + 1)).findIdx (· == 59) < (s.drop (lead s + 1)).length ∧ nameOk ((s.take (lead s + 1 + (s.drop (lead s + 1)).findIdx (· == 59))).drop (lead s + 1)) = true then lead s + 1 + (s.drop (lead s + 1)).findIdx (· == 59) + 1 else 0)
  else 0

theorem ixstr {s : List UInt8} {i : Nat} {c : UInt8} (h : s[i]? = some c) : evIxstr (.str s) (.int .i64 i) = some (.int .u8 c.toNat) := by
  simp [evIxstr, h]
theorem byte_eq (c : UInt8) (k : UInt8) : ((c.toNat : Int) = (k.toNat : Int)) ↔ c = k := by
  rw [Int.ofNat_inj]; exact ⟨fun h => UInt8.toNat_inj.1 h, fun h => by rw [h]⟩

theorem take_lead (s : List UInt8) (hs : s.length ≤ 9223372036854775807) (h : Heap) : ∀ (d i : Nat), i + d = lead s → desc_take_L21 (.str s) (.int .i64 i) h = desc_take_20 (.str s) (.int .i64 (lead s)) h := by
  intro d
  induction d with
  | zero =>
    intro i hi
    obtain rfl : i = lead s := by omega
    rw [desc_take_L21_go]
    have := lead_le s
    by_cases hc : lead s < s.length
    · have e := List.getElem?_eq_getElem hc
      have hne := lead_at e
      have hc' : ((lead s : Int) < (s.length : Int)) := by omega
      have hb : ¬ ((s[lead s].toNat : Int) = 91) := fun hh => hne ((byte_eq _ 91).1 hh)
      simp [desc_take_23, hc', ixstr e, hb]
    · have hc' : ¬ ((lead s : Int) < (s.length : Int)) := by omega
      simp [desc_take_23, hc']
  | succ d ih =>
    intro i hi
    have e := lead_lt (s := s) (i := i) (by omega)
    have := lead_le s
    have hc' : ((i : Int) < (s.length : Int)) := by omega
    have ih := ih (i + 1) (by omega)
    push_cast at ih
    rw [desc_take_L21_go]
    simp [desc_take_23, hc', ixstr e, desc_take_22, wrap_up (show i < s.length by omega) hs, ih]

theorem take_loop (s : List UInt8) (hs : s.length ≤ 9223372036854775807) (n : Nat) (h : Heap) : ∀ (d i : Nat), n + 1 ≤ i → i + d = s.length →
    desc_take_L2 (.str s) (.int .i64 n) (.int .i64 i) h =
      some ⟨.int .i64 (if (s.drop i).findIdx (· == 59) < (s.drop i).length ∧ nameOk ((s.take (i + (s.drop i).findIdx (· == 59))).drop (n + 1)) = true then (i + (s.drop i).findIdx (· == 59) + 1 : Nat) else (0 : Nat)), [], true, [], []⟩ := by
  intro d
  induction d with
  | zero =>
    intro i h1 hi
    rw [desc_take_L2_go]
    have e1 : s.drop i = [] := List.drop_eq_nil_of_le (by omega)
    have hc : ¬ ((i : Int) < (s.length : Int)) := by omega
    simp [desc_take_10, desc_take_1, hc, e1]
  | succ d ih =>
    intro i h1 hi
    rw [desc_take_L2_go]
    have hlt : i < s.length := by omega
    have e := List.getElem?_eq_getElem hlt
    have hc : ((i : Int) < (s.length : Int)) := by omega
    have hd : s.drop i = s[i] :: s.drop (i + 1) := List.drop_eq_getElem_cons hlt
    by_cases hb : s[i] = 59
    · have hb' : ((s[i].toNat : Int) = 59) := (byte_eq _ 59).2 hb
      have hf : (s.drop i).findIdx (· == 59) = 0 := by rw [hd, List.findIdx_cons]; simp [hb]
      have hw1 : IntKind.wrap .i64 ((n : Int) + 1) = (n : Int) + 1 := wrap_up (show n < s.length by omega) hs
      have hsl : evSls (.str s) (some (.int .i64 ((n : Int) + 1))) (some (.int .i64 (i : Int))) = some (.str ((s.take i).drop (n + 1))) := by
        have a1 : ((0 : Int) ≤ (i : Int) ∧ (i : Int) ≤ (s.length : Int)) := by omega
        have a2 : ((0 : Int) ≤ (n : Int) + 1 ∧ (n : Int) + 1 ≤ (i : Int)) := by omega
        simp only [evSls, optIxv, asNat, if_pos a1, Int.toNat_natCast, if_pos a2]
        rfl
      rw [hf]
      have hlen : 0 < (s.drop i).length := by rw [List.length_drop]; omega
      cases hn : nameOk ((s.take i).drop (n + 1)) with
      | true =>
        simp only [desc_take_10, desc_take_7, desc_take_6, desc_take_5, evLen_str, ob_some, evBin_lss, hc, decide_true, cnd_t, ixstr e, evBin_eql, hb', evBin_add, hw1, hsl]
        simp [hn, hlt, wrap_up hlt hs]
        omega
      | false =>
        simp only [desc_take_10, desc_take_7, desc_take_6, desc_take_5, evLen_str, ob_some, evBin_lss, hc, decide_true, cnd_t, ixstr e, evBin_eql, hb', evBin_add, hw1, hsl]
        simp [hn, desc_take_4]
    · have hb' : ¬ ((s[i].toNat : Int) = 59) := fun hh => hb ((byte_eq _ 59).1 hh)
      have hf : (s.drop i).findIdx (· == 59) = (s.drop (i + 1)).findIdx (· == 59) + 1 := by
        rw [hd, List.findIdx_cons]
        have : (s[i] == 59) = false := by simpa using hb
        rw [this]; rfl
      have hl : (s.drop i).length = (s.drop (i + 1)).length + 1 := by rw [hd]; rfl
      have ih := ih (i + 1) (by omega) (by omega)
      push_cast at ih
      rw [hf, hl]
      have e2 : i + ((s.drop (i + 1)).findIdx (· == 59) + 1) = i + 1 + (s.drop (i + 1)).findIdx (· == 59) := by omega
      rw [e2]
      simp only [desc_take_10, desc_take_7, desc_take_6, desc_take_3, evLen_str, ob_some, evBin_lss, hc, decide_true, cnd_t, cnd_f, ixstr e, evBin_eql, hb', decide_false, evBin_add, wrap_up hlt hs, ih]
      simp only [Nat.add_lt_add_iff_right]
      push_cast
      rfl

@[simp] theorem s_take (s : List UInt8) (hs : s.length ≤ 9223372036854775807) : (callW E).p 44 [.str s] = some ⟨.int .i64 (takeM s), [], true, [], []⟩ := by
  rw [x_desc_take]
  have h0 := take_lead s hs [] (lead s) 0 (by omega)
  simp only [Int.ofNat_zero] at h0
  have hle := lead_le s
  have key : desc_take_20 (.str s) (.int .i64 (lead s)) [] = some ⟨.int .i64 (takeM s), [], true, [], []⟩ := by
    unfold takeM
    by_cases h8 : 8 < lead s
    · have h8' : ((8 : Int) < (lead s : Int)) := by omega
      simp [desc_take_20, h8', h8]
    by_cases hl : lead s = s.length
    · have h8' : ¬ ((8 : Int) < (lead s : Int)) := by omega
      have hl' : ((lead s : Int) = (s.length : Int)) := by omega
      have h9' : ¬ ((8 : Int) < (s.length : Int)) := by omega
      simp [desc_take_20, h8', h9', hl', hl]
    · have h8' : ¬ ((8 : Int) < (lead s : Int)) := by omega
      have hl' : ¬ ((lead s : Int) = (s.length : Int)) := by omega
      have hlt : lead s < s.length := by omega
      have e := List.getElem?_eq_getElem hlt
      rw [if_neg (by simp [h8, hl]), e]
      have hw := wrap_up hlt hs
      by_cases c1 : s[lead s] = 73
      · have c1' : ((s[lead s].toNat : Int) = 73) := (byte_eq _ 73).2 c1
        simp [desc_take_20, desc_take_18, desc_take_16, desc_take_15, h8', hl', ixstr e, c1', c1, hw]
      by_cases c2 : s[lead s] = 74
      · have c2' : ((s[lead s].toNat : Int) = 74) := (byte_eq _ 74).2 c2
        simp [desc_take_20, desc_take_18, desc_take_16, desc_take_15, h8', hl', ixstr e, c2', c2, hw]
      have c1' : ¬ ((s[lead s].toNat : Int) = 73) := fun hh => c1 ((byte_eq _ 73).1 hh)
      have c2' : ¬ ((s[lead s].toNat : Int) = 74) := fun hh => c2 ((byte_eq _ 74).1 hh)
      by_cases c3 : s[lead s] = 76
      · have c3' : ((s[lead s].toNat : Int) = 76) := (byte_eq _ 76).2 c3
        have := take_loop s hs (lead s) [] _ (lead s + 1) (Nat.le_refl _) (show lead s + 1 + (s.length - (lead s + 1)) = s.length by omega)
        push_cast at this
        simp [desc_take_20, desc_take_18, desc_take_16, desc_take_15, desc_take_14, desc_take_13, desc_take_12, h8', hl', ixstr e, c1', c2', c3', c1, c2, c3, hw, this]
        split <;> simp
      · have c3' : ¬ ((s[lead s].toNat : Int) = 76) := fun hh => c3 ((byte_eq _ 76).1 hh)
        simp [desc_take_20, desc_take_18, desc_take_16, desc_take_15, desc_take_14, desc_take_13, desc_take_1, h8', hl', ixstr e, c1', c2', c3', c1, c2, c3]
  rw [← key, ← h0]
  simp [desc_take_27, desc_take_26]

/-- Is it a type's descriptor? -/
def typeOk (s : List UInt8) : Bool := decide (s ≠ []) && decide (takeM s = s.length)
@[simp] theorem s_Type (s : List UInt8) (hs : s.length ≤ 9223372036854775807) : (callW E).p 37 [.str s] = some ⟨.bool (typeOk s), [], true, [], []⟩ := by
  rw [x_desc_Type]
  have h := s_take s hs
  by_cases h1 : s = []
  · simp [desc_Type_1, h1, typeOk]
  · have e : ((takeM s : Int) = (s.length : Int)) ↔ takeM s = s.length := by omega
    simp [desc_Type_1, h1, typeOk, h, e]
end Go.Vm
