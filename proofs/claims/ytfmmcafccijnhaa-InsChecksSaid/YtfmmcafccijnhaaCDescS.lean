/- What is told of types' descriptors. -/
import Derived.Test.YtfmmcafccijnhaaCTyp
import Derived.Test.YtfmmcafccijnhaaCX
namespace Go.Vm
open Cel
attribute [local simp] callAny callP heapOf_nil

def okB (b : UInt8) : Bool := (decide (97 ≤ b.toNat) && decide (b.toNat ≤ 122)) || (decide (65 ≤ b.toNat) && decide (b.toNat ≤ 90)) || (decide (48 ≤ b.toNat) && decide (b.toNat ≤ 57)) || decide (b.toNat = 95) || decide (b.toNat = 36) || decide (b.toNat = 47)
def nameOk (s : List UInt8) : Bool := decide (1 ≤ s.length) && decide (s.length ≤ 60) && s.all okB

theorem Name_step (s : List UInt8) (i : Nat) (hi : i < s.length) (v18 : AV) :
    desc_Name_4 (.bool false) (.ls 0 1 1 0 s.length) v18 (.int .i64 i) [⟨1, .arr false false 1 (s.map fun b => [.int .u8 b.toNat])⟩] =
      if okB s[i] then desc_Name_3 (.bool false) (.ls 0 1 1 0 s.length) v18 (.int .i64 i) [⟨1, .arr false false 1 (s.map fun b => [.int .u8 b.toNat])⟩] else some ⟨.bool false, [], true, [], []⟩ := by
  have hc : ((i : Int) < (s.length : Int)) := by omega
  generalize hb : s[i].toNat = n
  have e : (s.map fun b => ([.int .u8 b.toNat] : List AV))[i]? = some [.int .u8 (n : Int)] := by
    rw [List.getElem?_map, List.getElem?_eq_getElem hi, ← hb]; rfl
  have ho : okB s[i] = ((decide (97 ≤ n) && decide (n ≤ 122)) || (decide (65 ≤ n) && decide (n ≤ 90)) || (decide (48 ≤ n) && decide (n ≤ 57)) || decide (n = 95) || decide (n = 36) || decide (n = 47)) := by
    rw [okB, hb]
  rw [ho]
  have c1 : ∀ k : Nat, ((k : Int) ≤ (n : Int)) = (k ≤ n) := fun k => by simp
  have f1 : ((97 : Int) ≤ (n : Int)) = (97 ≤ n) := c1 97
  have f2 : ((65 : Int) ≤ (n : Int)) = (65 ≤ n) := c1 65
  have f3 : ((48 : Int) ≤ (n : Int)) = (48 ≤ n) := c1 48
  have g1 : ((n : Int) ≤ (122 : Int)) = (n ≤ 122) := by simp; omega
  have g2 : ((n : Int) ≤ (90 : Int)) = (n ≤ 90) := by simp; omega
  have g3 : ((n : Int) ≤ (57 : Int)) = (n ≤ 57) := by simp; omega
  have d1 : ((n : Int) = (95 : Int)) = (n = 95) := by simp; omega
  have d2 : ((n : Int) = (36 : Int)) = (n = 36) := by simp; omega
  have d3 : ((n : Int) = (47 : Int)) = (n = 47) := by simp; omega
  have step : ∀ (b1 b2 b3 b4 b5 b6 b7 b8 b9 : Bool), decide (97 ≤ n) = b1 → decide (n ≤ 122) = b2 → decide (65 ≤ n) = b3 → decide (n ≤ 90) = b4 → decide (48 ≤ n) = b5 → decide (n ≤ 57) = b6 → decide (n = 95) = b7 → decide (n = 36) = b8 → decide (n = 47) = b9 →
      desc_Name_4 (.bool false) (.ls 0 1 1 0 s.length) v18 (.int .i64 i) [⟨1, .arr false false 1 (s.map fun b => [.int .u8 b.toNat])⟩] =
      if (b1 && b2) || (b3 && b4) || (b5 && b6) || b7 || b8 || b9 then desc_Name_3 (.bool false) (.ls 0 1 1 0 s.length) v18 (.int .i64 i) [⟨1, .arr false false 1 (s.map fun b => [.int .u8 b.toNat])⟩] else some ⟨.bool false, [], true, [], []⟩ := by
    intro b1 b2 b3 b4 b5 b6 b7 b8 b9 h1 h2 h3 h4 h5 h6 h7 h8 h9
    rw [desc_Name_4]
    have e0 : evIxs 1 (.ls 0 1 1 0 s.length) (.int .i64 i) = some (.lp 0 1 i 0) := by simp [evIxs, hc, hi]
    have tri : ∀ a b : Bool, (a = false) ∨ (a = true ∧ b = false) ∨ (a = true ∧ b = true) := by intro a b; cases a <;> cases b <;> simp
    have l1 : evBin .geq (.int .u8 (n : Int)) (.int .u8 97) = some (.bool b1) := by rw [evBin_geq]; simp only [f1, h1]
    have l2 : evBin .leq (.int .u8 (n : Int)) (.int .u8 122) = some (.bool b2) := by rw [evBin_leq]; simp only [g1, h2]
    have l3 : evBin .geq (.int .u8 (n : Int)) (.int .u8 65) = some (.bool b3) := by rw [evBin_geq]; simp only [f2, h3]
    have l4 : evBin .leq (.int .u8 (n : Int)) (.int .u8 90) = some (.bool b4) := by rw [evBin_leq]; simp only [g2, h4]
    have l5 : evBin .geq (.int .u8 (n : Int)) (.int .u8 48) = some (.bool b5) := by rw [evBin_geq]; simp only [f3, h5]
    have l6 : evBin .leq (.int .u8 (n : Int)) (.int .u8 57) = some (.bool b6) := by rw [evBin_leq]; simp only [g3, h6]
    have l7 : evBin .eql (.int .u8 (n : Int)) (.int .u8 95) = some (.bool b7) := by rw [evBin_eql]; simp only [d1, h7]
    have l8 : evBin .eql (.int .u8 (n : Int)) (.int .u8 36) = some (.bool b8) := by rw [evBin_eql]; simp only [d2, h8]
    have l9 : evBin .eql (.int .u8 (n : Int)) (.int .u8 47) = some (.bool b9) := by rw [evBin_eql]; simp only [d3, h9]
    clear h1 h2 h3 h4 h5 h6 h7 h8 h9
    simp only [e0, ob_some, evLd_lp, rowsAt_0, e, List.drop_zero, aggOr_f, List.head?_cons, l1]
    generalize desc_Name_3 (.bool false) (.ls 0 1 1 0 s.length) v18 (.int .i64 i) [⟨1, .arr false false 1 (s.map fun b => [.int .u8 b.toNat])⟩] = Z
    rcases tri b1 b2 with rfl | ⟨rfl, rfl⟩ | ⟨rfl, rfl⟩ <;> simp only [l2, gb_tt, gb_ff, gb_tf, gb_ft, gb_tup, ob_some, evPick_t, evPick_f, evUn_not, cnd_t, cnd_f, l3, expo1_bool'] <;> try (simp; done)
    all_goals rcases tri b3 b4 with rfl | ⟨rfl, rfl⟩ | ⟨rfl, rfl⟩ <;> simp only [l4, gb_tt, gb_ff, gb_tf, gb_ft, gb_tup, ob_some, evPick_t, evPick_f, evUn_not, cnd_t, cnd_f, l5, expo1_bool'] <;> try (simp; done)
    all_goals rcases tri b5 b6 with rfl | ⟨rfl, rfl⟩ | ⟨rfl, rfl⟩ <;> simp only [l6, gb_tt, gb_ff, gb_tf, gb_ft, gb_tup, ob_some, evPick_t, evPick_f, evUn_not, cnd_t, cnd_f, l7, expo1_bool'] <;> try (simp; done)
    all_goals cases b7 <;> simp only [gb_tt, gb_ff, gb_tf, gb_ft, gb_tup, ob_some, evPick_t, evPick_f, evUn_not, cnd_t, cnd_f, l8, expo1_bool'] <;> try (simp; done)
    all_goals cases b8 <;> simp only [gb_tt, gb_ff, gb_tf, gb_ft, gb_tup, ob_some, evPick_t, evPick_f, evUn_not, cnd_t, cnd_f, l9, expo1_bool'] <;> try (simp; done)
    all_goals cases b9 <;> simp
  exact step _ _ _ _ _ _ _ _ _ rfl rfl rfl rfl rfl rfl rfl rfl rfl
end Go.Vm
