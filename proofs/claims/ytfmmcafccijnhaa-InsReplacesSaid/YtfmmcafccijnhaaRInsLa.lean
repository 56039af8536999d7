/- InsReplaces: with other registers to read an instruction reads these; with its own it is as it was. -/
import Derived.Test.YtfmmcafccijnhaaRInsP
import Derived.Test.YtfmmcafccijnhaaRRefA
namespace Go.Vm
open Cel
attribute [local simp] callAny callP heapOf_nil

theorem p62 : (2:Nat) ^ 62 = 4611686018427387904 := by decide
theorem p38 : (2:Nat) ^ 38 = 274877906944 := by decide
theorem sameIns_refl (x : Ins) : sameIns x x = true := by simp [sameIns]
theorem shape (x : Ins) (hc : calls x.op = false) : uses x = none ∨ (uses x = some [x.a] ∧ ∀ p, 0 ≤ p → uses { x with a := p } = some [p]) ∨
    (uses x = some [x.a, x.b] ∧ ∀ p q, 0 ≤ p → 0 ≤ q → uses { x with a := p, b := q } = some [p, q]) ∨
    (uses x = some [x.a, x.b, x.c] ∧ ∀ p q r, uses { x with a := p, b := q, c := r } = some [p, q, r]) := by
  by_cases h9 : x.op = 29
  · by_cases hb : x.b < 0
    · refine .inr (.inl ⟨?_, fun p hp => ?_⟩) <;> simp [uses, h9, hb, calls]
    · refine .inr (.inr (.inl ⟨?_, fun p q hp hq => ?_⟩)) <;> simp [uses, h9, calls] <;> omega
  · by_cases h0 : x.op = 30
    · by_cases ha : 0 ≤ x.a
      · refine .inr (.inl ⟨?_, fun p hp => ?_⟩) <;> simp [uses, h0, calls] <;> omega
      · refine .inl ?_
        simp [uses, h0, calls]; omega
    · by_cases h1 : reads x.op = 1
      · exact .inr (.inl ⟨by simp [uses, hc, h9, h0, h1], fun p _ => by simp [uses, hc, h9, h0, h1]⟩)
      · by_cases h2 : reads x.op = 2
        · exact .inr (.inr (.inl ⟨by simp [uses, hc, h9, h0, h2], fun p q _ _ => by simp [uses, hc, h9, h0, h2]⟩))
        · by_cases h3 : reads x.op = 3
          · exact .inr (.inr (.inr ⟨by simp [uses, hc, h9, h0, h3], fun p q r => by simp [uses, hc, h9, h0, h3]⟩))
          · exact .inl (by simp [uses, hc, h9, h0, h1, h2, h3])
theorem repl_own (x : Ins) : repl x (uses x) = x := by
  unfold repl
  rw [if_neg (by simp)]
  by_cases hc : calls x.op = true
  · rw [if_pos hc]
    have : uses x = x.args := by simp [uses, hc]
    rw [this]
  · rw [if_neg hc]
    rcases shape x (by simpa using hc) with h | ⟨h, _⟩ | ⟨h, _⟩ | ⟨h, _⟩ <;> rw [h] <;> rfl
theorem repl_op (x : Ins) (l : Option (List Int)) : (repl x l).op = x.op ∧ (repl x l).d = x.d := by
  unfold repl
  split
  · exact ⟨rfl, rfl⟩
  · split
    · exact ⟨rfl, rfl⟩
    · unfold putABC
      split <;> exact ⟨rfl, rfl⟩
theorem defr_repl (x : Ins) (l : Option (List Int)) : defr (repl x l) = defr x := by simp [defr, repl_op]

/-- What it reads then, and its own put back. -/
theorem uses_repl (x : Ins) (l : Option (List Int)) (hn : (lst (uses x)).length = (lst l).length) (h0 : ∀ r ∈ lst l, 0 ≤ r) :
    lst (uses (repl x l)) = lst l ∧ repl (repl x l) (uses x) = x := by
  by_cases hc : calls x.op = true
  · have e : repl x l = { x with args := l } := by simp [repl, hn, hc]
    have e1 : uses x = x.args := by simp [uses, hc]
    have e2 : uses { x with args := l } = l := by simp [uses, hc]
    rw [e, e2]
    refine ⟨rfl, ?_⟩
    unfold repl
    rw [e2, if_neg (by simp [hn])]
    simp only [hc, if_true, e1]
  · have hc' : calls x.op = false := by simpa using hc
    have e : repl x l = putABC x (lst l) := by
      unfold repl
      rw [if_neg (by simp [hn]), if_neg hc]
    rw [e]
    generalize lst l = m at hn h0
    rcases shape x hc' with h | ⟨h, g⟩ | ⟨h, g⟩ | ⟨h, g⟩
    · rw [h] at hn
      match m, hn with
      | [], _ => exact ⟨by rw [putABC, h]; rfl, by simp [repl, putABC, h, hc']⟩
    · rw [h] at hn
      match m, hn, h0 with
      | [p], _, h0 =>
        have g := g p (h0 p (by simp))
        exact ⟨by rw [putABC, g]; rfl, by simp [repl, putABC, g, h, hc']⟩
    · rw [h] at hn
      match m, hn, h0 with
      | [p, q], _, h0 =>
        have g := g p q (h0 p (by simp)) (h0 q (by simp))
        exact ⟨by rw [putABC, g]; rfl, by simp [repl, putABC, g, h, hc']⟩
    · rw [h] at hn
      match m, hn with
      | [p, q, r], _ =>
        have g := g p q r
        exact ⟨by rw [putABC, g]; rfl, by simp [repl, putABC, g, h, hc']⟩

@[simp] theorem holds10 : (callW E).p 4 [] = some ⟨.bool true, [], true, [], []⟩ := lift_p 60 (by kernel_rfl)

/-- The rest of the law, behind what is passed over. -/
theorem rest1 (x : Ins) (l : Option (List Int)) (hx : (lst x.args).length ≤ 1000) (hl : (lst l).length ≤ 1000) (hn : (lst (uses x)).length = (lst l).length) (h0 : ∀ r ∈ lst l, 0 ≤ r) (t : Heap) :
    regletlaw10_InsReplaces_1 (slA l) (.lp 0 1 0 0) (slA (uses x)) (.lp 1 1 0 0) (⟨1, .arr true false 9 [enc x]⟩ :: ⟨1, .arr true false 9 [enc (repl x l)]⟩ :: t) = some ⟨.bool true, [], true, [], []⟩ := by
  obtain ⟨g1, g2⟩ := uses_repl x l hn h0
  have hy : (lst (repl x l).args).length ≤ 1000 := by
    unfold repl
    split
    · exact hx
    · split
      · exact hl
      · unfold putABC; split <;> exact hx
  have hu : (lst (uses x)).length ≤ 1000 := by rw [hn]; exact hl
  have b38 : (1000:Nat) ≤ 2 ^ 38 := by decide
  have b62 : (1000:Nat) ≤ 2 ^ 62 := by decide
  have k1 := s_Uses (repl x l) (Nat.le_trans hy b38)
  have k2 := s_Ints (uses (repl x l)) l (by rw [g1]; exact Nat.le_trans hl b62)
  obtain ⟨r, hr, q, hq, hv⟩ := s_Replace (repl x l) (uses x) (Nat.le_trans hy b38) (Nat.le_trans hu b38)
  rw [g2] at hv
  have k3 := s_SameIns x x (Nat.le_trans hx b62)
  rw [sameIns_refl] at k3
  simp [regletlaw10_InsReplaces_1, fpCall, k1, k2, g1, defr_repl, repl_op, hr, hq, hv, k3, pairsOk, fpApart, meets]
theorem loop1 (x : Ins) (l : Option (List Int)) (hx : (lst x.args).length ≤ 1000) (hl : (lst l).length ≤ 1000) (hn : (lst (uses x)).length = (lst l).length) (L : List Int) (g : Nat) (t : Heap) (hL : ∀ r ∈ lst l, r ∈ L) (hlen : L.length ≤ 2 ^ 62) :
    ∀ (d i : Nat), i + d = L.length → (∀ j, j < i → 0 ≤ L.getD j 0) →
    regletlaw10_InsReplaces_L2 (slA l) (.lp 0 1 0 0) (slA (uses x)) (.lp 1 1 0 0) (.ls 2 g 1 0 L.length) (.int .i64 L.length) (.int .i64 i)
      (⟨1, .arr true false 9 [enc x]⟩ :: ⟨1, .arr true false 9 [enc (repl x l)]⟩ :: ⟨g, .arr false false 1 (L.map enc)⟩ :: t) = some ⟨.bool true, [], true, [], []⟩ := by
  intro d
  induction d with
  | zero =>
    intro i hi hj
    rw [regletlaw10_InsReplaces_L2_go]
    have h1 : ¬ ((i : Int) < (L.length : Int)) := by omega
    have h0 : ∀ r ∈ lst l, 0 ≤ r := by
      intro r hr
      obtain ⟨j, hj1, rfl⟩ := List.getElem_of_mem (hL r hr)
      have := hj j (by omega)
      rwa [List.getD_eq_getElem?_getD, List.getElem?_eq_getElem hj1] at this
    simp [regletlaw10_InsReplaces_6, regletlaw10_InsReplaces_5, h1, rest1 x l hx hl hn h0]
  | succ d ih =>
    intro i hi hj
    rw [regletlaw10_InsReplaces_L2_go]
    have hlt : i < L.length := by omega
    have h1 : ((i : Int) < (L.length : Int)) := by omega
    by_cases hneg : L[i] < 0
    · simp [regletlaw10_InsReplaces_6, regletlaw10_InsReplaces_5, regletlaw10_InsReplaces_4, evIxs, h1, hlt, hneg]
    · have := ih (i + 1) (by omega) (fun j hj2 => by
        by_cases e : j = i
        · subst e
          rw [List.getD_eq_getElem?_getD, List.getElem?_eq_getElem hlt]
          simp; omega
        · exact hj j (by omega))
      push_cast at this
      simp [regletlaw10_InsReplaces_6, regletlaw10_InsReplaces_5, regletlaw10_InsReplaces_4, regletlaw10_InsReplaces_3, evIxs, h1, hlt, hneg, wrap_up hlt hlen, this]

set_option maxHeartbeats 1000000 in
theorem InsReplaces_all (x : Ins) (l : Option (List Int)) : (callW E).p 72 [.agg (enc x), slA l] = some ⟨.bool true, [], true, [], []⟩ := by
  rw [x_regletlaw10_InsReplaces]
  by_cases hx : 1000 < ((lst x.args).length : Int)
  · simp [regletlaw10_InsReplaces_16, regletlaw10_InsReplaces_15, regletlaw10_InsReplaces_14, hx]
  by_cases hl : 1000 < ((lst l).length : Int)
  · simp [regletlaw10_InsReplaces_16, regletlaw10_InsReplaces_15, regletlaw10_InsReplaces_14, hx, hl]
  have hx' : (lst x.args).length ≤ 1000 := by omega
  have hl' : (lst l).length ≤ 1000 := by omega
  have b38 : (1000:Nat) ≤ 2 ^ 38 := by decide
  have b62 : (1000:Nat) ≤ 2 ^ 62 := by decide
  have k1 := s_Uses x (Nat.le_trans hx' b38)
  have hu : (lst (uses x)).length ≤ 1000 := by
    by_cases hc : calls x.op = true
    · simpa [uses, hc] using hx'
    · have := uses_le3 (x := x) (by simpa using hc)
      omega
  obtain ⟨r, hr, q, hq, hv⟩ := s_Replace x (uses x) (Nat.le_trans hx' b38) (Nat.le_trans hu b38)
  rw [repl_own] at hv
  have k3 := s_SameIns x x (Nat.le_trans hx' b62)
  rw [sameIns_refl] at k3
  obtain ⟨r2, hr2, q2, hq2, hv2⟩ := s_Replace x l (Nat.le_trans hx' b38) (Nat.le_trans hl' b38)
  by_cases hn : (lst (uses x)).length = (lst l).length
  · have hn' : ((lst l).length : Int) = ((lst (uses x)).length : Int) := by omega
    by_cases he : lst l = []
    · have he2 : lst (uses x) = [] := by rw [he] at hn; exact List.eq_nil_of_length_eq_zero hn
      have := rest1 x l hx' hl' hn (by simp [he])
      simp [regletlaw10_InsReplaces_16, regletlaw10_InsReplaces_15, regletlaw10_InsReplaces_14, regletlaw10_InsReplaces_13, regletlaw10_InsReplaces_12, regletlaw10_InsReplaces_11, regletlaw10_InsReplaces_10, regletlaw10_InsReplaces_8, fpCall, hx, hl, k1, hr, hq, hv, k3, hr2, hq2, hv2, hn', pairsOk, fpApart, meets, evApp, he, he2]
      rw [regletlaw10_InsReplaces_L2_go]
      simp [regletlaw10_InsReplaces_6, regletlaw10_InsReplaces_5]
      exact this _
    · have he2 : lst (uses x) ≠ [] := by intro h; rw [h] at hn; exact he (List.eq_nil_of_length_eq_zero hn.symm)
      have := loop1 x l hx' hl' hn (lst l ++ lst (uses x)) 2 [⟨0, .dead⟩] (fun r hr => List.mem_append.2 (.inl hr)) (by rw [List.length_append]; rw [p62]; omega) _ 0 (Nat.zero_add _) (fun j hj => by omega)
      have hl2 : ¬ 1000 < ((lst (uses x)).length : Int) := by omega
      have c1 : (lst l).length * 8 ≤ 281474976710656 := Nat.le_trans (Nat.mul_le_mul_right 8 hl') (by decide)
      have c2 : (2 * ((lst l).length + (lst (uses x)).length) + 512) * 8 ≤ 281474976710656 := Nat.le_trans (Nat.mul_le_mul_right 8 (show _ ≤ 4512 by omega)) (by decide)
      simp only [List.length_append, List.map_append] at this
      push_cast at this
      simp [hl2, c1, c2, regletlaw10_InsReplaces_16, regletlaw10_InsReplaces_15, regletlaw10_InsReplaces_14, regletlaw10_InsReplaces_13, regletlaw10_InsReplaces_12, regletlaw10_InsReplaces_11, regletlaw10_InsReplaces_10, regletlaw10_InsReplaces_8, fpCall, hx, hl, k1, hr, hq, hv, k3, hr2, hq2, hv2, hn', pairsOk, fpApart, meets, evApp, he, he2]
      rw [hn'] at this
      exact this
  · have hn' : ¬ ((lst l).length : Int) = ((lst (uses x)).length : Int) := by omega
    have e : repl x l = x := by rw [repl, if_pos hn]
    rw [e] at hv2
    simp [regletlaw10_InsReplaces_16, regletlaw10_InsReplaces_15, regletlaw10_InsReplaces_14, regletlaw10_InsReplaces_13, regletlaw10_InsReplaces_12, regletlaw10_InsReplaces_11, regletlaw10_InsReplaces_10, fpCall, hx, hl, k1, hr, hq, hv, k3, hr2, hq2, hv2, hn', pairsOk, fpApart, meets]
end Go.Vm
