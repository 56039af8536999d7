/- Where blocks begin, in plain words. -/
import Derived.Test.YthemfgeagohdhaaLFlowM
namespace Go.Vm

def putP (n : Nat) (p : Int) (a : List Bool) : List Bool := if 0 ≤ p ∧ p < n then a.set p.toNat true else a
def stepI (n i : Nat) (x : Ins) (a : List Bool) : List Bool :=
  if leads x.op || ends x.op then (if leads x.op then putP n x.t a else a).set (i + 1) true else (if leads x.op then putP n x.t a else a)
def hA1 (n : Nat) : Nat → List Ins → List Bool → List Bool
  | _, [], a => a
  | i, x :: r, a => hA1 n (i + 1) r (stepI n i x a)
def hA2 (n : Nat) : List Row → List Bool → List Bool
  | [], a => a
  | r :: rs, a => hA2 n rs (putP n r.at_ (putP n r.t (putP n r.f a)))
def hA0 (n : Nat) : List Bool := if 0 < n then (List.replicate (n + 1) false).set 0 true else List.replicate (n + 1) false

@[simp] theorem putP_len (n : Nat) (p : Int) (a : List Bool) : (putP n p a).length = a.length := by unfold putP; split <;> simp
@[simp] theorem stepI_len (n i : Nat) (x : Ins) (a : List Bool) : (stepI n i x a).length = a.length := by
  unfold stepI
  split <;> split <;> simp
theorem hA1_len (n : Nat) : ∀ (l : List Ins) (i : Nat) (a : List Bool), (hA1 n i l a).length = a.length
  | [], _, _ => rfl
  | x :: l, i, a => by rw [hA1, hA1_len]; simp
theorem hA2_len (n : Nat) : ∀ (l : List Row) (a : List Bool), (hA2 n l a).length = a.length
  | [], _ => rfl
  | x :: l, a => by rw [hA2, hA2_len]; simp
@[simp] theorem hA0_len (n : Nat) : (hA0 n).length = n + 1 := by unfold hA0; split <;> simp

theorem set_get {a : List Bool} {i j : Nat} (h : j < a.length) : (a.set i true)[j]? = some true ↔ a[j]? = some true ∨ i = j := by
  rw [List.getElem?_set]
  by_cases e : i = j
  · subst e; simp [h]
  · rw [if_neg e]; exact ⟨.inl, fun h => h.resolve_right e⟩
theorem putP_get {n : Nat} {p : Int} {a : List Bool} {j : Nat} (h : j < a.length) : (putP n p a)[j]? = some true ↔ a[j]? = some true ∨ (0 ≤ p ∧ p < n ∧ p.toNat = j) := by
  unfold putP
  split
  · rename_i hc
    rw [set_get h]
    exact ⟨fun h => h.imp id fun e => ⟨hc.1, hc.2, e⟩, fun h => h.imp id fun e => e.2.2⟩
  · rename_i hc
    exact ⟨.inl, fun h => h.resolve_right fun e => hc ⟨e.1, e.2.1⟩⟩
def hitI (n i j : Nat) (x : Ins) : Prop := (leads x.op = true ∧ 0 ≤ x.t ∧ x.t < n ∧ x.t.toNat = j) ∨ ((leads x.op || ends x.op) = true ∧ i + 1 = j)
theorem stepI_get {n i : Nat} {x : Ins} {a : List Bool} {j : Nat} (h : j < a.length) : (stepI n i x a)[j]? = some true ↔ a[j]? = some true ∨ hitI n i j x := by
  have h1 : (if leads x.op = true then putP n x.t a else a)[j]? = some true ↔ a[j]? = some true ∨ (leads x.op = true ∧ 0 ≤ x.t ∧ x.t < n ∧ x.t.toNat = j) := by
    split
    · rename_i hl
      rw [putP_get h]; simp [hl]
    · rename_i hl
      simp [hl]
  unfold stepI hitI
  split
  · rename_i hc
    rw [set_get (by split <;> simp [h]), h1]
    simp only [hc, true_and, or_assoc]
  · rename_i hc
    rw [h1]
    simp only [hc, Bool.false_eq_true, false_and, or_false]
theorem hA1_get {n j : Nat} : ∀ (l : List Ins) (i : Nat) (a : List Bool), j < a.length → ((hA1 n i l a)[j]? = some true ↔ a[j]? = some true ∨ ∃ k x, l[k]? = some x ∧ hitI n (i + k) j x)
  | [], i, a, h => by simp [hA1]
  | y :: l, i, a, h => by
    rw [hA1, hA1_get l (i + 1) _ (by simpa using h), stepI_get h, or_assoc]
    apply or_congr_right
    constructor
    · rintro (h | ⟨k, x, h1, h2⟩)
      · exact ⟨0, y, rfl, h⟩
      · exact ⟨k + 1, x, h1, by rw [show i + (k + 1) = i + 1 + k by omega]; exact h2⟩
    · rintro ⟨k, x, h1, h2⟩
      cases k with
      | zero => simp at h1; subst h1; exact .inl h2
      | succ k => exact .inr ⟨k, x, h1, by rw [show i + 1 + k = i + (k + 1) by omega]; exact h2⟩
def hitR (n j : Nat) (r : Row) : Prop := (0 ≤ r.f ∧ r.f < n ∧ r.f.toNat = j) ∨ (0 ≤ r.t ∧ r.t < n ∧ r.t.toNat = j) ∨ (0 ≤ r.at_ ∧ r.at_ < n ∧ r.at_.toNat = j)
theorem hA2_get {n j : Nat} : ∀ (l : List Row) (a : List Bool), j < a.length → ((hA2 n l a)[j]? = some true ↔ a[j]? = some true ∨ ∃ r ∈ l, hitR n j r)
  | [], a, h => by simp [hA2]
  | r :: l, a, h => by
    rw [hA2, hA2_get l _ (by simpa using h), putP_get (by simpa using h), putP_get (by simpa using h), putP_get h]
    simp only [List.mem_cons, exists_eq_or_imp, hitR, or_assoc]
theorem hA0_get {n j : Nat} (h : j < n) : (hA0 n)[j]? = some true ↔ j = 0 := by
  unfold hA0
  rw [if_pos (by omega), set_get (by simp; omega)]
  constructor
  · rintro (h | h)
    · rw [List.getElem?_replicate] at h; split at h <;> cases h
    · exact h.symm
  · exact fun e => .inr e.symm

/-- All places at which a block begins, marked. -/
def hA (f : Fn) : List Bool := hA2 (lst f.code).length (lst f.rows) (hA1 (lst f.code).length 0 (lst f.code) (hA0 (lst f.code).length))
theorem hA_len (f : Fn) : (hA f).length = (lst f.code).length + 1 := by rw [hA, hA2_len, hA1_len, hA0_len]
theorem isHead_iff (f : Fn) (i : Nat) : isHead f i = true ↔ i = 0 ∨ (leads (insAt f (i - 1)).op || ends (insAt f (i - 1)).op) = true ∨ (∃ x ∈ lst f.code, leads x.op = true ∧ x.t = i) ∨ ∃ r ∈ lst f.rows, r.f = i ∨ r.t = i ∨ r.at_ = i := by
  simp only [isHead, Bool.or_eq_true, decide_eq_true_eq, List.any_eq_true, Bool.and_eq_true, or_assoc]
theorem hA_get (f : Fn) {j : Nat} (h : j < (lst f.code).length) : (hA f)[j]? = some (isHead f j) := by
  have hj : j < (hA f).length := by rw [hA_len]; omega
  have key : (hA f)[j]? = some true ↔ isHead f j = true := by
    rw [hA, hA2_get _ _ (by rw [hA1_len, hA0_len]; omega), hA1_get _ _ _ (by rw [hA0_len]; omega), hA0_get h, isHead_iff, or_assoc]
    by_cases j0 : j = 0
    · exact ⟨fun _ => .inl j0, fun _ => .inl j0⟩
    apply or_congr_right
    constructor
    · rintro (⟨k, x, h1, h2 | h2⟩ | ⟨r, h1, h2⟩)
      · exact .inr (.inl ⟨x, List.mem_of_getElem? h1, h2.1, by omega⟩)
      · left
        have : insAt f (j - 1) = x := by
          rw [insAt, List.getD_eq_getElem?_getD, show j - 1 = k by omega, h1]; rfl
        rw [this]; exact h2.1
      · refine .inr (.inr ⟨r, h1, ?_⟩)
        rcases h2 with h2 | h2 | h2
        · exact .inl (by omega)
        · exact .inr (.inl (by omega))
        · exact .inr (.inr (by omega))
    · rintro (h1 | ⟨x, h1, h2, h3⟩ | ⟨r, h1, h2⟩)
      · refine .inl ⟨j - 1, insAt f (j - 1), insAt_lt (by omega), .inr ⟨h1, by omega⟩⟩
      · obtain ⟨k, hk⟩ := List.getElem?_of_mem h1
        exact .inl ⟨k, x, hk, .inl ⟨h2, by omega, by omega, by omega⟩⟩
      · refine .inr ⟨r, h1, ?_⟩
        rcases h2 with h2 | h2 | h2
        · exact .inl ⟨by omega, by omega, by omega⟩
        · exact .inr (.inl ⟨by omega, by omega, by omega⟩)
        · exact .inr (.inr ⟨by omega, by omega, by omega⟩)
  rw [List.getElem?_eq_getElem hj] at key ⊢
  simp only [Option.some.injEq] at key ⊢
  cases hb : (hA f)[j] <;> cases hc : isHead f j <;> simp_all
end Go.Vm
