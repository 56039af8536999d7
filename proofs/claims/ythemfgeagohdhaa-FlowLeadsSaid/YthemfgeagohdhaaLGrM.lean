/- Places that can be reached: a search with a stack, a search in rounds, a search that stops where something is found. Plain Lean; nothing here speaks of a program. -/
import Derived.Test.YthemfgeagohdhaaLBase
namespace Go.Vm

section
variable (n : Nat) (S : Nat → List Int) (A : List Int)
/-- Reached from the places A. -/
inductive Rch : Nat → Prop
  | base {j : Int} : j ∈ A → 0 ≤ j → j < n → Rch j.toNat
  | step {i : Nat} {j : Int} : Rch i → j ∈ S i → 0 ≤ j → j < n → Rch j.toNat

/-- The search with a stack: the last of 'op' is taken; a place that is seen, or none, is passed over. -/
def dfs : Nat → List Bool → List Int → Option (List Bool)
  | 0, _, _ => none
  | k + 1, seen, op => match op.getLast? with
    | none => some seen
    | some i => if i < 0 ∨ (n : Int) ≤ i ∨ seen.getD i.toNat true = true then dfs k seen op.dropLast else dfs k (seen.set i.toNat true) (op.dropLast ++ S i.toNat)

/-- The same, which stops where 'hit' holds. -/
def dfsF (hit : Nat → Bool) : Nat → List Bool → List Int → Option Bool
  | 0, _, _ => none
  | k + 1, seen, op => match op.getLast? with
    | none => some false
    | some i => if i < 0 ∨ (n : Int) ≤ i ∨ seen.getD i.toNat true = true then dfsF hit k seen op.dropLast
      else if hit i.toNat then some true else dfsF hit k (seen.set i.toNat true) (op.dropLast ++ S i.toNat)

def unseen (seen : List Bool) : Nat := seen.countP (! ·)
end

section
variable {n : Nat} {S : Nat → List Int} {A : List Int}

theorem Rch.lt {i : Nat} (h : Rch n S A i) : i < n := by cases h <;> omega

theorem unseen_set {seen : List Bool} {i : Nat} (h : i < seen.length) (hs : seen[i] = false) : unseen (seen.set i true) + 1 = unseen seen := by
  unfold unseen
  induction seen generalizing i with
  | nil => simp at h
  | cons b l ih =>
    cases i with
    | zero => simp at hs; simp [hs]
    | succ i =>
      simp only [List.set_cons_succ, List.countP_cons]
      have := ih (i := i) (by simpa using h) (by simpa using hs)
      omega

theorem getLast_split {op : List Int} {i : Int} (h : op.getLast? = some i) : op = op.dropLast ++ [i] := by
  have hne : op ≠ [] := by intro e; rw [e] at h; cases h
  have := List.dropLast_concat_getLast hne
  rw [List.getLast?_eq_some_getLast hne] at h
  injection h with h
  rw [h] at this
  exact this.symm

theorem mem_dropLast {op : List Int} {j : Int} (h : j ∈ op.dropLast) : j ∈ op := (List.dropLast_sublist op).mem h

theorem getD_in {seen : List Bool} {i : Nat} (h : i < seen.length) (hs : ¬ seen.getD i true = true) : seen[i] = false := by
  rw [List.getD_eq_getElem?_getD, List.getElem?_eq_getElem h] at hs
  simpa using hs

/-- With fuel enough the search ends. -/
theorem dfs_ends {B : Nat} (hB : ∀ i, i < n → (S i).length ≤ B) : ∀ (k : Nat) (seen : List Bool) (op : List Int), seen.length = n → unseen seen * (B + 1) + op.length < k → ∃ r, dfs n S k seen op = some r
  | 0, _, _, _, h => by omega
  | k + 1, seen, op, hl, h => by
    rw [dfs]
    cases hop : op.getLast? with
    | none => exact ⟨seen, rfl⟩
    | some i =>
      have e := getLast_split hop
      have el : op.length = op.dropLast.length + 1 := by rw [e]; simp
      simp only
      split
      · exact dfs_ends hB k seen op.dropLast hl (by omega)
      · rename_i hc
        have h0 : 0 ≤ i := by omega
        have h1 : i.toNat < n := by omega
        have hs := getD_in (i := i.toNat) (by omega) (fun h => hc (.inr (.inr h)))
        have hu := unseen_set (by omega) hs
        have hb := hB i.toNat h1
        refine dfs_ends hB k _ _ (by simpa using hl) ?_
        rw [List.length_append]
        rw [← hu, Nat.add_mul] at h
        omega

structure DfsI (n : Nat) (S : Nat → List Int) (A : List Int) (seen : List Bool) (op : List Int) : Prop where
  len : seen.length = n
  ok : ∀ i : Nat, seen[i]? = some true → Rch n S A i
  opn : ∀ j : Int, j ∈ op → 0 ≤ j → j < n → Rch n S A j.toNat
  cl : ∀ (i : Nat) (j : Int), seen[i]? = some true → j ∈ S i → 0 ≤ j → j < n → seen[j.toNat]? = some true ∨ j ∈ op
  st : ∀ j : Int, j ∈ A → 0 ≤ j → j < n → seen[j.toNat]? = some true ∨ j ∈ op

theorem DfsI.start : DfsI n S A (List.replicate n false) A where
  len := by simp
  ok i h := by rw [List.getElem?_replicate] at h; split at h <;> cases h
  opn j h h0 h1 := .base h h0 h1
  cl i j h := by rw [List.getElem?_replicate] at h; split at h <;> cases h
  st j h _ _ := .inr h

theorem DfsI.skip {seen : List Bool} {op : List Int} (I : DfsI n S A seen op) {i : Int} (hop : op.getLast? = some i) (hc : i < 0 ∨ (n : Int) ≤ i ∨ seen.getD i.toNat true = true) : DfsI n S A seen op.dropLast := by
  have e := getLast_split hop
  have key : ∀ j : Int, 0 ≤ j → j < n → (seen[j.toNat]? = some true ∨ j ∈ op) → seen[j.toNat]? = some true ∨ j ∈ op.dropLast := by
    intro j h0 h1 h
    rcases h with h | h
    · exact .inl h
    · rw [e, List.mem_append, List.mem_singleton] at h
      rcases h with h | rfl
      · exact .inr h
      · rcases hc with hc | hc | hc
        · omega
        · omega
        · left
          have : j.toNat < seen.length := by rw [I.len]; omega
          rw [List.getD_eq_getElem?_getD, List.getElem?_eq_getElem this] at hc
          rw [List.getElem?_eq_getElem this]
          simpa using hc
  exact ⟨I.len, I.ok, fun j hj => I.opn j (mem_dropLast hj), fun i j h1 h2 h3 h4 => key j h3 h4 (I.cl i j h1 h2 h3 h4), fun j h1 h3 h4 => key j h3 h4 (I.st j h1 h3 h4)⟩

theorem DfsI.take {seen : List Bool} {op : List Int} (I : DfsI n S A seen op) {i : Int} (hop : op.getLast? = some i) (h0 : 0 ≤ i) (h1 : i < n) : DfsI n S A (seen.set i.toNat true) (op.dropLast ++ S i.toNat) := by
  have e := getLast_split hop
  have hi : Rch n S A i.toNat := I.opn i (by rw [e]; simp) h0 h1
  have hlt : i.toNat < seen.length := by rw [I.len]; omega
  have hset : ∀ j : Nat, (seen.set i.toNat true)[j]? = some true ↔ seen[j]? = some true ∨ j = i.toNat := by
    intro j
    rw [List.getElem?_set]
    by_cases hj : i.toNat = j
    · subst hj; simp [hlt]
    · rw [if_neg hj]
      exact ⟨.inl, fun h => h.resolve_right (fun e => hj e.symm)⟩
  have key : ∀ j : Int, 0 ≤ j → j < n → (seen[j.toNat]? = some true ∨ j ∈ op) → (seen.set i.toNat true)[j.toNat]? = some true ∨ j ∈ op.dropLast ++ S i.toNat := by
    intro j h2 h3 h
    rw [hset]
    rcases h with h | h
    · exact .inl (.inl h)
    · rw [e, List.mem_append, List.mem_singleton] at h
      rcases h with h | rfl
      · exact .inr (List.mem_append_left _ h)
      · exact .inl (.inr rfl)
  refine ⟨by simpa using I.len, fun j hj => ?_, fun j hj h2 h3 => ?_, fun k j hk hj h2 h3 => ?_, fun j hj h2 h3 => key j h2 h3 (I.st j hj h2 h3)⟩
  · rcases (hset j).1 hj with h | rfl
    · exact I.ok j h
    · exact hi
  · rcases List.mem_append.1 hj with h | h
    · exact I.opn j (mem_dropLast h) h2 h3
    · exact .step hi h h2 h3
  · rcases (hset k).1 hk with h | rfl
    · exact key j h2 h3 (I.cl k j h hj h2 h3)
    · exact .inr (List.mem_append_right _ hj)

theorem DfsI.done {seen : List Bool} (I : DfsI n S A seen []) (i : Nat) : seen[i]? = some true ↔ Rch n S A i := by
  refine ⟨I.ok i, fun h => ?_⟩
  induction h with
  | base h h0 h1 => exact (I.st _ h h0 h1).resolve_right (by simp)
  | step _ hj h0 h1 ih => exact (I.cl _ _ ih hj h0 h1).resolve_right (by simp)

theorem dfs_spec : ∀ (k : Nat) (seen : List Bool) (op : List Int) (r : List Bool), DfsI n S A seen op → dfs n S k seen op = some r → r.length = n ∧ ∀ i : Nat, r[i]? = some true ↔ Rch n S A i
  | 0, _, _, _, _, h => by cases h
  | k + 1, seen, op, r, I, h => by
    rw [dfs] at h
    cases hop : op.getLast? with
    | none =>
      rw [hop] at h
      injection h with h
      subst h
      rw [List.getLast?_eq_none_iff] at hop
      subst hop
      exact ⟨I.len, I.done⟩
    | some i =>
      rw [hop] at h
      simp only at h
      split at h
      · rename_i hc
        exact dfs_spec k _ _ r (I.skip hop hc) h
      · rename_i hc
        exact dfs_spec k _ _ r (I.take hop (by omega) (by omega)) h

theorem dfsF_ends {hit : Nat → Bool} {B : Nat} (hB : ∀ i, i < n → (S i).length ≤ B) : ∀ (k : Nat) (seen : List Bool) (op : List Int), seen.length = n → unseen seen * (B + 1) + op.length < k → ∃ r, dfsF n S hit k seen op = some r
  | 0, _, _, _, h => by omega
  | k + 1, seen, op, hl, h => by
    rw [dfsF]
    cases hop : op.getLast? with
    | none => exact ⟨false, rfl⟩
    | some i =>
      have e := getLast_split hop
      have el : op.length = op.dropLast.length + 1 := by rw [e]; simp
      simp only
      split
      · exact dfsF_ends hB k seen op.dropLast hl (by omega)
      · rename_i hc
        split
        · exact ⟨true, rfl⟩
        have h0 : 0 ≤ i := by omega
        have h1 : i.toNat < n := by omega
        have hs := getD_in (i := i.toNat) (by omega) (fun h => hc (.inr (.inr h)))
        have hu := unseen_set (by omega) hs
        have hb := hB i.toNat h1
        refine dfsF_ends hB k _ _ (by simpa using hl) ?_
        rw [List.length_append]
        rw [← hu, Nat.add_mul] at h
        omega

theorem dfsF_spec {hit : Nat → Bool} : ∀ (k : Nat) (seen : List Bool) (op : List Int) (r : Bool), DfsI n S A seen op → (∀ i : Nat, seen[i]? = some true → hit i = false) → dfsF n S hit k seen op = some r → (r = true ↔ ∃ i, Rch n S A i ∧ hit i = true)
  | 0, _, _, _, _, _, h => by cases h
  | k + 1, seen, op, r, I, hh, h => by
    rw [dfsF] at h
    cases hop : op.getLast? with
    | none =>
      rw [hop] at h
      injection h with h
      subst h
      rw [List.getLast?_eq_none_iff] at hop
      subst hop
      refine ⟨(fun h => by cases h), fun ⟨i, h1, h2⟩ => ?_⟩
      rw [hh i ((I.done i).2 h1)] at h2
      exact h2
    | some i =>
      rw [hop] at h
      simp only at h
      split at h
      · rename_i hc
        exact dfsF_spec k _ _ r (I.skip hop hc) hh h
      · rename_i hc
        split at h
        · rename_i ht
          injection h with h
          subst h
          have e := getLast_split hop
          exact ⟨fun _ => ⟨i.toNat, I.opn i (by rw [e]; simp) (by omega) (by omega), ht⟩, fun _ => rfl⟩
        · rename_i ht
          refine dfsF_spec k _ _ r (I.take hop (by omega) (by omega)) (fun j hj => ?_) h
          rw [List.getElem?_set] at hj
          split at hj
          · rename_i e; subst e; simpa using ht
          · exact hh j hj

/-! In rounds. -/

/-- The places of a list. -/
def rIn : List Int → List Bool × Bool → List Bool × Bool
  | [], s => s
  | j :: l, s => rIn l (if 0 ≤ j ∧ j < s.1.length ∧ s.1.getD j.toNat true = false then (s.1.set j.toNat true, true) else s)
/-- From place i on, so many. -/
def rRound (S : Nat → List Int) : Nat → Nat → List Bool × Bool → List Bool × Bool
  | 0, _, s => s
  | d + 1, i, s => rRound S d (i + 1) (if s.1.getD i false = true then rIn (S i) s else s)
def rAll (n : Nat) (S : Nat → List Int) : Nat → List Bool → Option (List Bool)
  | 0, _ => none
  | k + 1, seen => match rRound S n 0 (seen, false) with
    | (s, more) => if more then rAll n S k s else some s

/-- What a round may do. -/
structure RI (n : Nat) (S : Nat → List Int) (A : List Int) (seen : List Bool) (s : List Bool × Bool) : Prop where
  len : s.1.length = n
  ok : ∀ i : Nat, s.1[i]? = some true → Rch n S A i
  up : ∀ i : Nat, seen[i]? = some true → s.1[i]? = some true
  un : unseen s.1 ≤ unseen seen
  lt : s.2 = true → unseen s.1 < unseen seen
  eq : s.2 = false → s.1 = seen

theorem rIn_spec {seen : List Bool} : ∀ (l : List Int) (s : List Bool × Bool), RI n S A seen s → (∀ j, j ∈ l → 0 ≤ j → j < n → Rch n S A j.toNat) →
    RI n S A seen (rIn l s) ∧ (s.2 = true → (rIn l s).2 = true) ∧ ((rIn l s).2 = false → ∀ j, j ∈ l → 0 ≤ j → j < n → seen[j.toNat]? = some true)
  | [], s, I, _ => ⟨I, id, fun _ j h => by cases h⟩
  | j :: l, s, I, hR => by
    rw [rIn]
    split
    · rename_i hc
      obtain ⟨h0, h1, h2⟩ := hc
      have hlt : j.toNat < s.1.length := by omega
      have hs : s.1[j.toNat] = false := by
        rw [List.getD_eq_getElem?_getD, List.getElem?_eq_getElem hlt] at h2
        simpa using h2
      have hu := unseen_set hlt hs
      have I2 : RI n S A seen (s.1.set j.toNat true, true) := by
        refine ⟨by simpa using I.len, fun i hi => ?_, fun i hi => ?_, ?_, fun _ => ?_, fun h => by cases h⟩
        · simp only at hi
          rw [List.getElem?_set] at hi
          split at hi
          · rename_i e; subst e; exact hR j (by simp) h0 (by have := I.len; omega)
          · exact I.ok i hi
        · simp only
          rw [List.getElem?_set]
          split
          · rename_i e; subst e; simp [hlt]
          · exact I.up i hi
        · simp only; have := I.un; omega
        · simp only; have := I.un; omega
      obtain ⟨a1, a2, a3⟩ := rIn_spec l _ I2 (fun k hk => hR k (by simp [hk]))
      have a2 := a2 rfl
      exact ⟨a1, fun _ => a2, fun h => by rw [a2] at h; cases h⟩
    · rename_i hc
      obtain ⟨a1, a2, a3⟩ := rIn_spec l s I (fun k hk => hR k (by simp [hk]))
      refine ⟨a1, a2, fun h k hk h0 h1 => ?_⟩
      rcases List.mem_cons.1 hk with rfl | hk
      · have hf : s.2 = false := by
          cases hs : s.2 with
          | false => rfl
          | true => rw [a2 hs] at h; cases h
        have e := I.eq hf
        have hlt : k.toNat < s.1.length := by rw [I.len]; omega
        have hx : ¬ s.1.getD k.toNat true = false := fun hx => hc ⟨h0, by rw [I.len]; exact h1, hx⟩
        rw [List.getD_eq_getElem?_getD, List.getElem?_eq_getElem hlt] at hx
        rw [← e, List.getElem?_eq_getElem hlt]
        simpa using hx
      · exact a3 h k hk h0 h1

theorem rRound_spec {seen : List Bool} : ∀ (d i : Nat) (s : List Bool × Bool), RI n S A seen s →
    RI n S A seen (rRound S d i s) ∧ (s.2 = true → (rRound S d i s).2 = true) ∧ ((rRound S d i s).2 = false → ∀ k, i ≤ k → k < i + d → seen[k]? = some true → ∀ j, j ∈ S k → 0 ≤ j → j < n → seen[j.toNat]? = some true)
  | 0, i, s, I => ⟨I, id, fun _ k h1 h2 => by omega⟩
  | d + 1, i, s, I => by
    rw [rRound]
    split
    · rename_i hc
      have hi : s.1[i]? = some true := by
        rw [List.getD_eq_getElem?_getD] at hc
        cases h : s.1[i]? with
        | none => rw [h] at hc; cases hc
        | some b => rw [h] at hc; simpa using hc
      obtain ⟨b1, b2, b3⟩ := rIn_spec (S i) s I (fun j hj h0 h1 => .step (I.ok i hi) hj h0 h1)
      obtain ⟨a1, a2, a3⟩ := rRound_spec d (i + 1) _ b1
      refine ⟨a1, fun h => a2 (b2 h), fun h k h1 h2 hk j hj h3 h4 => ?_⟩
      by_cases e : k = i
      · subst e
        refine b3 ?_ j hj h3 h4
        cases hb : (rIn (S k) s).2 with
        | false => rfl
        | true => rw [a2 hb] at h; cases h
      · exact a3 h k (by omega) (by omega) hk j hj h3 h4
    · rename_i hc
      obtain ⟨a1, a2, a3⟩ := rRound_spec d (i + 1) _ I
      refine ⟨a1, a2, fun h k h1 h2 hk j hj h3 h4 => ?_⟩
      by_cases e : k = i
      · subst e
        have hf : s.2 = false := by
          cases hs : s.2 with
          | false => rfl
          | true => rw [a2 hs] at h; cases h
        rw [← I.eq hf, ] at hk
        exact (hc (by rw [List.getD_eq_getElem?_getD, hk]; rfl)).elim
      · exact a3 h k (by omega) (by omega) hk j hj h3 h4

theorem rAll_ends : ∀ (k : Nat) (seen : List Bool), seen.length = n → (∀ i : Nat, seen[i]? = some true → Rch n S A i) → unseen seen < k → (∀ j : Int, j ∈ A → 0 ≤ j → j < n → seen[j.toNat]? = some true) →
    ∃ r, rAll n S k seen = some r ∧ r.length = n ∧ ∀ i : Nat, r[i]? = some true ↔ Rch n S A i
  | 0, _, _, _, h, _ => by omega
  | k + 1, seen, hl, hok, h, hA => by
    obtain ⟨I, _, h3⟩ := rRound_spec (n := n) (S := S) (A := A) (seen := seen) n 0 (seen, false) ⟨hl, hok, fun _ h => h, Nat.le_refl _, fun h => (by cases h), fun _ => rfl⟩
    rw [rAll]
    generalize rRound S n 0 (seen, false) = p at I h3
    obtain ⟨s, more⟩ := p
    simp only at I h3 ⊢
    cases more with
    | true =>
      have := I.lt rfl
      simp only at this
      exact rAll_ends k s I.len I.ok (by omega) (fun j h1 h2 h4 => I.up _ (hA j h1 h2 h4))
    | false =>
      have e : s = seen := I.eq rfl
      subst e
      refine ⟨s, rfl, hl, fun i => ⟨hok i, fun hr => ?_⟩⟩
      induction hr with
      | base h h0 h1 => exact hA _ h h0 h1
      | step hr hj h0 h1 ih => exact h3 rfl _ (Nat.zero_le _) (by have := hr.lt; omega) ih _ hj h0 h1

theorem bools_ext {a b : List Bool} (hl : a.length = b.length) (h : ∀ i : Nat, a[i]? = some true ↔ b[i]? = some true) : a = b := by
  refine List.ext_getElem hl fun i h1 h2 => ?_
  have := h i
  rw [List.getElem?_eq_getElem h1, List.getElem?_eq_getElem h2] at this
  simp only [Option.some.injEq] at this
  cases ha : a[i] <;> cases hb : b[i] <;> simp_all
end
end Go.Vm
