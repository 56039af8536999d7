/- flow.Reach: which places can be reached. Where blocks begin, in plain words. flow.Heads: where blocks begin. flow.Trim. What a function that is handed in is fit for. FlowSets: what a function sets is told as the document has it. -/
import Derived.Test.YthemfgeagohdhaaWTd
set_option linter.unusedSimpArgs false
set_option linter.unusedVariables false
set_option linter.unusedSectionVars false
namespace Go.Vm
open Cel
attribute [local simp] callAny callP heapOf_nil
theorem set_row (seen : List Bool) (i : Nat) : (seen.map enc).set i [.bool true] = (seen.set i true).map enc := by
  rw [List.map_set]; rfl
theorem Reach_loop (f : Fn) (hc : (lst f.code).length ≤ 9223372036854775807) (hr : (lst f.rows).length ≤ 274877906944) : ∀ (k : Nat) (seen : List Bool) (op T : List Int) (g : Nat) (o3 o4 : AO) (r : List Bool), seen.length = (lst f.code).length →
    unseen seen * ((lst f.rows).length + 3) + op.length ≤ 137438953472 → dfs (lst f.code).length (succL f) k seen op = some r →
    q7_L2 (.lp 0 1 0 0) (.ls 1 1 1 0 (lst f.code).length) (.ls 2 g 1 0 op.length) [⟨1, .arr true false 5 [enc f]⟩, ⟨1, .arr false false 1 (seen.map enc)⟩, ⟨g, .arr false false 1 ((op ++ T).map enc)⟩, o3, o4] = some (exO (some r)) := by
  intro k
  induction k with
  | zero => intro seen op T g o3 o4 r _ _ h; cases h
  | succ k ih =>
    intro seen op T g o3 o4 r hl hm h
    rw [dfs] at h
    rw [q7_L2_go]
    cases hop : op.getLast? with
    | none =>
      rw [hop] at h
      injection h with h
      subst h
      rw [List.getLast?_eq_none_iff] at hop
      subst hop
      simp [q7_8, q7_1]
      rw [← hl]
      exact expo1_own (α := Bool) (by simp)
    | some i =>
      rw [hop] at h
      simp only at h
      have e := getLast_split hop
      generalize op.dropLast = L at *
      subst e
      simp only [List.length_append, List.length_singleton] at hm
      have hlen : ((L ++ [i]).length : Int) = (L.length : Int) + 1 := by simp
      have hp : (0 : Int) < (L.length : Int) + 1 := by omega
      have hw : IntKind.wrap .i64 ((L.length : Int) + 1 - 1) = (L.length : Int) := by rw [wrap_i64] <;> omega
      have s1 := stk_ix 2 g L.length
      have s2 := stk_slc 2 g L.length
      have s3 : evLd false 1 (.lp 2 g L.length 0) [⟨1, .arr true false 5 [enc f]⟩, ⟨1, .arr false false 1 (seen.map enc)⟩, ⟨g, .arr false false 1 ((L ++ [i] ++ T).map enc)⟩, o3, o4] = some (.int .i64 i) :=
        stk_ld (T := T) (by simp)
      have e8 : q7_8 (.lp 0 1 0 0) (.ls 1 1 1 0 (lst f.code).length) (.ls 2 g 1 0 (L ++ [i]).length) [⟨1, .arr true false 5 [enc f]⟩, ⟨1, .arr false false 1 (seen.map enc)⟩, ⟨g, .arr false false 1 ((L ++ [i] ++ T).map enc)⟩, o3, o4] =
          q7_4 (.lp 0 1 0 0) (.ls 1 1 1 0 (lst f.code).length) (.ls 2 g 1 0 L.length) (.int .i64 i) [⟨1, .arr true false 5 [enc f]⟩, ⟨1, .arr false false 1 (seen.map enc)⟩, ⟨g, .arr false false 1 ((L ++ (i :: T)).map enc)⟩, o3, o4] := by
        simp only [q7_8, q7_6, q7_5, List.length_append, List.length_singleton, evLen_ls, ob_some, Int.natCast_add, Int.natCast_one, evBin_gtr, hp, decide_true, cnd_t, evBin_sub, hw, s1, s2, s3]
        simp
      rw [e8]
      have skip := fun h => ih seen L (i :: T) g o3 o4 r hl (by omega) h
      by_cases h0 : i < 0
      · rw [if_pos (.inl h0)] at h
        simpa [q7_4, h0] using skip h
      by_cases h1 : ((lst f.code).length : Int) ≤ i
      · rw [if_pos (.inr (.inl h1))] at h
        simpa [q7_4, h0, h1] using skip h
      have g0 : 0 ≤ i := by omega
      have g1 : i < ((lst f.code).length : Int) := by omega
      have hi : i.toNat < seen.length := by omega
      have r1 : evIxs 1 (.ls 1 1 1 0 (lst f.code).length) (.int .i64 i) = some (.lp 1 1 i.toNat 0) := by simp [evIxs, g0, g1]
      cases hs : seen[i.toNat] with
      | true =>
        have hsg : seen.getD i.toNat true = true := by rw [List.getD_eq_getElem?_getD, List.getElem?_eq_getElem hi, hs]; rfl
        rw [if_pos (.inr (.inr hsg))] at h
        simpa [q7_4, h0, h1, r1, hi, hs] using skip h
      | false =>
        have hsg : ¬ (i < 0 ∨ ((lst f.code).length : Int) ≤ i ∨ seen.getD i.toNat true = true) := by
          rw [List.getD_eq_getElem?_getD, List.getElem?_eq_getElem hi, hs]
          simp [h0, h1]
        rw [if_neg hsg] at h
        have hu := unseen_set hi hs
        have hS := succL_len f i.toNat
        have hn2 := nextL_len f i
        have hN := s_Next f i hc
        have hC := s_Caught f i hr
        have ei : ((i.toNat : Nat) : Int) = i := by omega
        have hSe : succL f i.toNat = nextL f i ++ caughtL f i := by rw [succL, ei]
        rw [hSe] at h hS
        rw [List.length_append] at hS
        rw [← hu, Nat.add_mul] at hm
        have b1 := app_bound (a := L.length) (b := (nextL f i).length) (by omega)
        have b2 := app_bound (a := (L ++ nextL f i).length) (b := (caughtL f i).length) (by rw [List.length_append]; omega)
        have a1 := app_stk (α := Int) (H := [⟨1, .arr true false 5 [enc f]⟩, ⟨1, .arr false false 1 ((seen.set i.toNat true).map enc)⟩, ⟨g, .arr false false 1 ((L ++ (i :: T)).map enc)⟩, o3, o4]) (fb := 0) (sl := some 3) (id := 2) (g := g) (y := slA (nz (nextL f i))) (L := L) (M := nextL f i) (T := i :: T) (by simp) rfl b1
        have a2 := app_stk (α := Int) (H := [⟨1, .arr true false 5 [enc f]⟩, ⟨1, .arr false false 1 ((seen.set i.toNat true).map enc)⟩, ⟨g + 1, .arr false false 1 ((L ++ nextL f i).map enc)⟩, o3, o4]) (fb := 0) (sl := some 4) (id := 2) (g := g + 1) (y := slA (nz (caughtL f i))) (L := L ++ nextL f i) (M := caughtL f i) (T := []) (by simp) (by simp) b2
        have := ih (seen.set i.toNat true) (L ++ nextL f i ++ caughtL f i) [] (g + 1 + 1) o3 o4 r (by simpa using hl) (by simp only [List.length_append]; omega) (by rw [List.append_assoc]; exact h)
        simp only [List.append_nil] at this
        simp only [es_int, List.set_cons_succ, List.set_cons_zero] at a1 a2
        have e4 : q7_4 (.lp 0 1 0 0) (.ls 1 1 1 0 (lst f.code).length) (.ls 2 g 1 0 L.length) (.int .i64 i) [⟨1, .arr true false 5 [enc f]⟩, ⟨1, .arr false false 1 (seen.map enc)⟩, ⟨g, .arr false false 1 ((L ++ (i :: T)).map enc)⟩, o3, o4] =
            q7_3 (.lp 0 1 0 0) (.ls 1 1 1 0 (lst f.code).length) (.ls 2 g 1 0 L.length) (.int .i64 i) [⟨1, .arr true false 5 [enc f]⟩, ⟨1, .arr false false 1 (seen.map enc)⟩, ⟨g, .arr false false 1 ((L ++ (i :: T)).map enc)⟩, o3, o4] := by
          simp [q7_4, h0, h1, r1, hi, hs]
        rw [e4]
        have st : evSt 1 (.lp 1 1 i.toNat 0) (.bool true) [⟨1, .arr true false 5 [enc f]⟩, ⟨1, .arr false false 1 (seen.map enc)⟩, ⟨g, .arr false false 1 ((L ++ (i :: T)).map enc)⟩, o3, o4] =
            some (.tup [], [⟨1, .arr true false 5 [enc f]⟩, ⟨1, .arr false false 1 ((seen.set i.toNat true).map enc)⟩, ⟨g, .arr false false 1 ((L ++ (i :: T)).map enc)⟩, o3, o4]) := by
          exact evSt_at (α := Bool) (v := .bool true) (y := true) rfl hi rfl
        have l1 : ∀ t : Heap, evLd true 5 (.lp 0 1 0 0) (⟨1, .arr true false 5 [enc f]⟩ :: t) = some (.agg (enc f)) := fun t => by simp
        have c1 : ∀ h : Heap, callAny E (callW E) 0 none true 81 [.agg (enc f), .int .i64 i] h = some (slA (nz (nextL f i)), h) := fun h => by simp [hN]
        have c2 : ∀ h : Heap, callAny E (callW E) 0 none true 79 [.agg (enc f), .int .i64 i] h = some (slA (nz (caughtL f i)), h) := fun h => by simp [hC]
        simp only [q7_3, r1, ob_some, st, oh_some, l1, c1, a1, c2, a2, this]
theorem s_Reach (f : Fn) (hc : (lst f.code).length ≤ 30000) (hr : (lst f.rows).length ≤ 1000000) : (callW E).p 101 [.agg (enc f)] = some (exO (some (reachL f))) := by
  rw [x_q7]
  have hm : unseen (List.replicate (lst f.code).length false) * ((lst f.rows).length + 3) + [(0 : Int)].length < 30000 * 1000003 + 2 := by
    have h1 : unseen (List.replicate (lst f.code).length false) ≤ 30000 := by
      unfold unseen
      exact Nat.le_trans List.countP_le_length (by simpa using hc)
    have := Nat.mul_le_mul h1 (show (lst f.rows).length + 3 ≤ 1000003 by omega)
    simp only [List.length_singleton]
    omega
  obtain ⟨r, h⟩ := dfs_ends (n := (lst f.code).length) (S := succL f) (B := (lst f.rows).length + 2) (fun i _ => succL_len f i) _ (List.replicate (lst f.code).length false) [0] (by simp) hm
  obtain ⟨h1, h2⟩ := dfs_spec _ _ _ r DfsI.start h
  have e := reachL_of h1 h2
  subst e
  have := Reach_loop f (by omega) (by omega) _ _ [0] [] 1 D0 D0 _ (by simp) (by omega) h
  have b1 : ((lst f.code).length : Int) ≤ 140737488355328 := by omega
  have b2 : ((lst f.code).length : Int) ≤ 4611686018427387904 := by omega
  simp only [List.map_replicate, List.append_nil] at this
  simp [q7_13, q7_12, q7_11, mkSC, b1, b2, buildSC, fillRows]
  exact this
end Go.Vm
namespace Go.Vm
def putP (n : Nat) (p : Int) (a : List Bool) : List Bool := if 0 ≤ p ∧ p < n then a.set p.toNat true else a
def stepI (n i : Nat) (x : Ins) (a : List Bool) : List Bool :=
  if leads x.op || ends x.op then (if leads x.op then putP n x.t a else a).set (i + 1) true else (if leads x.op then putP n x.t a else a)
def hA1 (n : Nat) : Nat → List Ins → List Bool → List Bool
  | _, [], a => a
  | i, x :: r, a => hA1 n (i + 1) r (stepI n i x a)
def hA2 (n : Nat) : List Row → List Bool → List Bool
  | [], a => a
  | r :: rs, a => hA2 n rs (putP n r.at_ (putP n r.t (putP n r.f a)))
def hA0 (n : Nat) : List Bool := if 0 < n then (List.replicate (n + 1) false).set 0 true else List.replicate (n + 1) false
@[simp] theorem putP_len (n : Nat) (p : Int) (a : List Bool) : (putP n p a).length = a.length := by unfold putP; split <;> simp
@[simp] theorem stepI_len (n i : Nat) (x : Ins) (a : List Bool) : (stepI n i x a).length = a.length := by
  unfold stepI
  split <;> split <;> simp
theorem hA1_len (n : Nat) : ∀ (l : List Ins) (i : Nat) (a : List Bool), (hA1 n i l a).length = a.length
  | [], _, _ => rfl
  | x :: l, i, a => by rw [hA1, hA1_len]; simp
theorem hA2_len (n : Nat) : ∀ (l : List Row) (a : List Bool), (hA2 n l a).length = a.length
  | [], _ => rfl
  | x :: l, a => by rw [hA2, hA2_len]; simp
@[simp] theorem hA0_len (n : Nat) : (hA0 n).length = n + 1 := by unfold hA0; split <;> simp
theorem set_get {a : List Bool} {i j : Nat} (h : j < a.length) : (a.set i true)[j]? = some true ↔ a[j]? = some true ∨ i = j := by
  rw [List.getElem?_set]
  by_cases e : i = j
  · subst e; simp [h]
  · rw [if_neg e]; exact ⟨.inl, fun h => h.resolve_right e⟩
theorem putP_get {n : Nat} {p : Int} {a : List Bool} {j : Nat} (h : j < a.length) : (putP n p a)[j]? = some true ↔ a[j]? = some true ∨ (0 ≤ p ∧ p < n ∧ p.toNat = j) := by
  unfold putP
  split
  · rename_i hc
    rw [set_get h]
    exact ⟨fun h => h.imp id fun e => ⟨hc.1, hc.2, e⟩, fun h => h.imp id fun e => e.2.2⟩
  · rename_i hc
    exact ⟨.inl, fun h => h.resolve_right fun e => hc ⟨e.1, e.2.1⟩⟩
def hitI (n i j : Nat) (x : Ins) : Prop := (leads x.op = true ∧ 0 ≤ x.t ∧ x.t < n ∧ x.t.toNat = j) ∨ ((leads x.op || ends x.op) = true ∧ i + 1 = j)
theorem stepI_get {n i : Nat} {x : Ins} {a : List Bool} {j : Nat} (h : j < a.length) : (stepI n i x a)[j]? = some true ↔ a[j]? = some true ∨ hitI n i j x := by
  have h1 : (if leads x.op = true then putP n x.t a else a)[j]? = some true ↔ a[j]? = some true ∨ (leads x.op = true ∧ 0 ≤ x.t ∧ x.t < n ∧ x.t.toNat = j) := by
    split
    · rename_i hl
      rw [putP_get h]; simp [hl]
    · rename_i hl
      simp [hl]
  unfold stepI hitI
  split
  · rename_i hc
    rw [set_get (by split <;> simp [h]), h1]
    simp only [hc, true_and, or_assoc]
  · rename_i hc
    rw [h1]
    simp only [hc, Bool.false_eq_true, false_and, or_false]
theorem hA1_get {n j : Nat} : ∀ (l : List Ins) (i : Nat) (a : List Bool), j < a.length → ((hA1 n i l a)[j]? = some true ↔ a[j]? = some true ∨ ∃ k x, l[k]? = some x ∧ hitI n (i + k) j x)
  | [], i, a, h => by simp [hA1]
  | y :: l, i, a, h => by
    rw [hA1, hA1_get l (i + 1) _ (by simpa using h), stepI_get h, or_assoc]
    apply or_congr_right
    constructor
    · rintro (h | ⟨k, x, h1, h2⟩)
      · exact ⟨0, y, rfl, h⟩
      · exact ⟨k + 1, x, h1, by rw [show i + (k + 1) = i + 1 + k by omega]; exact h2⟩
    · rintro ⟨k, x, h1, h2⟩
      cases k with
      | zero => simp at h1; subst h1; exact .inl h2
      | succ k => exact .inr ⟨k, x, h1, by rw [show i + 1 + k = i + (k + 1) by omega]; exact h2⟩
def hitR (n j : Nat) (r : Row) : Prop := (0 ≤ r.f ∧ r.f < n ∧ r.f.toNat = j) ∨ (0 ≤ r.t ∧ r.t < n ∧ r.t.toNat = j) ∨ (0 ≤ r.at_ ∧ r.at_ < n ∧ r.at_.toNat = j)
theorem hA2_get {n j : Nat} : ∀ (l : List Row) (a : List Bool), j < a.length → ((hA2 n l a)[j]? = some true ↔ a[j]? = some true ∨ ∃ r ∈ l, hitR n j r)
  | [], a, h => by simp [hA2]
  | r :: l, a, h => by
    rw [hA2, hA2_get l _ (by simpa using h), putP_get (by simpa using h), putP_get (by simpa using h), putP_get h]
    simp only [List.mem_cons, exists_eq_or_imp, hitR, or_assoc]
theorem hA0_get {n j : Nat} (h : j < n) : (hA0 n)[j]? = some true ↔ j = 0 := by
  unfold hA0
  rw [if_pos (by omega), set_get (by simp; omega)]
  constructor
  · rintro (h | h)
    · rw [List.getElem?_replicate] at h; split at h <;> cases h
    · exact h.symm
  · exact fun e => .inr e.symm
def hA (f : Fn) : List Bool := hA2 (lst f.code).length (lst f.rows) (hA1 (lst f.code).length 0 (lst f.code) (hA0 (lst f.code).length))
theorem hA_len (f : Fn) : (hA f).length = (lst f.code).length + 1 := by rw [hA, hA2_len, hA1_len, hA0_len]
theorem isHead_iff (f : Fn) (i : Nat) : isHead f i = true ↔ i = 0 ∨ (leads (insAt f (i - 1)).op || ends (insAt f (i - 1)).op) = true ∨ (∃ x ∈ lst f.code, leads x.op = true ∧ x.t = i) ∨ ∃ r ∈ lst f.rows, r.f = i ∨ r.t = i ∨ r.at_ = i := by
  simp only [isHead, Bool.or_eq_true, decide_eq_true_eq, List.any_eq_true, Bool.and_eq_true, or_assoc]
theorem hA_get (f : Fn) {j : Nat} (h : j < (lst f.code).length) : (hA f)[j]? = some (isHead f j) := by
  have hj : j < (hA f).length := by rw [hA_len]; omega
  have key : (hA f)[j]? = some true ↔ isHead f j = true := by
    rw [hA, hA2_get _ _ (by rw [hA1_len, hA0_len]; omega), hA1_get _ _ _ (by rw [hA0_len]; omega), hA0_get h, isHead_iff, or_assoc]
    by_cases j0 : j = 0
    · exact ⟨fun _ => .inl j0, fun _ => .inl j0⟩
    apply or_congr_right
    constructor
    · rintro (⟨k, x, h1, h2 | h2⟩ | ⟨r, h1, h2⟩)
      · exact .inr (.inl ⟨x, List.mem_of_getElem? h1, h2.1, by omega⟩)
      · left
        have : insAt f (j - 1) = x := by
          rw [insAt, List.getD_eq_getElem?_getD, show j - 1 = k by omega, h1]; rfl
        rw [this]; exact h2.1
      · refine .inr (.inr ⟨r, h1, ?_⟩)
        rcases h2 with h2 | h2 | h2
        · exact .inl (by omega)
        · exact .inr (.inl (by omega))
        · exact .inr (.inr (by omega))
    · rintro (h1 | ⟨x, h1, h2, h3⟩ | ⟨r, h1, h2⟩)
      · refine .inl ⟨j - 1, insAt f (j - 1), insAt_lt (by omega), .inr ⟨h1, by omega⟩⟩
      · obtain ⟨k, hk⟩ := List.getElem?_of_mem h1
        exact .inl ⟨k, x, hk, .inl ⟨h2, by omega, by omega, by omega⟩⟩
      · refine .inr ⟨r, h1, ?_⟩
        rcases h2 with h2 | h2 | h2
        · exact .inl ⟨by omega, by omega, by omega⟩
        · exact .inr (.inl ⟨by omega, by omega, by omega⟩)
        · exact .inr (.inr ⟨by omega, by omega, by omega⟩)
  rw [List.getElem?_eq_getElem hj] at key ⊢
  simp only [Option.some.injEq] at key ⊢
  cases hb : (hA f)[j] <;> cases hc : isHead f j <;> simp_all
end Go.Vm
namespace Go.Vm
open Cel
attribute [local simp] callAny callP heapOf_nil
abbrev HH (f : Fn) (a : List Bool) (o2 o3 o4 o5 o6 : AO) : Heap := [⟨1, .arr true false 5 [enc f]⟩, ⟨1, .arr false false 1 (a.map enc)⟩, o2, o3, o4, o5, o6]
theorem ixAt {n : Nat} {p : Int} (h0 : 0 ≤ p) (h1 : p < (n : Int)) (id g : Nat) (k : IntKind) : evIxs 1 (.ls id g 1 0 n) (.int k p) = some (.lp id g p.toNat 0) := by simp [evIxs, h0, h1]
theorem stHH (f : Fn) (a : List Bool) (o2 o3 o4 o5 o6 : AO) {j : Nat} (h : j < a.length) : evSt 1 (.lp 1 1 j 0) (.bool true) (HH f a o2 o3 o4 o5 o6) = some (.tup [], HH f (a.set j true) o2 o3 o4 o5 o6) :=
  evSt_at (α := Bool) (v := .bool true) (y := true) rfl h rfl
theorem Heads_code (f : Fn) (o3 o4 o5 o6 : AO) (hl : (lst f.code).length ≤ 9223372036854775806) : ∀ (d i : Nat) (a : List Bool) (o2 : AO), i + d = (lst f.code).length → a.length = (lst f.code).length + 1 →
    ∃ o2', q5_L28 (.lp 0 1 0 0) (.ls 1 1 1 0 ((lst f.code).length + 1)) (slA f.code) (.int .i64 (lst f.code).length) (.int .i64 i) (HH f a o2 o3 o4 o5 o6) =
      q5_26 (.lp 0 1 0 0) (.ls 1 1 1 0 ((lst f.code).length + 1)) (HH f (hA1 (lst f.code).length i ((lst f.code).drop i) a) o2' o3 o4 o5 o6) := by
  intro d
  induction d with
  | zero =>
    intro i a o2 hi _
    have e1 : (lst f.code).drop i = [] := List.drop_eq_nil_of_le (by omega)
    have hn : ¬ ((i : Int) < ((lst f.code).length : Int)) := by omega
    rw [q5_L28_go, e1]
    exact ⟨o2, by simp [q5_36, q5_35, hn, hA1]⟩
  | succ d ih =>
    intro i a o2 hi ha
    have hlt : i < (lst f.code).length := by omega
    have hc : ((i : Int) < ((lst f.code).length : Int)) := by omega
    have k1 := ixs_ins (o := f.code) (i := i) (List.getElem?_eq_getElem hlt) .i64
    have hw := wrap_up hlt (by omega)
    rw [q5_L28_go, List.drop_eq_getElem_cons hlt, hA1]
    generalize (lst f.code)[i] = x at *
    generalize hN : (lst f.code).length = n at *
    have e36 : q5_36 (.lp 0 1 0 0) (.ls 1 1 1 0 (n + 1)) (slA f.code) (.int .i64 n) (.int .i64 i) (HH f a o2 o3 o4 o5 o6) =
        q5_31 (.lp 0 1 0 0) (.ls 1 1 1 0 (n + 1)) (.int .i64 i) (.lp 2 (o2.gen + 1) 0 0) (slA f.code) (.int .i64 n) (.int .i64 i) (HH f a ⟨o2.gen + 1, .arr true false 9 [enc x]⟩ o3 o4 o5 o6) := by
      simp [q5_36, q5_35, q5_32, hc, k1]
    generalize hg : (o2.gen + 1) = g at *
    have e31 : q5_31 (.lp 0 1 0 0) (.ls 1 1 1 0 (n + 1)) (.int .i64 i) (.lp 2 g 0 0) (slA f.code) (.int .i64 n) (.int .i64 i) (HH f a ⟨g, .arr true false 9 [enc x]⟩ o3 o4 o5 o6) =
        q5_30 (.lp 0 1 0 0) (.ls 1 1 1 0 (n + 1)) (.int .i64 i) (.lp 2 g 0 0) (slA f.code) (.int .i64 n) (.int .i64 i) (HH f (if leads x.op = true then putP n x.t a else a) ⟨g, .arr true false 9 [enc x]⟩ o3 o4 o5 o6) := by
      cases hd : leads x.op with
      | false => simp [q5_31, hd]
      | true =>
        rw [if_pos rfl, putP]
        by_cases h0 : 0 ≤ x.t
        rotate_left
        · rw [if_neg (fun h => h0 h.1)]
          simp [q5_31, hd, h0]
        by_cases h1 : x.t < (n : Int)
        rotate_left
        · rw [if_neg (fun h => h1 h.2)]
          simp [q5_31, hd, h0, h1, hN]
        rw [if_pos ⟨h0, h1⟩]
        have st := stHH f a ⟨g, .arr true false 9 [enc x]⟩ o3 o4 o5 o6 (j := x.t.toNat) (by omega)
        have ix := ixAt (n := n + 1) h0 (by omega) 1 1 .i64
        simp [q5_31, hd, h0, h1, hN, ix, -evSt_lp, st]
    have e30 : ∀ a : List Bool, a.length = n + 1 → q5_30 (.lp 0 1 0 0) (.ls 1 1 1 0 (n + 1)) (.int .i64 i) (.lp 2 g 0 0) (slA f.code) (.int .i64 n) (.int .i64 i) (HH f a ⟨g, .arr true false 9 [enc x]⟩ o3 o4 o5 o6) =
        q5_29 (.lp 0 1 0 0) (.ls 1 1 1 0 (n + 1)) (slA f.code) (.int .i64 n) (.int .i64 i) (HH f (if (leads x.op || ends x.op) = true then a.set (i + 1) true else a) ⟨g, .arr true false 9 [enc x]⟩ o3 o4 o5 o6) := by
      intro a ha
      have st := stHH f a ⟨g, .arr true false 9 [enc x]⟩ o3 o4 o5 o6 (j := i + 1) (by omega)
      have ix := ixAt (n := n + 1) (p := (i : Int) + 1) (by omega) (by omega) 1 1 .i64
      rw [show ((i : Int) + 1).toNat = i + 1 by omega] at ix
      cases hd : leads x.op <;> cases he : ends x.op <;> simp [q5_30, hd, he, hw, ix, -evSt_lp, st]
    obtain ⟨o2', ih⟩ := ih (i + 1) (stepI n i x a) ⟨g, .arr true false 9 [enc x]⟩ (by omega) (by simpa using ha)
    push_cast at ih
    refine ⟨o2', ?_⟩
    rw [e36, e31, e30 _ (by split <;> simp [ha]), q5_29, evBin_add, ob_some, hw, ← ih]
    rfl
theorem Heads_lit (f : Fn) (v62 v63 v64 : AV) (o2 o3 o5 o6 : AO) (g : Nat) (P : List Int) (hP : P.length = 3) : ∀ (d k : Nat) (a : List Bool), k + d = 3 → a.length = (lst f.code).length + 1 →
    q5_L13 (.lp 0 1 0 0) (.ls 1 1 1 0 ((lst f.code).length + 1)) v62 v63 v64 (.ls 4 g 1 0 3) (.int .i64 3) (.int .i64 k) (HH f a o2 o3 ⟨g, .arr false false 1 (P.map enc)⟩ o5 o6) =
      q5_12 (.lp 0 1 0 0) (.ls 1 1 1 0 ((lst f.code).length + 1)) v62 v63 v64 (HH f ((P.drop k).foldl (fun a p => putP (lst f.code).length p a) a) o2 o3 ⟨g, .arr false false 1 (P.map enc)⟩ o5 o6) := by
  intro d
  induction d with
  | zero =>
    intro k a hk _
    have e1 : P.drop k = [] := List.drop_eq_nil_of_le (by omega)
    have hn : ¬ ((k : Int) < 3) := by omega
    rw [q5_L13_go, e1]
    simp [q5_17, q5_16, hn]
  | succ d ih =>
    intro k a hk ha
    have hlt : k < P.length := by omega
    have hc : ((k : Int) < 3) := by omega
    have hw := wrap_up (n := 3) (i := k) (by omega) (by omega)
    have l1 : ∀ a, evLd false 1 (.lp 4 g k 0) (HH f a o2 o3 ⟨g, .arr false false 1 (P.map enc)⟩ o5 o6) = some (.int .i64 P[k]) := by
      intro a
      simp [evLd, rowsAt, objAt, hlt]
    have ix : evIxs 1 (.ls 4 g 1 0 3) (.int .i64 (k : Int)) = some (.lp 4 g k 0) := by
      have := ixAt (n := 3) (p := (k : Int)) (by omega) (by omega) 4 g .i64
      simpa using this
    rw [q5_L13_go, List.drop_eq_getElem_cons hlt, List.foldl_cons]
    generalize P[k] = p at *
    have ih0 := fun a ha => ih (k + 1) a (by omega) ha
    push_cast at ih0
    rw [← ih0 _ (by simpa using ha), putP]
    by_cases h0 : 0 ≤ p
    rotate_left
    · rw [if_neg (fun h => h0 h.1)]
      simp [q5_17, q5_16, q5_15, q5_14, hc, ix, -evLd_lp, l1, h0, hw]
    by_cases h1 : p < ((lst f.code).length : Int)
    rotate_left
    · rw [if_neg (fun h => h1 h.2)]
      have lb : ∀ a : List Bool, evLd false 1 (.lp 0 1 0 3) (HH f a o2 o3 ⟨g, .arr false false 1 (P.map enc)⟩ o5 o6) = some (slA f.code) := fun a => by simp
      simp [q5_17, q5_16, q5_15, q5_14, hc, ix, -evLd_lp, l1, h0, h1, hw, lb]
    rw [if_pos ⟨h0, h1⟩]
    have lb : ∀ a : List Bool, evLd false 1 (.lp 0 1 0 3) (HH f a o2 o3 ⟨g, .arr false false 1 (P.map enc)⟩ o5 o6) = some (slA f.code) := fun a => by simp
    have st := stHH f a o2 o3 ⟨g, .arr false false 1 (P.map enc)⟩ o5 o6 (j := p.toNat) (by omega)
    have ix2 := ixAt (n := (lst f.code).length + 1) h0 (by omega) 1 1 .i64
    simp [q5_17, q5_16, q5_15, q5_14, hc, ix, -evLd_lp, l1, h0, h1, hw, lb, ix2, -evSt_lp, st]
theorem Heads_rows (f : Fn) (o2 o5 o6 : AO) (hl : (lst f.rows).length ≤ 9223372036854775806) : ∀ (d k : Nat) (a : List Bool) (o3 o4 : AO), k + d = (lst f.rows).length → a.length = (lst f.code).length + 1 →
    ∃ o3' o4', q5_L11 (.lp 0 1 0 0) (.ls 1 1 1 0 ((lst f.code).length + 1)) (slA f.rows) (.int .i64 (lst f.rows).length) (.int .i64 k) (HH f a o2 o3 o4 o5 o6) =
      q5_10 (.lp 0 1 0 0) (.ls 1 1 1 0 ((lst f.code).length + 1)) (HH f (hA2 (lst f.code).length ((lst f.rows).drop k) a) o2 o3' o4' o5 o6) := by
  intro d
  induction d with
  | zero =>
    intro k a o3 o4 hk _
    have e1 : (lst f.rows).drop k = [] := List.drop_eq_nil_of_le (by omega)
    have hn : ¬ ((k : Int) < ((lst f.rows).length : Int)) := by omega
    rw [q5_L11_go, e1]
    exact ⟨o3, o4, by simp [q5_24, q5_23, hn, hA2]⟩
  | succ d ih =>
    intro k a o3 o4 hk ha
    have hlt : k < (lst f.rows).length := by omega
    have hc : ((k : Int) < ((lst f.rows).length : Int)) := by omega
    have k1 := ixs_row (o := f.rows) (i := k) (List.getElem?_eq_getElem hlt) .i64
    have hw := wrap_up hlt (by omega)
    rw [q5_L11_go, List.drop_eq_getElem_cons hlt, hA2]
    generalize (lst f.rows)[k] = r at *
    have lit := Heads_lit f (slA f.rows) (.int .i64 (lst f.rows).length) (.int .i64 k) o2 ⟨o3.gen + 1, .arr true false 4 [enc r]⟩ o5 o6 (o4.gen + 1) [r.f, r.t, r.at_] rfl 3 0 a (by omega) ha
    simp only [List.drop_zero, List.foldl_cons, List.foldl_nil, Int.ofNat_zero] at lit
    have e24 : q5_24 (.lp 0 1 0 0) (.ls 1 1 1 0 ((lst f.code).length + 1)) (slA f.rows) (.int .i64 (lst f.rows).length) (.int .i64 k) (HH f a o2 o3 o4 o5 o6) =
        q5_L13 (.lp 0 1 0 0) (.ls 1 1 1 0 ((lst f.code).length + 1)) (slA f.rows) (.int .i64 (lst f.rows).length) (.int .i64 k) (.ls 4 (o4.gen + 1) 1 0 3) (.int .i64 3) (.int .i64 0)
          (HH f a o2 ⟨o3.gen + 1, .arr true false 4 [enc r]⟩ ⟨o4.gen + 1, .arr false false 1 ([r.f, r.t, r.at_].map enc)⟩ o5 o6) := by
      simp [q5_24, q5_23, q5_20, q5_19, hc, k1, buildSC, fillRows]
    obtain ⟨o3', o4', ih⟩ := ih (k + 1) (putP (lst f.code).length r.at_ (putP (lst f.code).length r.t (putP (lst f.code).length r.f a))) ⟨o3.gen + 1, .arr true false 4 [enc r]⟩ ⟨o4.gen + 1, .arr false false 1 ([r.f, r.t, r.at_].map enc)⟩ (by omega) (by simpa using ha)
    push_cast at ih
    refine ⟨o3', o4', ?_⟩
    rw [e24, lit, q5_12, evBin_add, ob_some, hw, ih]
theorem Heads_take (f : Fn) (o2 o3 o4 : AO) (hl : (lst f.code).length ≤ 274877906944) : ∀ (d k g : Nat) (o5 : AO), k + d = (lst f.code).length →
    q5_L2 (.ls 1 1 1 0 ((lst f.code).length + 1)) (slotV Int 6 g (headsG f k)) (.int .i64 (lst f.code).length) (.int .i64 k) (HH f (hA f) o2 o3 o4 o5 (slotO g D0 (headsG f k))) = some (exO (nz (headsL f))) := by
  intro d
  induction d with
  | zero =>
    intro k g o5 hk
    have hk' : k = (lst f.code).length := by omega
    have hn : ¬ ((k : Int) < ((lst f.code).length : Int)) := by omega
    have hx := expo1_slotX (H := HH f (hA f) o2 o3 o4 o5 (slotO g D0 (headsG f k))) (j := 6) (g := g) (o := D0) (L := headsG f k) rfl
    rw [q5_L2_go, headsL, ← hk', ← hx]
    simp [q5_6, q5_5, q5_1, hk']
  | succ d ih =>
    intro k g o5 hk
    have hlt : k < (lst f.code).length := by omega
    have hc : ((k : Int) < ((lst f.code).length : Int)) := by omega
    have hw := wrap_up hlt (by omega)
    have ix := ixAt (n := (lst f.code).length + 1) (p := (k : Int)) (by omega) (by omega) 1 1 .i64
    rw [show ((k : Int)).toNat = k by omega] at ix
    have hg := hA_get f hlt
    have l1 : ∀ o5 o6, evLd false 1 (.lp 1 1 k 0) (HH f (hA f) o2 o3 o4 o5 o6) = some (.bool (isHead f k)) := by
      intro o5 o6
      simp [evLd, rowsAt, objAt, hg]
    rw [q5_L2_go]
    have ih0 := fun g o5 => ih (k + 1) g o5 (by omega)
    push_cast at ih0
    simp only [headsG] at ih0
    cases hh : isHead f k with
    | false =>
      have ih0 := ih0 g o5
      rw [hh] at ih0 l1
      simp only [Bool.false_eq_true, if_false, List.append_nil] at ih0
      simp [q5_6, q5_5, q5_4, q5_3, hc, ix, -evLd_lp, l1, hw, ih0]
    | true =>
      rw [hh] at ih0 l1
      simp only [if_true] at ih0
      obtain ⟨g', ha⟩ := app_int (H := HH f (hA f) o2 o3 o4 ⟨o5.gen + 1, .arr false false 1 [[.int .i64 k]]⟩ (slotO g D0 (headsG f k))) (fb := 0) (j := 6) (g := g) (o := D0) (y := .ls 5 (o5.gen + 1) 1 0 1) (L := headsG f k) (n := k) (by simp) rfl (by have := headsG_len f k; omega)
      have ha' : evApp 0 (some 6) 1 8 (slotV Int 6 g (headsG f k)) (.ls 5 (o5.gen + 1) 1 0 1) (HH f (hA f) o2 o3 o4 ⟨o5.gen + 1, .arr false false 1 [[.int .i64 k]]⟩ (slotO g D0 (headsG f k))) = some (slotV Int 6 g' (headsG f k ++ [(k : Int)]), HH f (hA f) o2 o3 o4 ⟨o5.gen + 1, .arr false false 1 [[.int .i64 k]]⟩ (slotO g' D0 (headsG f k ++ [(k : Int)]))) := ha
      simp [q5_6, q5_5, q5_4, q5_3, hc, ix, -evLd_lp, l1, hw, buildSC, fillRows, ha', ih0]
theorem s_Heads (f : Fn) (hc : (lst f.code).length ≤ 30000) (hr : (lst f.rows).length ≤ 1000000) : (callW E).p 102 [.agg (enc f)] = some (exO (nz (headsL f))) := by
  rw [x_q5]
  obtain ⟨o2, h1⟩ := Heads_code f D0 D0 D0 D0 (by omega) _ 0 (hA0 (lst f.code).length) D0 (Nat.zero_add _) (by simp)
  obtain ⟨o3, o4, h2⟩ := Heads_rows f o2 D0 D0 (by omega) _ 0 (hA1 (lst f.code).length 0 (lst f.code) (hA0 (lst f.code).length)) D0 D0 (Nat.zero_add _) (by rw [hA1_len, hA0_len])
  have h3 := Heads_take f o2 o3 o4 (by omega) _ 0 0 D0 (Nat.zero_add _)
  simp only [List.drop_zero, Int.ofNat_zero, headsG, slotV_nil, slotO_nil] at h1 h2 h3
  have e10 : q5_10 (.lp 0 1 0 0) (.ls 1 1 1 0 ((lst f.code).length + 1)) (HH f (hA f) o2 o3 o4 D0 D0) = some (exO (nz (headsL f))) := by
    simp [q5_10, q5_8, h3]
  have e26 : q5_26 (.lp 0 1 0 0) (.ls 1 1 1 0 ((lst f.code).length + 1)) (HH f (hA1 (lst f.code).length 0 (lst f.code) (hA0 (lst f.code).length)) o2 D0 D0 D0 D0) = some (exO (nz (headsL f))) := by
    rw [← e10, ← show _ = q5_10 _ _ (HH f (hA f) o2 o3 o4 D0 D0) from h2]
    simp [q5_26]
  have e38 : q5_38 (.lp 0 1 0 0) (.ls 1 1 1 0 ((lst f.code).length + 1)) (HH f (hA0 (lst f.code).length) D0 D0 D0 D0 D0) = some (exO (nz (headsL f))) := by
    rw [← e26, ← h1]
    simp [q5_38]
  rw [← e38]
  have b1 : ((lst f.code).length : Int) + 1 ≤ 140737488355328 := by omega
  have b2 : ((lst f.code).length : Int) + 1 ≤ 4611686018427387904 := by omega
  have b3 : (0 : Int) ≤ ((lst f.code).length : Int) + 1 := by omega
  have b4 : (((lst f.code).length : Int) + 1).toNat = (lst f.code).length + 1 := by omega
  have hw : IntKind.wrap .i64 (((lst f.code).length : Int) + 1) = ((lst f.code).length : Int) + 1 := by rw [wrap_i64] <;> omega
  have e42 : q5_42 (.agg (enc f)) [D0, D0, D0, D0, D0, D0, D0] = q5_40 (.lp 0 1 0 0) (.ls 1 1 1 0 ((lst f.code).length + 1)) (HH f (List.replicate ((lst f.code).length + 1) false) D0 D0 D0 D0 D0) := by
    simp [q5_42, q5_41, mkSC, hw, b1, b2, b3, b4, HH]
  rw [e42]
  have l1 : ∀ (a : List Bool) (o2 o3 o4 o5 o6 : AO), evLd false 1 (.lp 0 1 0 3) (HH f a o2 o3 o4 o5 o6) = some (slA f.code) := fun a o2 o3 o4 o5 o6 => by simp
  by_cases h0 : 0 < (lst f.code).length
  · have h0' : (0 : Int) < ((lst f.code).length : Int) := by omega
    have st := stHH f (List.replicate ((lst f.code).length + 1) false) D0 D0 D0 D0 D0 (j := 0) (by simp)
    have ix := ixAt (n := (lst f.code).length + 1) (p := 0) (by omega) (by omega) 1 1 .i64
    simp only [q5_40, evFa_lp, ob_some, l1, evLen_sl, evBin_gtr, h0', decide_true, cnd_t, ix, Int.toNat_zero, st, oh_some, hA0, h0, if_true, Nat.zero_add]
  · have h0' : ¬ (0 : Int) < ((lst f.code).length : Int) := by omega
    simp only [q5_40, evFa_lp, ob_some, l1, evLen_sl, evBin_gtr, h0', decide_false, cnd_f, hA0, h0, if_false, Nat.zero_add]
end Go.Vm
namespace Go.Vm
open Cel
theorem app_ins {H : Heap} {fb j g : Nat} {o : AO} {y : AV} {L : List Ins} {x : Ins} (hy : rowsOf H 9 y = some [enc x]) (h : H[fb + j]? = some (slotO g o L)) (hs : L.length ≤ 2 ^ 38) :
    ∃ g', evApp fb (some j) 9 96 (slotV Ins (fb + j) g L) y H = some (slotV Ins (fb + j) g' (L ++ [x]), H.set (fb + j) (slotO g' o (L ++ [x]))) := by
  have e : (2:Nat)^38 = 274877906944 := by decide
  refine app_slot (α := Ins) (M := [x]) hy h ?_
  have : (2 * (L.length + [x].length) + 512) * 96 ≤ (2 * (274877906944 + 1) + 512) * 96 := Nat.mul_le_mul_right 96 (by simp only [List.length_singleton]; omega)
  exact Nat.le_trans this (by decide)
theorem app_row {H : Heap} {fb j g : Nat} {o : AO} {y : AV} {L : List Row} {x : Row} (hy : rowsOf H 4 y = some [enc x]) (h : H[fb + j]? = some (slotO g o L)) (hs : L.length ≤ 2 ^ 38) :
    ∃ g', evApp fb (some j) 4 40 (slotV Row (fb + j) g L) y H = some (slotV Row (fb + j) g' (L ++ [x]), H.set (fb + j) (slotO g' o (L ++ [x]))) := by
  have e : (2:Nat)^38 = 274877906944 := by decide
  refine app_slot (α := Row) (M := [x]) hy h ?_
  have : (2 * (L.length + [x].length) + 512) * 40 ≤ (2 * (274877906944 + 1) + 512) * 40 := Nat.mul_le_mul_right 40 (by simp only [List.length_singleton]; omega)
  exact Nat.le_trans this (by decide)
section
variable (f : Fn) (w : Wf f)
include w
theorem Trim_nops (o1 o4 o5 o6 o7 o8 o9 o10 o11 : AO) : ∀ (d i : Nat) (o3 : AO), i + d = (lst f.code).length →
    ∃ o3', q9_L35 (.lp 0 1 0 0) (.lp 1 1 0 0) (.ls 2 1 1 0 (lst f.code).length) (slA f.code) (.int .i64 (lst f.code).length) (.int .i64 i) [AB f, o1, AL 1 (kpL f i), o3, o4, o5, o6, o7, o8, o9, o10, o11] =
      q9_34 (.lp 0 1 0 0) (.lp 1 1 0 0) (.ls 2 1 1 0 (lst f.code).length) [AB f, o1, AL 1 (kpL f (lst f.code).length), o3', o4, o5, o6, o7, o8, o9, o10, o11] := by
  have hl := w.n2
  intro d
  induction d with
  | zero =>
    intro i o3 hi
    have hn : ¬ ((i : Int) < ((lst f.code).length : Int)) := by omega
    have hi' : i = (lst f.code).length := by omega
    rw [q9_L35_go]
    exact ⟨o3, by simp [q9_39, q9_38, hi']⟩
  | succ d ih =>
    intro i o3 hi
    have hlt : i < (lst f.code).length := by omega
    have hc : ((i : Int) < ((lst f.code).length : Int)) := by omega
    have k1 := ixs_ins (o := f.code) (i := i) (insAt_lt hlt) .i64
    have hw := wrap_up hlt (by omega)
    have ix := ixAt (n := (lst f.code).length) (p := (i : Int)) (by omega) hc 2 1 .i64
    rw [show ((i : Int)).toNat = i by omega] at ix
    obtain ⟨o3', ih⟩ := ih (i + 1) ⟨o3.gen + 1, .arr true false 9 [enc (insAt f i)]⟩ (by omega)
    push_cast at ih
    refine ⟨o3', ?_⟩
    rw [q9_L35_go, ← ih]
    by_cases hop : (insAt f i).op = 33
    · have st := evSt_at (H := [AB f, o1, AL 1 (kpL f i), AX (o3.gen + 1) (insAt f i), o4, o5, o6, o7, o8, o9, o10, o11]) (α := Bool) (id := 2) (g := 1) (i := i) (L := kpL f i) (v := .bool false) (y := false) rfl (by rw [kpL_len]; exact hlt) rfl
      rw [kpL_nop hop] at st
      simp only [es_bool, List.set_cons_zero, List.set_cons_succ] at st
      have e : q9_39 (.lp 0 1 0 0) (.lp 1 1 0 0) (.ls 2 1 1 0 (lst f.code).length) (slA f.code) (.int .i64 (lst f.code).length) (.int .i64 i) [AB f, o1, AL 1 (kpL f i), o3, o4, o5, o6, o7, o8, o9, o10, o11] =
          ob (evIxs 1 (.ls 2 1 1 0 (lst f.code).length) (.int .i64 i)) fun v35 => oh (evSt 1 v35 (.bool false) [AB f, o1, AL 1 (kpL f i), AX (o3.gen + 1) (insAt f i), o4, o5, o6, o7, o8, o9, o10, o11]) fun _ h22 =>
            q9_36 (.lp 0 1 0 0) (.lp 1 1 0 0) (.ls 2 1 1 0 (lst f.code).length) (slA f.code) (.int .i64 (lst f.code).length) (.int .i64 i) h22 := by
        simp [q9_39, q9_38, q9_37, hc, k1, hop]
      rw [e, ix, ob_some, st, oh_some]
      simp only [q9_36, evBin_add, ob_some, hw]
    · rw [kpL_op hop]
      simp [q9_39, q9_38, q9_37, q9_36, hc, k1, hop, hw]
theorem Trim_place (o1 o3 o5 o6 o7 o8 o9 o10 o11 : AO) : ∀ (d i : Nat), i + d = (lst f.code).length →
    q9_L25 (.lp 0 1 0 0) (.lp 1 1 0 0) (.ls 2 1 1 0 (lst f.code).length) (.ls 4 1 1 0 ((lst f.code).length + 1)) (.int .i64 (plc f i)) (.int .i64 (lst f.code).length) (.int .i64 i)
        [AB f, o1, AL 1 (kpL f (lst f.code).length), o3, AI 1 (plcL f i), o5, o6, o7, o8, o9, o10, o11] =
      q9_23 (.lp 0 1 0 0) (.lp 1 1 0 0) (.ls 2 1 1 0 (lst f.code).length) (.ls 4 1 1 0 ((lst f.code).length + 1)) [AB f, o1, AL 1 (kpL f (lst f.code).length), o3, AI 1 (plcL f ((lst f.code).length + 1)), o5, o6, o7, o8, o9, o10, o11] := by
  have hl := w.n2
  intro d
  induction d with
  | zero =>
    intro i hi
    have hn : ¬ ((i : Int) < ((lst f.code).length : Int)) := by omega
    have hi' : i = (lst f.code).length := by omega
    have st := evSt_at (H := [AB f, o1, AL 1 (kpL f (lst f.code).length), o3, AI 1 (plcL f i), o5, o6, o7, o8, o9, o10, o11]) (α := Int) (id := 4) (g := 1) (i := i) (L := plcL f i) (v := .int .i64 (plc f i)) (y := (plc f i : Int)) rfl (by rw [plcL_len]; omega) rfl
    rw [plcL_set] at st
    simp only [es_int, List.set_cons_zero, List.set_cons_succ] at st
    have ix := ixAt (n := (lst f.code).length + 1) (p := ((lst f.code).length : Int)) (by omega) (by omega) 4 1 .i64
    rw [show (((lst f.code).length : Int)).toNat = i by omega] at ix
    have l0 : ∀ t : Heap, evLd false 1 (.lp 0 1 0 3) (AB f :: t) = some (slA f.code) := fun t => by simp
    rw [q9_L25_go]
    simp only [q9_29, evBin_lss, hn, decide_false, ob_some, q9_28, cnd_f, q9_24, evFa_lp, Nat.zero_add, l0, evLen_sl, ix, st, oh_some]
    rw [hi']
  | succ d ih =>
    intro i hi
    have hlt : i < (lst f.code).length := by omega
    have hc : ((i : Int) < ((lst f.code).length : Int)) := by omega
    have hw := wrap_up hlt (by omega)
    have st := evSt_at (H := [AB f, o1, AL 1 (kpL f (lst f.code).length), o3, AI 1 (plcL f i), o5, o6, o7, o8, o9, o10, o11]) (α := Int) (id := 4) (g := 1) (i := i) (L := plcL f i) (v := .int .i64 (plc f i)) (y := (plc f i : Int)) rfl (by rw [plcL_len]; omega) rfl
    rw [plcL_set] at st
    simp only [es_int, List.set_cons_zero, List.set_cons_succ] at st
    have ix := ixAt (n := (lst f.code).length + 1) (p := (i : Int)) (by omega) (by omega) 4 1 .i64
    have ix2 := ixAt (n := (lst f.code).length) (p := (i : Int)) (by omega) hc 2 1 .i64
    rw [show ((i : Int)).toNat = i by omega] at ix ix2
    have l2 := ld_at (α := Bool) (H := [AB f, o1, AL 1 (kpL f (lst f.code).length), o3, AI 1 (plcL f (i + 1)), o5, o6, o7, o8, o9, o10, o11]) (id := 2) (g := 1) (v := .bool (keepB f i)) rfl (kpL_get hlt) rfl
    have ih := ih (i + 1) (by omega)
    have hle := plc_le f i
    push_cast at ih
    rw [q9_L25_go, ← ih]
    have e : q9_29 (.lp 0 1 0 0) (.lp 1 1 0 0) (.ls 2 1 1 0 (lst f.code).length) (.ls 4 1 1 0 ((lst f.code).length + 1)) (.int .i64 (plc f i)) (.int .i64 (lst f.code).length) (.int .i64 i)
        [AB f, o1, AL 1 (kpL f (lst f.code).length), o3, AI 1 (plcL f i), o5, o6, o7, o8, o9, o10, o11] = cnd (.bool (keepB f i))
          (ob (evBin .add (.int .i64 (plc f i)) (.int .i64 1)) fun v57 => q9_26 (.lp 0 1 0 0) (.lp 1 1 0 0) (.ls 2 1 1 0 (lst f.code).length) (.ls 4 1 1 0 ((lst f.code).length + 1)) v57 (.int .i64 (lst f.code).length) (.int .i64 i) [AB f, o1, AL 1 (kpL f (lst f.code).length), o3, AI 1 (plcL f (i + 1)), o5, o6, o7, o8, o9, o10, o11])
          (q9_26 (.lp 0 1 0 0) (.lp 1 1 0 0) (.ls 2 1 1 0 (lst f.code).length) (.ls 4 1 1 0 ((lst f.code).length + 1)) (.int .i64 (plc f i)) (.int .i64 (lst f.code).length) (.int .i64 i) [AB f, o1, AL 1 (kpL f (lst f.code).length), o3, AI 1 (plcL f (i + 1)), o5, o6, o7, o8, o9, o10, o11]) := by
      simp only [q9_29, evBin_lss, hc, decide_true, ob_some, q9_28, cnd_t, q9_27, ix, st, oh_some, ix2, l2]
    rw [e]
    have hw2 : IntKind.wrap .i64 ((plc f i : Int) + 1) = (plc f i : Int) + 1 := by rw [wrap_i64] <;> omega
    cases hk : keepB f i with
    | true =>
      have hp : plc f (i + 1) = plc f i + 1 := by rw [plc, hk]; rfl
      rw [hp]
      simp only [cnd_t, evBin_add, ob_some, q9_26, hw, hw2]
      push_cast
      rfl
    | false =>
      have hp : plc f (i + 1) = plc f i := by rw [plc, hk]; rfl
      rw [hp]
      simp only [cnd_f, evBin_add, ob_some, q9_26, hw]
abbrev AG (L : List Ins) (gc : Nat) (R : List Row) (gr : Nat) : AO := ⟨1, .arr true false 5 [[slA f.regs, slA f.params, .int .i64 f.ret, slotV Ins 8 gc L, slotV Row 11 gr R]]⟩
theorem Trim_code (o1 o3 o9 o10 o11 : AO) : ∀ (d i gc : Nat) (o6 o7 : AO), i + d = (lst f.code).length →
    ∃ gc' o6' o7', q9_L10 (.lp 0 1 0 0) (.lp 1 1 0 0) (.ls 2 1 1 0 (lst f.code).length) (.ls 4 1 1 0 ((lst f.code).length + 1)) (.lp 5 1 0 0) (slA f.code) (.int .i64 (lst f.code).length) (.int .i64 i)
        [AB f, o1, AL 1 (kpL f (lst f.code).length), o3, AI 1 (plcL f ((lst f.code).length + 1)), AG f (trimG f i) gc [] 0, o6, o7, slotO gc D0 (trimG f i), o9, o10, o11] =
      q9_8 (.lp 0 1 0 0) (.lp 1 1 0 0) (.ls 2 1 1 0 (lst f.code).length) (.ls 4 1 1 0 ((lst f.code).length + 1)) (.lp 5 1 0 0)
        [AB f, o1, AL 1 (kpL f (lst f.code).length), o3, AI 1 (plcL f ((lst f.code).length + 1)), AG f (trimG f (lst f.code).length) gc' [] 0, o6', o7', slotO gc' D0 (trimG f (lst f.code).length), o9, o10, o11] := by
  have hl := w.n2
  intro d
  induction d with
  | zero =>
    intro i gc o6 o7 hi
    have hi' : i = (lst f.code).length := by omega
    have hn : ¬ ((i : Int) < ((lst f.code).length : Int)) := by omega
    refine ⟨gc, o6, o7, ?_⟩
    rw [q9_L10_go]
    simp only [q9_19, evBin_lss, hn, decide_false, ob_some, q9_18, cnd_f]
    rw [hi']
  | succ d ih =>
    intro i gc o6 o7 hi
    have hlt : i < (lst f.code).length := by omega
    have hc : ((i : Int) < ((lst f.code).length : Int)) := by omega
    have k1 := ixs_ins (o := f.code) (i := i) (insAt_lt hlt) .i64
    have hw := wrap_up hlt (by omega)
    have hle := plc_le f i
    have hgl := trimG_len f i
    have hld := fun h => w.leads hlt h
    rw [q9_L10_go]
    have ix2 := ixAt (n := (lst f.code).length) (p := (i : Int)) (by omega) hc 2 1 .i64
    rw [show ((i : Int)).toNat = i by omega] at ix2
    have lK : ∀ (a b c d e g h k l : AO), evLd false 1 (.lp 2 1 i 0) [AB f, o1, AL 1 (kpL f (lst f.code).length), a, b, c, d, e, g, h, k, l] = some (.bool (keepB f i)) := fun a b c d e g h k l =>
      ld_at (α := Bool) (id := 2) (g := 1) (v := .bool (keepB f i)) rfl (kpL_get hlt) rfl
    have e19 : q9_19 (.lp 0 1 0 0) (.lp 1 1 0 0) (.ls 2 1 1 0 (lst f.code).length) (.ls 4 1 1 0 ((lst f.code).length + 1)) (.lp 5 1 0 0) (slA f.code) (.int .i64 (lst f.code).length) (.int .i64 i)
        [AB f, o1, AL 1 (kpL f (lst f.code).length), o3, AI 1 (plcL f ((lst f.code).length + 1)), AG f (trimG f i) gc [] 0, o6, o7, slotO gc D0 (trimG f i), o9, o10, o11] =
        q9_14 (.lp 0 1 0 0) (.lp 1 1 0 0) (.ls 2 1 1 0 (lst f.code).length) (.ls 4 1 1 0 ((lst f.code).length + 1)) (.lp 5 1 0 0) (.int .i64 i) (.lp 6 (o6.gen + 1) 0 0) (slA f.code) (.int .i64 (lst f.code).length) (.int .i64 i)
        [AB f, o1, AL 1 (kpL f (lst f.code).length), o3, AI 1 (plcL f ((lst f.code).length + 1)), AG f (trimG f i) gc [] 0, AX (o6.gen + 1) (insAt f i), o7, slotO gc D0 (trimG f i), o9, o10, o11] := by
      simp [q9_19, q9_18, q9_15, hc, k1]
    rw [e19]
    generalize hx : insAt f i = x at *
    generalize o6.gen + 1 = g6 at *
    cases hk : keepB f i with
    | false =>
      rw [hk] at lK
      obtain ⟨gc', o6', o7', ih⟩ := ih (i + 1) gc (AX g6 x) o7 (by omega)
      refine ⟨gc', o6', o7', ?_⟩
      rw [← ih, trimG, hk]
      simp only [Bool.false_eq_true, if_false, List.append_nil, q9_14, ix2, ob_some, lK, evUn_not, Bool.not_false, cnd_t, q9_11, evBin_add, hw]
      push_cast
      rfl
    | true =>
      rw [hk] at lK
      have e14 : q9_14 (.lp 0 1 0 0) (.lp 1 1 0 0) (.ls 2 1 1 0 (lst f.code).length) (.ls 4 1 1 0 ((lst f.code).length + 1)) (.lp 5 1 0 0) (.int .i64 i) (.lp 6 g6 0 0) (slA f.code) (.int .i64 (lst f.code).length) (.int .i64 i)
          [AB f, o1, AL 1 (kpL f (lst f.code).length), o3, AI 1 (plcL f ((lst f.code).length + 1)), AG f (trimG f i) gc [] 0, AX g6 x, o7, slotO gc D0 (trimG f i), o9, o10, o11] =
          q9_13 (.lp 0 1 0 0) (.lp 1 1 0 0) (.ls 2 1 1 0 (lst f.code).length) (.ls 4 1 1 0 ((lst f.code).length + 1)) (.lp 5 1 0 0) (.lp 6 g6 0 0) (slA f.code) (.int .i64 (lst f.code).length) (.int .i64 i)
          [AB f, o1, AL 1 (kpL f (lst f.code).length), o3, AI 1 (plcL f ((lst f.code).length + 1)), AG f (trimG f i) gc [] 0, AX g6 x, o7, slotO gc D0 (trimG f i), o9, o10, o11] := by
        simp only [q9_14, ix2, ob_some, lK, evUn_not, Bool.not_true, cnd_f]
      have cL : ∀ h : Heap, callAny E (callW E) 0 none true 22 [.agg (enc x)] h = some (.bool (leads x.op), h) := fun h => by simp [callAny, callP, heapOf_nil]
      have e13 : q9_13 (.lp 0 1 0 0) (.lp 1 1 0 0) (.ls 2 1 1 0 (lst f.code).length) (.ls 4 1 1 0 ((lst f.code).length + 1)) (.lp 5 1 0 0) (.lp 6 g6 0 0) (slA f.code) (.int .i64 (lst f.code).length) (.int .i64 i)
          [AB f, o1, AL 1 (kpL f (lst f.code).length), o3, AI 1 (plcL f ((lst f.code).length + 1)), AG f (trimG f i) gc [] 0, AX g6 x, o7, slotO gc D0 (trimG f i), o9, o10, o11] =
          q9_12 (.lp 0 1 0 0) (.lp 1 1 0 0) (.ls 2 1 1 0 (lst f.code).length) (.ls 4 1 1 0 ((lst f.code).length + 1)) (.lp 5 1 0 0) (.lp 6 g6 0 0) (slA f.code) (.int .i64 (lst f.code).length) (.int .i64 i)
          [AB f, o1, AL 1 (kpL f (lst f.code).length), o3, AI 1 (plcL f ((lst f.code).length + 1)), AG f (trimG f i) gc [] 0, AX g6 (trimI f x), o7, slotO gc D0 (trimG f i), o9, o10, o11] := by
        have l6 : evLd true 9 (.lp 6 g6 0 0) [AB f, o1, AL 1 (kpL f (lst f.code).length), o3, AI 1 (plcL f ((lst f.code).length + 1)), AG f (trimG f i) gc [] 0, AX g6 x, o7, slotO gc D0 (trimG f i), o9, o10, o11] = some (.agg (enc x)) := by simp
        have l66 : evLd false 1 (.lp 6 g6 0 6) [AB f, o1, AL 1 (kpL f (lst f.code).length), o3, AI 1 (plcL f ((lst f.code).length + 1)), AG f (trimG f i) gc [] 0, AX g6 x, o7, slotO gc D0 (trimG f i), o9, o10, o11] = some (.int .i64 x.t) := by simp
        have st6 : ∀ n : Int, evSt 1 (.lp 6 g6 0 6) (.int .i64 n) [AB f, o1, AL 1 (kpL f (lst f.code).length), o3, AI 1 (plcL f ((lst f.code).length + 1)), AG f (trimG f i) gc [] 0, AX g6 x, o7, slotO gc D0 (trimG f i), o9, o10, o11] =
            some (.tup [], [AB f, o1, AL 1 (kpL f (lst f.code).length), o3, AI 1 (plcL f ((lst f.code).length + 1)), AG f (trimG f i) gc [] 0, AX g6 { x with t := n }, o7, slotO gc D0 (trimG f i), o9, o10, o11]) := fun n => by simp [evSt_lp]
        cases hd : leads x.op with
        | true =>
          obtain ⟨t0, t1⟩ := hld hd
          have ixt := ixAt (n := (lst f.code).length + 1) t0 (by omega) 4 1 .i64
          have lp := ld_at (α := Int) (H := [AB f, o1, AL 1 (kpL f (lst f.code).length), o3, AI 1 (plcL f ((lst f.code).length + 1)), AG f (trimG f i) gc [] 0, AX g6 x, o7, slotO gc D0 (trimG f i), o9, o10, o11]) (id := 4) (g := 1) (v := .int .i64 (plc f x.t.toNat)) rfl (plcL_get (f := f) (j := x.t.toNat) (by omega)) rfl
          simp only [q9_13, l6, ob_some, cL, oh_some, hd, cnd_t, evFa_lp, Nat.zero_add, l66, ixt, lp, st6, trimI, if_true]
        | false =>
          simp only [q9_13, l6, ob_some, cL, oh_some, hd, cnd_f, evFa_lp, Nat.zero_add, st6, trimI, Bool.false_eq_true, if_false]
      have hlen : (trimG f i).length ≤ 2 ^ 38 := by
        have e : (2:Nat)^38 = 274877906944 := by decide
        omega
      obtain ⟨gc2, ha⟩ := app_ins (H := [AB f, o1, AL 1 (kpL f (lst f.code).length), o3, AI 1 (plcL f ((lst f.code).length + 1)), AG f (trimG f i) gc [] 0, AX g6 (trimI f x), ⟨o7.gen + 1, .arr false false 9 [enc (trimI f x)]⟩, slotO gc D0 (trimG f i), o9, o10, o11]) (fb := 0) (j := 8) (g := gc) (o := D0) (y := .ls 7 (o7.gen + 1) 9 0 1) (L := trimG f i) (x := trimI f x) (by simp) rfl hlen
      have ha' : evApp 0 (some 8) 9 96 (slotV Ins 8 gc (trimG f i)) (.ls 7 (o7.gen + 1) 9 0 1) [AB f, o1, AL 1 (kpL f (lst f.code).length), o3, AI 1 (plcL f ((lst f.code).length + 1)), AG f (trimG f i) gc [] 0, AX g6 (trimI f x), ⟨o7.gen + 1, .arr false false 9 [enc (trimI f x)]⟩, slotO gc D0 (trimG f i), o9, o10, o11] =
          some (slotV Ins 8 gc2 (trimG f i ++ [trimI f x]), [AB f, o1, AL 1 (kpL f (lst f.code).length), o3, AI 1 (plcL f ((lst f.code).length + 1)), AG f (trimG f i) gc [] 0, AX g6 (trimI f x), ⟨o7.gen + 1, .arr false false 9 [enc (trimI f x)]⟩, slotO gc2 D0 (trimG f i ++ [trimI f x]), o9, o10, o11]) := ha
      obtain ⟨gc', o6', o7', ih⟩ := ih (i + 1) gc2 (AX g6 (trimI f x)) ⟨o7.gen + 1, .arr false false 9 [enc (trimI f x)]⟩ (by omega)
      refine ⟨gc', o6', o7', ?_⟩
      have hG : trimG f (i + 1) = trimG f i ++ [trimI f x] := by rw [trimG, hk, hx]; rfl
      rw [hG] at ih
      rw [← ih, e14, e13]
      have l53 : ∀ (a b c : AO), evLd false 1 (.lp 5 1 0 3) [AB f, o1, AL 1 (kpL f (lst f.code).length), o3, AI 1 (plcL f ((lst f.code).length + 1)), AG f (trimG f i) gc [] 0, a, b, c, o9, o10, o11] = some (slotV Ins 8 gc (trimG f i)) := fun a b c => by simp
      have l6 : ∀ (b c : AO), evLd true 9 (.lp 6 g6 0 0) [AB f, o1, AL 1 (kpL f (lst f.code).length), o3, AI 1 (plcL f ((lst f.code).length + 1)), AG f (trimG f i) gc [] 0, AX g6 (trimI f x), b, c, o9, o10, o11] = some (.agg (enc (trimI f x))) := fun b c => by simp
      have bs : buildSC 0 (some 7) 9 1 [.int .i64 0, .int .i64 0, .int .i64 0, .int .i64 0, .int .i64 0, .int .i64 0, .int .i64 0, .str [], .nils] [(0, .agg (enc (trimI f x)))] [AB f, o1, AL 1 (kpL f (lst f.code).length), o3, AI 1 (plcL f ((lst f.code).length + 1)), AG f (trimG f i) gc [] 0, AX g6 (trimI f x), o7, slotO gc D0 (trimG f i), o9, o10, o11] =
          some (.ls 7 (o7.gen + 1) 9 0 1, [AB f, o1, AL 1 (kpL f (lst f.code).length), o3, AI 1 (plcL f ((lst f.code).length + 1)), AG f (trimG f i) gc [] 0, AX g6 (trimI f x), ⟨o7.gen + 1, .arr false false 9 [enc (trimI f x)]⟩, slotO gc D0 (trimG f i), o9, o10, o11]) := by
        simp [buildSC, fillRows]
      have st5 : ∀ (a b c : AO), evSt 1 (.lp 5 1 0 3) (slotV Ins 8 gc2 (trimG f i ++ [trimI f x])) [AB f, o1, AL 1 (kpL f (lst f.code).length), o3, AI 1 (plcL f ((lst f.code).length + 1)), AG f (trimG f i) gc [] 0, a, b, c, o9, o10, o11] =
          some (.tup [], [AB f, o1, AL 1 (kpL f (lst f.code).length), o3, AI 1 (plcL f ((lst f.code).length + 1)), AG f (trimG f i ++ [trimI f x]) gc2 [] 0, a, b, c, o9, o10, o11]) := fun a b c => by simp [evSt_lp, spliceAt]
      simp only [q9_12, evFa_lp, Nat.zero_add, ob_some, l53, l6, bs, oh_some, ha', st5, q9_11, evBin_add, hw]
      push_cast
      rfl
theorem Trim_rows (L : List Ins) (gc : Nat) (o1 o3 o6 o7 o8 : AO) (hrl : (lst f.rows).length ≤ 2 ^ 38) : ∀ (d k gr : Nat) (o9 o10 : AO), k + d = (lst f.rows).length →
    ∃ gr' o9' o10', q9_L2 (.lp 1 1 0 0) (.ls 2 1 1 0 (lst f.code).length) (.ls 4 1 1 0 ((lst f.code).length + 1)) (.lp 5 1 0 0) (slA f.rows) (.int .i64 (lst f.rows).length) (.int .i64 k)
        [AB f, o1, AL 1 (kpL f (lst f.code).length), o3, AI 1 (plcL f ((lst f.code).length + 1)), AG f L gc (trimR f k) gr, o6, o7, o8, o9, o10, slotO gr D0 (trimR f k)] =
      q9_1 (.lp 1 1 0 0) (.lp 5 1 0 0)
        [AB f, o1, AL 1 (kpL f (lst f.code).length), o3, AI 1 (plcL f ((lst f.code).length + 1)), AG f L gc (trimR f (lst f.rows).length) gr', o6, o7, o8, o9', o10', slotO gr' D0 (trimR f (lst f.rows).length)] := by
  have e38 : (2:Nat)^38 = 274877906944 := by decide
  have hl := w.n2
  intro d
  induction d with
  | zero =>
    intro k gr o9 o10 hk
    have hk' : k = (lst f.rows).length := by omega
    have hn : ¬ ((k : Int) < ((lst f.rows).length : Int)) := by omega
    refine ⟨gr, o9, o10, ?_⟩
    rw [q9_L2_go]
    simp only [q9_6, evBin_lss, hn, decide_false, ob_some, q9_5, cnd_f]
    rw [hk']
  | succ d ih =>
    intro k gr o9 o10 hk
    have hlt : k < (lst f.rows).length := by omega
    have hc : ((k : Int) < ((lst f.rows).length : Int)) := by omega
    have hw := wrap_up hlt (by omega)
    have hgr := trimR_len f k
    obtain ⟨r, hr⟩ : ∃ r, (lst f.rows)[k]? = some r := ⟨_, List.getElem?_eq_getElem hlt⟩
    have hin := w.row (List.mem_of_getElem? hr)
    have k1 := ixs_row (o := f.rows) hr .i64
    have hsucc := trimR_succ hr
    rw [q9_L2_go]
    have ixA := ixAt (n := (lst f.code).length) hin.a0 hin.an 2 1 .i64
    have ixF := ixAt (n := (lst f.code).length + 1) hin.f0 (by have := hin.ft; have := hin.tn; omega) 4 1 .i64
    have ixT := ixAt (n := (lst f.code).length + 1) (p := r.t) (by have := hin.ft; have := hin.f0; omega) (by have := hin.tn; omega) 4 1 .i64
    have ixQ := ixAt (n := (lst f.code).length + 1) hin.a0 (by have := hin.an; omega) 4 1 .i64
    generalize hg9 : o9.gen + 1 = g9 at *
    have AR : ∀ (g : Nat) (L' : List Row) (b c : AO), evLd false 1 (.lp 2 1 r.at_.toNat 0) [AB f, o1, AL 1 (kpL f (lst f.code).length), o3, AI 1 (plcL f ((lst f.code).length + 1)), AG f L gc L' g, o6, o7, o8, ⟨g9, .arr true false 4 [enc r]⟩, b, c] = some (.bool (keepB f r.at_.toNat)) := fun g L' b c =>
      ld_at (α := Bool) (id := 2) (g := 1) (v := .bool (keepB f r.at_.toNat)) rfl (kpL_get (by have := hin.an; have := hin.a0; omega)) rfl
    have PL : ∀ (p : Nat) (g : Nat) (L' : List Row) (b c : AO), p ≤ (lst f.code).length → evLd false 1 (.lp 4 1 p 0) [AB f, o1, AL 1 (kpL f (lst f.code).length), o3, AI 1 (plcL f ((lst f.code).length + 1)), AG f L gc L' g, o6, o7, o8, ⟨g9, .arr true false 4 [enc r]⟩, b, c] = some (.int .i64 (plc f p)) := fun p g L' b c hp =>
      ld_at (α := Int) (id := 4) (g := 1) (v := .int .i64 (plc f p)) rfl (plcL_get hp) rfl
    have pF := fun g L' b c => PL r.f.toNat g L' b c (by have := hin.ft; have := hin.tn; omega)
    have pT := fun g L' b c => PL r.t.toNat g L' b c (by have := hin.tn; omega)
    have pA := fun g L' b c => PL r.at_.toNat g L' b c (by have := hin.an; omega)
    have lb : ∀ (j : Nat) (g : Nat) (L' : List Row) (b c : AO), evLd false 1 (.lp 9 g9 0 j) [AB f, o1, AL 1 (kpL f (lst f.code).length), o3, AI 1 (plcL f ((lst f.code).length + 1)), AG f L gc L' g, o6, o7, o8, ⟨g9, .arr true false 4 [enc r]⟩, b, c] = ((enc r).drop j).head? := fun j g L' b c => by simp
    have d0 : ((enc r).drop 0).head? = some (.int .i64 r.f) := rfl
    have d1 : ((enc r).drop 1).head? = some (.int .i64 r.t) := rfl
    have d2 : ((enc r).drop 2).head? = some (.int .i64 r.at_) := rfl
    have d3 : ((enc r).drop 3).head? = some (.str r.c) := rfl
    have e6 : q9_6 (.lp 1 1 0 0) (.ls 2 1 1 0 (lst f.code).length) (.ls 4 1 1 0 ((lst f.code).length + 1)) (.lp 5 1 0 0) (slA f.rows) (.int .i64 (lst f.rows).length) (.int .i64 k)
        [AB f, o1, AL 1 (kpL f (lst f.code).length), o3, AI 1 (plcL f ((lst f.code).length + 1)), AG f L gc (trimR f k) gr, o6, o7, o8, o9, o10, slotO gr D0 (trimR f k)] =
      q9_4 (.lp 1 1 0 0) (.ls 2 1 1 0 (lst f.code).length) (.ls 4 1 1 0 ((lst f.code).length + 1)) (.lp 5 1 0 0) (slA f.rows) (.int .i64 (lst f.rows).length) (.int .i64 k)
        [AB f, o1, AL 1 (kpL f (lst f.code).length), o3, AI 1 (plcL f ((lst f.code).length + 1)), AG f L gc (trimR f k) gr, o6, o7, o8, o9, o10, slotO gr D0 (trimR f k)] := by
      simp only [q9_6, evBin_lss, hc, decide_true, ob_some, q9_5, cnd_t]
    have lr : ∀ t : Heap, evLd true 4 (.rp (enc r)) t = some (.agg (enc r)) := fun t => by simp
    have nc : newC 0 (some 9) [.int .i64 0, .int .i64 0, .int .i64 0, .str []] [AB f, o1, AL 1 (kpL f (lst f.code).length), o3, AI 1 (plcL f ((lst f.code).length + 1)), AG f L gc (trimR f k) gr, o6, o7, o8, o9, o10, slotO gr D0 (trimR f k)] =
        some (.lp 9 g9 0 0, [AB f, o1, AL 1 (kpL f (lst f.code).length), o3, AI 1 (plcL f ((lst f.code).length + 1)), AG f L gc (trimR f k) gr, o6, o7, o8, ⟨g9, .arr true false 4 [[.int .i64 0, .int .i64 0, .int .i64 0, .str []]]⟩, o10, slotO gr D0 (trimR f k)]) := by
      simp [newC, newBox, place, hg9]
    have s9 : evSt 4 (.lp 9 g9 0 0) (.agg (enc r)) [AB f, o1, AL 1 (kpL f (lst f.code).length), o3, AI 1 (plcL f ((lst f.code).length + 1)), AG f L gc (trimR f k) gr, o6, o7, o8, ⟨g9, .arr true false 4 [[.int .i64 0, .int .i64 0, .int .i64 0, .str []]]⟩, o10, slotO gr D0 (trimR f k)] =
        some (.tup [], [AB f, o1, AL 1 (kpL f (lst f.code).length), o3, AI 1 (plcL f ((lst f.code).length + 1)), AG f L gc (trimR f k) gr, o6, o7, o8, ⟨g9, .arr true false 4 [enc r]⟩, o10, slotO gr D0 (trimR f k)]) := by
      simp [evSt_lp]
    rw [e6]
    by_cases hb : keepB f r.at_.toNat = true ∧ plc f r.f.toNat < plc f r.t.toNat
    · have hT : trimW f r = [⟨plc f r.f.toNat, plc f r.t.toNat, plc f r.at_.toNat, r.c⟩] := by rw [trimW, hb.1]; simp [hb.2]
      rw [hT] at hsucc
      generalize hnr : (⟨plc f r.f.toNat, plc f r.t.toNat, plc f r.at_.toNat, r.c⟩ : Row) = nr at *
      have hlt2 : ((plc f r.f.toNat : Nat) : Int) < ((plc f r.t.toNat : Nat) : Int) := by have := hb.2; omega
      obtain ⟨gr2, ha⟩ := app_row (H := [AB f, o1, AL 1 (kpL f (lst f.code).length), o3, AI 1 (plcL f ((lst f.code).length + 1)), AG f L gc (trimR f k) gr, o6, o7, o8, ⟨g9, .arr true false 4 [enc r]⟩, ⟨o10.gen + 1, .arr false false 4 [enc nr]⟩, slotO gr D0 (trimR f k)]) (fb := 0) (j := 11) (g := gr) (o := D0) (y := .ls 10 (o10.gen + 1) 4 0 1) (L := trimR f k) (x := nr) (by simp) rfl (by omega)
      have ha' : evApp 0 (some 11) 4 40 (slotV Row 11 gr (trimR f k)) (.ls 10 (o10.gen + 1) 4 0 1) [AB f, o1, AL 1 (kpL f (lst f.code).length), o3, AI 1 (plcL f ((lst f.code).length + 1)), AG f L gc (trimR f k) gr, o6, o7, o8, ⟨g9, .arr true false 4 [enc r]⟩, ⟨o10.gen + 1, .arr false false 4 [enc nr]⟩, slotO gr D0 (trimR f k)] =
          some (slotV Row 11 gr2 (trimR f k ++ [nr]), [AB f, o1, AL 1 (kpL f (lst f.code).length), o3, AI 1 (plcL f ((lst f.code).length + 1)), AG f L gc (trimR f k) gr, o6, o7, o8, ⟨g9, .arr true false 4 [enc r]⟩, ⟨o10.gen + 1, .arr false false 4 [enc nr]⟩, slotO gr2 D0 (trimR f k ++ [nr])]) := ha
      obtain ⟨gr', o9', o10', ih⟩ := ih (k + 1) gr2 ⟨g9, .arr true false 4 [enc r]⟩ ⟨o10.gen + 1, .arr false false 4 [enc nr]⟩ (by omega)
      refine ⟨gr', o9', o10', ?_⟩
      rw [← ih, hsucc]
      have l54 : ∀ (b c : AO), evLd false 1 (.lp 5 1 0 4) [AB f, o1, AL 1 (kpL f (lst f.code).length), o3, AI 1 (plcL f ((lst f.code).length + 1)), AG f L gc (trimR f k) gr, o6, o7, o8, ⟨g9, .arr true false 4 [enc r]⟩, b, c] = some (slotV Row 11 gr (trimR f k)) := fun b c => by simp
      have bd : evBuild [.int .i64 0, .int .i64 0, .int .i64 0, .str []] [(0, 1, .int .i64 (plc f r.f.toNat)), (1, 1, .int .i64 (plc f r.t.toNat)), (2, 1, .int .i64 (plc f r.at_.toNat)), (3, 1, .str r.c)] = some (.agg (enc nr)) := by
        rw [← hnr]; simp [evBuild, fillParts, known, spliceAt, enc_row]
      have bs : buildSC 0 (some 10) 4 1 [.int .i64 0, .int .i64 0, .int .i64 0, .str []] [(0, .agg (enc nr))] [AB f, o1, AL 1 (kpL f (lst f.code).length), o3, AI 1 (plcL f ((lst f.code).length + 1)), AG f L gc (trimR f k) gr, o6, o7, o8, ⟨g9, .arr true false 4 [enc r]⟩, o10, slotO gr D0 (trimR f k)] =
          some (.ls 10 (o10.gen + 1) 4 0 1, [AB f, o1, AL 1 (kpL f (lst f.code).length), o3, AI 1 (plcL f ((lst f.code).length + 1)), AG f L gc (trimR f k) gr, o6, o7, o8, ⟨g9, .arr true false 4 [enc r]⟩, ⟨o10.gen + 1, .arr false false 4 [enc nr]⟩, slotO gr D0 (trimR f k)]) := by
        simp [buildSC, fillRows]
      have s5 : ∀ (b c : AO), evSt 1 (.lp 5 1 0 4) (slotV Row 11 gr2 (trimR f k ++ [nr])) [AB f, o1, AL 1 (kpL f (lst f.code).length), o3, AI 1 (plcL f ((lst f.code).length + 1)), AG f L gc (trimR f k) gr, o6, o7, o8, ⟨g9, .arr true false 4 [enc r]⟩, b, c] =
          some (.tup [], [AB f, o1, AL 1 (kpL f (lst f.code).length), o3, AI 1 (plcL f ((lst f.code).length + 1)), AG f L gc (trimR f k ++ [nr]) gr2, o6, o7, o8, ⟨g9, .arr true false 4 [enc r]⟩, b, c]) := fun b c => by simp [evSt_lp, spliceAt]
      have hp : pairsOk [([], []), (ids1 (.lp 5 1 0 4), []), ([], []), ([], []), (ids1 (.lp 9 g9 0 0), []), ([], []), (ids1 (.lp 4 1 r.f.toNat 0), []), ([], []), ([], []), (ids1 (.lp 9 g9 0 1), []), ([], []), (ids1 (.lp 4 1 r.t.toNat 0), []), ([], []), ([], []), (ids1 (.lp 9 g9 0 2), []), ([], []), (ids1 (.lp 4 1 r.at_.toNat 0), []), ([], []), (ids1 (.lp 9 g9 0 3), []), ([], []), ([], [10]),
          (ids1 (.ls 10 (o10.gen + 1) 4 0 1), ids1 (slotV Row 11 gr (trimR f k)) ++ [11]), ([], []), ([], ids1 (.lp 5 1 0 4))] [(1, 20)] = true := by simp [pairsOk, fpApart, meets]
      simp only [q9_4, k1, ob_some, lr, nc, oh_some, s9, evFa_lp, Nat.zero_add, lb, d0, d1, d2, d3, ixA, AR, hb.1, gb_tt, ixF, pF, ixT, pT, evBin_lss, hlt2, decide_true, evPick_t, cnd_t, l54, ixQ, pA, bd, bs, ha', s5, hp, okK_t, q9_3, evBin_add, hw]
      push_cast
      rfl
    · have hT : trimW f r = [] := by
        rw [trimW]
        cases hk2 : keepB f r.at_.toNat with
        | false => rfl
        | true =>
          have : ¬ plc f r.f.toNat < plc f r.t.toNat := fun h => hb ⟨hk2, h⟩
          simp [this]
      rw [hT, List.append_nil] at hsucc
      obtain ⟨gr', o9', o10', ih⟩ := ih (k + 1) gr ⟨g9, .arr true false 4 [enc r]⟩ o10 (by omega)
      refine ⟨gr', o9', o10', ?_⟩
      rw [← ih, hsucc]
      cases hk2 : keepB f r.at_.toNat with
      | false =>
        simp only [q9_4, k1, ob_some, lr, nc, oh_some, s9, evFa_lp, Nat.zero_add, lb, d0, d1, d2, d3, ixA, AR, hk2, gb_ft, gb_tup, evPick_f, cnd_f, q9_3, evBin_add, hw]
        push_cast
        rfl
      | true =>
        have hlt2 : ¬ ((plc f r.f.toNat : Nat) : Int) < ((plc f r.t.toNat : Nat) : Int) := by
          have : ¬ plc f r.f.toNat < plc f r.t.toNat := fun h => hb ⟨hk2, h⟩
          omega
        simp only [q9_4, k1, ob_some, lr, nc, oh_some, s9, evFa_lp, Nat.zero_add, lb, d0, d1, d2, d3, ixA, AR, hk2, gb_tt, ixF, pF, ixT, pT, evBin_lss, hlt2, decide_false, evPick_t, cnd_f, q9_3, evBin_add, hw]
        push_cast
        rfl
end
theorem trim_reads (f g : Fn) {H : Heap} {gc gr : Nat} {L : List Ins} {R : List Row} (h8 : H[8]? = some (slotO gc D0 L)) (h11 : H[11]? = some (slotO gr D0 R)) (hg : g = { regs := f.regs, params := f.params, ret := f.ret, code := nz L, rows := nz R }) :
    ∃ r, expo1 H (.agg [slA f.regs, slA f.params, .int .i64 f.ret, slotV Ins 8 gc L, slotV Row 11 gr R]) = some r ∧ Reads r (.agg (enc g)) := by
  have x1 : ∀ os, expo H 11 (slotV Ins 8 gc L) os = some ⟨exV os.length (nz L), os ++ exOs (nz L), L.all scal, ownI 8 (nz L), []⟩ := by
    intro os
    cases L with
    | nil => exact expo_own (α := Ins) (H := H) (j := 8) (g := gc) (k := 10) (d := D0) (o := none) h8 os
    | cons x L => exact expo_own (α := Ins) (H := H) (j := 8) (g := gc) (k := 10) (d := D0) (o := some (x :: L)) h8 os
  have x2 : ∀ os, expo H 11 (slotV Row 11 gr R) os = some ⟨exV os.length (nz R), os ++ exOs (nz R), R.all scal, ownI 11 (nz R), []⟩ := by
    intro os
    cases R with
    | nil => exact expo_own (α := Row) (H := H) (j := 11) (g := gr) (k := 10) (d := D0) (o := none) h11 os
    | cons x R => exact expo_own (α := Row) (H := H) (j := 11) (g := gr) (k := 10) (d := D0) (o := some (x :: R)) h11 os
  rw [expo1_agg]
  simp only [exList, expo_p (pure1_sl f.regs) H 10, expo_p (pure1_sl f.params) H 10, expo_p (show pure1 (.int .i64 f.ret) = true from rfl) H 10, x1, x2, List.nil_append, List.append_nil, List.length_nil]
  have ap : apartIds (ownI 8 (nz L) ++ ownI 11 (nz R)) [] = true := by
    cases L <;> cases R <;> rfl
  rw [if_pos ap]
  refine ⟨_, rfl, ?_⟩
  have h3 := fz_exV (nz L) [] (exOs (nz R)) 9
  have h4 := fz_exV (nz R) (exOs (nz L)) [] 9
  simp only [List.nil_append, List.append_nil, List.length_nil] at h3 h4
  refine ⟨_, (fz_agg_eq _ 11 _).trans (by
    simp only [fzList_cons, fz_p (pure1_sl f.regs) _ 10, fz_p (pure1_sl f.params) _ 10, fz_p (show pure1 (.int .i64 f.ret) = true from rfl) _ 10, h3, h4, fzList_nil]
    rfl), by rw [hg]; rfl⟩
structure FnRd (f : Fn) : Prop where
  fit : FnFit f
  sm : FnSm f
set_option maxHeartbeats 1000000 in
theorem s_Trim (f : Fn) (hf : FnRd f) (hr : (lst f.rows).length ≤ 1000000) : ∃ r, (callW E).p 100 [.agg (enc f)] = some r ∧ Reads r (.agg (enc (trimM f))) := by
  rw [x_q9]
  have hcp := s_Copy f hf.sm
  have hck := s_Check f hf.fit
  have ha : ∀ H : Heap, fzList (fz H fuelF) [.agg (enc f)] = some ⟨[.agg (enc f)], scal f && true, []⟩ := fun H => by
    rw [fzList_cons, fz_enc, fzList_nil]; rfl
  have c1 : ∀ H, callAny E (callW E) 0 none true 13 [.agg (enc f)] H = some (.agg (enc f), H) := fun H => call_reads rfl (ha H) rfl hcp (copy_reads f)
  have c2 : ∀ H, callAny E (callW E) 0 none true 8 [.agg (enc f)] H = some (.int .i64 (if wf f then 0 else 80), H) := fun H => call_reads rfl (ha H) rfl hck ⟨_, rfl, rfl⟩
  have l0 : ∀ t : Heap, evLd true 5 (.lp 0 1 0 0) (AB f :: t) = some (.agg (enc f)) := fun t => by simp
  have s0 : ∀ t : Heap, evSt 5 (.lp 0 1 0 0) (.agg (enc f)) (AB f :: t) = some (.tup [], AB f :: t) := fun t => by simp [evSt_lp]
  have e46 : q9_46 (.agg (enc f)) [D0, D0, D0, D0, D0, D0, D0, D0, D0, D0, D0, D0] = q9_44 (.lp 0 1 0 0) (.lp 1 1 0 0) [AB f, ⟨1, .arr true false 5 [[.nils, .nils, .int .i64 0, .nils, .nils]]⟩, D0, D0, D0, D0, D0, D0, D0, D0, D0, D0] := by
    have n1 : newC 0 (some 0) (cellsOf (.agg (enc f))) [D0, D0, D0, D0, D0, D0, D0, D0, D0, D0, D0, D0] = some (.lp 0 1 0 0, [AB f, D0, D0, D0, D0, D0, D0, D0, D0, D0, D0, D0]) := by simp
    have n2 : newC 0 (some 1) [.nils, .nils, .int .i64 0, .nils, .nils] [AB f, D0, D0, D0, D0, D0, D0, D0, D0, D0, D0, D0] = some (.lp 1 1 0 0, [AB f, ⟨1, .arr true false 5 [[.nils, .nils, .int .i64 0, .nils, .nils]]⟩, D0, D0, D0, D0, D0, D0, D0, D0, D0, D0]) := by simp
    simp only [q9_46, n1, oh_some, n2, q9_45, l0, ob_some, c1, s0]
  rw [e46]
  cases hw : wf f with
  | false =>
    rw [hw] at c2
    have s1 : ∀ (a : AO) (t : Heap), evSt 5 (.lp 1 1 0 0) (.agg (enc f)) (AB f :: ⟨1, .arr true false 5 [[.nils, .nils, .int .i64 0, .nils, .nils]]⟩ :: t) = some (.tup [], AB f :: AB f :: t) := fun a t => by simp [evSt_lp]
    have l1 : ∀ t : Heap, evLd true 5 (.lp 1 1 0 0) (AB f :: AB f :: t) = some (.agg (enc f)) := fun t => by simp
    have hx : trimM f = f := by rw [trimM, hw]; rfl
    rw [hx]
    simp only [q9_44, l0, ob_some, c2, oh_some, Bool.false_eq_true, if_false, evBin_neq, show decide ((80 : Int) ≠ 0) = true from rfl, cnd_t, s1 D0, l1, expo1_enc]
    exact ⟨_, rfl, _, fz_enc f _, rfl⟩
  | true =>
    have w := wf_of hw
    rw [hw] at c2
    have hR := s_Reach f (by have := w.n2; omega) hr
    have hn := w.n2
    have cR := call_own (E := E) (C := callW E) (fb := 0) (j := 2) (f := 101) (N := some (reachL f)) (H := [AB f, ⟨1, .arr true false 5 [[.nils, .nils, .int .i64 0, .nils, .nils]]⟩, D0, D0, D0, D0, D0, D0, D0, D0, D0, D0]) rfl (ha _) hR rfl rfl
    simp only [ownV, ownO, Nat.zero_add, List.set_cons_zero, List.set_cons_succ, es_bool, reachL_len] at cR
    obtain ⟨o3, h35⟩ := Trim_nops f w ⟨1, .arr true false 5 [[.nils, .nils, .int .i64 0, .nils, .nils]]⟩ D0 D0 D0 D0 D0 D0 D0 D0 _ 0 D0 (Nat.zero_add _)
    have h25 := Trim_place f w ⟨1, .arr true false 5 [[.nils, .nils, .int .i64 0, .nils, .nils]]⟩ o3 D0 D0 D0 D0 D0 D0 D0 _ 0 (Nat.zero_add _)
    obtain ⟨gc, o6, o7, h10⟩ := Trim_code f w ⟨1, .arr true false 5 [[.nils, .nils, .int .i64 0, .nils, .nils]]⟩ o3 D0 D0 D0 _ 0 0 D0 D0 (Nat.zero_add _)
    have hr38 : (lst f.rows).length ≤ 2 ^ 38 := by
      have : (2:Nat)^38 = 274877906944 := by decide
      omega
    obtain ⟨gr, o9, o10, h2⟩ := Trim_rows f w (trimG f (lst f.code).length) gc ⟨1, .arr true false 5 [[.nils, .nils, .int .i64 0, .nils, .nils]]⟩ o3 o6 o7 (slotO gc D0 (trimG f (lst f.code).length)) hr38 _ 0 0 D0 D0 (Nat.zero_add _)
    have r0 : trimR f 0 = [] := rfl
    have g0 : trimG f 0 = [] := rfl
    have p0 : plc f 0 = 0 := rfl
    simp only [Int.ofNat_zero, r0, g0, p0, slotV_nil, slotO_nil, kpL_0] at h35 h25 h10 h2
    have lc : ∀ t : Heap, evLd false 1 (.lp 0 1 0 3) (AB f :: t) = some (slA f.code) := fun t => by simp
    have lr : ∀ t : Heap, evLd false 1 (.lp 0 1 0 4) (AB f :: t) = some (slA f.rows) := fun t => by simp
    have la : ∀ t : Heap, evLd false 1 (.lp 0 1 0 0) (AB f :: t) = some (slA f.regs) := fun t => by simp
    have lb : ∀ t : Heap, evLd false 1 (.lp 0 1 0 1) (AB f :: t) = some (slA f.params) := fun t => by simp
    have ld : ∀ t : Heap, evLd false 1 (.lp 0 1 0 2) (AB f :: t) = some (.int .i64 f.ret) := fun t => by simp
    have b1 : ((lst f.code).length : Int) + 1 ≤ 17592186044416 := by omega
    have b2 : ((lst f.code).length : Int) + 1 ≤ 4611686018427387904 := by omega
    have b3 : (0 : Int) ≤ ((lst f.code).length : Int) + 1 := by omega
    have b4 : (((lst f.code).length : Int) + 1).toNat = (lst f.code).length + 1 := by omega
    have b5 : (((lst f.code).length : Int) + 1) * 8 ≤ 140737488355328 := by omega
    have hwr : IntKind.wrap .i64 (((lst f.code).length : Int) + 1) = ((lst f.code).length : Int) + 1 := by rw [wrap_i64] <;> omega
    have mk : mkSC 0 (some 4) 1 8 [.int .i64 0] (.int .i64 (((lst f.code).length : Int) + 1)) (.int .i64 (((lst f.code).length : Int) + 1)) [AB f, ⟨1, .arr true false 5 [[.nils, .nils, .int .i64 0, .nils, .nils]]⟩, AL 1 (kpL f (lst f.code).length), o3, D0, D0, D0, D0, D0, D0, D0, D0] =
        some (.ls 4 1 1 0 ((lst f.code).length + 1), [AB f, ⟨1, .arr true false 5 [[.nils, .nils, .int .i64 0, .nils, .nils]]⟩, AL 1 (kpL f (lst f.code).length), o3, AI 1 (plcL f 0), D0, D0, D0, D0, D0, D0, D0]) := by
      rw [plcL_0]
      simp [mkSC, b2, b3, b4, b5]
    have e34 : q9_34 (.lp 0 1 0 0) (.lp 1 1 0 0) (.ls 2 1 1 0 (lst f.code).length) [AB f, ⟨1, .arr true false 5 [[.nils, .nils, .int .i64 0, .nils, .nils]]⟩, AL 1 (kpL f (lst f.code).length), o3, D0, D0, D0, D0, D0, D0, D0, D0] =
        q9_23 (.lp 0 1 0 0) (.lp 1 1 0 0) (.ls 2 1 1 0 (lst f.code).length) (.ls 4 1 1 0 ((lst f.code).length + 1)) [AB f, ⟨1, .arr true false 5 [[.nils, .nils, .int .i64 0, .nils, .nils]]⟩, AL 1 (kpL f (lst f.code).length), o3, AI 1 (plcL f ((lst f.code).length + 1)), D0, D0, D0, D0, D0, D0, D0] := by
      rw [← h25]
      simp only [q9_34, evFa_lp, Nat.zero_add, ob_some, lc, evLen_sl, evBin_add, hwr, mk, oh_some, q9_33, q9_31]
    have bg : evBuild [.nils, .nils, .int .i64 0, .nils, .nils] [(0, 1, slA f.regs), (1, 1, slA f.params), (2, 1, .int .i64 f.ret)] = some (.agg [slA f.regs, slA f.params, .int .i64 f.ret, .nils, .nils]) := by
      have k1 : known (slA f.regs) = true := by cases f.regs <;> rfl
      have k2 : known (slA f.params) = true := by cases f.params <;> rfl
      have k3 : known (.int .i64 f.ret) = true := rfl
      simp [evBuild, fillParts, k1, k2, k3, spliceAt]
    have e23 : q9_23 (.lp 0 1 0 0) (.lp 1 1 0 0) (.ls 2 1 1 0 (lst f.code).length) (.ls 4 1 1 0 ((lst f.code).length + 1)) [AB f, ⟨1, .arr true false 5 [[.nils, .nils, .int .i64 0, .nils, .nils]]⟩, AL 1 (kpL f (lst f.code).length), o3, AI 1 (plcL f ((lst f.code).length + 1)), D0, D0, D0, D0, D0, D0, D0] =
        q9_8 (.lp 0 1 0 0) (.lp 1 1 0 0) (.ls 2 1 1 0 (lst f.code).length) (.ls 4 1 1 0 ((lst f.code).length + 1)) (.lp 5 1 0 0) [AB f, ⟨1, .arr true false 5 [[.nils, .nils, .int .i64 0, .nils, .nils]]⟩, AL 1 (kpL f (lst f.code).length), o3, AI 1 (plcL f ((lst f.code).length + 1)), AG f (trimG f (lst f.code).length) gc [] 0, o6, o7, slotO gc D0 (trimG f (lst f.code).length), D0, D0, D0] := by
      rw [← h10]
      have n5 : newC 0 (some 5) [.nils, .nils, .int .i64 0, .nils, .nils] [AB f, ⟨1, .arr true false 5 [[.nils, .nils, .int .i64 0, .nils, .nils]]⟩, AL 1 (kpL f (lst f.code).length), o3, AI 1 (plcL f ((lst f.code).length + 1)), D0, D0, D0, D0, D0, D0, D0] =
          some (.lp 5 1 0 0, [AB f, ⟨1, .arr true false 5 [[.nils, .nils, .int .i64 0, .nils, .nils]]⟩, AL 1 (kpL f (lst f.code).length), o3, AI 1 (plcL f ((lst f.code).length + 1)), ⟨1, .arr true false 5 [[.nils, .nils, .int .i64 0, .nils, .nils]]⟩, D0, D0, D0, D0, D0, D0]) := by simp
      have s5 : evSt 5 (.lp 5 1 0 0) (.agg [slA f.regs, slA f.params, .int .i64 f.ret, .nils, .nils]) [AB f, ⟨1, .arr true false 5 [[.nils, .nils, .int .i64 0, .nils, .nils]]⟩, AL 1 (kpL f (lst f.code).length), o3, AI 1 (plcL f ((lst f.code).length + 1)), ⟨1, .arr true false 5 [[.nils, .nils, .int .i64 0, .nils, .nils]]⟩, D0, D0, D0, D0, D0, D0] =
          some (.tup [], [AB f, ⟨1, .arr true false 5 [[.nils, .nils, .int .i64 0, .nils, .nils]]⟩, AL 1 (kpL f (lst f.code).length), o3, AI 1 (plcL f ((lst f.code).length + 1)), AG f [] 0 [] 0, D0, D0, D0, D0, D0, D0]) := by simp [evSt_lp, spliceAt]
      simp only [q9_23, evFa_lp, Nat.zero_add, ob_some, la, lb, ld, bg, n5, oh_some, s5, q9_21, lc, evLen_sl, slotV_nil]
    have e8 : q9_8 (.lp 0 1 0 0) (.lp 1 1 0 0) (.ls 2 1 1 0 (lst f.code).length) (.ls 4 1 1 0 ((lst f.code).length + 1)) (.lp 5 1 0 0) [AB f, ⟨1, .arr true false 5 [[.nils, .nils, .int .i64 0, .nils, .nils]]⟩, AL 1 (kpL f (lst f.code).length), o3, AI 1 (plcL f ((lst f.code).length + 1)), AG f (trimG f (lst f.code).length) gc [] 0, o6, o7, slotO gc D0 (trimG f (lst f.code).length), D0, D0, D0] =
        q9_1 (.lp 1 1 0 0) (.lp 5 1 0 0) [AB f, ⟨1, .arr true false 5 [[.nils, .nils, .int .i64 0, .nils, .nils]]⟩, AL 1 (kpL f (lst f.code).length), o3, AI 1 (plcL f ((lst f.code).length + 1)), AG f (trimG f (lst f.code).length) gc (trimR f (lst f.rows).length) gr, o6, o7, slotO gc D0 (trimG f (lst f.code).length), o9, o10, slotO gr D0 (trimR f (lst f.rows).length)] := by
      rw [← h2]
      simp only [q9_8, evFa_lp, Nat.zero_add, ob_some, lr, evLen_sl, slotV_nil]
    have e44 : q9_44 (.lp 0 1 0 0) (.lp 1 1 0 0) [AB f, ⟨1, .arr true false 5 [[.nils, .nils, .int .i64 0, .nils, .nils]]⟩, D0, D0, D0, D0, D0, D0, D0, D0, D0, D0] =
        q9_34 (.lp 0 1 0 0) (.lp 1 1 0 0) (.ls 2 1 1 0 (lst f.code).length) [AB f, ⟨1, .arr true false 5 [[.nils, .nils, .int .i64 0, .nils, .nils]]⟩, AL 1 (kpL f (lst f.code).length), o3, D0, D0, D0, D0, D0, D0, D0, D0] := by
      rw [← h35]
      simp only [q9_44, l0, ob_some, c2, oh_some, if_true, evBin_neq, show decide ((0 : Int) ≠ 0) = false from rfl, cnd_f, q9_43, cR, q9_41, evFa_lp, Nat.zero_add, lc, evLen_sl]
    rw [e44, e34, e23, e8]
    have l5 : ∀ (a b c d e g : AO) (L : List Ins) (R : List Row) (gc gr : Nat), evLd true 5 (.lp 5 1 0 0) [a, b, c, d, e, AG f L gc R gr, o6, o7, g, o9, o10, slotO gr D0 R] = some (.agg [slA f.regs, slA f.params, .int .i64 f.ret, slotV Ins 8 gc L, slotV Row 11 gr R]) := fun a b c d e g L R gc gr => by simp [aggOr]
    have s1 : ∀ (a c d e g : AO) (t : Heap) (V W : AV) (hV : leaf1 V = true) (hW : leaf1 W = true), evSt 5 (.lp 1 1 0 0) (.agg [slA f.regs, slA f.params, .int .i64 f.ret, V, W]) (a :: ⟨1, .arr true false 5 [[.nils, .nils, .int .i64 0, .nils, .nils]]⟩ :: t) = some (.tup [], a :: ⟨1, .arr true false 5 [[slA f.regs, slA f.params, .int .i64 f.ret, V, W]]⟩ :: t) := fun a c d e g t V W hV hW => by simp [evSt_lp, spliceAt, hV, hW]
    have l1 : ∀ (a : AO) (t : Heap) (V W : AV), evLd true 5 (.lp 1 1 0 0) (a :: ⟨1, .arr true false 5 [[slA f.regs, slA f.params, .int .i64 f.ret, V, W]]⟩ :: t) = some (.agg [slA f.regs, slA f.params, .int .i64 f.ret, V, W]) := fun a t V W => by simp [aggOr]
    simp only [q9_1, l5, ob_some, s1 (AB f) D0 D0 D0 D0 _ _ _ (leaf1_slot _ _ _) (leaf1_slot _ _ _), oh_some, l1]
    exact trim_reads f (trimM f) rfl rfl (by rw [trimM, hw]; rfl)
end Go.Vm
namespace Go.Vm
theorem FnIn.fit2 {f : Fn} (h : FnIn f) : FnFit f := h.fit3
theorem FnIn.rd {f : Fn} (h : FnIn f) (h1 : (lst f.code).length ≤ 400) (h3 : (lst f.rows).length ≤ 100) : FnRd f := by
  have e : reachBytes = 140737488351232 := rfl
  have e38 : (2:Nat)^38 = 274877906944 := by decide
  refine ⟨h.fit2, ?_, ?_, ?_, ?_, fun x hx => ?_⟩
  · have := h.regs; omega
  · have := h.params; omega
  · omega
  · omega
  · have := (h.insI x hx).len; omega
end Go.Vm
namespace Go.Vm
open Cel
theorem FlowSets_all (f : Fn) (hf : FnIn f) : (callW E).p 110 [.agg (enc f)] = some ⟨.bool true, [], true, [], []⟩ := by
  rw [x_q48]
  have hl := s_light f
  have n0 : newC 0 (some 0) (cellsOf (.agg (enc f))) [D0] = some (.lp 0 1 0 0, [AB f]) := by simp
  have l0 : ∀ t : Heap, evLd true 5 (.lp 0 1 0 0) (AB f :: t) = some (.agg (enc f)) := fun t => by simp
  have ha : ∀ H : Heap, fzList (fz H fuelF) [.agg (enc f)] = some ⟨[.agg (enc f)], scal f && true, []⟩ := fun H => by
    rw [fzList_cons, fz_enc, fzList_nil]; rfl
  have ch : ∀ H : Heap, callAny E (callW E) 0 none true 97 [] H = some (.bool true, H) := fun H => call_reads (fa := ⟨[], true, []⟩) rfl rfl rfl holds11 ⟨_, rfl, rfl⟩
  have cl : ∀ H : Heap, callAny E (callW E) 0 none true 98 [.agg (enc f)] H = some (.bool _, H) := fun H => call_reads rfl (ha H) rfl hl ⟨_, rfl, rfl⟩
  have fl : ∀ H : Heap, fpCall E (callW E) 0 none true 98 [.agg (enc f)] H = some ([], []) := fun H => fp_reads rfl (ha H) rfl hl
  by_cases hg : (lst f.code).length ≤ 400 ∧ (lst f.regs).length ≤ 100 ∧ (lst f.rows).length ≤ 100
  · simp only [hg, decide_true, Bool.and_self] at cl
    have hrd : FnRd f := hf.rd hg.1 hg.2.2
    have e38 : (2:Nat)^38 = 274877906944 := by decide
    have hp : (lst f.params).length ≤ 9223372036854775807 := by have := hrd.sm.params; omega
    have t1 := s_Set f hf.fit2 hrd.sm (by omega) hp
    have t3 := s_RSet f hf.fit2 hrd.sm (by omega)
    have c1 : ∀ H : Heap, callAny E (callW E) 0 none true 77 [.agg (enc f)] H = some (.bool (setM f), H) := fun H => call_reads rfl (ha H) rfl t1 ⟨_, rfl, rfl⟩
    have f1 : ∀ H : Heap, fpCall E (callW E) 0 none true 77 [.agg (enc f)] H = some ([], []) := fun H => fp_reads rfl (ha H) rfl t1
    have c2 : ∀ H : Heap, callAny E (callW E) 0 none true 99 [.agg (enc f)] H = some (.bool (setM f), H) := fun H => call_reads rfl (ha H) rfl t3 ⟨_, rfl, rfl⟩
    have f2 : ∀ H : Heap, fpCall E (callW E) 0 none true 99 [.agg (enc f)] H = some ([], []) := fun H => fp_reads rfl (ha H) rfl t3
    have hpo : pairsOk [(ids1 (.lp 0 1 0 0), []), ([], []), ([], []), ([], []), (ids1 (.lp 0 1 0 0), []), ([], []), (ids1 (.lp 0 1 0 0), []), ([], []), ([], []), ([], []), ([], [])] [(5, 6)] = true := rfl
    have hee : evEqb false (.bool (setM f)) (.bool (setM f)) = some (.bool true) := by cases setM f <;> rfl
    simp only [q48_3, n0, oh_some, q48_2, ch, ob_some, evUn_not, Bool.not_true, cnd_f, q48_1, l0, fl, ofp_some, cl, fgd_ff, gb_ff, gh_ff, f1, c1, f2, c2, hee, evPick_f, hpo, okK_t]
    rfl
  · have hb : (decide ((lst f.code).length ≤ 400) && decide ((lst f.regs).length ≤ 100) && decide ((lst f.rows).length ≤ 100)) = false := by
      rw [← Bool.not_eq_true, Bool.and_eq_true, Bool.and_eq_true, decide_eq_true_eq, decide_eq_true_eq, decide_eq_true_eq]
      exact fun h => hg ⟨h.1.1, h.1.2, h.2⟩
    rw [hb] at cl
    have hpo : pairsOk [(ids1 (.lp 0 1 0 0), []), ([], []), ([], []), ([], []), ([], []), ([], []), ([], []), ([], []), ([], []), ([], []), ([], [])] [(5, 6)] = true := rfl
    simp only [q48_3, n0, oh_some, q48_2, ch, ob_some, evUn_not, Bool.not_true, cnd_f, q48_1, l0, fl, ofp_some, cl, Bool.not_false, fgd_tf, gb_tf, gh_tf, evPick_t, hpo, okK_t]
    rfl
end Go.Vm
