/- The document's answer for an instruction is the program's. The document's answer whether a function is well formed: the program's own. What a function that is handed in is fit for, for a check. Maps from whole numbers, as lists of pairs. Chapter 13's anchor. LiveReads: what an instruction reads is live ahead of it; what it writes and doesn't read is so for those alone who catch. -/
import Derived.Test.YthemfgeagohdhaaPX
import Derived.Test.YthemfgeagohdhaaPTd
set_option linter.unusedSimpArgs false
set_option linter.unusedVariables false
set_option linter.unusedSectionVars false
namespace Go.Vm
theorem numK_ge (n : Int) : 0 ≤ (numK n).1 ∧ 0 ≤ (numK n).2.1 ∧ 0 ≤ (numK n).2.2 ∧ (numK n).1 ≤ 2 ∧ (numK n).2.1 ≤ 2 ∧ (numK n).2.2 ≤ 2 ∧ (¬ (numK n).1 = 0 → ¬ (numK n).2.2 = 0) ∧ (¬ (numK n).2.1 = 0 → ¬ (numK n).1 = 0 ∧ ¬ (numK n).2.2 = 0) := by
  unfold numK
  repeat' split
  all_goals decide
theorem regK_range {R : List Int} (hR : R.all (fun k => decide (1 ≤ k) && decide (k ≤ 3)) = true) (r : Int) : (inR R r = true ∧ (regK R r = 1 ∨ regK R r = 2 ∨ regK R r = 3)) ∨ (inR R r = false ∧ regK R r = 0) := by
  cases h : inR R r with
  | true =>
    obtain ⟨_, h1, h2⟩ := inR_get h
    rw [List.all_eq_true] at hR
    have := hR (regK R r) (List.mem_of_getElem? h2)
    simp only [Bool.and_eq_true, decide_eq_true_eq] at this
    refine .inl ⟨rfl, ?_⟩
    omega
  | false =>
    refine .inr ⟨rfl, ?_⟩
    simp only [inR, Bool.and_eq_false_iff, decide_eq_false_iff_not] at h
    unfold regK
    split
    · rfl
    · rw [List.getD_eq_getElem?_getD, List.getElem?_eq_none (by omega)]; rfl
theorem wrap32 {n : Int} : n = IntKind.wrap .i64 (IntKind.wrap .i32 n) ↔ -2147483648 ≤ n ∧ n < 2147483648 := by
  have h : -2147483648 ≤ IntKind.wrap .i32 n ∧ IntKind.wrap .i32 n < 2147483648 := by
    simp only [IntKind.wrap, IntKind.bits, IntKind.signed]
    simp
    omega
  rw [wrap_i64 (n := IntKind.wrap .i32 n) (by omega) (by omega)]
  constructor
  · intro e; rw [e]; exact h
  · intro e
    simp only [IntKind.wrap, IntKind.bits, IntKind.signed]
    simp
    omega
theorem field_m {R : List Int} {r : Int} : fieldOk R (-1) r = true := by simp [fieldOk]
theorem field_0 {R : List Int} (hR : R.all (fun k => decide (1 ≤ k) && decide (k ≤ 3)) = true) (r : Int) : fieldOk R 0 r = decide (0 < regK R r) := by
  rcases regK_range hR r with ⟨h1, h2⟩ | ⟨h1, h2⟩
  · simp [fieldOk, h1]; omega
  · simp [fieldOk, h1, h2]
theorem field_k {R : List Int} (hR : R.all (fun k => decide (1 ≤ k) && decide (k ≤ 3)) = true) (r k : Int) (hk : 0 < k) : fieldOk R k r = decide (regK R r = k) := by
  have a1 : ¬ k < 0 := by omega
  have a2 : ¬ k ≤ 0 := by omega
  rcases regK_range hR r with ⟨h1, h2⟩ | ⟨h1, h2⟩
  · simp [fieldOk, h1, a1, a2]
  · have : ¬ 0 = k := by omega
    simp [fieldOk, h1, h2, a1, a2, this]
theorem all_in {R : List Int} (hR : R.all (fun k => decide (1 ≤ k) && decide (k ≤ 3)) = true) (l : List Int) : (l.all fun r => !decide (regK R r = 0)) = l.all (inR R) := by
  congr 1
  funext r
  rcases regK_range hR r with ⟨h1, h2⟩ | ⟨h1, h2⟩
  · rw [h1]; simp; omega
  · rw [h1, h2]; rfl
theorem one_5 (f : Fn) (x : Ins) (hR : (lst f.regs).all (fun k => decide (1 ≤ k) && decide (k ≤ 3)) = true) (h : x.op = 5) : oneM f x = rightM f x := by
  have hk := numK_ge x.n
  have Fm := fun r => field_m (R := lst f.regs) (r := r)
  simp only [oneM, rightM, h, kindsM, rowM, rowT, wantM, argsOk, calls, tailOk, leads, switchM, Fm]
  generalize numK x.n = k at *
  obtain ⟨a, b, d⟩ := k
  simp only at hk ⊢
  by_cases hb : b = 0
  · subst hb; simp
  · rw [field_k hR x.d d (by omega), field_k hR x.a a (by omega), field_k hR x.b b (by omega)]
    rw [Bool.eq_iff_iff]
    simp
    omega
theorem one_6 (f : Fn) (x : Ins) (hR : (lst f.regs).all (fun k => decide (1 ≤ k) && decide (k ≤ 3)) = true) (h : x.op = 6) : oneM f x = rightM f x := by
  have hk := numK_ge x.n
  have Fm := fun r => field_m (R := lst f.regs) (r := r)
  simp only [oneM, rightM, h, kindsM, rowM, rowT, wantM, argsOk, calls, tailOk, leads, switchM, Fm]
  generalize numK x.n = k at *
  obtain ⟨a, b, d⟩ := k
  simp only at hk ⊢
  by_cases ha : a = 0
  · subst ha; simp
  · rw [field_k hR x.d d (by omega), field_k hR x.a a (by omega)]
    rw [Bool.eq_iff_iff]
    simp
    omega
theorem one_c (f : Fn) (x : Ins) (hR : (lst f.regs).all (fun k => decide (1 ≤ k) && decide (k ≤ 3)) = true) (h : x.op = 23 ∨ x.op = 24 ∨ x.op = 25 ∨ x.op = 26) : oneM f x = rightM f x := by
  have F0 := field_0 hR
  have Fm := fun r => field_m (R := lst f.regs) (r := r)
  have hA := all_in hR (lst x.args)
  have kd := regK_range hR x.d
  have hc : callM (lst f.regs) x = (!((decide (x.n < 0) && !decide (x.op = 25)) || decide (21 < (lst x.args).length) || (!decide (x.d = -1) && decide (regK (lst f.regs) x.d = 0))) && ((lst x.args).all (inR (lst f.regs)) && lastM (lst f.regs) x)) := by rw [callM, hA]
  cases ha : lst x.args with
  | nil =>
    by_cases hd : x.d = -1 <;> rcases h with h|h|h|h <;> (rw [Bool.eq_iff_iff]; simp [oneM, rightM, h, kindsM, rowM, rowT, wantM, argsOk, calls, tailOk, leads, switchM, hc, lastM, firstOk, ha, hd, F0, Fm]; try omega)
  | cons r t =>
    rw [ha] at hc
    generalize hg : (r :: t).all (inR (lst f.regs)) = A at *
    generalize hl : (r :: t).length = n at *
    by_cases hd : x.d = -1 <;> rcases h with h|h|h|h <;> (rw [Bool.eq_iff_iff]; simp [oneM, rightM, h, kindsM, rowM, rowT, wantM, argsOk, calls, tailOk, leads, switchM, hc, lastM, firstOk, ha, hd, F0, Fm]; first | (simp at hl hg; omega) | (simp at hl hg; grind) | skip)
theorem one_out (f : Fn) (x : Ins) (h : x.op < 1 ∨ 33 < x.op) : oneM f x = rightM f x := by
  rw [oneM, rightM, kindsM_out h]
  rcases h with h | h
  · have : ¬ 1 ≤ x.op := by omega
    simp [this]
  · have : ¬ x.op ≤ 33 := by omega
    simp [this]
set_option maxHeartbeats 4000000 in
theorem one_right (f : Fn) (x : Ins) (hR : (lst f.regs).all (fun k => decide (1 ≤ k) && decide (k ≤ 3)) = true) : oneM f x = rightM f x := by
  have F0 := field_0 hR
  have F1 := fun r => field_k hR r 1 (by omega)
  have F3 := fun r => field_k hR r 3 (by omega)
  have Fm := fun r => field_m (R := lst f.regs) (r := r)
  have hA := all_in hR (lst x.args)
  have kd := regK_range hR x.d
  have ka := regK_range hR x.a
  have hd : 0 < regK (lst f.regs) x.d ↔ ¬ regK (lst f.regs) x.d = 0 := by rcases kd with ⟨_, h⟩ | ⟨_, h⟩ <;> omega
  have hw := @wrap32 x.n
  rcases op_cases x.op with h|h|h|h|h|h|h|h|h|h|h|h|h|h|h|h|h|h|h|h|h|h|h|h|h|h|h|h|h|h|h|h|h|h|h
  all_goals first
    | (simp [oneM, rightM, h, kindsM, rowM, rowT, wantM, argsOk, calls, tailOk, leads, switchM, F0, F1, F3, Fm, placeOk, Bool.and_assoc]; done)
    | skip
  all_goals first
    | exact one_5 f x hR h
    | exact one_6 f x hR h
    | exact one_out f x (.inl h)
    | exact one_out f x (.inr h)
    | exact one_c f x hR (.inl h)
    | exact one_c f x hR (.inr (.inl h))
    | exact one_c f x hR (.inr (.inr (.inl h)))
    | exact one_c f x hR (.inr (.inr (.inr h)))
    | (rw [Bool.eq_iff_iff]; simp [oneM, rightM, h, kindsM, rowM, rowT, wantM, argsOk, calls, tailOk, leads, switchM, F0, F1, F3, Fm, placeOk]; omega)
    | (rw [Bool.eq_iff_iff]; simp [oneM, rightM, h, kindsM, rowM, rowT, wantM, argsOk, calls, tailOk, leads, switchM, F0, F1, F3, Fm, placeOk]; grind)
    | exact one_5 f x hR h
    | exact one_6 f x hR h
    | exact one_out f x (.inl h)
    | exact one_out f x (.inr h)
    | exact one_c f x hR (.inl h)
    | exact one_c f x hR (.inr (.inl h))
    | exact one_c f x hR (.inr (.inr (.inl h)))
    | exact one_c f x hR (.inr (.inr (.inr h)))
end Go.Vm
namespace Go.Vm
open Cel
attribute [local simp] callAny callP heapOf_nil fpCall
theorem RC_rows (f : Fn) (o1 : AO) (n : Int) (hn : n = (lst f.code).length) (hl : (lst f.rows).length ≤ 9223372036854775807) : ∀ (d i : Nat) (o2 : AO), i + d = (lst f.rows).length →
    q60_L2 P0 (.int .i64 n) (.int .i64 i) (HC f o1 o2) = if ((lst f.rows).drop i).all (rowOk (lst f.code)) then E0 else E80 := by
  intro d
  induction d with
  | zero =>
    intro i o2 hi
    have e1 : (lst f.rows).drop i = [] := List.drop_eq_nil_of_le (by omega)
    have hn : ¬ ((i : Int) < ((lst f.rows).length : Int)) := by omega
    rw [q60_L2_go, e1]
    simp [q60_5, q60_1, hn]
  | succ d ih =>
    intro i o2 hi
    have hlt : i < (lst f.rows).length := by omega
    have hc : ((i : Int) < ((lst f.rows).length : Int)) := by omega
    have k1 := ixs_row (o := f.rows) (i := i) (List.getElem?_eq_getElem hlt) .i64
    rw [q60_L2_go]
    have e1 : ((lst f.rows).drop i).all (rowOk (lst f.code)) = (rowOk (lst f.code) (lst f.rows)[i] && ((lst f.rows).drop (i + 1)).all (rowOk (lst f.code))) := by rw [List.drop_eq_getElem_cons hlt, List.all_cons]
    rw [e1]
    generalize hr : (lst f.rows)[i] = r at *
    have ih := fun o2 => ih (i + 1) o2 (by omega)
    push_cast at ih
    subst hn
    by_cases h1 : r.f < 0
    · simp [q60_5, hc, q60_4, k1, rowOk, h1]
    by_cases h2 : r.t ≤ r.f
    · simp [q60_5, hc, q60_4, k1, rowOk, h1, h2]
    by_cases h3 : ((lst f.code).length : Int) < r.t
    · simp [q60_5, hc, q60_4, k1, rowOk, h1, h2, h3]
    by_cases h4 : r.at_ < 0
    · have : ¬ 0 ≤ r.at_ := by omega
      simp [q60_5, hc, q60_4, k1, rowOk, h1, h2, h3, h4, placeOk, this]
    by_cases h5 : ((lst f.code).length : Int) ≤ r.at_
    · have : ¬ r.at_ < ((lst f.code).length : Int) := by omega
      simp [q60_5, hc, q60_4, k1, rowOk, h1, h2, h3, h4, h5, placeOk, this]
    · have hx : r.at_.toNat < (lst f.code).length := by omega
      have a1 : 0 ≤ r.at_ := by omega
      have a2 : r.at_ < ((lst f.code).length : Int) := by omega
      have k2 := ixs_insI (o := f.code) (n := r.at_) (by omega) (List.getElem?_eq_getElem hx) .i64
      by_cases h6 : ((lst f.code)[r.at_.toNat]).op = 32
      · simp [q60_5, hc, q60_4, k1, rowOk, h1, h2, h3, h4, h5, placeOk, a1, a2, k2, h6, hx, q60_3, wrap_up hlt hl, ih]
      · simp [q60_5, hc, q60_4, k1, rowOk, h1, h2, h3, h4, h5, placeOk, a1, a2, k2, h6, hx]
theorem RC_regs (f : Fn) (o1 o2 : AO) (n : Int) (hl : (lst f.regs).length ≤ 9223372036854775807) : ∀ (d i : Nat), i + d = (lst f.regs).length →
    q60_L23 P0 (.int .i64 n) (.int .i64 i) (HC f o1 o2) = if ((lst f.regs).drop i).all (fun k => decide (1 ≤ k) && decide (k ≤ 3)) then q60_21 P0 (.int .i64 n) (HC f o1 o2) else E80 := by
  intro d
  induction d with
  | zero =>
    intro i hi
    have e1 : (lst f.regs).drop i = [] := List.drop_eq_nil_of_le (by omega)
    have hn : ¬ ((i : Int) < ((lst f.regs).length : Int)) := by omega
    rw [q60_L23_go, e1]
    simp [q60_26, hn]
  | succ d ih =>
    intro i hi
    have hlt : i < (lst f.regs).length := by omega
    have hc : ((i : Int) < ((lst f.regs).length : Int)) := by omega
    have k1 := ixs_int (o := f.regs) (i := i) (List.getElem?_eq_getElem hlt) .i64
    have e1 : ((lst f.regs).drop i).all (fun k => decide (1 ≤ k) && decide (k ≤ 3)) = ((decide (1 ≤ (lst f.regs)[i]) && decide ((lst f.regs)[i] ≤ 3)) && ((lst f.regs).drop (i + 1)).all (fun k => decide (1 ≤ k) && decide (k ≤ 3))) := by
      rw [List.drop_eq_getElem_cons hlt, List.all_cons]
    rw [q60_L23_go, e1]
    generalize hr : (lst f.regs)[i] = r at *
    have ih := ih (i + 1) (by omega)
    push_cast at ih
    by_cases h1 : r < 1
    · have : ¬ 1 ≤ r := by omega
      simp [q60_26, hc, q60_25, k1, h1, this]
    by_cases h2 : 3 < r
    · have : ¬ r ≤ 3 := by omega
      simp [q60_26, hc, q60_25, k1, h1, h2, this]
    · have a1 : 1 ≤ r := by omega
      have a2 : r ≤ 3 := by omega
      simp [q60_26, hc, q60_25, k1, h1, h2, a1, a2, q60_24, wrap_up hlt hl, ih]
def parR (R : List Int) : List Int → List Int → Bool
  | _, [] => true
  | seen, p :: r => (inR R p && !seen.contains p) && parR R (seen ++ [p]) r
theorem RC_params (f : Fn) (o1 o2 : AO) (n : Int) (hR : (lst f.regs).all (fun k => decide (1 ≤ k) && decide (k ≤ 3)) = true) (hl : (lst f.params).length ≤ 9223372036854775807) : ∀ (d i : Nat), i + d = (lst f.params).length →
    q60_L16 P0 (.int .i64 n) (.int .i64 i) (HC f o1 o2) = if parR (lst f.regs) ((lst f.params).take i) ((lst f.params).drop i) then q60_14 P0 (.int .i64 n) (HC f o1 o2) else E80 := by
  intro d
  induction d with
  | zero =>
    intro i hi
    have e1 : (lst f.params).drop i = [] := List.drop_eq_nil_of_le (by omega)
    have hn : ¬ ((i : Int) < ((lst f.params).length : Int)) := by omega
    rw [q60_L16_go, e1]
    simp [q60_19, hn, parR]
  | succ d ih =>
    intro i hi
    have hlt : i < (lst f.params).length := by omega
    have hc : ((i : Int) < ((lst f.params).length : Int)) := by omega
    have k1 := ixs_int (o := f.params) (i := i) (List.getElem?_eq_getElem hlt) .i64
    have ks := slc_to (α := Int) f.params i (by omega) .i64
    simp only [es_int] at ks
    have hlm : lst (f.params.map (List.take i)) = (lst f.params).take i := by cases f.params <;> simp
    have e1 : parR (lst f.regs) ((lst f.params).take i) ((lst f.params).drop i) = ((inR (lst f.regs) (lst f.params)[i] && !((lst f.params).take i).contains (lst f.params)[i]) && parR (lst f.regs) ((lst f.params).take (i + 1)) ((lst f.params).drop (i + 1))) := by
      rw [List.drop_eq_getElem_cons hlt, parR, List.take_append_getElem]
    rw [q60_L16_go, e1]
    have hct : (callW E).p 42 [.int .i64 (lst f.params)[i], slA (f.params.map (List.take i))] = some ⟨.bool (((lst f.params).take i).contains (lst f.params)[i]), [], true, [], []⟩ := by
      rw [s_in _ _ (by rw [hlm, List.length_take]; omega), hlm, List.contains_eq_mem]
    generalize hr : (lst f.params)[i] = r at *
    generalize ((lst f.params).take i).contains r = B at *
    have ih := ih (i + 1) (by omega)
    push_cast at ih
    have hs := s_kind f r
    rcases regK_range hR r with ⟨a1, a2⟩ | ⟨a1, a2⟩
    · have hz : ¬ regK (lst f.regs) r = 0 := by omega
      rw [a1]
      generalize regK (lst f.regs) r = k at *
      cases B with
      | true => simp [q60_19, hc, q60_18, k1, hs, hz, ks, hct, pairsOk]
      | false =>
        simp [q60_19, hc, q60_18, k1, hs, hz, ks, hct, pairsOk, q60_17, wrap_up hlt hl]
        exact ih
    · rw [a2] at hs
      simp [q60_19, hc, q60_18, k1, hs, a1, pairsOk]
theorem RC_one (f : Fn) (o2 : AO) (n : Int) (x : Ins) (i g : Nat) (hR : (lst f.regs).all (fun k => decide (1 ≤ k) && decide (k ≤ 3)) = true) (fit : InsFit x) (hi : i < (lst f.code).length) (hl : (lst f.code).length ≤ 9223372036854775807) (hx : (lst f.code)[i]? = some x) (oc : OC) :
    q60_11 P0 (.int .i64 n) (.int .i64 i) (HC f ⟨g, oc⟩ o2) =
      if rightM f x && spotOk (lst f.code) i x then q60_10 P0 (.int .i64 n) (.int .i64 i) (HC f ⟨g + 1, .arr true false 9 [enc x]⟩ o2) else E80 := by
  have k0 := ixs_ins (o := f.code) (i := i) hx .i64
  have h1 := s_one f x fit.n fit.s fit.a
  rw [one_right f x hR] at h1
  cases hok : rightM f x with
  | false =>
    rw [hok] at h1
    simp [q60_11, k0, h1]
  | true =>
    have ht := right_leads (f := f) (x := x) hok
    rw [hok] at h1
    by_cases h32 : x.op = 32
    · have hld : leads 32 = false := by simp [leads]
      by_cases h0 : i = 0
      · subst h0
        simp only [Int.ofNat_zero] at k0
        simp [q60_11, k0, h1, h32, spotOk]
      · have h0' : ¬ ((i : Int) = 0) := by omega
        have hp : i - 1 < (lst f.code).length := by omega
        have k1 := ixs_ins (o := f.code) (i := i - 1) (List.getElem?_eq_getElem hp) .i64
        have hw : IntKind.wrap .i64 ((i : Int) - 1) = ((i - 1 : Nat) : Int) := by rw [wrap_i64] <;> omega
        cases he : ends ((lst f.code)[i - 1]).op with
        | true => simp [q60_11, k0, h1, h32, spotOk, h0, h0', hw, k1, hp, he, hld]
        | false => simp [q60_11, k0, h1, h32, spotOk, h0, h0', hw, k1, hp, he]
    · cases hld : leads x.op with
      | false => simp [q60_11, k0, h1, h32, spotOk, hld]
      | true =>
        obtain ⟨t0, t1⟩ := ht hld
        have hxt : x.t.toNat < (lst f.code).length := by omega
        have k2 := ixs_insI (o := f.code) (n := x.t) t0 (List.getElem?_eq_getElem hxt) .i64
        by_cases h6 : ((lst f.code)[x.t.toNat]).op = 32
        · simp [q60_11, k0, h1, h32, spotOk, hld, k2, h6, hxt]
        · simp [q60_11, k0, h1, h32, spotOk, hld, k2, h6, hxt]
theorem RC_code (f : Fn) (o2 : AO) (n : Int) (hn : n = (lst f.code).length) (hR : (lst f.regs).all (fun k => decide (1 ≤ k) && decide (k ≤ 3)) = true) (hfit : ∀ x ∈ lst f.code, InsFit x) (hl : (lst f.code).length ≤ 9223372036854775807) : ∀ (d i : Nat) (o1 : AO), i + d = (lst f.code).length →
    ∃ o1', q60_L9 P0 (.int .i64 n) (.int .i64 i) (HC f o1 o2) = if codeOk f (lst f.code) i ((lst f.code).drop i) then q60_7 P0 (.int .i64 n) (HC f o1' o2) else E80 := by
  intro d
  induction d with
  | zero =>
    intro i o1 hi
    have e1 : (lst f.code).drop i = [] := List.drop_eq_nil_of_le (by omega)
    have hnl : ¬ ((i : Int) < n) := by omega
    rw [q60_L9_go, e1]
    exact ⟨o1, by simp [q60_12, hnl, codeOk]⟩
  | succ d ih =>
    intro i o1 hi
    have hlt : i < (lst f.code).length := by omega
    have hc : ((i : Int) < n) := by omega
    have e1 : codeOk f (lst f.code) i ((lst f.code).drop i) = (rightM f (lst f.code)[i] && spotOk (lst f.code) i (lst f.code)[i] && codeOk f (lst f.code) (i + 1) ((lst f.code).drop (i + 1))) := by
      rw [List.drop_eq_getElem_cons hlt, codeOk]
    have fit := hfit _ (List.getElem_mem hlt)
    have hone := RC_one f o2 n _ i o1.gen hR fit hlt hl (List.getElem?_eq_getElem hlt) o1.c
    rw [q60_L9_go, e1]
    generalize (lst f.code)[i] = x at *
    generalize (rightM f x && spotOk (lst f.code) i x) = G at *
    simp only [q60_12, evBin_lss, ob_some, hc, decide_true, cnd_t, hone]
    cases G with
    | false => exact ⟨o1, by simp⟩
    | true =>
      obtain ⟨o1', ih⟩ := ih (i + 1) ⟨o1.gen + 1, .arr true false 9 [enc x]⟩ (by omega)
      push_cast at ih
      exact ⟨o1', by simp [q60_10, wrap_up hlt hl, ih]⟩
theorem par_same (R : List Int) : ∀ (l : List Int) (i : Nat) (seen : List Int), i + l.length ≤ 21 → parOk R i seen l = parR R seen l
  | [], _, _, _ => rfl
  | p :: r, i, seen, h => by
    simp only [List.length_cons] at h
    have : i ≤ 20 := by omega
    rw [parOk, parR, par_same R r (i + 1) (seen ++ [p]) (by omega)]
    simp [this]
theorem par_long (R : List Int) : ∀ (l : List Int) (i : Nat) (seen : List Int), 21 < i + l.length → i ≤ 21 → parOk R i seen l = false
  | [], i, _, h, h2 => by simp at h; omega
  | p :: r, i, seen, h, h2 => by
    simp only [List.length_cons] at h
    rw [parOk]
    by_cases hi : i ≤ 20
    · rw [par_long R r (i + 1) (seen ++ [p]) (by omega) (by omega)]; simp
    · simp [hi]
set_option maxRecDepth 100000 in
set_option maxHeartbeats 1000000 in
theorem s_RCheck (f : Fn) (hf : FnFit f) : (callW E).p 29 [.agg (enc f)] = some ⟨.int .i64 (if wf f then 0 else 80), [], true, [], []⟩ := by
  rw [x_q60]
  by_cases h0 : (lst f.code).length = 0
  · have h0' : ((lst f.code).length : Int) = 0 := by omega
    have : ¬ 1 ≤ (lst f.code).length := by omega
    simp [q60_32, q60_31, q60_30, h0', wf, this]
  have h0' : ¬ ((lst f.code).length : Int) = 0 := by omega
  have hne : ¬ lst f.code = [] := fun h => h0 (by rw [h]; rfl)
  have g1 : 1 ≤ (lst f.code).length := by omega
  by_cases h2 : 20000 < (lst f.code).length
  · have h2' : (20000 : Int) < ((lst f.code).length : Int) := by omega
    have : ¬ (lst f.code).length ≤ 20000 := by omega
    simp [q60_32, q60_31, q60_30, h0', hne, h2', wf, this]
  have h2' : ¬ (20000 : Int) < ((lst f.code).length : Int) := by omega
  have g2 : (lst f.code).length ≤ 20000 := by omega
  by_cases h3 : 20000 < (lst f.regs).length
  · have h3' : (20000 : Int) < ((lst f.regs).length : Int) := by omega
    have : ¬ (lst f.regs).length ≤ 20000 := by omega
    simp [q60_32, q60_31, q60_30, h0', hne, h2', h3', wf, this]
  have h3' : ¬ (20000 : Int) < ((lst f.regs).length : Int) := by omega
  have g3 : (lst f.regs).length ≤ 20000 := by omega
  by_cases hp : 21 < (lst f.params).length
  · have hp' : (21 : Int) < ((lst f.params).length : Int) := by omega
    have := par_long (lst f.regs) (lst f.params) 0 [] (by omega) (by omega)
    simp [q60_32, q60_31, q60_30, h0', hne, h2', h3', hp', wf, this]
  have hp' : ¬ (21 : Int) < ((lst f.params).length : Int) := by omega
  by_cases h4 : f.ret < 0
  · have : ¬ 0 ≤ f.ret := by omega
    simp [q60_32, q60_31, q60_30, h0', hne, h2', h3', hp', h4, wf, this]
  have g4 : 0 ≤ f.ret := by omega
  by_cases h5 : 3 < f.ret
  · have : ¬ f.ret ≤ 3 := by omega
    simp [q60_32, q60_31, q60_30, h0', hne, h2', h3', hp', h4, h5, wf, this]
  have g5 : f.ret ≤ 3 := by omega
  have hpl : (lst f.code).length - 1 < (lst f.code).length := by omega
  have k1 := ixs_ins (o := f.code) (i := (lst f.code).length - 1) (List.getElem?_eq_getElem hpl) .i64
  have hw : IntKind.wrap .i64 (((lst f.code).length : Int) - 1) = (((lst f.code).length - 1 : Nat) : Int) := by rw [wrap_i64] <;> omega
  have hg : (lst f.code).getD ((lst f.code).length - 1) default = (lst f.code)[(lst f.code).length - 1] := by rw [List.getD_eq_getElem?_getD, List.getElem?_eq_getElem hpl]; rfl
  cases he : ends ((lst f.code)[(lst f.code).length - 1]).op with
  | false =>
    have hwf : wf f = false := by rw [wf, hg, he]; simp
    rw [hwf]
    simp [q60_32, q60_31, q60_30, h0', hne, h2', h3', hp', h4, h5, hw, k1, he]
  | true =>
    have hps := par_same (lst f.regs) (lst f.params) 0 [] (by omega)
    have hwf : wf f = ((lst f.regs).all (fun k => decide (1 ≤ k) && decide (k ≤ 3)) && parR (lst f.regs) [] (lst f.params) && codeOk f (lst f.code) 0 (lst f.code) && (lst f.rows).all (rowOk (lst f.code))) := by
      rw [wf, hg, he, hps]
      simp only [g1, g2, g3, g4, g5, decide_true, Bool.true_and]
    have e : q60_32 (.agg (enc f)) [⟨0, .dead⟩, ⟨0, .dead⟩, ⟨0, .dead⟩] = q60_L23 P0 (.int .i64 (lst f.code).length) (.int .i64 0) (HC f ⟨0, .dead⟩ ⟨0, .dead⟩) := by
      simp [q60_32, q60_31, q60_30, h0', hne, h2', h3', hp', h4, h5, hw, k1, he, q60_1, q60_3, q60_4, q60_5, q60_7, q60_10, q60_11, q60_12, q60_14, q60_17, q60_18, q60_19, q60_21, q60_24, q60_25, q60_26, q60_28, q60_30, q60_31, q60_32]
    have a1 := RC_regs f ⟨0, .dead⟩ ⟨0, .dead⟩ (lst f.code).length hf.regs _ 0 (Nat.zero_add _)
    simp only [Int.ofNat_zero, List.drop_zero] at a1
    rw [e, a1, hwf]
    cases hR : (lst f.regs).all (fun k => decide (1 ≤ k) && decide (k ≤ 3)) with
    | false => simp
    | true =>
      have a2 := RC_params f ⟨0, .dead⟩ ⟨0, .dead⟩ (lst f.code).length hR hf.params _ 0 (Nat.zero_add _)
      obtain ⟨o1', a3⟩ := RC_code f ⟨0, .dead⟩ _ rfl hR hf.ins hf.code _ 0 ⟨0, .dead⟩ (Nat.zero_add _)
      have a4 := RC_rows f o1' _ rfl hf.rows _ 0 ⟨0, .dead⟩ (Nat.zero_add _)
      simp only [Int.ofNat_zero, List.drop_zero, List.take_zero] at a2 a3 a4
      have e2 : q60_21 P0 (.int .i64 (lst f.code).length) (HC f ⟨0, .dead⟩ ⟨0, .dead⟩) = q60_L16 P0 (.int .i64 (lst f.code).length) (.int .i64 0) (HC f ⟨0, .dead⟩ ⟨0, .dead⟩) := by simp [q60_1, q60_3, q60_4, q60_5, q60_7, q60_10, q60_11, q60_12, q60_14, q60_17, q60_18, q60_19, q60_21, q60_24, q60_25, q60_26, q60_28, q60_30, q60_31, q60_32]
      have e3 : q60_14 P0 (.int .i64 (lst f.code).length) (HC f ⟨0, .dead⟩ ⟨0, .dead⟩) = q60_L9 P0 (.int .i64 (lst f.code).length) (.int .i64 0) (HC f ⟨0, .dead⟩ ⟨0, .dead⟩) := by simp [q60_1, q60_3, q60_4, q60_5, q60_7, q60_10, q60_11, q60_12, q60_14, q60_17, q60_18, q60_19, q60_21, q60_24, q60_25, q60_26, q60_28, q60_30, q60_31, q60_32]
      have e4 : q60_7 P0 (.int .i64 (lst f.code).length) (HC f o1' ⟨0, .dead⟩) = q60_L2 P0 (.int .i64 (lst f.code).length) (.int .i64 0) (HC f o1' ⟨0, .dead⟩) := by simp [q60_1, q60_3, q60_4, q60_5, q60_7, q60_10, q60_11, q60_12, q60_14, q60_17, q60_18, q60_19, q60_21, q60_24, q60_25, q60_26, q60_28, q60_30, q60_31, q60_32]
      rw [e2, a2, e3, a3, e4, a4]
      generalize parR (lst f.regs) [] (lst f.params) = b2
      generalize codeOk f (lst f.code) 0 (lst f.code) = b3
      generalize (lst f.rows).all (rowOk (lst f.code)) = b4
      cases b2 <;> cases b3 <;> cases b4 <;> rfl
end Go.Vm
namespace Go.Vm
theorem FnIn.fit3 {f : Fn} (h : FnIn f) : FnFit f := by
  have e : reachBytes = 140737488351232 := rfl
  refine ⟨fun x hx => ?_, ?_, ?_, ?_, ?_⟩
  · have k := h.insI x hx
    refine ⟨⟨k.n.1, ?_⟩, ?_, ?_⟩
    · have := k.n.2; omega
    · have := k.s; omega
    · have := k.len; omega
  · have := h.code; omega
  · have := h.regs; omega
  · have := h.params; omega
  · have := h.rows; omega
end Go.Vm
namespace Go.Vm
open Cel
section
variable {α : Type}
def aset (k : Int) (v : α) : List (Int × α) → List (Int × α)
  | [] => [(k, v)]
  | (k', v') :: r => if k = k' then (k, v) :: r else (k', v') :: aset k v r
def adel (k : Int) : List (Int × α) → List (Int × α)
  | [] => []
  | (k', v') :: r => if k = k' then r else (k', v') :: adel k r
def aget (k : Int) : List (Int × α) → Option α
  | [] => none
  | (k', v') :: r => if k = k' then some v' else aget k r
theorem aget_aset (k j : Int) (v : α) : ∀ l, aget j (aset k v l) = if j = k then some v else aget j l
  | [] => by simp only [aset, aget]
  | (k', v') :: r => by
    rw [aset]
    by_cases h : k = k'
    · subst h
      rw [if_pos rfl, aget, aget]
      by_cases h2 : j = k <;> simp [h2]
    · rw [if_neg h, aget, aget_aset k j v r, aget]
      by_cases h2 : j = k'
      · have : ¬ j = k := fun e => h (e.symm.trans h2)
        rw [if_pos h2, if_pos h2, if_neg this]
      · rw [if_neg h2, if_neg h2]
def anew : List (Int × α) → Prop
  | [] => True
  | (k, _) :: r => aget k r = none ∧ anew r
theorem anew_aset (k : Int) (v : α) : ∀ l, anew l → anew (aset k v l)
  | [], _ => ⟨rfl, trivial⟩
  | (k', v') :: r, h => by
    rw [aset]
    by_cases e : k = k'
    · rw [if_pos e]; exact ⟨by rw [e]; exact h.1, h.2⟩
    · rw [if_neg e]
      refine ⟨?_, anew_aset k v r h.2⟩
      rw [aget_aset, if_neg (fun h' => e h'.symm)]
      exact h.1
theorem aget_adel (k j : Int) : ∀ (l : List (Int × α)), anew l → aget j (adel k l) = if j = k then none else aget j l
  | [], _ => by simp [adel, aget]
  | (k', v') :: r, h => by
    rw [adel]
    by_cases e : k = k'
    · subst e
      rw [if_pos rfl, aget]
      by_cases h2 : j = k
      · rw [if_pos h2, h2]; exact h.1
      · rw [if_neg h2, if_neg h2]
    · rw [if_neg e, aget, aget_adel k j r h.2, aget]
      by_cases h2 : j = k'
      · have : ¬ j = k := fun e' => e (e'.symm.trans h2)
        rw [if_pos h2, if_pos h2, if_neg this]
      · rw [if_neg h2, if_neg h2]
theorem anew_adel (k : Int) : ∀ (l : List (Int × α)), anew l → anew (adel k l)
  | [], _ => trivial
  | (k', v') :: r, h => by
    rw [adel]
    by_cases e : k = k'
    · rw [if_pos e]; exact h.2
    · rw [if_neg e]
      refine ⟨?_, anew_adel k r h.2⟩
      rw [aget_adel k k' r h.2]
      split
      · rfl
      · exact h.1
variable (vf : α → AV)
def mEnt (l : List (Int × α)) : List (AV × AV) := l.map fun p => (.int .i64 p.1, vf p.2)
theorem mfind_ent (k : Int) : ∀ l : List (Int × α), mfind false [0] (.int .i64 k) (mEnt vf l) = some ((aget k l).map vf)
  | [] => rfl
  | (k', v') :: r => by
    have ih := mfind_ent k r
    simp only [mEnt, List.map_cons, mfind, keyEq, Bool.false_eq_true, if_false, leafEq, if_true, aget] at ih ⊢
    by_cases e : k = k'
    · simp [e]
    · have : (k == k') = false := by simpa using e
      rw [this]
      simp only [if_neg e]
      exact ih
theorem mset_ent (k : Int) (v : α) : ∀ l : List (Int × α), mset false [0] (.int .i64 k) (vf v) (mEnt vf l) = some (mEnt vf (aset k v l))
  | [] => rfl
  | (k', v') :: r => by
    have ih := mset_ent k v r
    simp only [mEnt, List.map_cons, mset, keyEq, Bool.false_eq_true, if_false, leafEq, if_true, aset] at ih ⊢
    by_cases e : k = k'
    · simp [e]
    · have : (k == k') = false := by simpa using e
      rw [this]
      simp only [if_neg e, ih, Option.map_some, List.map_cons]
theorem mdrop_ent (k : Int) : ∀ l : List (Int × α), mdrop false [0] (.int .i64 k) (mEnt vf l) = some (mEnt vf (adel k l))
  | [] => rfl
  | (k', v') :: r => by
    have ih := mdrop_ent k r
    simp only [mEnt, List.map_cons, mdrop, keyEq, Bool.false_eq_true, if_false, leafEq, if_true, adel] at ih ⊢
    by_cases e : k = k'
    · simp [e]
    · have : (k == k') = false := by simpa using e
      rw [this]
      simp only [if_neg e, ih, Option.map_some, List.map_cons]
abbrev AM (g : Nat) (l : List (Int × α)) : AO := ⟨g, .map false (mEnt vf l)⟩
variable {vf}
theorem mapAt_am {H : Heap} {id g : Nat} {l : List (Int × α)} (h : H[id]? = some (AM vf g l)) : mapAt H id g = some (false, mEnt vf l) := by
  simp [mapAt, objAt, h]
theorem mget_am {H : Heap} {id g : Nat} {l : List (Int × α)} (h : H[id]? = some (AM vf g l)) (z : AV) (k : Int) : evMget false [0] z false (.lm id g) (.int .i64 k) H = some (((aget k l).map vf).getD z) := by
  simp only [evMget, mapAt_am h, Option.map_some, mfind_ent]
  cases aget k l <;> rfl
theorem mget2_am {H : Heap} {id g : Nat} {l : List (Int × α)} (h : H[id]? = some (AM vf g l)) (z : AV) (k : Int) : evMget false [0] z true (.lm id g) (.int .i64 k) H = some (match aget k l with | some v => .tup [vf v, .bool true] | none => .tup [z, .bool false]) := by
  simp only [evMget, mapAt_am h, Option.map_some, mfind_ent]
  cases aget k l <;> rfl
theorem mput_am {H : Heap} {id g : Nat} {l : List (Int × α)} (h : H[id]? = some (AM vf g l)) (k : Int) (v : α) : evMput false [0] (.lm id g) (.int .i64 k) (vf v) H = some (.tup [], H.set id (AM vf g (aset k v l))) := by
  simp only [evMput, mapAt_am h, mset_ent, setMap, h]
theorem mdel_am {H : Heap} {id g : Nat} {l : List (Int × α)} (h : H[id]? = some (AM vf g l)) (k : Int) : evMdel false [0] (.lm id g) (.int .i64 k) H = some (.tup [], H.set id (AM vf g (adel k l))) := by
  simp only [evMdel, mapAt_am h, mdrop_ent, setMap, h]
theorem mclr_am {H : Heap} {id g : Nat} {l : List (Int × α)} (h : H[id]? = some (AM vf g l)) : evMclr (.lm id g) H = some (.tup [], H.set id (AM vf g [])) := by
  simp only [evMclr, mapAt_am h, setMap, h]; rfl
variable (vf) in
theorem mkm_am {H : Heap} {fb j : Nat} {o : AO} (h : H[fb + j]? = some o) : mkmC fb (some j) H = some (.lm (fb + j) (o.gen + 1), H.set (fb + j) (AM vf (o.gen + 1) [])) := by
  have e : AM vf (o.gen + 1) [] = ⟨o.gen + 1, .map false []⟩ := rfl
  rw [e]
  simp [mkmC, place, h]
end
abbrev vI (n : Int) : AV := .int .i64 n
abbrev vB (b : Bool) : AV := .bool b
end Go.Vm
namespace Go.Vm
@[simp] theorem holds13 : (callW E).p 74 [] = some ⟨.bool true, [], true, [], []⟩ := lift_p 60 (by kernel_rfl)
end Go.Vm
namespace Go.Vm
open Cel
theorem s_BeforeNil (i r : Int) : (callW E).p 76 [.nilp, .int .i64 i, .int .i64 r] = some ⟨.bool false, [], true, [], []⟩ := by
  rw [x_q38]; rfl
theorem s_AfterNil (i r : Int) : (callW E).p 87 [.nilp, .int .i64 i, .int .i64 r] = some ⟨.bool false, [], true, [], []⟩ := by
  rw [x_q37]; rfl
theorem s_AcrossNil (f : Fn) (i r : Int) : (callW E).p 88 [.nilp, .agg (enc f), .int .i64 i, .int .i64 r] = some ⟨.bool false, [], true, [], []⟩ := by
  rw [x_q36]
  have n0 : newC 0 (some 0) (cellsOf (.agg (enc f))) [D0] = some (.lp 0 1 0 0, [AB f]) := by simp
  have hE : evEqnB 0 false .nilp .nilp = some (.bool true) := rfl
  simp only [q36_1, q36_2, q36_3, n0, oh_some, hE, ob_some, gb_tf, evPick_t, cnd_t, expo1_bool']
section
variable {f : Fn} (w : Wf f)
include w
theorem reads_a {k : Nat} (hk : k < (lst f.code).length) {r : Int} (hr : r ∈ usesAt f k) : befR f k r = true := by
  have := w.uses hk hr
  have hf : fromP f [(k : Int)] r.toNat := (from_one f hk).2 (.inl (by rw [show ((r.toNat : Nat) : Int) = r by omega]; exact hr))
  unfold befR
  simp only [show (0 : Int) ≤ k by omega, show (k : Int) < ((lst f.code).length : Int) by omega, this.1, show r < ((lst f.regs).length : Int) by omega, hf, decide_true, Bool.and_self]
theorem reads_b {k : Nat} (hk : k < (lst f.code).length) {r : Nat} (hr : r < (lst f.regs).length) : befR f k r = (decide ((r : Int) ∈ usesAt f k) || acrR f k r) := by
  have e := from_one f (r := r) hk
  have b : befR f k r = @decide (fromP f [(k : Int)] r) (Classical.propDecidable _) := by
    unfold befR
    simp only [show (0 : Int) ≤ k by omega, show (k : Int) < ((lst f.code).length : Int) by omega, show (0 : Int) ≤ r by omega, show (r : Int) < ((lst f.regs).length : Int) by omega, Int.toNat_natCast, decide_true, Bool.true_and]
  have a : aftR f k r = @decide (fromP f (nextL f k) r) (Classical.propDecidable _) := by
    unfold aftR
    simp only [show (0 : Int) ≤ k by omega, show (k : Int) < ((lst f.code).length : Int) by omega, show (0 : Int) ≤ r by omega, show (r : Int) < ((lst f.regs).length : Int) by omega, Int.toNat_natCast, decide_true, Bool.true_and]
  have c : acrR f k r = (@decide (fromP f (caughtL f k) r) (Classical.propDecidable _) || (aftR f k r && decide (defr (insAt f k) ≠ r))) := by
    unfold acrR
    simp only [show (0 : Int) ≤ k by omega, show (k : Int) < ((lst f.code).length : Int) by omega, show (0 : Int) ≤ r by omega, show (r : Int) < ((lst f.regs).length : Int) by omega, Int.toNat_natCast, decide_true, Bool.true_and]
  rw [b, c, a, Bool.eq_iff_iff]
  simp only [Bool.or_eq_true, Bool.and_eq_true, decide_eq_true_eq]
  rw [e]
  constructor
  · rintro (h | h | h)
    · exact .inl h
    · exact .inr (.inl h)
    · exact .inr (.inr ⟨h.2, h.1⟩)
  · rintro (h | h | h)
    · exact .inl h
    · exact .inr (.inl h)
    · exact .inr (.inr ⟨h.2, h.1⟩)
theorem reads_c {k : Nat} (hk : k < (lst f.code).length) {r : Nat} (hr : r < (lst f.regs).length) (hd : defr (insAt f k) = r) (ha : acrR f k r = true) : throws (insAt f k).op = true := by
  unfold acrR at ha
  simp only [hd, ne_eq, not_true_eq_false, decide_false, Bool.and_false, Bool.or_false, Bool.and_eq_true, decide_eq_true_eq, Int.toNat_natCast] at ha
  have hf := ha.2.2.2.2
  cases ht : throws (insAt f k).op with
  | true => rfl
  | false =>
    have : caughtL f (k : Int) = [] := by
      unfold caughtL
      simp [ht]
    rw [this] at hf
    obtain ⟨a, ha, _⟩ := (from_some f).1 hf
    cases ha
end
section
variable {f : Fn} (w : Wf f) (hs : ArgsSm f) {t : Tb} (ok : TbOk (lst f.code).length ((lst f.regs).length / 64 + 1) t) (S : LvSnd f t) (C : ∀ i, i < (lst f.code).length → Cl f t i) (i0 r0 : Int)
include w hs ok S C
theorem cBef (i r : Int) (H : Heap) : callAny E (callW E) 0 none true 76 [tv t (lst f.regs).length, .int .i64 i, .int .i64 r] H = some (.bool (befR f i r), H) := by
  have hR := w.regs
  have q1 := s_Before t (R := (lst f.regs).length) (by omega) (fun i hi => ok.bw i (by rw [← ok.b]; exact hi)) i r
  rw [bef_eq w ok S C] at q1
  exact call_reads rfl (fz_tir _ _ i r H) rfl q1 ⟨_, rfl, rfl⟩
theorem cAcr (i r : Int) (H : Heap) : callAny E (callW E) 0 none true 88 [tv t (lst f.regs).length, .agg (enc f), .int .i64 i, .int .i64 r] H = some (.bool (acrR f i r), H) := by
  have hR := w.regs
  have q3 := s_Across f t (by omega) ok i r
  rw [acr_eq w ok S C] at q3
  exact call_reads rfl (fz_tfir _ _ f i r H) rfl q3 ⟨_, rfl, rfl⟩
theorem reads_regs {k : Nat} (hk : k < (lst f.code).length) (v37 v38 : AV) (g1 g2 : Nat) (m : List (Int × Int)) (hm : ∀ r : Int, aget r m = if r ∈ usesAt f k then some 1 else none) : ∀ (d r : Nat), r + d = (lst f.regs).length →
    q52_L4 (.int .i64 i0) (.int .i64 r0) (.lp 0 1 0 0) (tv t (lst f.regs).length) (.int .i64 k) (.lp 1 g1 0 0) (.lm 2 g2) (.int .i64 (defr (insAt f k))) v37 v38 (.int .i64 k) (.int .i64 (lst f.regs).length) (.int .i64 r) [AB f, AX g1 (insAt f k), AM vI g2 m] =
      q52_3 (.int .i64 i0) (.int .i64 r0) (.lp 0 1 0 0) (tv t (lst f.regs).length) v37 v38 (.int .i64 k) [AB f, AX g1 (insAt f k), AM vI g2 m] := by
  have hR := w.regs
  intro d
  induction d with
  | zero =>
    intro r hd
    have hc : ¬ (r : Int) < ((lst f.regs).length : Int) := by omega
    rw [q52_L4_go]
    simp only [q52_8, evBin_lss, ob_some, hc, decide_false, q52_7, cnd_f]
  | succ d ih =>
    intro r hd
    have hlt : r < (lst f.regs).length := by omega
    have hc : (r : Int) < ((lst f.regs).length : Int) := by omega
    have hw := wrap_up hlt (by omega)
    have l0 : ∀ t : Heap, evLd true 5 (.lp 0 1 0 0) (AB f :: t) = some (.agg (enc f)) := fun t => by simp
    have lo : evLd false 1 (.lp 1 g1 0 0) [AB f, AX g1 (insAt f k), AM vI g2 m] = some (.int .i64 (insAt f k).op) := by simp
    have cB := cBef w hs ok S C k r
    have cA := cAcr w hs ok S C k r
    have mg := mget_am (vf := vI) (H := [AB f, AX g1 (insAt f k), AM vI g2 m]) (id := 2) (g := g2) (l := m) rfl (.int .i64 0) r
    rw [hm] at mg
    have hT : ∀ H : Heap, callAny E (callW E) 0 none true 19 [.int .i64 (insAt f k).op] H = some (.bool (throws (insAt f k).op), H) := fun H => call_reads (fa := ⟨[.int .i64 (insAt f k).op], true, []⟩) rfl rfl rfl (s_RThrows _) ⟨_, rfl, rfl⟩
    have hb := reads_b w hk hlt
    rw [q52_L4_go]
    refine Eq.trans ?_ (ih (r + 1) (by omega))
    have go5 : q52_5 (.int .i64 i0) (.int .i64 r0) (.lp 0 1 0 0) (tv t (lst f.regs).length) (.int .i64 k) (.lp 1 g1 0 0) (.lm 2 g2) (.int .i64 (defr (insAt f k))) v37 v38 (.int .i64 k) (.int .i64 (lst f.regs).length) (.int .i64 r) [AB f, AX g1 (insAt f k), AM vI g2 m] =
        q52_L4 (.int .i64 i0) (.int .i64 r0) (.lp 0 1 0 0) (tv t (lst f.regs).length) (.int .i64 k) (.lp 1 g1 0 0) (.lm 2 g2) (.int .i64 (defr (insAt f k))) v37 v38 (.int .i64 k) (.int .i64 (lst f.regs).length) (.int .i64 (r + 1 : Nat)) [AB f, AX g1 (insAt f k), AM vI g2 m] := by
      simp only [q52_5, evBin_add, ob_some, hw]; rfl
    rw [← go5]
    cases ha : acrR f k r with
    | true =>
      have hb1 : befR f k r = true := by rw [hb, ha, Bool.or_true]
      rw [ha] at cA
      rw [hb1] at cB
      by_cases hd : defr (insAt f k) = r
      · have ht := reads_c w hk hlt hd ha
        rw [ht] at hT
        by_cases hu : (r : Int) ∈ usesAt f k
        · rw [if_pos hu] at mg
          simp only [Option.map_some, Option.getD_some] at mg
          simp only [q52_8, evBin_lss, ob_some, hc, decide_true, q52_7, cnd_t, q52_6, l0, cA, cB, oh_some, gb_tt, gh_tt, evUn_not, Bool.not_true, evPick_t, gb_ff, gh_ff, mg, evBin_eql, show decide ((1 : Int) = 0) = false from rfl, gb_ft, gh_ft, evPick_f, hd, evFa_lp, Nat.zero_add, lo, hT, cnd_f]
        · rw [if_neg hu] at mg
          simp only [Option.map_none, Option.getD_none] at mg
          simp only [q52_8, evBin_lss, ob_some, hc, decide_true, q52_7, cnd_t, q52_6, l0, cA, cB, oh_some, gb_tt, gh_tt, evUn_not, Bool.not_true, evPick_t, gb_ff, gh_ff, mg, evBin_eql, gb_ft, gh_ft, evPick_f, hd, evFa_lp, Nat.zero_add, lo, hT, cnd_f]
      · by_cases hu : (r : Int) ∈ usesAt f k
        · rw [if_pos hu] at mg
          simp only [Option.map_some, Option.getD_some] at mg
          simp only [q52_8, evBin_lss, ob_some, hc, decide_true, q52_7, cnd_t, q52_6, l0, cA, cB, oh_some, gb_tt, gh_tt, evUn_not, Bool.not_true, evPick_t, gb_ff, gh_ff, mg, evBin_eql, show decide ((1 : Int) = 0) = false from rfl, gb_ft, gh_ft, evPick_f, hd, decide_false, cnd_f]
        · rw [if_neg hu] at mg
          simp only [Option.map_none, Option.getD_none] at mg
          simp only [q52_8, evBin_lss, ob_some, hc, decide_true, q52_7, cnd_t, q52_6, l0, cA, cB, oh_some, gb_tt, gh_tt, evUn_not, Bool.not_true, evPick_t, gb_ff, gh_ff, mg, evBin_eql, gb_ft, gh_ft, evPick_f, hd, decide_false, cnd_f]
    | false =>
      rw [ha] at cA
      by_cases hu : (r : Int) ∈ usesAt f k
      · have hb1 : befR f k r = true := by rw [hb, ha, Bool.or_false, decide_eq_true hu]
        rw [hb1] at cB
        rw [if_pos hu] at mg
        simp only [Option.map_some, Option.getD_some] at mg
        by_cases hd : defr (insAt f k) = r
        · simp only [q52_8, evBin_lss, ob_some, hc, decide_true, q52_7, cnd_t, q52_6, l0, cA, cB, oh_some, gb_tt, gh_tt, gb_ff, gh_ff, mg, evBin_eql, show decide ((1 : Int) = 0) = false from rfl, gb_ft, gh_ft, evPick_t, evPick_f, hd, cnd_f]
        · simp only [q52_8, evBin_lss, ob_some, hc, decide_true, q52_7, cnd_t, q52_6, l0, cA, cB, oh_some, gb_tt, gh_tt, gb_ff, gh_ff, mg, evBin_eql, show decide ((1 : Int) = 0) = false from rfl, gb_ft, gh_ft, evPick_t, evPick_f, hd, decide_false, cnd_f]
      · have hb1 : befR f k r = false := by rw [hb, ha, Bool.or_false, decide_eq_false hu]
        rw [hb1] at cB
        by_cases hd : defr (insAt f k) = r
        · simp only [q52_8, evBin_lss, ob_some, hc, decide_true, q52_7, cnd_t, q52_6, l0, cA, cB, oh_some, gb_tt, gh_tt, gb_ff, gh_ff, evBin_eql, gb_ft, gh_ft, evPick_t, evPick_f, hd, cnd_f]
        · simp only [q52_8, evBin_lss, ob_some, hc, decide_true, q52_7, cnd_t, q52_6, l0, cA, cB, oh_some, gb_tt, gh_tt, gb_ff, gh_ff, evBin_eql, gb_ft, gh_ft, evPick_t, evPick_f, hd, decide_false, cnd_f]
theorem reads_uses {k : Nat} (hk : k < (lst f.code).length) (v37 v38 : AV) (g1 g2 : Nat) : ∀ (d j : Nat) (m : List (Int × Int)), j + d = (usesAt f k).length → (∀ r : Int, aget r m = if r ∈ (usesAt f k).take j then some 1 else none) →
    ∃ m', (∀ r : Int, aget r m' = if r ∈ usesAt f k then some 1 else none) ∧ q52_L12 (.int .i64 i0) (.int .i64 r0) (.lp 0 1 0 0) (tv t (lst f.regs).length) (.int .i64 k) (.lp 1 g1 0 0) (.lm 2 g2) v37 v38 (.int .i64 k) (slA (nz (usesAt f k))) (.int .i64 (usesAt f k).length) (.int .i64 j) [AB f, AX g1 (insAt f k), AM vI g2 m] =
      q52_11 (.int .i64 i0) (.int .i64 r0) (.lp 0 1 0 0) (tv t (lst f.regs).length) (.int .i64 k) (.lp 1 g1 0 0) (.lm 2 g2) v37 v38 (.int .i64 k) [AB f, AX g1 (insAt f k), AM vI g2 m'] := by
  intro d
  induction d with
  | zero =>
    intro j m hd hm
    have hc : ¬ (j : Int) < ((usesAt f k).length : Int) := by omega
    refine ⟨m, by rw [List.take_of_length_le (by omega)] at hm; exact hm, ?_⟩
    rw [q52_L12_go]
    simp only [q52_16, evBin_lss, ob_some, hc, decide_false, q52_15, cnd_f]
  | succ d ih =>
    intro j m hd hm
    have hlt : j < (usesAt f k).length := by omega
    have hc : (j : Int) < ((usesAt f k).length : Int) := by omega
    have hxa := hs _ (List.mem_of_getElem? (insAt_lt hk))
    have hul := uses_small _ hxa
    have hul' : (usesAt f k).length ≤ 17592186043904 := by rw [usesAt]; exact hul
    have hw := wrap_up hlt (by omega)
    have kx := ixs_int (o := nz (usesAt f k)) (i := j) (by rw [lst_nz]; exact List.getElem?_eq_getElem hlt) .i64
    have hmem : (usesAt f k)[j] ∈ usesAt f k := List.getElem_mem hlt
    have hb := reads_a w hk hmem
    have htk : (usesAt f k).take (j + 1) = (usesAt f k).take j ++ [(usesAt f k)[j]] := List.take_succ_eq_append_getElem hlt
    generalize (usesAt f k)[j] = u at *
    have lx : ∀ H : Heap, evLd false 1 (.rp [.int .i64 u]) H = some (.int .i64 u) := fun H => by simp
    have mp := mput_am (vf := vI) (H := [AB f, AX g1 (insAt f k), AM vI g2 m]) (id := 2) (g := g2) (l := m) rfl u 1
    simp only [List.set_cons_succ, List.set_cons_zero] at mp
    have cB := fun H => cBef w hs ok S C k u H
    rw [hb] at cB
    obtain ⟨m', h1, h2⟩ := ih (j + 1) (aset u 1 m) (by omega) (fun r => by
      rw [aget_aset, htk, hm]
      by_cases e : r = u
      · simp [e]
      · simp [e])
    refine ⟨m', h1, ?_⟩
    rw [q52_L12_go, ← h2]
    simp only [q52_16, evBin_lss, ob_some, hc, decide_true, q52_15, cnd_t, q52_14, kx, lx, mp, oh_some, cB, evUn_not, Bool.not_true, cnd_f, q52_13, evBin_add, hw]
    rfl
theorem reads_code : ∀ (d k : Nat) (o1 o2 : AO), k + d = (lst f.code).length →
    q52_L2 (.int .i64 i0) (.int .i64 r0) (.lp 0 1 0 0) (tv t (lst f.regs).length) (slA f.code) (.int .i64 (lst f.code).length) (.int .i64 k) [AB f, o1, o2] = some ⟨.bool true, [], true, [], []⟩ := by
  have hn := w.n2
  have l0 : ∀ t : Heap, evLd true 5 (.lp 0 1 0 0) (AB f :: t) = some (.agg (enc f)) := fun t => by simp
  have lr : ∀ t : Heap, evLd false 1 (.lp 0 1 0 0) (AB f :: t) = some (slA f.regs) := fun t => by simp
  intro d
  induction d with
  | zero =>
    intro k o1 o2 hd
    have hc : ¬ (k : Int) < ((lst f.code).length : Int) := by omega
    have b1 : ∀ H : Heap, callAny E (callW E) 0 none true 76 [.nilp, .int .i64 i0, .int .i64 r0] H = some (.bool false, H) := fun H => call_reads (fa := ⟨[.nilp, .int .i64 i0, .int .i64 r0], true, []⟩) rfl rfl rfl (s_BeforeNil i0 r0) ⟨_, rfl, rfl⟩
    have b2 : ∀ H : Heap, callAny E (callW E) 0 none true 87 [.nilp, .int .i64 i0, .int .i64 r0] H = some (.bool false, H) := fun H => call_reads (fa := ⟨[.nilp, .int .i64 i0, .int .i64 r0], true, []⟩) rfl rfl rfl (s_AfterNil i0 r0) ⟨_, rfl, rfl⟩
    have fn : ∀ H : Heap, fzList (fz H fuelF) [.nilp, .agg (enc f), .int .i64 i0, .int .i64 r0] = some ⟨[.nilp, .agg (enc f), .int .i64 i0, .int .i64 r0], true && (scal f && (true && (true && true))), []⟩ := fun H => by
      rw [fzList_cons, fzList_cons, fzList_cons, fzList_cons, fz_enc, fz_int', fz_int', fzList_nil]; rfl
    have b3 : ∀ H : Heap, callAny E (callW E) 0 none true 88 [.nilp, .agg (enc f), .int .i64 i0, .int .i64 r0] H = some (.bool false, H) := fun H => call_reads rfl (fn H) rfl (s_AcrossNil f i0 r0) ⟨_, rfl, rfl⟩
    rw [q52_L2_go]
    simp only [q52_26, evBin_lss, ob_some, hc, decide_false, q52_25, cnd_f, q52_1, b1, oh_some, evUn_not, Bool.not_false, gb_tt, gh_tt, b2, evPick_t, l0, b3, expo1_bool']
  | succ d ih =>
    intro k o1 o2 hd
    have hlt : k < (lst f.code).length := by omega
    have hc : (k : Int) < ((lst f.code).length : Int) := by omega
    have hw := wrap_up hlt (by omega)
    have hx := insAt_lt hlt
    have hxa := hs _ (List.mem_of_getElem? hx)
    have kx := ixs_ins (o := f.code) (i := k) hx .i64
    have lx : ∀ t : Heap, evLd true 9 (.rp (enc (insAt f k))) t = some (.agg (enc (insAt f k))) := fun t => by simp
    have ax : ∀ H : Heap, fzList (fz H fuelF) [.agg (enc (insAt f k))] = some ⟨[.agg (enc (insAt f k))], scal (insAt f k) && true, []⟩ := fun H => by
      rw [fzList_cons, fz_enc, fzList_nil]; rfl
    have cU : ∀ H, callAny E (callW E) 0 none true 15 [.agg (enc (insAt f k))] H = some (slA (nz (usesAt f k)), H) := fun H => call_reads rfl (ax H) rfl (s_RUses (insAt f k) hxa) ⟨_, exO_fz _, rfl⟩
    have cD : ∀ H, callAny E (callW E) 0 none true 16 [.agg (enc (insAt f k))] H = some (.int .i64 (defr (insAt f k)), H) := fun H => call_reads rfl (ax H) rfl (s_RDef (insAt f k)) ⟨_, rfl, rfl⟩
    have n1 : newC 0 (some 1) [.int .i64 0, .int .i64 0, .int .i64 0, .int .i64 0, .int .i64 0, .int .i64 0, .int .i64 0, .str [], .nils] [AB f, o1, o2] = some (.lp 1 (o1.gen + 1) 0 0, [AB f, ⟨o1.gen + 1, .arr true false 9 [[.int .i64 0, .int .i64 0, .int .i64 0, .int .i64 0, .int .i64 0, .int .i64 0, .int .i64 0, .str [], .nils]]⟩, o2]) := by simp
    have s1 : evSt 9 (.lp 1 (o1.gen + 1) 0 0) (.agg (enc (insAt f k))) [AB f, ⟨o1.gen + 1, .arr true false 9 [[.int .i64 0, .int .i64 0, .int .i64 0, .int .i64 0, .int .i64 0, .int .i64 0, .int .i64 0, .str [], .nils]]⟩, o2] = some (.tup [], [AB f, AX (o1.gen + 1) (insAt f k), o2]) := by simp [evSt_lp, spliceAt]
    have lX : ∀ o, evLd true 9 (.lp 1 (o1.gen + 1) 0 0) [AB f, AX (o1.gen + 1) (insAt f k), o] = some (.agg (enc (insAt f k))) := fun o => by simp
    have mk := mkm_am vI (H := [AB f, AX (o1.gen + 1) (insAt f k), o2]) (fb := 0) (j := 2) (o := o2) rfl
    simp only [Nat.zero_add, List.set_cons_succ, List.set_cons_zero] at mk
    obtain ⟨m', h1, h2⟩ := reads_uses w hs ok S C i0 r0 hlt (slA f.code) (.int .i64 (lst f.code).length) (o1.gen + 1) (o2.gen + 1) _ 0 [] (Nat.zero_add _) (fun r => by simp [aget])
    have h3 := reads_regs w hs ok S C i0 r0 hlt (slA f.code) (.int .i64 (lst f.code).length) (o1.gen + 1) (o2.gen + 1) m' h1 _ 0 (Nat.zero_add _)
    simp only [Int.ofNat_zero] at h2 h3
    have hul := evLen_sl (nz (usesAt f k))
    rw [lst_nz] at hul
    rw [q52_L2_go]
    refine Eq.trans ?_ (ih (k + 1) (AX (o1.gen + 1) (insAt f k)) (AM vI (o2.gen + 1) m') (by omega))
    simp only [q52_26, evBin_lss, ob_some, hc, decide_true, q52_25, cnd_t, q52_22, kx, lx, n1, oh_some, s1, q52_21, lX, cU, q52_20, mk, q52_18, hul, h2, q52_11, cD, q52_10, evFa_lp, Nat.zero_add, lr, evLen_sl, h3, q52_3, evBin_add, hw]
    rfl
end
theorem LiveReads_all (f : Fn) (i r : Int) (hf : FnIn f) : (callW E).p 112 [.agg (enc f), .int .i64 i, .int .i64 r] = some ⟨.bool true, [], true, [], []⟩ := by
  rw [x_q52]
  have n0 : newC 0 (some 0) (cellsOf (.agg (enc f))) [⟨0, .dead⟩, ⟨0, .dead⟩, ⟨0, .dead⟩] = some (.lp 0 1 0 0, [AB f, D0, D0]) := by simp
  have l0 : ∀ t : Heap, evLd true 5 (.lp 0 1 0 0) (AB f :: t) = some (.agg (enc f)) := fun t => by simp
  have l3 : ∀ t : Heap, evLd false 1 (.lp 0 1 0 3) (AB f :: t) = some (slA f.code) := fun t => by simp
  have lr : ∀ t : Heap, evLd false 1 (.lp 0 1 0 0) (AB f :: t) = some (slA f.regs) := fun t => by simp
  have ha : ∀ H : Heap, fzList (fz H fuelF) [.agg (enc f)] = some ⟨[.agg (enc f)], scal f && true, []⟩ := fun H => by
    rw [fzList_cons, fz_enc, fzList_nil]; rfl
  have ch : ∀ H : Heap, callAny E (callW E) 0 none true 74 [] H = some (.bool true, H) := fun H => call_reads (fa := ⟨[], true, []⟩) rfl rfl rfl holds13 ⟨_, rfl, rfl⟩
  by_cases h1 : (400 : Int) < ((lst f.code).length : Int)
  · simp only [q52_33, n0, oh_some, q52_32, ch, evUn_not, Bool.not_true, ob_some, cnd_f, q52_31, evFa_lp, Nat.zero_add, l3, evLen_sl, evBin_gtr, h1, decide_true, gb_tf, gh_tf, evPick_t, cnd_t, expo1_bool']
  by_cases h2 : (60 : Int) < ((lst f.regs).length : Int)
  · simp only [q52_33, n0, oh_some, q52_32, ch, evUn_not, Bool.not_true, ob_some, cnd_f, q52_31, evFa_lp, Nat.zero_add, l3, lr, evLen_sl, evBin_gtr, h1, h2, decide_true, decide_false, gb_ff, gb_tf, gh_tf, evPick_f, evPick_t, cnd_t, expo1_bool']
  have hck := s_RCheck f hf.fit3
  have c29 : ∀ H, callAny E (callW E) 0 none true 29 [.agg (enc f)] H = some (.int .i64 (if wf f then 0 else 80), H) := fun H => call_reads rfl (ha H) rfl hck ⟨_, rfl, rfl⟩
  have e38 : (2:Nat)^38 = 274877906944 := by decide
  have e : reachBytes = 140737488351232 := rfl
  have hi := hf.insI
  have hx : ∀ x ∈ lst f.code, (lst x.args).length ≤ 17592186043904 := fun x hx => by
    have := (hi x hx).len; omega
  cases hw : wf f with
  | false =>
    rw [hw] at c29
    simp only [q52_33, n0, oh_some, q52_32, ch, evUn_not, Bool.not_true, ob_some, cnd_f, q52_31, evFa_lp, Nat.zero_add, l3, lr, evLen_sl, evBin_gtr, h1, h2, decide_false, gb_ff, gh_ff, evPick_f, l0, c29, Bool.false_eq_true, if_false, evBin_neq, show decide ((80 : Int) ≠ 0) = true from rfl, cnd_t, expo1_bool']
  | true =>
    rw [hw] at c29
    have w := wf_of hw
    obtain ⟨q, t, hO, hR, ok, S, C⟩ := s_Of f hf.fit3 (by have := hf.rows; omega) hx hw
    have cO : ∀ H, callAny E (callW E) 0 none true 75 [.agg (enc f)] H = some (tv t (lst f.regs).length, H) := fun H => call_reads rfl (ha H) rfl hO hR
    have hl := reads_code w hx ok S C i r _ 0 D0 D0 (Nat.zero_add _)
    simp only [Int.ofNat_zero] at hl
    simp only [q52_33, n0, oh_some, q52_32, ch, evUn_not, Bool.not_true, ob_some, cnd_f, q52_31, evFa_lp, Nat.zero_add, l3, lr, evLen_sl, evBin_gtr, h1, h2, decide_false, gb_ff, gh_ff, evPick_f, l0, c29, if_true, evBin_neq, show decide ((0 : Int) ≠ 0) = false from rfl, q52_30, cO, q52_28, hl]
end Go.Vm
