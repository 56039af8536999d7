/- What a well formed function is like. In a well formed function the registers that are read and written are registers, and the places that follow are places. The table of the pass 'carry', in plain words: facts flow from place to place until they stay. An instruction that reads other registers of the same kinds is as right as before. Sets of registers, 64 a word. Whether each register is written ahead of all that reads it, in plain words: by ways, and by what is set at each place. Which registers are live, in plain words: by ways, and by what the sweeps over the table leave. What is live ahead of, behind and across a place, as tests. Functions with other instructions at some places: well formed as before. Ways to a read, from their beginning on. A function with other code. Where blocks begin, in plain words. What the pass 'carry' leaves, in plain words. What 'kinds' answers. What 'other' answers; all of 'kinds'. What the functions of 'ins' answer of single instructions. Whether one instruction is well formed: 'right'. -/
import Derived.Test.YtgbajicpokolcaaLX
import Derived.Test.YtgbajicpokolcaaLTa
set_option linter.unusedSimpArgs false
set_option linter.unusedVariables false
set_option linter.unusedSectionVars false
namespace Go.Vm
theorem ygv {f : Fn} {C : List Ins} : ∀ {l : List Ins} {i k : Nat} {x : Ins}, y3v f C i l = true → l[k]? = some x → y15 f x = true ∧ y3e C (i + k) x = true
  | [], _, _, _, _, h => by simp at h
  | y :: l, i, k, x, hk, h => by
    simp only [y3v, Bool.and_eq_true] at hk
    cases k with
    | zero => simp at h; subst h; exact hk.1
    | succ k =>
      have := ygv hk.2 (by simpa using h)
      rwa [show i + 1 + k = i + (k + 1) by omega] at this
structure Wf (f : Fn) : Prop where
  n1 : 1 ≤ (lst f.code).length
  n2 : (lst f.code).length ≤ 20000
  regs : (lst f.regs).length ≤ 20000
  ret0 : 0 ≤ f.ret
  ret3 : f.ret ≤ 3
  last : ends (yk f ((lst f.code).length - 1)).op = true
  kinds : ∀ k ∈ lst f.regs, 1 ≤ k ∧ k ≤ 3
  pars : yci (lst f.regs) 0 [] (lst f.params) = true
  ins : ∀ i, i < (lst f.code).length → y15 f (yk f i) = true
  spot : ∀ i, i < (lst f.code).length → y3e (lst f.code) i (yk f i) = true
  rows : ∀ r ∈ lst f.rows, y43 (lst f.code) r = true
theorem y25u {f : Fn} (h : wf f = true) : Wf f := by
  simp only [wf, Bool.and_eq_true, decide_eq_true_eq, List.all_eq_true] at h
  obtain ⟨⟨⟨⟨⟨⟨⟨⟨⟨h1, h2⟩, h3⟩, h4⟩, h5⟩, h6⟩, h7⟩, h8⟩, h9⟩, h10⟩ := h
  refine ⟨h1, h2, h3, h4, h5, h6, h7, h8, fun i hi => ?_, fun i hi => ?_, h10⟩
  · exact (ygv h9 (y3i hi)).1
  · have := (ygv h9 (y3i hi)).2
    rwa [Nat.zero_add] at this
theorem yty {R : List Int} {ret : Int} {n : Nat} {x : Ins} (h : y30 R ret n x = true) (hl : leads x.op = true) : 0 ≤ x.t ∧ x.t < n := by
  have hne : ¬ x.op = 1 ∧ ¬ x.op = 4 ∧ ¬ x.op = 7 ∧ ¬ x.op = 30 := by
    simp only [leads, Bool.or_eq_true, decide_eq_true_eq] at hl
    omega
  simp only [y30, hne, if_false, hl, Bool.not_true, Bool.false_or, Bool.and_eq_true, decide_eq_true_eq] at h
  exact h
theorem Wf.leads {f : Fn} (w : Wf f) {i : Nat} (hi : i < (lst f.code).length) (hl : Go.Vm.leads (yk f i).op = true) : 0 ≤ (yk f i).t ∧ (yk f i).t < (lst f.code).length := by
  have h := w.ins i hi
  simp only [y15, Bool.and_eq_true] at h
  exact yty h.2 hl
structure RowIn (f : Fn) (r : Row) : Prop where
  f0 : 0 ≤ r.f
  ft : r.f < r.t
  tn : r.t ≤ (lst f.code).length
  a0 : 0 ≤ r.at_
  an : r.at_ < (lst f.code).length
  op : (yk f r.at_.toNat).op = 32
theorem Wf.row {f : Fn} (w : Wf f) {r : Row} (hr : r ∈ lst f.rows) : RowIn f r := by
  have h := w.rows r hr
  simp only [y43, Bool.not_eq_true', Bool.or_eq_false_iff, decide_eq_false_iff_not, Classical.not_not] at h
  exact ⟨by omega, by omega, by omega, by omega, by omega, h.2⟩
end Go.Vm
namespace Go.Vm
theorem y7a {R : List Int} {k r : Int} (h : y1f R k r = true) (hk : 0 ≤ k) : 0 ≤ r ∧ r < R.length := by
  simp only [y1f, Bool.or_eq_true, decide_eq_true_eq, Bool.and_eq_true, inR] at h
  omega
theorem ytp (n : Int) : 0 ≤ (numK n).1 ∧ 0 ≤ (numK n).2.1 ∧ 0 ≤ (numK n).2.2 := by
  unfold numK
  repeat' split
  all_goals decide
set_option maxHeartbeats 4000000 in
theorem yll {f : Fn} {x : Ins} (h : y15 f x = true) {u : Int} (hu : u ∈ lst (uses x)) : 0 ≤ u ∧ u < (lst f.regs).length := by
  simp only [y15, Bool.and_eq_true] at h
  obtain ⟨⟨⟨⟨⟨⟨h0, h1⟩, h2⟩, h3⟩, h4⟩, h5⟩, h6⟩ := h
  by_cases hc : calls x.op = true
  · have hu' : u ∈ lst x.args := by simpa [uses, hc] using hu
    simp only [y4t, hc, Bool.not_true, Bool.false_or, Bool.and_eq_true, List.all_eq_true] at h5
    have := h5.2 u hu'
    simpa [inR] using this
  · have key : (u = x.a ∧ 0 ≤ (ye x).2.1) ∨ (u = x.b ∧ 0 ≤ (ye x).2.2.1) ∨ (u = x.c ∧ 0 ≤ (ye x).2.2.2.1) ∨ False := by
      rcases ycu x.op with h|h|h|h|h|h|h|h|h|h|h|h|h|h|h|h|h|h|h|h|h|h|h|h|h|h|h|h|h|h|h|h|h|h|h
      all_goals first
        | (exfalso; simp [uses, reads, calls, h] at hu; done)
        | (exfalso; simp [calls, h] at hc; done)
        | (simp [uses, reads, calls, h] at hu; simp [ye, h] at h0 ⊢; first | omega | (rcases hu with rfl | rfl <;> simp [ytp]) | (rcases hu with rfl | rfl | rfl <;> simp) | (subst hu; simp [ytp]))
        | (simp [uses, reads, calls, h] at hu; simp [ye, h]; split at hu <;> simp_all; done)
        | (exfalso; simp [uses, reads, calls, lo_f h] at hu; done)
        | (exfalso; simp [uses, reads, calls, hi_f h] at hu; done)
        | skip
      · by_cases hb : x.b < 0
        · simp [uses, calls, h, hb] at hu
          exact .inl ⟨hu, by simp [ye, h]⟩
        · simp [uses, calls, h, hb] at hu
          rcases hu with hu | hu
          · exact .inl ⟨hu, by simp [ye, h]⟩
          · have : ¬ x.b = -1 := by omega
            exact .inr (.inl ⟨hu, by simp [ye, h, this]⟩)
      · by_cases ha : 0 ≤ x.a
        · simp [uses, calls, h, ha] at hu
          have : ¬ x.a = -1 := by omega
          exact .inl ⟨hu, by simp [ye, h, this]⟩
        · simp [uses, calls, h, ha] at hu
    rcases key with ⟨rfl, hk⟩ | ⟨rfl, hk⟩ | ⟨rfl, hk⟩ | hk
    · exact y7a h2 hk
    · exact y7a h3 hk
    · exact y7a h4 hk
    · exact hk.elim
set_option maxHeartbeats 4000000 in
theorem y1ls {f : Fn} {x : Ins} (h : y15 f x = true) (hd : ¬ defr x = -1) : 0 ≤ defr x ∧ defr x < (lst f.regs).length := by
  simp only [y15, Bool.and_eq_true] at h
  obtain ⟨⟨⟨⟨⟨⟨h0, h1⟩, h2⟩, h3⟩, h4⟩, h5⟩, h6⟩ := h
  have key : defr x = x.d ∧ 0 ≤ (ye x).1 := by
    unfold defr at hd ⊢
    split at hd
    · rename_i hw
      rw [if_pos hw]
      refine ⟨rfl, ?_⟩
      rcases ycu x.op with h|h|h|h|h|h|h|h|h|h|h|h|h|h|h|h|h|h|h|h|h|h|h|h|h|h|h|h|h|h|h|h|h|h|h
      all_goals first
        | (exfalso; simp [writes, calls, h] at hw; done)
        | (simp [ye, h, ytp, hd]; done)
        | (exfalso; simp [writes, calls, lo_f h] at hw; done)
        | (exfalso; simp [writes, calls, hi_f h] at hw; done)
    · exact (hd rfl).elim
  rw [key.1]
  exact y7a h1 key.2
theorem Wf.uses {f : Fn} (w : Wf f) {i : Nat} (hi : i < (lst f.code).length) {u : Int} (hu : u ∈ lst (Go.Vm.uses (yk f i))) : 0 ≤ u ∧ u < (lst f.regs).length := yll (w.ins i hi) hu
theorem Wf.def {f : Fn} (w : Wf f) {i : Nat} (hi : i < (lst f.code).length) (hd : 0 ≤ defr (yk f i)) : defr (yk f i) < (lst f.regs).length := (y1ls (w.ins i hi) (by omega)).2
theorem ygg {l : List Int} {j a : Int} (h : j ∈ addN l a) : j ∈ l ∨ j = a := by
  unfold addN at h
  split at h
  · exact .inl h
  · rw [List.mem_append, List.mem_singleton] at h; exact h
theorem Wf.next {f : Fn} (w : Wf f) {i : Nat} (hi : i < (lst f.code).length) {to : Int} (h : to ∈ y4r f i) : 0 ≤ to ∧ to < (lst f.code).length := by
  rw [y4r, if_neg (by omega), show ((i : Int)).toNat = i by omega] at h
  have hself : ∀ {j : Int}, j ∈ (if ends (yk f i).op = true then [] else [(i : Int) + 1]) → 0 ≤ j ∧ j < (lst f.code).length := by
    intro j hj
    split at hj
    · cases hj
    · rename_i he
      rw [List.mem_singleton] at hj
      subst hj
      refine ⟨by omega, ?_⟩
      by_cases e : i = (lst f.code).length - 1
      · subst e; exact (he w.last).elim
      · omega
  unfold yqm at h
  split at h
  · rename_i hl
    rcases ygg h with h | h
    · exact hself h
    · rw [h]; exact w.leads hi hl
  · exact hself h
theorem ybi {i to : Int} : ∀ {rs : List Row} {l : List Int}, to ∈ y44 i rs l → to ∈ l ∨ ∃ r ∈ rs, r.at_ = to
  | [], l, h => .inl h
  | r :: rs, l, h => by
    unfold y44 at h
    split at h
    · split at h
      · rcases ygg h with h | h
        · exact .inl h
        · exact .inr ⟨r, by simp, h.symm⟩
      · rcases ybi h with h | ⟨r', h1, h2⟩
        · rcases ygg h with h | h
          · exact .inl h
          · exact .inr ⟨r, by simp, h.symm⟩
        · exact .inr ⟨r', by simp [h1], h2⟩
    · rcases ybi h with h | ⟨r', h1, h2⟩
      · exact .inl h
      · exact .inr ⟨r', by simp [h1], h2⟩
theorem Wf.caught {f : Fn} (w : Wf f) {i to : Int} (h : to ∈ y1r f i) : 0 ≤ to ∧ to < (lst f.code).length := by
  rw [y1r] at h
  split at h
  · cases h
  · split at h
    · rcases ybi h with h | ⟨r, h1, h2⟩
      · cases h
      · have := w.row h1
        rw [← h2]; exact ⟨this.a0, this.an⟩
    · cases h
end Go.Vm
namespace Go.Vm
abbrev FTab := List (Option Fx)
def fAt (T : FTab) (i : Nat) : Option Fx := T[i]?.join
def ydu (s : Fx) (to : Int) (p : FTab × List Int) : FTab × List Int :=
  if to = 0 ∨ fAt p.1 to.toNat = some (metM (fAt p.1 to.toNat) s) then p
  else (p.1.set to.toNat (some (metM (fAt p.1 to.toNat) s)), p.2 ++ [to])
def y48 (s : Fx) : List Int → FTab × List Int → FTab × List Int
  | [], p => p
  | to :: l, p => y48 s l (ydu s to p)
theorem yo2 {T : FTab} {i j : Nat} {x : Option Fx} (hi : i < T.length) : fAt (T.set i x) j = if i = j then x else fAt T j := by
  unfold fAt
  rw [List.getElem?_set]
  by_cases e : i = j
  · subst e; simp [hi]
  · simp [e]
theorem y1wp {T : FTab} {i : Nat} {s : Fx} (h : fAt T i = some s) : T[i]? = some (some s) := by
  unfold fAt at h
  cases hT : T[i]? with
  | none => rw [hT] at h; cases h
  | some o => rw [hT] at h; have : o = some s := h; rw [this]
theorem yvm {T : FTab} {i : Nat} {s : Fx} (h : fAt T i = some s) : i < T.length := (List.getElem?_eq_some_iff.1 (y1wp h)).1
def SubF (t s : Fx) : Prop := ∀ (u : Nat) (q : Int), 0 ≤ q → t.getD u (-1) = q → s.getD u (-1) = q
theorem SubF.refl (t : Fx) : SubF t t := fun _ _ _ h => h
theorem SubF.trans {a b c : Fx} (h : SubF a b) (h' : SubF b c) : SubF a c := fun u q h0 h1 => h' u q h0 (h u q h0 h1)
theorem y2fm (a b : Fx) : SubF (metL a b) a := fun _ _ h0 h => (y0u h0 h).1
theorem y2hb (a b : Fx) : SubF (metL a b) b := fun _ _ h0 h => (y0u h0 h).2
theorem SubF.none (n : Nat) (s : Fx) : SubF (List.replicate n (-1)) s := by
  intro u q h0 h
  rw [List.getD_eq_getElem?_getD, List.getElem?_replicate] at h
  split at h <;> simp at h <;> omega
theorem y1gk (a : Fx) : metL a a = a := by
  unfold metL
  induction a with
  | nil => rfl
  | cons x a ih => rw [List.zipWith_cons_cons, ih, if_pos rfl]
def cntF (s : Fx) : Nat := s.countP (fun q => decide (q ≠ -1))
theorem y1du (s : Fx) : cntF s ≤ s.length := List.countP_le_length
theorem y1pz : ∀ {a b : Fx}, a.length = b.length → cntF (metL a b) ≤ cntF a ∧ (metL a b ≠ a → cntF (metL a b) < cntF a)
  | [], [], _ => ⟨Nat.le_refl _, fun h => (h rfl).elim⟩
  | x :: a, y :: b, h => by
    obtain ⟨i1, i2⟩ := y1pz (a := a) (b := b) (by simpa using h)
    have e : metL (x :: a) (y :: b) = (if x = y then x else -1) :: metL a b := rfl
    rw [e]
    unfold cntF at *
    rw [List.countP_cons, List.countP_cons]
    by_cases hxy : x = y
    · rw [if_pos hxy]
      refine ⟨by omega, fun hn => ?_⟩
      have := i2 (fun e => hn (by rw [e]))
      omega
    · rw [if_neg hxy]
      by_cases hx : x = -1
      · subst hx
        simp only [ne_eq, not_true, decide_false, Bool.false_eq_true, if_false, Nat.add_zero]
        refine ⟨i1, fun hn => i2 (fun e => hn (by rw [e]))⟩
      · have h1 : decide (x ≠ -1) = true := decide_eq_true hx
        have h2 : decide ((-1 : Int) ≠ -1) = false := by decide
        rw [h1, h2]
        simp only [if_true, Bool.false_eq_true, if_false]
        exact ⟨by omega, fun _ => by omega⟩
  | [], _ :: _, h => by simp at h
  | _ :: _, [], h => by simp at h
def yaa (f : Fn) (s : Fx) : Prop := ∀ (u : Nat) (q : Int), 0 ≤ q → s.getD u (-1) = q → q < (lst f.regs).length ∧ regK (lst f.regs) q = regK (lst f.regs) u
theorem yaa.sub {f : Fn} {t s : Fx} (h : yaa f s) (hs : SubF t s) : yaa f t := fun u q h0 h1 => h u q h0 (hs u q h0 h1)
theorem ynm {f : Fn} {x : Ins} {s : Fx} (hx : y15 f x = true) (hl : s.length = (lst f.regs).length) (h : yaa f s) : yaa f (behM s x) := by
  intro u q h0 h1
  by_cases hu : u < s.length
  · rcases ynt hu h0 h1 with h2 | ⟨h4, hd, h2⟩
    · exact h u q h0 h2
    · simp only [y15, Bool.and_eq_true] at hx
      obtain ⟨⟨⟨⟨⟨⟨_, _⟩, q3⟩, _⟩, _⟩, _⟩, q7⟩ := hx
      have hk : ye x = (0, 0, -1, -1, true) := by simp [ye, h4]
      rw [hk] at q3
      have ha := y7a q3 (Int.le_refl _)
      have ht : regK (lst f.regs) x.d = regK (lst f.regs) x.a := by
        simp [y30, h4] at q7
        exact q7
      have hdd : defr x = x.d := by simp [defr, h4, writes]
      rw [hd, hdd, ht]
      rcases h2 with h2 | h2
      · rw [← h2]; exact ⟨ha.2, rfl⟩
      · have := h x.a.toNat q h0 h2
        rwa [Int.toNat_of_nonneg ha.1] at this
  · rw [List.getD_eq_getElem?_getD, List.getElem?_eq_none (by rw [ybb]; omega)] at h1
    simp at h1; omega
structure TOk (f : Fn) (T : FTab) : Prop where
  len : T.length = (lst f.code).length
  rows : ∀ (i : Nat) s, fAt T i = some s → s.length = (lst f.regs).length ∧ yaa f s
  zero : fAt T 0 = some (List.replicate (lst f.regs).length (-1))
def LeF (a b : FTab) : Prop := ∀ (i : Nat) s, fAt a i = some s → ∃ t, fAt b i = some t ∧ SubF t s
theorem LeF.refl (a : FTab) : LeF a a := fun _ s h => ⟨s, h, .refl _⟩
theorem LeF.trans {a b c : FTab} (h : LeF a b) (h' : LeF b c) : LeF a c := fun i s hs => by
  obtain ⟨t, h1, h2⟩ := h i s hs
  obtain ⟨u, h3, h4⟩ := h' i t h1
  exact ⟨u, h3, h4.trans h2⟩
def AtF (T : FTab) (to : Int) (s : Fx) : Prop := ∃ t, fAt T to.toNat = some t ∧ SubF t s
theorem AtF.mono {a b : FTab} (h : LeF a b) {to : Int} {s : Fx} (hs : AtF a to s) : AtF b to s := by
  obtain ⟨t, h1, h2⟩ := hs
  obtain ⟨u, h3, h4⟩ := h _ _ h1
  exact ⟨u, h3, h4.trans h2⟩
def wtF (R : Nat) : Option Fx → Nat
  | none => R + 1
  | some s => cntF s
def potF (R : Nat) (T : FTab) : Nat := (T.map (wtF R)).sum
theorem y1ud {R : Nat} {T : FTab} {i : Nat} {y : Option Fx} (h : i < T.length) : potF R (T.set i y) + wtF R (fAt T i) = potF R T + wtF R y := by
  unfold potF
  induction T generalizing i with
  | nil => simp at h
  | cons a T ih =>
    cases i with
    | zero =>
      simp only [List.set_cons_zero, List.map_cons, List.sum_cons]
      have : fAt (a :: T) 0 = a := rfl
      rw [this]
      omega
    | succ i =>
      have := ih (i := i) (by simpa using h)
      have e : fAt (a :: T) (i + 1) = fAt T i := by simp [fAt]
      rw [e]
      simp only [List.set_cons_succ, List.map_cons, List.sum_cons]
      omega
structure FlowR (f : Fn) (J : Int → Prop) (p q : FTab × List Int) : Prop where
  ok : TOk f q.1
  le : LeF p.1 q.1
  work : ∀ (i : Nat) t, fAt q.1 i = some t → fAt p.1 i = some t ∨ (i : Int) ∈ q.2
  keep : ∀ j, j ∈ p.2 → j ∈ q.2
  fresh : ∀ j, j ∈ q.2 → j ∈ p.2 ∨ (0 ≤ j ∧ j < (lst f.code).length ∧ fAt q.1 j.toNat ≠ none)
  new : ∀ i : Nat, fAt q.1 i ≠ none → fAt p.1 i ≠ none ∨ J i
  pot : 2 * potF (lst f.regs).length q.1 + q.2.length ≤ 2 * potF (lst f.regs).length p.1 + p.2.length
theorem FlowR.refl {f : Fn} {J : Int → Prop} {p : FTab × List Int} (h : TOk f p.1) : FlowR f J p p :=
  ⟨h, .refl _, fun _ _ h => .inl h, fun _ h => h, fun _ h => .inl h, fun _ h => .inl h, Nat.le_refl _⟩
theorem FlowR.trans {f : Fn} {J : Int → Prop} {p q u : FTab × List Int} (h : FlowR f J p q) (h' : FlowR f J q u) : FlowR f J p u := by
  refine ⟨h'.ok, h.le.trans h'.le, fun i t ht => ?_, fun j hj => h'.keep j (h.keep j hj), fun j hj => ?_, fun i hi => ?_, Nat.le_trans h'.pot h.pot⟩
  · rcases h'.work i t ht with h1 | h1
    · rcases h.work i t h1 with h2 | h2
      · exact .inl h2
      · exact .inr (h'.keep _ h2)
    · exact .inr h1
  · rcases h'.fresh j hj with h1 | h1
    · rcases h.fresh j h1 with h2 | ⟨a, b, c⟩
      · exact .inl h2
      · refine .inr ⟨a, b, fun e => c ?_⟩
        cases hc : fAt q.1 j.toNat with
        | none => rfl
        | some t =>
          obtain ⟨v, hv, _⟩ := h'.le _ _ hc
          rw [e] at hv; cases hv
    · exact .inr h1
  · rcases h'.new i hi with h1 | h1
    · exact h.new i h1
    · exact .inr h1
theorem FlowR.mono {f : Fn} {J J' : Int → Prop} {p q : FTab × List Int} (h : FlowR f J p q) (hJ : ∀ j, J j → J' j) : FlowR f J' p q :=
  ⟨h.ok, h.le, h.work, h.keep, h.fresh, fun i hi => (h.new i hi).imp id (hJ _), h.pot⟩
theorem yyb {o : Option Fx} {s : Fx} (h : ∀ t, o = some t → t.length = s.length) : (metM o s).length = s.length := by
  cases o with
  | none => rfl
  | some t => rw [metM, y146 (h t rfl)]; exact h t rfl
theorem y1vj (o : Option Fx) (s : Fx) : SubF (metM o s) s := by
  cases o with
  | none => exact .refl _
  | some t => exact y2hb t s
theorem ybg {f : Fn} {s : Fx} {to : Int} {p : FTab × List Int} (hp : TOk f p.1) (hs : s.length = (lst f.regs).length) (hk : yaa f s) (h0 : 0 ≤ to) (h1 : to < (lst f.code).length) :
    FlowR f (· = to) p (ydu s to p) ∧ AtF (ydu s to p).1 to s := by
  obtain ⟨T, W⟩ := p
  simp only at hp
  have hlt : to.toNat < T.length := by rw [hp.len]; omega
  have hm := yyb (o := fAt T to.toNat) (s := s) (fun t ht => by rw [(hp.rows _ _ ht).1, hs])
  have hsub := y1vj (fAt T to.toNat) s
  unfold ydu
  simp only
  split
  · rename_i hc
    refine ⟨.refl hp, ?_⟩
    rcases hc with hc | hc
    · subst hc; exact ⟨_, hp.zero, .none _ _⟩
    · exact ⟨_, hc, hsub⟩
  · rename_i hc
    have hc0 : to ≠ 0 := fun e => hc (.inl e)
    have hc1 := fun e => hc (.inr e)
    have hpot := y1ud (R := (lst f.regs).length) (y := some (metM (fAt T to.toNat) s)) hlt
    have at_ : ∀ j, fAt (T.set to.toNat (some (metM (fAt T to.toNat) s))) j = if to.toNat = j then some (metM (fAt T to.toNat) s) else fAt T j := fun j => yo2 hlt
    generalize hT : T.set to.toNat (some (metM (fAt T to.toNat) s)) = T' at *
    have here : fAt T' to.toNat = some (metM (fAt T to.toNat) s) := by rw [at_, if_pos rfl]
    refine ⟨⟨⟨by rw [← hT, List.length_set]; exact hp.len, fun i t ht => ?_, ?_⟩, fun i t ht => ?_, fun i t ht => ?_, fun j hj => List.mem_append_left _ hj, fun j hj => ?_, fun i hi => ?_, ?_⟩, _, here, hsub⟩
    · rw [at_] at ht
      split at ht
      · injection ht with ht; subst ht; exact ⟨by rw [hm, hs], hk.sub hsub⟩
      · exact hp.rows i t ht
    · rw [at_, if_neg (by omega)]; exact hp.zero
    · simp only at ht ⊢
      rw [at_]
      by_cases e : to.toNat = i
      · rw [if_pos e]
        subst e
        rw [ht]
        exact ⟨_, rfl, y2fm t s⟩
      · rw [if_neg e]; exact ⟨t, ht, .refl _⟩
    · simp only at ht ⊢
      rw [at_] at ht
      split at ht
      · rename_i e
        right
        rw [List.mem_append, List.mem_singleton]
        right; omega
      · exact .inl ht
    · simp only at hj ⊢
      rcases List.mem_append.1 hj with h | h
      · exact .inl h
      · rw [List.mem_singleton] at h
        subst h
        exact .inr ⟨h0, h1, by rw [here]; simp⟩
    · simp only at hi ⊢
      rw [at_] at hi
      split at hi
      · right; omega
      · exact .inl hi
    · simp only [List.length_append, List.length_singleton]
      cases ho : fAt T to.toNat with
      | none =>
        rw [ho] at hpot
        simp only [wtF, metM] at hpot
        have := y1du s
        omega
      | some t =>
        rw [ho] at hpot hc1
        simp only [wtF, metM] at hpot
        have hne : metL t s ≠ t := fun e => hc1 (by rw [metM, e])
        have := (y1pz (a := t) (b := s) (by rw [(hp.rows _ _ ho).1, hs])).2 hne
        omega
theorem y7t {f : Fn} {s : Fx} (hs : s.length = (lst f.regs).length) (hk : yaa f s) : ∀ (l : List Int) (p : FTab × List Int), TOk f p.1 → (∀ to ∈ l, 0 ≤ to ∧ to < (lst f.code).length) →
    FlowR f (· ∈ l) p (y48 s l p) ∧ ∀ to ∈ l, AtF (y48 s l p).1 to s
  | [], p, hp, _ => ⟨.refl hp, fun _ h => by cases h⟩
  | to :: l, p, hp, hl => by
    obtain ⟨a1, a2⟩ := ybg hp hs hk (hl to (by simp)).1 (hl to (by simp)).2
    obtain ⟨b1, b2⟩ := y7t hs hk l (ydu s to p) a1.ok (fun t ht => hl t (by simp [ht]))
    refine ⟨(a1.mono fun j e => by simp [e]).trans (b1.mono fun j h => by simp [h]), fun t ht => ?_⟩
    rcases List.mem_cons.1 ht with rfl | ht
    · exact a2.mono b1.le
    · exact b2 t ht
theorem yla {t : Fx} {to : Int} {i : Nat} {p : FTab × List Int} (h : fAt p.1 i = some t) (hto : 0 ≤ to ∧ to < p.1.length) : fAt (ydu t to p).1 i = some t := by
  unfold ydu
  split
  · exact h
  · rename_i hc
    simp only
    rw [yo2 (by omega)]
    by_cases e : to.toNat = i
    · exfalso
      apply hc
      right
      rw [e, h, metM, y1gk]
    · rw [if_neg e]; exact h
theorem yh9 {f : Fn} {t : Fx} {i : Nat} (ht : t.length = (lst f.regs).length) (hk : yaa f t) : ∀ (l : List Int) (p : FTab × List Int), TOk f p.1 → (∀ to ∈ l, 0 ≤ to ∧ to < (lst f.code).length) → fAt p.1 i = some t → fAt (y48 t l p).1 i = some t
  | [], _, _, _, h => h
  | to :: l, p, hp, hl, h => by
    have b := hl to (by simp)
    exact yh9 ht hk l _ (ybg hp ht hk b.1 b.2).1.ok (fun x hx => hl x (by simp [hx])) (yla h (by rw [hp.len]; exact b))
def yts (f : Fn) (T : FTab) (i : Nat) (t : Fx) : Prop := (∀ to ∈ y1r f i, AtF T to t) ∧ ∀ to ∈ y4r f i, AtF T to (behM t (yk f i))
structure InvF (f : Fn) (p : FTab × List Int) : Prop where
  ok : TOk f p.1
  wk : ∀ j ∈ p.2, 0 ≤ j ∧ j < (lst f.code).length ∧ fAt p.1 j.toNat ≠ none
  closed : ∀ (i : Nat) t, fAt p.1 i = some t → (i : Int) ∈ p.2 ∨ yts f p.1 i t
  pred : ∀ i : Nat, fAt p.1 i ≠ none → i ≠ 0 → ∃ k : Nat, fAt p.1 k ≠ none ∧ k < (lst f.code).length ∧ ((i : Int) ∈ y1r f k ∨ (i : Int) ∈ y4r f k)
def tF (T : FTab) (i : Nat) : Fx := (fAt T i).getD []
def rndF (f : Fn) (i : Nat) (p : FTab × List Int) : FTab × List Int := y48 (behM (tF p.1 i) (yk f i)) (y4r f i) (y48 (tF p.1 i) (y1r f i) p)
def meaF (f : Fn) (p : FTab × List Int) : Nat := 2 * potF (lst f.regs).length p.1 + p.2.length
theorem y52 {α : Type} {o : Option α} (h : o ≠ none) : ∃ x, o = some x := by
  cases o with
  | none => exact (h rfl).elim
  | some x => exact ⟨x, rfl⟩
theorem LeF.nn {a b : FTab} (h : LeF a b) {i : Nat} (hi : fAt a i ≠ none) : fAt b i ≠ none := by
  obtain ⟨s, hs⟩ := y52 hi
  obtain ⟨t, ht, _⟩ := h i s hs
  rw [ht]; simp
theorem yp0 {f : Fn} (w : Wf f) {p : FTab × List Int} (hp : TOk f p.1) {i : Nat} {t : Fx} (hi : i < (lst f.code).length) (ht : fAt p.1 i = some t) :
    FlowR f (fun j => j ∈ y1r f i ∨ j ∈ y4r f i) p (rndF f i p) ∧ yts f (rndF f i p).1 i t ∧
      TOk f (y48 t (y1r f i) p).1 ∧ fAt (y48 t (y1r f i) p).1 i = some t := by
  have e : tF p.1 i = t := by rw [tF, ht]; rfl
  obtain ⟨h1, h2⟩ := hp.rows i t ht
  obtain ⟨a1, a2⟩ := y7t h1 h2 (y1r f i) p hp (fun to h => w.caught h)
  have a3 := yh9 h1 h2 (y1r f i) p hp (fun to h => w.caught h) ht
  obtain ⟨b1, b2⟩ := y7t (s := behM t (yk f i)) (by rw [ybb]; exact h1) (ynm (w.ins i hi) h1 h2) (y4r f i) _ a1.ok (fun to h => w.next hi h)
  rw [rndF, e]
  exact ⟨(a1.mono fun j h => .inl h).trans (b1.mono fun j h => .inr h), ⟨fun to h => (a2 to h).mono b1.le, b2⟩, a1.ok, a3⟩
theorem y1uk {f : Fn} (w : Wf f) {T : FTab} {W : List Int} {i : Int} (h : InvF f (T, W ++ [i])) : InvF f (rndF f i.toNat (T, W)) ∧ meaF f (rndF f i.toNat (T, W)) < meaF f (T, W ++ [i]) := by
  obtain ⟨i0, i1, hn⟩ := h.wk i (by simp)
  obtain ⟨t, ht⟩ := y52 hn
  simp only at ht
  have e : ((i.toNat : Nat) : Int) = i := by omega
  obtain ⟨a, c, _, _⟩ := yp0 w (p := (T, W)) h.ok (by omega) ht
  rw [e] at a
  generalize rndF f i.toNat (T, W) = q at *
  refine ⟨⟨a.ok, fun j hj => ?_, fun k s hs => ?_, fun k hk hk0 => ?_⟩, ?_⟩
  · rcases a.fresh j hj with h1 | h1
    · have := h.wk j (by simp [h1])
      exact ⟨this.1, this.2.1, a.le.nn this.2.2⟩
    · exact h1
  · rcases a.work k s hs with h1 | h1
    · simp only at h1
      rcases h.closed k s h1 with h2 | h2
      · simp only [List.mem_append, List.mem_singleton] at h2
        rcases h2 with h2 | h2
        · exact .inl (a.keep _ h2)
        · have : k = i.toNat := by omega
          subst this
          rw [ht] at h1
          injection h1 with h1
          subst h1
          exact .inr c
      · exact .inr ⟨fun to h => (h2.1 to h).mono a.le, fun to h => (h2.2 to h).mono a.le⟩
    · exact .inl h1
  · rcases a.new k hk with h1 | h1
    · obtain ⟨j, j1, j2, j3⟩ := h.pred k h1 hk0
      exact ⟨j, a.le.nn j1, j2, j3⟩
    · exact ⟨i.toNat, a.le.nn hn, by omega, by rw [e]; exact h1⟩
  · have := a.pot
    unfold meaF
    simp only [List.length_append, List.length_singleton] at this ⊢
    omega
def y5t (f : Fn) : FTab := (List.replicate (lst f.code).length none).set 0 (some (List.replicate (lst f.regs).length (-1)))
theorem y1s7 {f : Fn} (w : Wf f) (i : Nat) : fAt (y5t f) i = if i = 0 then some (List.replicate (lst f.regs).length (-1)) else none := by
  rw [y5t, yo2 (by rw [List.length_replicate]; exact w.n1)]
  by_cases e : i = 0
  · subst e; simp
  · rw [if_neg (fun h => e h.symm), if_neg e]
    unfold fAt
    rw [List.getElem?_replicate]
    split <;> rfl
theorem y1ka {f : Fn} (w : Wf f) : InvF f (y5t f, [0]) := by
  have at_ := y1s7 w
  have hn : ∀ i : Nat, fAt (y5t f) i ≠ none → i = 0 := fun i h => by
    rw [at_] at h
    split at h
    · assumption
    · exact (h rfl).elim
  refine ⟨⟨by simp [y5t], fun i s h => ?_, by rw [at_, if_pos rfl]⟩, fun j hj => ?_, fun i t h => ?_, fun i h h0 => (h0 (hn i h)).elim⟩
  · have h0 := hn i (by rw [h]; simp)
    subst h0
    rw [at_, if_pos rfl] at h
    injection h with h
    subst h
    refine ⟨by simp, fun u q h0 h1 => ?_⟩
    have := SubF.none (lst f.regs).length [] u q h0 h1
    simp at this; omega
  · rw [List.mem_singleton] at hj
    subst hj
    have := w.n1
    refine ⟨by omega, by omega, ?_⟩
    rw [at_]; simp
  · have h0 := hn i (by rw [h]; simp)
    subst h0
    simp
end Go.Vm
namespace Go.Vm
def yct (σ : Int → Int) (x : Ins) : Ins := repl x ((uses x).map fun l => l.map σ)
theorem y16v (σ : Int → Int) (x : Ins) : (yct σ x).op = x.op ∧ (yct σ x).d = x.d ∧ (yct σ x).n = x.n ∧ (yct σ x).t = x.t ∧ (yct σ x).s = x.s := by
  unfold yct repl
  split
  · exact ⟨rfl, rfl, rfl, rfl, rfl⟩
  · split
    · exact ⟨rfl, rfl, rfl, rfl, rfl⟩
    · unfold y4b
      split <;> exact ⟨rfl, rfl, rfl, rfl, rfl⟩
theorem yaq (σ : Int → Int) (o : Option (List Int)) : lst (o.map fun l => l.map σ) = (lst o).map σ := by cases o <;> rfl
theorem ye9 {σ : Int → Int} {x : Ins} (hc : calls x.op = true) : yct σ x = { x with args := x.args.map fun l => l.map σ } := by
  have e : uses x = x.args := by simp [uses, hc]
  unfold yct repl
  rw [e, yaq]
  simp [hc]
theorem y7l {σ : Int → Int} {x : Ins} (hc : calls x.op = false) : yct σ x = y4b x ((lst (uses x)).map σ) := by
  unfold yct repl
  rw [yaq]
  simp [hc]
theorem y15h (σ : Int → Int) (x : Ins) : (lst (yct σ x).args).length = (lst x.args).length := by
  by_cases hc : calls x.op = true
  · rw [ye9 hc]
    simp only [yaq, List.length_map]
  · rw [y7l (by simpa using hc)]
    unfold y4b
    split <;> rfl
theorem y162 {σ : Int → Int} {x : Ins} (h0 : ∀ u ∈ lst (uses x), 0 ≤ σ u) : lst (uses (yct σ x)) = (lst (uses x)).map σ := by
  by_cases hc : calls x.op = true
  · rw [ye9 hc]
    simp [uses, hc, yaq]
  · have hc' : calls x.op = false := by simpa using hc
    rw [y7l hc']
    by_cases h9 : x.op = 29
    · by_cases hb : x.b < 0
      · simp [uses, h9, hb, calls, y4b]
      · have e : lst (uses x) = [x.a, x.b] := by simp [uses, h9, hb, calls]
        have := h0 x.b (by rw [e]; simp)
        have hn : ¬ σ x.b < 0 := by omega
        rw [e]
        simp [uses, h9, calls, y4b, hn]
    · by_cases h30 : x.op = 30
      · by_cases ha : 0 ≤ x.a
        · have e : lst (uses x) = [x.a] := by simp [uses, h30, ha, calls]
          have := h0 x.a (by rw [e]; simp)
          rw [e]
          simp [uses, h30, calls, y4b, this]
        · have e : lst (uses x) = [] := by simp [uses, h30, ha, calls]
          rw [e]
          exact e
      · by_cases h1 : reads x.op = 1
        · simp [uses, hc', h9, h30, h1, y4b]
        · by_cases h2 : reads x.op = 2
          · simp [uses, hc', h9, h30, h2, y4b]
          · by_cases h3 : reads x.op = 3
            · simp [uses, hc', h9, h30, h3, y4b]
            · simp [uses, hc', h9, h30, h1, h2, h3, y4b]
def yih (R : List Int) (u v : Int) : Prop := inR R v = true ∧ regK R v = regK R u
theorem y8i {R : List Int} {k u v : Int} (h : y1f R k u = true) (a : yih R u v) : y1f R k v = true := by
  simp only [y1f, Bool.or_eq_true, Bool.and_eq_true, decide_eq_true_eq] at h ⊢
  rcases h with h | h
  · exact .inl h
  · exact .inr ⟨a.1, by rw [a.2]; exact h.2⟩
theorem y1mz {R : List Int} {v : Int} (h : inR R v = true) : 0 ≤ v := by
  simp only [inR, Bool.and_eq_true, decide_eq_true_eq] at h
  exact h.1
theorem y189 {R : List Int} {σ : Int → Int} {x : Ins} (h : y4t R x = true) (hc : calls x.op = true) (hσ : ∀ u ∈ lst x.args, yih R u (σ u)) : y4t R { x with args := x.args.map fun l => l.map σ } = true := by
  simp only [y4t, hc, Bool.not_true, Bool.false_or, Bool.and_eq_true, List.all_eq_true, yaq] at h ⊢
  refine ⟨?_, fun u hu => ?_⟩
  · have h1 := h.1
    unfold yea at h1 ⊢
    simp only [yaq] at h1 ⊢
    cases hl : lst x.args with
    | nil => rfl
    | cons r l =>
      rw [hl] at h1
      have a := hσ r (by rw [hl]; simp)
      simp only [List.map_cons] at h1 ⊢
      rw [a.2]
      exact h1
  · obtain ⟨v, hv, rfl⟩ := List.mem_map.1 hu
    exact (hσ v hv).1
set_option maxHeartbeats 8000000 in
theorem yv5 {f : Fn} {σ : Int → Int} {x : Ins} (h : y15 f x = true) (hσ : ∀ u ∈ lst (uses x), yih (lst f.regs) u (σ u)) : y15 f (yct σ x) = true := by
  by_cases hc : calls x.op = true
  · have e : uses x = x.args := by simp [uses, hc]
    rw [e] at hσ
    rw [ye9 hc]
    simp only [y15, Bool.and_eq_true] at h ⊢
    obtain ⟨⟨⟨⟨⟨⟨q1, q2⟩, q3⟩, q4⟩, q5⟩, q6⟩, q7⟩ := h
    have hk : ye { x with args := x.args.map fun l => l.map σ } = ye x := by
      unfold ye
      simp only [yaq, List.length_map]
    rw [hk]
    exact ⟨⟨⟨⟨⟨⟨q1, q2⟩, q3⟩, q4⟩, q5⟩, y189 q6 hc hσ⟩, q7⟩
  · have hc' : calls x.op = false := by simpa using hc
    rw [y7l hc']
    have ao : ∀ y : Ins, y.op = x.op → y4t (lst f.regs) y = true := fun y e => by rw [y4t, e, hc']; rfl
    have key : ∀ y : Ins, y.op = x.op → y.d = x.d → y.n = x.n → y.t = x.t → ye y = ye x →
        (y.a = x.a ∨ yih (lst f.regs) x.a y.a ∧ 0 ≤ x.a) → (y.b = x.b ∨ yih (lst f.regs) x.b y.b) → (y.c = x.c ∨ yih (lst f.regs) x.c y.c) → y15 f y = true := by
      intro y e1 e2 e3 e4 hk ha hb hcc
      simp only [y15, Bool.and_eq_true] at h ⊢
      obtain ⟨⟨⟨⟨⟨⟨q1, q2⟩, q3⟩, q4⟩, q5⟩, q6⟩, q7⟩ := h
      rw [hk]
      refine ⟨⟨⟨⟨⟨⟨q1, by rw [e2]; exact q2⟩, ?_⟩, ?_⟩, ?_⟩, ao y e1⟩, ?_⟩
      · rcases ha with e | ⟨a, _⟩
        · rw [e]; exact q3
        · exact y8i q3 a
      · rcases hb with e | a
        · rw [e]; exact q4
        · exact y8i q4 a
      · rcases hcc with e | a
        · rw [e]; exact q5
        · exact y8i q5 a
      · unfold y30 at q7 ⊢
        rw [e1, e2, e3, e4]
        rcases ha with e | ⟨a, a0⟩
        · rw [e]; exact q7
        · have n1 : ¬ y.a = -1 := by have := y1mz a.1; omega
          have n2 : ¬ x.a = -1 := by omega
          rw [a.2, decide_eq_false n1]
          rw [decide_eq_false n2] at q7
          exact q7
    have nn : ∀ u ∈ lst (uses x), 0 ≤ u := fun u hu => (yll h hu).1
    have nv : ∀ u ∈ lst (uses x), 0 ≤ σ u := fun u hu => y1mz (hσ u hu).1
    by_cases h9 : x.op = 29
    · by_cases hb : x.b < 0
      · have e : lst (uses x) = [x.a] := by simp [uses, h9, hb, calls]
        rw [e] at hσ nn ⊢
        exact key _ rfl rfl rfl rfl (by simp [ye, y4b, h9]) (.inr ⟨hσ _ (by simp), nn _ (by simp)⟩) (.inl rfl) (.inl rfl)
      · have e : lst (uses x) = [x.a, x.b] := by simp [uses, h9, hb, calls]
        rw [e] at hσ nn nv ⊢
        have b1 := nv x.b (by simp)
        have b2 : ¬ σ x.b = -1 := by omega
        have b3 : ¬ x.b = -1 := by omega
        exact key _ rfl rfl rfl rfl (by simp [ye, y4b, h9, b2, b3]) (.inr ⟨hσ _ (by simp), nn _ (by simp)⟩) (.inr (hσ _ (by simp))) (.inl rfl)
    · by_cases h30 : x.op = 30
      · by_cases ha : 0 ≤ x.a
        · have e : lst (uses x) = [x.a] := by simp [uses, h30, ha, calls]
          rw [e] at hσ nn nv ⊢
          have b1 := nv x.a (by simp)
          have b2 : ¬ σ x.a = -1 := by omega
          have b3 : ¬ x.a = -1 := by omega
          exact key _ rfl rfl rfl rfl (by simp [ye, y4b, h30, b2, b3]) (.inr ⟨hσ _ (by simp), nn _ (by simp)⟩) (.inl rfl) (.inl rfl)
        · have e : lst (uses x) = [] := by simp [uses, h30, ha, calls]
          rw [e]
          exact h
      · have hk : ∀ y : Ins, y.op = x.op → y.n = x.n → y.s = x.s → y.d = x.d → y.args = x.args → ye y = ye x := by
          intro y e1 e2 e3 e4 e5
          have n9 : ∀ (z : Int × Int × Int × Int × Bool) (w : Int × Int × Int × Int × Bool), x.op = 29 → z = w := fun _ _ h => (h9 h).elim
          unfold ye
          rw [e1, e2, e3, e4, e5]
          split <;> first | rfl | (rename_i he; exact (h9 he).elim) | (rename_i he; exact (h30 he).elim)
        by_cases h1 : reads x.op = 1
        · have e : lst (uses x) = [x.a] := by simp [uses, hc', h9, h30, h1]
          rw [e] at hσ nn ⊢
          exact key _ rfl rfl rfl rfl (hk _ rfl rfl rfl rfl rfl) (.inr ⟨hσ _ (by simp), nn _ (by simp)⟩) (.inl rfl) (.inl rfl)
        · by_cases h2 : reads x.op = 2
          · have e : lst (uses x) = [x.a, x.b] := by simp [uses, hc', h9, h30, h2]
            rw [e] at hσ nn ⊢
            exact key _ rfl rfl rfl rfl (hk _ rfl rfl rfl rfl rfl) (.inr ⟨hσ _ (by simp), nn _ (by simp)⟩) (.inr (hσ _ (by simp))) (.inl rfl)
          · by_cases h3 : reads x.op = 3
            · have e : lst (uses x) = [x.a, x.b, x.c] := by simp [uses, hc', h9, h30, h3]
              rw [e] at hσ nn ⊢
              exact key _ rfl rfl rfl rfl (hk _ rfl rfl rfl rfl rfl) (.inr ⟨hσ _ (by simp), nn _ (by simp)⟩) (.inr (hσ _ (by simp))) (.inr (hσ _ (by simp)))
            · have e : lst (uses x) = [] := by simp [uses, hc', h9, h30, h1, h2, h3]
              rw [e]
              exact h
end Go.Vm
namespace Go.Vm
abbrev Ws := List (BitVec 64)
end Go.Vm
namespace Go.Vm
def yom (f : Fn) (i : Nat) : List Int := lst (uses (yk f i))
def yo3 (f : Fn) (r : Int) (i : Nat) : List Int := y1r f i ++ if defr (yk f i) = r then [] else y4r f i
def badR (f : Fn) (r : Int) : Prop := ∃ i, Rch (lst f.code).length (yo3 f r) [0] i ∧ r ∈ yom f i
def setP (f : Fn) : Prop := ∀ r : Int, 0 ≤ r → r < (lst f.regs).length → r ∉ lst f.params → ¬ badR f r
open Classical in
noncomputable def setM (f : Fn) : Bool := wf f && decide (setP f)
abbrev Tab := List (Option (List Bool))
def wt (R : Nat) : Option (List Bool) → Nat
  | none => R + 1
  | some s => s.countP id
def pot (R : Nat) (ins : Tab) : Nat := (ins.map (wt R)).sum
def LeB (t s : List Bool) : Prop := ∀ r : Nat, t[r]? = some true → s[r]? = some true
theorem LeB.refl (t : List Bool) : LeB t t := fun _ h => h
theorem LeB.trans {a b c : List Bool} (h : LeB a b) (h' : LeB b c) : LeB a c := fun r h1 => h' r (h r h1)
def LeT (a b : Tab) : Prop := ∀ (i : Nat) s, a[i]? = some (some s) → ∃ t, b[i]? = some (some t) ∧ LeB t s
theorem LeT.refl (a : Tab) : LeT a a := fun _ s h => ⟨s, h, .refl _⟩
theorem LeT.trans {a b c : Tab} (h : LeT a b) (h' : LeT b c) : LeT a c := fun i s hs => by
  obtain ⟨t, h1, h2⟩ := h i s hs
  obtain ⟨u, h3, h4⟩ := h' i t h1
  exact ⟨u, h3, h4.trans h2⟩
def LeAt (ins : Tab) (to : Int) (s : List Bool) : Prop := ∃ t, ins[to.toNat]? = some (some t) ∧ LeB t s
theorem LeAt.mono {a b : Tab} (h : LeT a b) {to : Int} {s : List Bool} (hs : LeAt a to s) : LeAt b to s := by
  obtain ⟨t, h1, h2⟩ := hs
  obtain ⟨u, h3, h4⟩ := h _ _ h1
  exact ⟨u, h3, h4.trans h2⟩
section
variable {n R : Nat}
structure TblOk (n R : Nat) (ins : Tab) : Prop where
  len : ins.length = n
  rows : ∀ (i : Nat) s, ins[i]? = some (some s) → s.length = R
structure MeetR (n R : Nat) (s : List Bool) (T : Int → Prop) (p q : Tab × List Int) : Prop where
  ok : TblOk n R q.1
  le : LeT p.1 q.1
  work : ∀ (i : Nat) t, q.1[i]? = some (some t) → p.1[i]? = some (some t) ∨ (i : Int) ∈ q.2
  keep : ∀ j, j ∈ p.2 → j ∈ q.2
  fresh : ∀ j, j ∈ q.2 → j ∈ p.2 ∨ (0 ≤ j ∧ j < n ∧ ∃ t, q.1[j.toNat]? = some (some t))
  src : ∀ (i r : Nat) t, q.1[i]? = some (some t) → t[r]? = some false → (∃ u, p.1[i]? = some (some u) ∧ u[r]? = some false) ∨ (s[r]? = some false ∧ T i)
  pot : 2 * pot R q.1 + q.2.length ≤ 2 * Go.Vm.pot R p.1 + p.2.length
theorem MeetR.refl {s : List Bool} {T : Int → Prop} {p : Tab × List Int} (h : TblOk n R p.1) : MeetR n R s T p p :=
  ⟨h, .refl _, fun _ _ h => .inl h, fun _ h => h, fun _ h => .inl h, fun _ _ _ h1 h2 => .inl ⟨_, h1, h2⟩, Nat.le_refl _⟩
theorem MeetR.trans {s : List Bool} {T : Int → Prop} {p q u : Tab × List Int} (h : MeetR n R s T p q) (h' : MeetR n R s T q u) : MeetR n R s T p u := by
  refine ⟨h'.ok, h.le.trans h'.le, fun i t ht => ?_, fun j hj => h'.keep j (h.keep j hj), fun j hj => ?_, fun i r t ht hr => ?_, Nat.le_trans h'.pot h.pot⟩
  · rcases h'.work i t ht with h1 | h1
    · rcases h.work i t h1 with h2 | h2
      · exact .inl h2
      · exact .inr (h'.keep _ h2)
    · exact .inr h1
  · rcases h'.fresh j hj with h1 | h1
    · rcases h.fresh j h1 with h2 | ⟨a, b, t, ht⟩
      · exact .inl h2
      · obtain ⟨v, hv, _⟩ := h'.le _ _ ht
        exact .inr ⟨a, b, v, hv⟩
    · exact .inr h1
  · rcases h'.src i r t ht hr with ⟨v, h1, h2⟩ | h1
    · exact h.src i r v h1 h2
    · exact .inr h1
theorem MeetR.mono {s : List Bool} {T T' : Int → Prop} {p q : Tab × List Int} (h : MeetR n R s T p q) (hT : ∀ j, T j → T' j) : MeetR n R s T' p q :=
  ⟨h.ok, h.le, h.work, h.keep, h.fresh, fun i r t h1 h2 => (h.src i r t h1 h2).imp id fun x => ⟨x.1, hT _ x.2⟩, h.pot⟩
end
end Go.Vm
namespace Go.Vm
theorem Rch.one {n : Nat} {S : Nat → List Int} {i k : Nat} : Rch n S [(i : Int)] k ↔ (k = i ∧ i < n) ∨ (i < n ∧ Rch n S (S i) k) := by
  constructor
  · intro h
    induction h with
    | base hj j0 j1 =>
      rw [List.mem_singleton] at hj
      subst hj
      exact .inl ⟨by omega, by omega⟩
    | step h hj j0 j1 ih =>
      rcases ih with ⟨e, hi⟩ | ⟨hi, h'⟩
      · subst e
        exact .inr ⟨hi, .base hj j0 j1⟩
      · exact .inr ⟨hi, .step h' hj j0 j1⟩
  · rintro (⟨e, hi⟩ | ⟨hi, h⟩)
    · subst e
      have := Rch.base (n := n) (S := S) (A := [(k : Int)]) (j := (k : Int)) (by simp) (by omega) (by omega)
      simpa using this
    · have hb : Rch n S [(i : Int)] i := by
        have := Rch.base (n := n) (S := S) (A := [(i : Int)]) (j := (i : Int)) (by simp) (by omega) (by omega)
        simpa using this
      induction h with
      | base hj j0 j1 => exact .step hb hj j0 j1
      | step h hj j0 j1 ih => exact .step ih hj j0 j1
section
variable (f : Fn)
structure Tb where
  b : List Ws
  a : List Ws
  h : List Ws
def rowW (l : List Ws) (i : Nat) : Ws := l.getD i []
structure TbOk (n W : Nat) (t : Tb) : Prop where
  b : t.b.length = n
  a : t.a.length = n
  h : t.h.length = n
  bw : ∀ i, i < n → (rowW t.b i).length = W
  aw : ∀ i, i < n → (rowW t.a i).length = W
  hw : ∀ i, i < n → (rowW t.h i).length = W
variable {W n : Nat} {l : List Ws}
end
end Go.Vm
namespace Go.Vm
end Go.Vm
namespace Go.Vm
theorem yq8 {f : Fn} {C : List Ins} : ∀ (l : List Ins) (i : Nat), (∀ k x, l[k]? = some x → y15 f x = true ∧ y3e C (i + k) x = true) → y3v f C i l = true
  | [], _, _ => rfl
  | y :: l, i, h => by
    rw [y3v, (h 0 y rfl).1, yq8 l (i + 1) (fun k x hx => by
      have := h (k + 1) x (by simpa using hx)
      rwa [show i + (k + 1) = i + 1 + k by omega] at this)]
    have := (h 0 y rfl).2
    rw [Nat.add_zero] at this
    rw [this]; rfl
theorem yyc {f : Fn} {i : Nat} (h : (lst f.code).length ≤ i) : yk f i = default := by
  rw [yk, List.getD_eq_getElem?_getD, List.getElem?_eq_none h]; rfl
structure Swap (f g : Fn) : Prop where
  regs : g.regs = f.regs
  params : g.params = f.params
  ret : g.ret = f.ret
  rows : g.rows = f.rows
  len : (lst g.code).length = (lst f.code).length
theorem Swap.refl (f : Fn) : Swap f f := ⟨rfl, rfl, rfl, rfl, rfl⟩
theorem Swap.trans {f g h : Fn} (a : Swap f g) (b : Swap g h) : Swap f h := ⟨b.regs.trans a.regs, b.params.trans a.params, b.ret.trans a.ret, b.rows.trans a.rows, b.len.trans a.len⟩
theorem yul {f g : Fn} (s : Swap f g) (x : Ins) : y15 g x = y15 f x := by
  unfold y15
  rw [s.regs, s.ret, s.len]
theorem y24l {f g : Fn} (s : Swap f g) (hw : wf f = true) (h : ∀ i, i < (lst f.code).length → y15 f (yk g i) = true ∧ (ends (yk f i).op = true → ends (yk g i).op = true) ∧
    ((yk g i).op = 32 ↔ (yk f i).op = 32) ∧ (leads (yk g i).op = true → leads (yk f i).op = true ∧ (yk g i).t = (yk f i).t)) : wf g = true := by
  have w := y25u hw
  have e32 : ∀ i : Nat, (yk g i).op = 32 ↔ (yk f i).op = 32 := fun i => by
    by_cases hi : i < (lst f.code).length
    · exact (h i hi).2.2.1
    · rw [yyc (f := g) (by rw [s.len]; omega), yyc (f := f) (by omega)]
  have hlast := (h ((lst f.code).length - 1) (by have := w.n1; omega)).2.1 w.last
  have hspot : ∀ i, i < (lst f.code).length → y3e (lst g.code) i (yk g i) = true := by
    intro i hi
    have h0 := w.spot i hi
    obtain ⟨_, _, h3, h4⟩ := h i hi
    unfold y3e at h0 ⊢
    rw [Bool.not_eq_true', Bool.or_eq_false_iff, Bool.and_eq_false_iff, Bool.and_eq_false_iff] at h0 ⊢
    refine ⟨?_, ?_⟩
    · rcases h0.1 with q | q
      · left
        simp only [decide_eq_false_iff_not] at q ⊢
        rwa [h3]
      · right
        rw [Bool.or_eq_false_iff] at q ⊢
        refine ⟨q.1, ?_⟩
        have he : ends (yk f (i - 1)).op = true := by simpa [yk] using q.2
        have := (h (i - 1) (by omega)).2.1 he
        simpa [yk] using this
    · cases hl : leads (yk g i).op with
      | false => exact .inl rfl
      | true =>
        right
        obtain ⟨a, b⟩ := h4 hl
        rcases h0.2 with h | h
        · rw [a] at h; cases h
        · simp only [decide_eq_false_iff_not] at h ⊢
          rw [b]
          exact fun e => h ((e32 _).1 e)
  have hw' := hw
  unfold wf at hw' ⊢
  rw [s.len, s.regs, s.ret, s.params, s.rows]
  simp only [Bool.and_eq_true] at hw' ⊢
  obtain ⟨⟨⟨⟨⟨⟨⟨⟨⟨h1, h2⟩, h3⟩, h4⟩, h5⟩, h6⟩, h7⟩, h8⟩, h9⟩, h10⟩ := hw'
  refine ⟨⟨⟨⟨⟨⟨⟨⟨⟨h1, h2⟩, h3⟩, h4⟩, h5⟩, hlast⟩, h7⟩, h8⟩, yq8 _ 0 fun k x hx => ?_⟩, ?_⟩
  · have hk : k < (lst f.code).length := by rw [← s.len]; exact (List.getElem?_eq_some_iff.1 hx).1
    have e : yk g k = x := by rw [yk, List.getD_eq_getElem?_getD, hx]; rfl
    rw [Nat.zero_add, ← e]
    exact ⟨by rw [yul s]; exact (h k hk).1, hspot k hk⟩
  · rw [List.all_eq_true] at h10 ⊢
    intro r hr
    have := h10 r hr
    unfold y43 at this ⊢
    rw [s.len]
    rw [Bool.not_eq_true', Bool.or_eq_false_iff] at this ⊢
    refine ⟨this.1, ?_⟩
    have t2 := this.2
    simp only [decide_eq_false_iff_not, Classical.not_not] at t2 ⊢
    exact (e32 r.at_.toNat).2 t2
end Go.Vm
namespace Go.Vm
inductive Way (f : Fn) (r : Int) : Nat → Prop
  | use {i : Nat} : i < (lst f.code).length → r ∈ yom f i → Way f r i
  | step {i : Nat} {j : Int} : i < (lst f.code).length → j ∈ yo3 f r i → 0 ≤ j → j < (lst f.code).length → Way f r j.toNat → Way f r i
theorem Way.lt {f : Fn} {r : Int} {i : Nat} (h : Way f r i) : i < (lst f.code).length := by cases h <;> assumption
end Go.Vm
namespace Go.Vm
def y70 (f : Fn) (L : List Ins) : Fn := { f with code := some L }
@[simp] theorem y2hm (f : Fn) (L : List Ins) : lst (y70 f L).code = L := rfl
theorem ylg {f : Fn} {L : List Ins} (h : f.code = some L) : y70 f L = f := by
  rw [y70, ← h]
end Go.Vm
namespace Go.Vm
def putP (n : Nat) (p : Int) (a : List Bool) : List Bool := if 0 ≤ p ∧ p < n then a.set p.toNat true else a
def y17w (n i : Nat) (x : Ins) (a : List Bool) : List Bool :=
  if leads x.op || ends x.op then (if leads x.op then putP n x.t a else a).set (i + 1) true else (if leads x.op then putP n x.t a else a)
def hA1 (n : Nat) : Nat → List Ins → List Bool → List Bool
  | _, [], a => a
  | i, x :: r, a => hA1 n (i + 1) r (y17w n i x a)
def hA2 (n : Nat) : List Row → List Bool → List Bool
  | [], a => a
  | r :: rs, a => hA2 n rs (putP n r.at_ (putP n r.t (putP n r.f a)))
def hA0 (n : Nat) : List Bool := if 0 < n then (List.replicate (n + 1) false).set 0 true else List.replicate (n + 1) false
@[simp] theorem y2k1 (n : Nat) (p : Int) (a : List Bool) : (putP n p a).length = a.length := by unfold putP; split <;> simp
@[simp] theorem y2jm (n i : Nat) (x : Ins) (a : List Bool) : (y17w n i x a).length = a.length := by
  unfold y17w
  split <;> split <;> simp
theorem yn0 (n : Nat) : ∀ (l : List Ins) (i : Nat) (a : List Bool), (hA1 n i l a).length = a.length
  | [], _, _ => rfl
  | x :: l, i, a => by rw [hA1, yn0]; simp
theorem y1pg (n : Nat) : ∀ (l : List Row) (a : List Bool), (hA2 n l a).length = a.length
  | [], _ => rfl
  | x :: l, a => by rw [hA2, y1pg]; simp
@[simp] theorem yn6 (n : Nat) : (hA0 n).length = n + 1 := by unfold hA0; split <;> simp
theorem yt6 {a : List Bool} {i j : Nat} (h : j < a.length) : (a.set i true)[j]? = some true ↔ a[j]? = some true ∨ i = j := by
  rw [List.getElem?_set]
  by_cases e : i = j
  · subst e; simp [h]
  · rw [if_neg e]; exact ⟨.inl, fun h => h.resolve_right e⟩
theorem ygh {n : Nat} {p : Int} {a : List Bool} {j : Nat} (h : j < a.length) : (putP n p a)[j]? = some true ↔ a[j]? = some true ∨ (0 ≤ p ∧ p < n ∧ p.toNat = j) := by
  unfold putP
  split
  · rename_i hc
    rw [yt6 h]
    exact ⟨fun h => h.imp id fun e => ⟨hc.1, hc.2, e⟩, fun h => h.imp id fun e => e.2.2⟩
  · rename_i hc
    exact ⟨.inl, fun h => h.resolve_right fun e => hc ⟨e.1, e.2.1⟩⟩
def hitI (n i j : Nat) (x : Ins) : Prop := (leads x.op = true ∧ 0 ≤ x.t ∧ x.t < n ∧ x.t.toNat = j) ∨ ((leads x.op || ends x.op) = true ∧ i + 1 = j)
theorem y1di {n i : Nat} {x : Ins} {a : List Bool} {j : Nat} (h : j < a.length) : (y17w n i x a)[j]? = some true ↔ a[j]? = some true ∨ hitI n i j x := by
  have h1 : (if leads x.op = true then putP n x.t a else a)[j]? = some true ↔ a[j]? = some true ∨ (leads x.op = true ∧ 0 ≤ x.t ∧ x.t < n ∧ x.t.toNat = j) := by
    split
    · rename_i hl
      rw [ygh h]; simp [hl]
    · rename_i hl
      simp [hl]
  unfold y17w hitI
  split
  · rename_i hc
    rw [yt6 (by split <;> simp [h]), h1]
    simp only [hc, true_and, or_assoc]
  · rename_i hc
    rw [h1]
    simp only [hc, Bool.false_eq_true, false_and, or_false]
theorem y19c {n j : Nat} : ∀ (l : List Ins) (i : Nat) (a : List Bool), j < a.length → ((hA1 n i l a)[j]? = some true ↔ a[j]? = some true ∨ ∃ k x, l[k]? = some x ∧ hitI n (i + k) j x)
  | [], i, a, h => by simp [hA1]
  | y :: l, i, a, h => by
    rw [hA1, y19c l (i + 1) _ (by simpa using h), y1di h, or_assoc]
    apply or_congr_right
    constructor
    · rintro (h | ⟨k, x, h1, h2⟩)
      · exact ⟨0, y, rfl, h⟩
      · exact ⟨k + 1, x, h1, by rw [show i + (k + 1) = i + 1 + k by omega]; exact h2⟩
    · rintro ⟨k, x, h1, h2⟩
      cases k with
      | zero => simp at h1; subst h1; exact .inl h2
      | succ k => exact .inr ⟨k, x, h1, by rw [show i + 1 + k = i + (k + 1) by omega]; exact h2⟩
def hitR (n j : Nat) (r : Row) : Prop := (0 ≤ r.f ∧ r.f < n ∧ r.f.toNat = j) ∨ (0 ≤ r.t ∧ r.t < n ∧ r.t.toNat = j) ∨ (0 ≤ r.at_ ∧ r.at_ < n ∧ r.at_.toNat = j)
theorem y1rb {n j : Nat} : ∀ (l : List Row) (a : List Bool), j < a.length → ((hA2 n l a)[j]? = some true ↔ a[j]? = some true ∨ ∃ r ∈ l, hitR n j r)
  | [], a, h => by simp [hA2]
  | r :: l, a, h => by
    rw [hA2, y1rb l _ (by simpa using h), ygh (by simpa using h), ygh (by simpa using h), ygh h]
    simp only [List.mem_cons, exists_eq_or_imp, hitR, or_assoc]
theorem y28h {n j : Nat} (h : j < n) : (hA0 n)[j]? = some true ↔ j = 0 := by
  unfold hA0
  rw [if_pos (by omega), yt6 (by simp; omega)]
  constructor
  · rintro (h | h)
    · rw [List.getElem?_replicate] at h; split at h <;> cases h
    · exact h.symm
  · exact fun e => .inr e.symm
def hA (f : Fn) : List Bool := hA2 (lst f.code).length (lst f.rows) (hA1 (lst f.code).length 0 (lst f.code) (hA0 (lst f.code).length))
theorem y2je (f : Fn) : (hA f).length = (lst f.code).length + 1 := by rw [hA, y1pg, yn0, yn6]
theorem yf2 (f : Fn) (i : Nat) : y3w f i = true ↔ i = 0 ∨ (leads (yk f (i - 1)).op || ends (yk f (i - 1)).op) = true ∨ (∃ x ∈ lst f.code, leads x.op = true ∧ x.t = i) ∨ ∃ r ∈ lst f.rows, r.f = i ∨ r.t = i ∨ r.at_ = i := by
  simp only [y3w, Bool.or_eq_true, decide_eq_true_eq, List.any_eq_true, Bool.and_eq_true, or_assoc]
theorem y2cy (f : Fn) {j : Nat} (h : j < (lst f.code).length) : (hA f)[j]? = some (y3w f j) := by
  have hj : j < (hA f).length := by rw [y2je]; omega
  have key : (hA f)[j]? = some true ↔ y3w f j = true := by
    rw [hA, y1rb _ _ (by rw [yn0, yn6]; omega), y19c _ _ _ (by rw [yn6]; omega), y28h h, yf2, or_assoc]
    by_cases j0 : j = 0
    · exact ⟨fun _ => .inl j0, fun _ => .inl j0⟩
    apply or_congr_right
    constructor
    · rintro (⟨k, x, h1, h2 | h2⟩ | ⟨r, h1, h2⟩)
      · exact .inr (.inl ⟨x, List.mem_of_getElem? h1, h2.1, by omega⟩)
      · left
        have : yk f (j - 1) = x := by
          rw [yk, List.getD_eq_getElem?_getD, show j - 1 = k by omega, h1]; rfl
        rw [this]; exact h2.1
      · refine .inr (.inr ⟨r, h1, ?_⟩)
        rcases h2 with h2 | h2 | h2
        · exact .inl (by omega)
        · exact .inr (.inl (by omega))
        · exact .inr (.inr (by omega))
    · rintro (h1 | ⟨x, h1, h2, h3⟩ | ⟨r, h1, h2⟩)
      · refine .inl ⟨j - 1, yk f (j - 1), y3i (by omega), .inr ⟨h1, by omega⟩⟩
      · obtain ⟨k, hk⟩ := List.getElem?_of_mem h1
        exact .inl ⟨k, x, hk, .inl ⟨h2, by omega, by omega, by omega⟩⟩
      · refine .inr ⟨r, h1, ?_⟩
        rcases h2 with h2 | h2 | h2
        · exact .inl ⟨by omega, by omega, by omega⟩
        · exact .inr (.inl ⟨by omega, by omega, by omega⟩)
        · exact .inr (.inr ⟨by omega, by omega, by omega⟩)
  rw [List.getElem?_eq_getElem hj] at key ⊢
  simp only [Option.some.injEq] at key ⊢
  cases hb : (hA f)[j] <;> cases hc : y3w f j <;> simp_all
end Go.Vm
namespace Go.Vm
def rowC (f : Fn) (T : FTab) : Nat → Fx
  | 0 => tF T 0
  | i + 1 => if y3w f (i + 1) then tF T (i + 1) else behM (rowC f T i) (yk f i)
def subC (s : Fx) (u : Int) : Int := if 0 ≤ s.getD u.toNat (-1) then s.getD u.toNat (-1) else u
def carI (f : Fn) (T : FTab) (i : Nat) : Ins := if fAt T i = none then yk f i else yct (subC (rowC f T i)) (yk f i)
def carL (f : Fn) (T : FTab) : List Ins := (List.range (lst f.code).length).map (carI f T)
def carF (f : Fn) (T : FTab) : Fn := y70 f (carL f T)
theorem y1u9 (f : Fn) (T : FTab) : (carL f T).length = (lst f.code).length := by simp [carL]
theorem y7n (f : Fn) (T : FTab) : Swap f (carF f T) := ⟨rfl, rfl, rfl, rfl, y1u9 f T⟩
theorem yiu (f : Fn) (T : FTab) {i : Nat} (hi : i < (lst f.code).length) : yk (carF f T) i = carI f T i := by
  rw [yk, List.getD_eq_getElem?_getD]
  show ((carL f T)[i]?).getD default = _
  rw [carL, List.getElem?_map, List.getElem?_range hi]; rfl
theorem yag (f : Fn) (T : FTab) (i : Nat) : (carI f T i).op = (yk f i).op ∧ (carI f T i).d = (yk f i).d ∧ (carI f T i).n = (yk f i).n ∧ (carI f T i).t = (yk f i).t ∧ (carI f T i).s = (yk f i).s := by
  unfold carI
  split
  · exact ⟨rfl, rfl, rfl, rfl, rfl⟩
  · exact y16v _ _
theorem y1ed (f : Fn) (T : FTab) (i : Nat) : (lst (carI f T i).args).length = (lst (yk f i).args).length := by
  unfold carI
  split
  · rfl
  · exact y15h _ _
theorem y21n {f : Fn} {i : Nat} {j : Int} (hi : i < (lst f.code).length) (hj : j ∈ y1r f i ∨ j ∈ y4r f i) (j0 : 0 ≤ j) (hh : y3w f j.toNat = false) : j = i + 1 ∧ j ∈ y4r f i := by
  have hn : ¬ y3w f j.toNat = true := by rw [hh]; simp
  rw [yf2] at hn
  have e : ((j.toNat : Nat) : Int) = j := by omega
  rw [e] at hn
  rcases hj with hj | hj
  · exfalso
    unfold y1r at hj
    split at hj
    · cases hj
    · split at hj
      · rcases ybi hj with h | ⟨r, h1, h2⟩
        · cases h
        · exact hn (.inr (.inr (.inr ⟨r, h1, .inr (.inr h2)⟩)))
      · cases hj
  · refine ⟨?_, hj⟩
    unfold y4r at hj
    split at hj
    · cases hj
    · rename_i hb
      rw [show ((i : Int)).toNat = i by omega] at hj
      have key : j ∈ (if ends (yk f i).op = true then [] else [(i : Int) + 1]) → j = i + 1 := by
        intro h
        split at h
        · cases h
        · simpa using h
      unfold yqm at hj
      split at hj
      · rename_i hl
        rcases ygg hj with h | h
        · exact key h
        · exact (hn (.inr (.inr (.inl ⟨_, List.mem_of_getElem? (y3i hi), hl, h.symm⟩)))).elim
      · exact key hj
section
variable {f : Fn} (w : Wf f) {T : FTab} (v : InvF f (T, []))
include w v
theorem InvF.shut {i : Nat} {t : Fx} (h : fAt T i = some t) : yts f T i t := by
  rcases v.closed i t h with h1 | h1
  · cases h1
  · exact h1
theorem y20w {i : Nat} (h : fAt T i ≠ none) : i < (lst f.code).length := by
  obtain ⟨t, ht⟩ := y52 h
  have := yvm ht
  have e := v.ok.len
  simp only at e
  omega
theorem ym9 {i : Nat} (h : fAt T (i + 1) ≠ none) (hh : y3w f (i + 1) = false) : fAt T i ≠ none := by
  obtain ⟨k, k1, k2, k3⟩ := v.pred (i + 1) h (by omega)
  have := (y21n (j := ((i + 1 : Nat) : Int)) k2 k3 (by omega) (by rw [Int.toNat_natCast]; exact hh)).1
  have : k = i := by omega
  subst this
  exact k1
theorem ye7 : ∀ i : Nat, fAt T i ≠ none → (rowC f T i).length = (lst f.regs).length ∧ yaa f (rowC f T i)
  | 0, h => by
    obtain ⟨t, ht⟩ := y52 h
    have e : rowC f T 0 = t := by rw [rowC, tF, ht]; rfl
    rw [e]
    exact v.ok.rows 0 t ht
  | i + 1, h => by
    rw [rowC]
    cases hh : y3w f (i + 1) with
    | true =>
      rw [if_pos rfl]
      obtain ⟨t, ht⟩ := y52 h
      have e : tF T (i + 1) = t := by rw [tF, ht]; rfl
      rw [e]
      exact v.ok.rows _ t ht
    | false =>
      rw [if_neg Bool.false_ne_true]
      have ha := ym9 w v h hh
      obtain ⟨h1, h2⟩ := ye7 i ha
      exact ⟨by rw [ybb]; exact h1, ynm (w.ins i (y20w w v ha)) h1 h2⟩
theorem y1lo {i : Nat} (h : fAt T i ≠ none) {u : Int} (hu : u ∈ lst (uses (yk f i))) : yih (lst f.regs) u (subC (rowC f T i) u) := by
  have hi := y20w w v h
  obtain ⟨u0, u1⟩ := w.uses hi hu
  unfold subC
  split
  · rename_i hq
    have := (ye7 w v i h).2 u.toNat _ hq rfl
    rw [Int.toNat_of_nonneg u0] at this
    refine ⟨?_, this.2⟩
    simp only [inR, Bool.and_eq_true, decide_eq_true_eq]
    exact ⟨hq, this.1⟩
  · refine ⟨?_, rfl⟩
    simp only [inR, Bool.and_eq_true, decide_eq_true_eq]
    exact ⟨u0, u1⟩
theorem y17l {i : Nat} (hi : i < (lst f.code).length) : y15 f (carI f T i) = true := by
  unfold carI
  split
  · exact w.ins i hi
  · rename_i h
    exact yv5 (w.ins i hi) fun u hu => y1lo w v h hu
theorem yig {q : Int} (q0 : 0 ≤ q) {i : Nat} (h : Rch (lst f.code).length (yo3 f q) [0] i) : fAt T i ≠ none ∧ ∀ u : Nat, (tF T i).getD u (-1) = q → badR f q := by
  induction h with
  | base hj j0 j1 =>
    rw [List.mem_singleton] at hj
    subst hj
    have hz := v.ok.zero
    refine ⟨by simp only at hz; simp [hz], fun u hu => ?_⟩
    simp only at hz
    rw [tF] at hu
    have : fAt T (Int.toNat 0) = some (List.replicate (lst f.regs).length (-1)) := hz
    rw [this] at hu
    have := SubF.none (lst f.regs).length [] u q q0 hu
    simp at this; omega
  | @step i j h hj j0 j1 ih =>
    obtain ⟨t, ht⟩ := y52 ih.1
    have hi := h.lt
    have c := v.shut w ht
    have e : tF T i = t := by rw [tF, ht]; rfl
    rw [e] at ih
    have hl := (v.ok.rows i t ht).1
    have hj' := hj
    unfold yo3 at hj
    rw [List.mem_append] at hj
    rcases hj with hj | hj
    · obtain ⟨t', h1, h2⟩ := c.1 j hj
      refine ⟨by rw [h1]; simp, fun u hu => ?_⟩
      have e' : tF T j.toNat = t' := by rw [tF, h1]; rfl
      rw [e'] at hu
      exact ih.2 u (h2 u q q0 hu)
    · split at hj
      · cases hj
      · obtain ⟨t', h1, h2⟩ := c.2 j hj
        refine ⟨by rw [h1]; simp, fun u hu => ?_⟩
        have e' : tF T j.toNat = t' := by rw [tF, h1]; rfl
        rw [e'] at hu
        have hb := h2 u q q0 hu
        have hul : u < t.length := by
          refine Classical.byContradiction fun hh => ?_
          rw [List.getD_eq_getElem?_getD, List.getElem?_eq_none (by rw [ybb]; omega)] at hb
          simp at hb; omega
        rcases ynt hul q0 hb with h3 | ⟨h4, _, h5 | h5⟩
        · exact ih.2 u h3
        · exact ⟨i, h, by simp [yom, uses, h4, calls, reads, h5]⟩
        · exact ih.2 _ h5
theorem y16b {q : Int} (q0 : 0 ≤ q) {i : Nat} (h : Rch (lst f.code).length (yo3 f q) [0] i) : ∀ u : Nat, (rowC f T i).getD u (-1) = q → badR f q := by
  induction h with
  | base hj j0 j1 =>
    rw [List.mem_singleton] at hj
    subst hj
    exact (yig w v q0 (.base (by simp) j0 j1)).2
  | @step i j h hj j0 j1 ih =>
    have hR := Rch.step h hj j0 j1
    intro u hu
    cases hh : y3w f j.toNat with
    | true =>
      have e : rowC f T j.toNat = tF T j.toNat := by
        cases hk : j.toNat with
        | zero => rfl
        | succ k => rw [hk] at hh; rw [rowC, if_pos hh]
      rw [e] at hu
      exact (yig w v q0 hR).2 u hu
    | false =>
      have hi := h.lt
      have hj2 : j ∈ y1r f i ∨ j ∈ y4r f i := by
        unfold yo3 at hj
        rw [List.mem_append] at hj
        refine hj.imp id fun h => ?_
        split at h
        · cases h
        · exact h
      have e1 := (y21n hi hj2 j0 hh).1
      have e2 : j.toNat = i + 1 := by omega
      rw [e2] at hh hu
      rw [rowC, if_neg (by rw [hh]; simp)] at hu
      have hl := (ye7 w v i (yig w v q0 h).1).1
      have hul : u < (rowC f T i).length := by
        refine Classical.byContradiction fun hh => ?_
        rw [List.getD_eq_getElem?_getD, List.getElem?_eq_none (by rw [ybb]; omega)] at hu
        simp at hu; omega
      rcases ynt hul q0 hu with h3 | ⟨h4, _, h5 | h5⟩
      · exact ih u h3
      · exact ⟨i, h, by simp [yom, uses, h4, calls, reads, h5]⟩
      · exact ih _ h5
omit w v in
theorem y1f8 (i : Int) : y4r (carF f T) i = y4r f i := by
  unfold y4r
  rw [(y7n f T).len]
  by_cases h : i < 0 ∨ ((lst f.code).length : Int) ≤ i
  · rw [if_pos h, if_pos h]
  · rw [if_neg h, if_neg h, yiu f T (by omega)]
    have r := yag f T i.toNat
    unfold yqm
    rw [r.1, r.2.2.2.1]
omit w v in
theorem yu0 (i : Int) : y1r (carF f T) i = y1r f i := by
  unfold y1r
  rw [(y7n f T).len, (y7n f T).rows]
  by_cases h : i < 0 ∨ ((lst f.code).length : Int) ≤ i
  · rw [if_pos h, if_pos h]
  · rw [if_neg h, if_neg h, yiu f T (by omega), (yag f T i.toNat).1]
omit w v in
theorem y20e (i : Nat) : defr (carI f T i) = defr (yk f i) := by
  have r := yag f T i
  rw [defr, defr, r.1, r.2.1]
omit w v in
theorem y1tf {q : Int} {i : Nat} (h : Rch (lst (carF f T).code).length (yo3 (carF f T) q) [0] i) : Rch (lst f.code).length (yo3 f q) [0] i := by
  have hl := (y7n f T).len
  induction h with
  | base hj j0 j1 => exact .base hj j0 (by rw [hl] at j1; exact j1)
  | @step i j h hj j0 j1 ih =>
    refine .step ih ?_ j0 (by rw [hl] at j1; exact j1)
    unfold yo3 at hj ⊢
    rwa [yu0, y1f8, yiu f T ih.lt, y20e] at hj
theorem y1y6 {q : Int} (q0 : 0 ≤ q) (h : badR (carF f T) q) : badR f q := by
  obtain ⟨i, hi, hu⟩ := h
  have hr := y1tf hi
  have hlt := hr.lt
  rw [yom, yiu f T hlt] at hu
  unfold carI at hu
  split at hu
  · exact ⟨i, hr, hu⟩
  · rename_i hn
    have nn : ∀ u ∈ lst (uses (yk f i)), 0 ≤ subC (rowC f T i) u := fun u h => y1mz (y1lo w v hn h).1
    rw [y162 nn] at hu
    obtain ⟨u, h1, h2⟩ := List.mem_map.1 hu
    unfold subC at h2
    split at h2
    · exact y16b w v q0 hr u.toNat h2
    · subst h2
      exact ⟨i, hr, h1⟩
theorem y1ef (hw : wf f = true) : wf (carF f T) = true :=
  y24l (y7n f T) hw fun i hi => by
    have r := yag f T i
    rw [yiu f T hi, r.1, r.2.2.2.1]
    exact ⟨y17l w v hi, id, Iff.rfl, fun h => ⟨h, rfl⟩⟩
theorem y1tx (hw : wf f = true) (hs : setM f = true) : setM (carF f T) = true := by
  unfold setM at hs ⊢
  rw [y1ef w v hw]
  rw [hw] at hs
  simp only [Bool.true_and, decide_eq_true_eq] at hs ⊢
  intro r h0 h1 hp hb
  exact hs r h0 h1 hp (y1y6 w v h0 hb)
omit w v in
theorem y1yl {y : Ins} (hy : y ∈ lst (carF f T).code) : ∃ x ∈ lst f.code, y.n = x.n ∧ y.s = x.s ∧ (lst y.args).length = (lst x.args).length := by
  have hy' : y ∈ carL f T := hy
  unfold carL at hy'
  obtain ⟨i, hi, rfl⟩ := List.mem_map.1 hy'
  rw [List.mem_range] at hi
  have r := yag f T i
  exact ⟨_, List.mem_of_getElem? (y3i hi), r.2.2.1, r.2.2.2.2, y1ed f T i⟩
end
end Go.Vm
namespace Go.Vm
open Cel
attribute [local simp] y4 y20 yp
@[simp] theorem y2oa (a b c d : AV) (r : List AV) (h : r.length = 4) : yx 0 [a, b, c, d] r = [a, b, c, d] := by
  simp [yx, ← h]
@[simp] theorem y2kw (h : Heap) (a b c d : Int) (o : Bool) : y8 h (.tup [.agg [.int .i64 a, .int .i64 b, .int .i64 c, .int .i64 d], .bool o]) = some (exK (a, b, c, d, o)) := rfl
@[simp] theorem y2oj (a b c d : Int) : y10 [.int .i64 0, .int .i64 0, .int .i64 0, .int .i64 0] [(0, 1, .int .i64 a), (1, 1, .int .i64 b), (2, 1, .int .i64 c), (3, 1, .int .i64 d)] = some (.agg [.int .i64 a, .int .i64 b, .int .i64 c, .int .i64 d]) := rfl
@[simp] theorem y2og : y10 [.int .i64 0, .int .i64 0, .int .i64 0, .int .i64 0] [] = some (.agg [.int .i64 0, .int .i64 0, .int .i64 0, .int .i64 0]) := rfl
@[simp] theorem y2mq (h : Heap) (a b c : Int) : fz h y1d (.tup [.int .i64 a, .int .i64 b, .int .i64 c]) = some ⟨.tup [.int .i64 a, .int .i64 b, .int .i64 c], true, []⟩ := rfl
@[simp] theorem y2lo (h : Heap) (a b c d : Int) (o : Bool) : fz h y1d (.tup [.agg [.int .i64 a, .int .i64 b, .int .i64 c, .int .i64 d], .bool o]) = some ⟨.tup [.agg [.int .i64 a, .int .i64 b, .int .i64 c, .int .i64 d], .bool o], true, []⟩ := rfl
@[simp] theorem agg4 (a b c d : AV) : y69 true 4 [a, b, c, d] = some (.agg [a, b, c, d]) := rfl
set_option maxHeartbeats 4000000 in
theorem y25k (x : Ins) (h : x.op = 1 ∨ x.op = 2 ∨ x.op = 3 ∨ x.op = 4 ∨ x.op = 7 ∨ x.op = 8 ∨ x.op = 9 ∨ x.op = 10 ∨ x.op = 11 ∨ x.op = 13 ∨ x.op = 14 ∨ x.op = 15 ∨ x.op = 16 ∨ x.op = 17 ∨ x.op = 18 ∨ x.op = 19 ∨ x.op = 20 ∨ x.op = 27 ∨ x.op = 31 ∨ x.op = 32 ∨ x.op = 33) : (y5 E).p 47 [.agg (enc x)] = some (exK (ye x)) := by
  rw [y1iy]
  rcases h with h|h|h|h|h|h|h|h|h|h|h|h|h|h|h|h|h|h|h|h|h <;> simp [h, yg7, yeu, yg3, yg5, yg1, yfx, yg4, yfy, yfz, y9f, y96, y8n, y8k, y8l, y8r, y9k, y9j, y8s, y8v, y8u, y94, y9g, y8x, y8p, y90, y9a, y9c, y8y, y98, y7d, y8o, y97, y9i, y91, y8j, y92, y8z, y95, y9e, y6d, y93, y79, y8m, y9b, y99, y9, yl, meets, ids1, ye]
theorem y26m (x : Ins) (hs : x.s.length ≤ 9223372036854775807) (h : x.op = 12 ∨ x.op = 21 ∨ x.op = 22) : (y5 E).p 47 [.agg (enc x)] = some (exK (ye x)) := by
  rw [y1iy]
  have ht := y2fe x.s hs
  rcases h with h|h|h <;> simp [h, ht, yg7, yeu, yg3, yg5, yg1, yfx, yg4, yfy, yfz, y9f, y96, y8n, y8k, y8l, y8r, y9k, y9j, y8s, y8v, y8u, y94, y9g, y8x, y8p, y90, y9a, y9c, y8y, y98, y7d, y8o, y97, y9i, y91, y8j, y92, y8z, y95, y9e, y6d, y93, y79, y8m, y9b, y99, y9, yl, meets, ids1, ye]
theorem y2ag (x : Ins) (hn : -9223372036854775808 ≤ x.n ∧ x.n < 9223372036854775808) (h : x.op = 5 ∨ x.op = 6) : (y5 E).p 47 [.agg (enc x)] = some (exK (ye x)) := by
  rw [y1iy]
  have hk := y29h x.n
  have hw := y1a hn.1 hn.2
  rcases h with h|h
  · simp [h, hk, hw, yg7, yeu, yg3, yg5, yg1, yfx, yg4, yfy, yfz, y9f, y96, y8n, y8k, y8l, y8r, y9k, y9j, y8s, y8v, y8u, y94, y9g, y8x, y8p, y90, y9a, y9c, y8y, y98, y7d, y8o, y97, y9i, y91, y8j, y92, y8z, y95, y9e, y6d, y93, y79, y8m, y9b, y99, y9, yl, meets, ids1, ye]
  · by_cases h0 : (numK x.n).1 = 0
    · simp [h, hk, hw, h0, yg7, yeu, yg3, yg5, yg1, yfx, yg4, yfy, yfz, y9f, y96, y8n, y8k, y8l, y8r, y9k, y9j, y8s, y8v, y8u, y94, y9g, y8x, y8p, y90, y9a, y9c, y8y, y98, y7d, y8o, y97, y9i, y91, y8j, y92, y8z, y95, y9e, y6d, y93, y79, y8m, y9b, y99, y9, yl, meets, ids1, ye]
    · simp [h, hk, hw, h0, yg7, yeu, yg3, yg5, yg1, yfx, yg4, yfy, yfz, y9f, y96, y8n, y8k, y8l, y8r, y9k, y9j, y8s, y8v, y8u, y94, y9g, y8x, y8p, y90, y9a, y9c, y8y, y98, y7d, y8o, y97, y9i, y91, y8j, y92, y8z, y95, y9e, y6d, y93, y79, y8m, y9b, y99, y9, yl, meets, ids1, ye]
theorem y29l (x : Ins) (h : x.op = 28) : (y5 E).p 47 [.agg (enc x)] = some (exK (ye x)) := by
  rw [y1iy]
  by_cases h0 : 0 ≤ x.n
  · simp [h, h0, yg7, yeu, yg3, yg5, yg1, yfx, yg4, yfy, yfz, y9f, y96, y8n, y8k, y8l, y8r, y9k, y9j, y8s, y8v, y8u, y94, y9g, y8x, y8p, y90, y9a, y9c, y8y, y98, y7d, y8o, y97, y9i, y91, y8j, y92, y8z, y95, y9e, y6d, y93, y79, y8m, y9b, y99, y9, yl, meets, ids1, ye]
  · simp [h, h0, yg7, yeu, yg3, yg5, yg1, yfx, yg4, yfy, yfz, y9f, y96, y8n, y8k, y8l, y8r, y9k, y9j, y8s, y8v, y8u, y94, y9g, y8x, y8p, y90, y9a, y9c, y8y, y98, y7d, y8o, y97, y9i, y91, y8j, y92, y8z, y95, y9e, y6d, y93, y79, y8m, y9b, y99, y9, yl, meets, ids1, ye]
end Go.Vm
namespace Go.Vm
open Cel
attribute [local simp] y4 y20 yp
theorem y1sw (x : Ins) (h : x.op = 29) : (y5 E).p 51 [.agg (enc x)] = some (exK (ye x)) := by
  rw [y1w6]
  by_cases h0 : x.b = -1 <;> by_cases h1 : x.n = 0 <;> simp [h, h0, h1, yto, yow, ytb, yuh, ys8, yv2, ysw, ype, yux, yj5, ybp, ygy, ygq, ygm, ygl, yh7, yiy, yh0, y9, yl, meets, ye]
theorem y1t8 (x : Ins) (h : x.op = 30) : (y5 E).p 51 [.agg (enc x)] = some (exK (ye x)) := by
  rw [y1w6]
  by_cases h0 : x.a = -1 <;> simp [h, h0, yto, yow, ytb, yuh, ys8, yv2, ysw, ype, yux, yj5, ybp, ygy, ygq, ygm, ygl, yh7, yiy, yh0, y9, yl, meets, ye]
set_option maxHeartbeats 4000000 in
theorem ymj (x : Ins) (h : x.op = 23 ∨ x.op = 24 ∨ x.op = 25 ∨ x.op = 26) : (y5 E).p 51 [.agg (enc x)] = some (exK (ye x)) := by
  rw [y1w6]
  have e1 : ((0 : Int) < ((lst x.args).length : Int)) = (0 < (lst x.args).length) := by simp
  have e2 : (((lst x.args).length : Int) ≤ (21 : Int)) = ((lst x.args).length ≤ 21) := by simp; omega
  by_cases h0 : x.d = -1 <;> by_cases h1 : 0 ≤ x.n <;> by_cases h2 : 0 < (lst x.args).length <;> rcases h with h|h|h|h <;> simp [h, h0, h1, h2, e1, e2, yto, yow, ytb, yuh, ys8, yv2, ysw, ype, yux, yj5, ybp, ygy, ygq, ygm, ygl, yh7, yiy, yh0, y9, yl, meets, ye]
theorem y25g (x : Ins) (h : x.op < 1 ∨ 33 < x.op) : (y5 E).p 51 [.agg (enc x)] = some (exK (ye x)) := by
  rw [y1w6, ym4 h]
  rcases h with h|h
  · simp [lo_f h, yto, yow, ytb, yuh, ys8, yv2, ysw, ype, yux, yj5, ybp, ygy, ygq, ygm, ygl, yh7, yiy, yh0, y9, yl, meets]
  · simp [hi_f h, yto, yow, ytb, yuh, ys8, yv2, ysw, ype, yux, yj5, ybp, ygy, ygq, ygm, ygl, yh7, yiy, yh0, y9, yl, meets]
theorem y243 (x : Ins) (h : x.op = 29 ∨ x.op = 30 ∨ x.op = 23 ∨ x.op = 24 ∨ x.op = 25 ∨ x.op = 26 ∨ x.op < 1 ∨ 33 < x.op) : (y5 E).p 47 [.agg (enc x)] = some (exK (ye x)) := by
  have ho : (y5 E).p 51 [.agg (enc x)] = some (exK (ye x)) := by
    rcases h with h|h|h|h|h|h|h
    · exact y1sw x h
    · exact y1t8 x h
    · exact ymj x (.inl h)
    · exact ymj x (.inr (.inl h))
    · exact ymj x (.inr (.inr (.inl h)))
    · exact ymj x (.inr (.inr (.inr h)))
    · exact y25g x h
  rw [y1iy]
  generalize ye x = k at ho
  obtain ⟨a, b, c, d, o⟩ := k
  simp only [exK] at ho
  rcases h with h|h|h|h|h|h|h|h
  iterate 6 (simp [h, ho, yg7, yeu, yg3, yg5, yg1, yfx, yg4, yfy, yfz, y9f, y96, y8n, y8k, y8l, y8r, y9k, y9j, y8s, y8v, y8u, y94, y9g, y8x, y8p, y90, y9a, y9c, y8y, y98, y7d, y8o, y97, y9i, y91, y8j, y92, y8z, y95, y9e, y6d, y93, y79, y8m, y9b, y99, y9, yl, meets])
  · simp [lo_f h, ho, yg7, yeu, yg3, yg5, yg1, yfx, yg4, yfy, yfz, y9f, y96, y8n, y8k, y8l, y8r, y9k, y9j, y8s, y8v, y8u, y94, y9g, y8x, y8p, y90, y9a, y9c, y8y, y98, y7d, y8o, y97, y9i, y91, y8j, y92, y8z, y95, y9e, y6d, y93, y79, y8m, y9b, y99, y9, yl, meets]
  · simp [hi_f h, ho, yg7, yeu, yg3, yg5, yg1, yfx, yg4, yfy, yfz, y9f, y96, y8n, y8k, y8l, y8r, y9k, y9j, y8s, y8v, y8u, y94, y9g, y8x, y8p, y90, y9a, y9c, y8y, y98, y7d, y8o, y97, y9i, y91, y8j, y92, y8z, y95, y9e, y6d, y93, y79, y8m, y9b, y99, y9, yl, meets]
theorem y2bd (x : Ins) (hn : -9223372036854775808 ≤ x.n ∧ x.n < 9223372036854775808) (hs : x.s.length ≤ 9223372036854775807) : (y5 E).p 47 [.agg (enc x)] = some (exK (ye x)) := by
  by_cases h1 : x.op = 1 ∨ x.op = 2 ∨ x.op = 3 ∨ x.op = 4 ∨ x.op = 7 ∨ x.op = 8 ∨ x.op = 9 ∨ x.op = 10 ∨ x.op = 11 ∨ x.op = 13 ∨ x.op = 14 ∨ x.op = 15 ∨ x.op = 16 ∨ x.op = 17 ∨ x.op = 18 ∨ x.op = 19 ∨ x.op = 20 ∨ x.op = 27 ∨ x.op = 31 ∨ x.op = 32 ∨ x.op = 33
  · exact y25k x h1
  by_cases h2 : x.op = 12 ∨ x.op = 21 ∨ x.op = 22
  · exact y26m x hs h2
  by_cases h3 : x.op = 5 ∨ x.op = 6
  · exact y2ag x hn h3
  by_cases h4 : x.op = 28
  · exact y29l x h4
  exact y243 x (by omega)
end Go.Vm
namespace Go.Vm
open Cel
attribute [local simp] y4 y20 yp
@[simp] theorem y2ol (x : Ins) : (y5 E).p 24 [.agg (enc x)] = some ⟨.bool (ends x.op), [], true, [], []⟩ := by
  rw [y2l5, y25b]
  by_cases h1 : x.op = 27
  · simp [h1, ends]
  by_cases h2 : x.op = 30
  · simp [h2, ends]
  by_cases h3 : x.op = 31 <;> simp [h1, h2, h3, ends]
@[simp] theorem y2kr (x : Ins) : (y5 E).p 22 [.agg (enc x)] = some ⟨.bool (leads x.op), [], true, [], []⟩ := by
  rw [y2mr, y2ai]
  by_cases h1 : x.op = 27
  · simp [h1, leads]
  by_cases h2 : x.op = 28
  · simp [h2, leads]
  by_cases h3 : x.op = 29 <;> simp [h1, h2, h3, leads]
@[simp] theorem ytk (x : Ins) : (y5 E).p 17 [.agg (enc x)] = some ⟨.bool (calls x.op), [], true, [], []⟩ := by
  rw [y2o9, y2az]
  by_cases h1 : 23 ≤ x.op
  · by_cases h2 : x.op ≤ 26 <;> simp [h1, h2, calls]
  · simp [h1, calls]
end Go.Vm
namespace Go.Vm
open Cel
attribute [local simp] y4 y20 yp
abbrev HR (f : Fn) (x : Ins) (a b c d : Int) : Heap := [⟨1, .arr true false 5 [enc f]⟩, ⟨1, .arr true false 9 [enc x]⟩, ⟨1, .arr true false 4 [[.int .i64 a, .int .i64 b, .int .i64 c, .int .i64 d]]⟩]
abbrev P0 : AV := .lp 0 1 0 0
abbrev P1 : AV := .lp 1 1 0 0
abbrev P2 : AV := .lp 2 1 0 0
theorem yc4 {f : Fn} {r : Int} (h : inR (lst f.regs) r = true) : yg 1 (slA f.regs) (.int .i64 r) = some (.rp [.int .i64 (regK (lst f.regs) r)]) := by
  obtain ⟨h0, h1, h2⟩ := yt5 h
  exact yns h0 h2 .i64
theorem yv3 (f : Fn) (x : Ins) (a b c d : Int) (i : Nat) (w r : Int) (v26 : AV) (hi : i < 4) (hw : [a, b, c, d][i]? = some w) :
    ydg P0 P1 P2 (.int .i64 i) (.int .i64 r) v26 (.int .i64 i) (HR f x a b c d) =
      if y1f (lst f.regs) w r then yrq P0 P1 P2 v26 (.int .i64 i) (HR f x a b c d) else some ⟨.bool false, [], true, [], []⟩ := by
  have e1 : ynj 4 1 P2 (.int .i64 i) = some (.lp 2 1 0 i) := by
    have : ((i : Int) < (4 : Int)) := by omega
    simp [ynj, this]
  have e2 : ∀ f x, evLd false 1 (.lp 2 1 0 i) (HR f x a b c d) = some (.int .i64 w) := by
    intro f x
    simp only [y34]
    have : (yh (HR f x a b c d) 2 1) = some (false, 4, [[.int .i64 a, .int .i64 b, .int .i64 c, .int .i64 d]]) := rfl
    rw [this]
    simp only [List.getElem?_cons_zero, y7z]
    match i, hi, hw with
    | 0, _, hw => simp at hw; simp [hw]
    | 1, _, hw => simp at hw; simp [hw]
    | 2, _, hw => simp at hw; simp [hw]
    | 3, _, hw => simp at hw; simp [hw]
  have e2 := e2 f x
  by_cases hw0 : w < 0
  · simp [ydg, e1, e2, y1f, hw0]
  by_cases h0 : r < 0
  · have : ¬ 0 ≤ r := by omega
    simp [ydg, ygt, e1, e2, y1f, hw0, h0, inR, this]
  by_cases h1 : r < ((lst f.regs).length : Int)
  · have h0' : 0 ≤ r := by omega
    have h1' : ¬ ((lst f.regs).length : Int) ≤ r := by omega
    have hin : inR (lst f.regs) r = true := by simp [inR, h0', h1]
    have hr := yc4 hin
    by_cases h2 : 0 < w
    · have h2' : ¬ w ≤ 0 := by omega
      by_cases h3 : regK (lst f.regs) r = w
      · simp [ydg, ygt, e1, e2, y1f, hw0, h0, h1', h2, h2', hin, hr, h3]
      · simp [ydg, ygt, e1, e2, y1f, hw0, h0, h1', h2, h2', hin, hr, h3]
    · have h2' : w ≤ 0 := by omega
      simp [ydg, ygt, e1, e2, y1f, hw0, h0, h1', h2, h2', hin]
  · have h1' : ((lst f.regs).length : Int) ≤ r := by omega
    simp [ydg, ygt, e1, e2, y1f, hw0, h0, h1', h1, inR]
theorem y15s (f : Fn) (x : Ins) (a b c d : Int) (h1 : x.op = 1 → inR (lst f.regs) x.d = true) (h4 : x.op = 4 → inR (lst f.regs) x.d = true ∧ inR (lst f.regs) x.a = true) (h7 : x.op = 7 → inR (lst f.regs) x.a = true)
    (h30 : x.op = 30 → x.a = -1 ∨ inR (lst f.regs) x.a = true) :
    y9l P0 P1 (HR f x a b c d) = some ⟨.bool (y30 (lst f.regs) f.ret (lst f.code).length x), [], true, [], []⟩ := by
  by_cases o1 : x.op = 1
  · have hr := yc4 (h1 o1)
    by_cases k3 : regK (lst f.regs) x.d = 3
    · simp [y9l, y30, o1, hr, k3]
    · by_cases k2 : regK (lst f.regs) x.d = 2
      · simp [y9l, y30, o1, hr, k2]
      · simp [y9l, y30, o1, hr, k2, k3]
  by_cases o4 : x.op = 4
  · have hr := yc4 (h4 o4).1
    have hr2 := yc4 (h4 o4).2
    simp [y9l, y30, o4, hr, hr2]
  by_cases o7 : x.op = 7
  · have hr := yc4 (h7 o7)
    simp [y9l, y30, o7, hr]
  by_cases o30 : x.op = 30
  · by_cases ha : x.a = -1
    · by_cases hz : f.ret = 0
      · simp [y9l, y30, o30, ha, hz]
      · simp [y9l, y30, o30, ha, hz]
    · have hr := yc4 ((h30 o30).resolve_left ha)
      by_cases hz : f.ret = 0
      · simp [y9l, y30, o30, ha, hz]
      · simp [y9l, y30, o30, ha, hz, hr]
  · cases hl : leads x.op with
    | false => simp [y9l, y1o2, y30, o1, o4, o7, o30, hl]
    | true =>
      by_cases ht : 0 ≤ x.t
      · simp [y9l, y1o2, y30, o1, o4, o7, o30, hl, ht]
      · simp [y9l, y1o2, y30, o1, o4, o7, o30, hl, ht]
end Go.Vm
