/- What a well formed function is like. In a well formed function the registers that are read and written are registers, and the places that follow are places. The table of the pass 'carry', in plain words: facts flow from place to place until they stay. An instruction that reads other registers of the same kinds is as right as before. Sets of registers, 64 a word. Whether each register is written ahead of all that reads it, in plain words: by ways, and by what is set at each place. Which registers are live, in plain words: by ways, and by what the sweeps over the table leave. What is live ahead of, behind and across a place, as tests. Functions with other instructions at some places: well formed as before. Ways to a read, from their beginning on. A function with other code. Where blocks begin, in plain words. What the pass 'carry' leaves, in plain words. Clones of lists of numbers. What a callee made, as the caller's own: a list, or nothing. Heaps that grow: what lies where, behind one more object, behind one that is turned. Clones of lists of instructions, of rows. Functions whose lists are not too long. -/
import Derived.Test.YtgbajicpokolcaaKX
import Derived.Test.YtgbajicpokolcaaKTa
set_option linter.unusedSimpArgs false
set_option linter.unusedVariables false
set_option linter.unusedSectionVars false
namespace Go.Vm
theorem ykt {f : Fn} {C : List Ins} : ∀ {l : List Ins} {i k : Nat} {x : Ins}, y4a f C i l = true → l[k]? = some x → y1c f x = true ∧ y3t C (i + k) x = true
  | [], _, _, _, _, h => by simp at h
  | y :: l, i, k, x, hk, h => by
    simp only [y4a, Bool.and_eq_true] at hk
    cases k with
    | zero => simp at h; subst h; exact hk.1
    | succ k =>
      have := ykt hk.2 (by simpa using h)
      rwa [show i + 1 + k = i + (k + 1) by omega] at this
structure Wf (f : Fn) : Prop where
  n1 : 1 ≤ (lst f.code).length
  n2 : (lst f.code).length ≤ 20000
  regs : (lst f.regs).length ≤ 20000
  ret0 : 0 ≤ f.ret
  ret3 : f.ret ≤ 3
  last : ends (yg f ((lst f.code).length - 1)).op = true
  kinds : ∀ k ∈ lst f.regs, 1 ≤ k ∧ k ≤ 3
  pars : y8l (lst f.regs) 0 [] (lst f.params) = true
  ins : ∀ i, i < (lst f.code).length → y1c f (yg f i) = true
  spot : ∀ i, i < (lst f.code).length → y3t (lst f.code) i (yg f i) = true
  rows : ∀ r ∈ lst f.rows, y4p (lst f.code) r = true
theorem y1uk {f : Fn} (h : wf f = true) : Wf f := by
  simp only [wf, Bool.and_eq_true, decide_eq_true_eq, List.all_eq_true] at h
  obtain ⟨⟨⟨⟨⟨⟨⟨⟨⟨h1, h2⟩, h3⟩, h4⟩, h5⟩, h6⟩, h7⟩, h8⟩, h9⟩, h10⟩ := h
  refine ⟨h1, h2, h3, h4, h5, h6, h7, h8, fun i hi => ?_, fun i hi => ?_, h10⟩
  · exact (ykt h9 (y3u hi)).1
  · have := (ykt h9 (y3u hi)).2
    rwa [Nat.zero_add] at this
theorem ywb {R : List Int} {ret : Int} {n : Nat} {x : Ins} (h : y3f R ret n x = true) (hl : leads x.op = true) : 0 ≤ x.t ∧ x.t < n := by
  have hne : ¬ x.op = 1 ∧ ¬ x.op = 4 ∧ ¬ x.op = 7 ∧ ¬ x.op = 30 := by
    simp only [leads, Bool.or_eq_true, decide_eq_true_eq] at hl
    omega
  simp only [y3f, hne, if_false, hl, Bool.not_true, Bool.false_or, Bool.and_eq_true, decide_eq_true_eq] at h
  exact h
theorem Wf.leads {f : Fn} (w : Wf f) {i : Nat} (hi : i < (lst f.code).length) (hl : Go.Vm.leads (yg f i).op = true) : 0 ≤ (yg f i).t ∧ (yg f i).t < (lst f.code).length := by
  have h := w.ins i hi
  simp only [y1c, Bool.and_eq_true] at h
  exact ywb h.2 hl
structure RowIn (f : Fn) (r : Row) : Prop where
  f0 : 0 ≤ r.f
  ft : r.f < r.t
  tn : r.t ≤ (lst f.code).length
  a0 : 0 ≤ r.at_
  an : r.at_ < (lst f.code).length
  op : (yg f r.at_.toNat).op = 32
theorem Wf.row {f : Fn} (w : Wf f) {r : Row} (hr : r ∈ lst f.rows) : RowIn f r := by
  have h := w.rows r hr
  simp only [y4p, Bool.not_eq_true', Bool.or_eq_false_iff, decide_eq_false_iff_not, Classical.not_not] at h
  exact ⟨by omega, by omega, by omega, by omega, by omega, h.2⟩
end Go.Vm
namespace Go.Vm
theorem y8d {R : List Int} {k r : Int} (h : y1l R k r = true) (hk : 0 ≤ k) : 0 ≤ r ∧ r < R.length := by
  simp only [y1l, Bool.or_eq_true, decide_eq_true_eq, Bool.and_eq_true, inR] at h
  omega
theorem yx9 (n : Int) : 0 ≤ (numK n).1 ∧ 0 ≤ (numK n).2.1 ∧ 0 ≤ (numK n).2.2 := by
  unfold numK
  repeat' split
  all_goals decide
set_option maxHeartbeats 4000000 in
theorem ynj {f : Fn} {x : Ins} (h : y1c f x = true) {u : Int} (hu : u ∈ lst (uses x)) : 0 ≤ u ∧ u < (lst f.regs).length := by
  simp only [y1c, Bool.and_eq_true] at h
  obtain ⟨⟨⟨⟨⟨⟨h0, h1⟩, h2⟩, h3⟩, h4⟩, h5⟩, h6⟩ := h
  by_cases hc : calls x.op = true
  · have hu' : u ∈ lst x.args := by simpa [uses, hc] using hu
    simp only [y5c, hc, Bool.not_true, Bool.false_or, Bool.and_eq_true, List.all_eq_true] at h5
    have := h5.2 u hu'
    simpa [inR] using this
  · have key : (u = x.a ∧ 0 ≤ (yl x).2.1) ∨ (u = x.b ∧ 0 ≤ (yl x).2.2.1) ∨ (u = x.c ∧ 0 ≤ (yl x).2.2.2.1) ∨ False := by
      rcases yez x.op with h|h|h|h|h|h|h|h|h|h|h|h|h|h|h|h|h|h|h|h|h|h|h|h|h|h|h|h|h|h|h|h|h|h|h
      all_goals first
        | (exfalso; simp [uses, reads, calls, h] at hu; done)
        | (exfalso; simp [calls, h] at hc; done)
        | (simp [uses, reads, calls, h] at hu; simp [yl, h] at h0 ⊢; first | omega | (rcases hu with rfl | rfl <;> simp [yx9]) | (rcases hu with rfl | rfl | rfl <;> simp) | (subst hu; simp [yx9]))
        | (simp [uses, reads, calls, h] at hu; simp [yl, h]; split at hu <;> simp_all; done)
        | (exfalso; simp [uses, reads, calls, lo_f h] at hu; done)
        | (exfalso; simp [uses, reads, calls, hi_f h] at hu; done)
        | skip
      · by_cases hb : x.b < 0
        · simp [uses, calls, h, hb] at hu
          exact .inl ⟨hu, by simp [yl, h]⟩
        · simp [uses, calls, h, hb] at hu
          rcases hu with hu | hu
          · exact .inl ⟨hu, by simp [yl, h]⟩
          · have : ¬ x.b = -1 := by omega
            exact .inr (.inl ⟨hu, by simp [yl, h, this]⟩)
      · by_cases ha : 0 ≤ x.a
        · simp [uses, calls, h, ha] at hu
          have : ¬ x.a = -1 := by omega
          exact .inl ⟨hu, by simp [yl, h, this]⟩
        · simp [uses, calls, h, ha] at hu
    rcases key with ⟨rfl, hk⟩ | ⟨rfl, hk⟩ | ⟨rfl, hk⟩ | hk
    · exact y8d h2 hk
    · exact y8d h3 hk
    · exact y8d h4 hk
    · exact hk.elim
set_option maxHeartbeats 4000000 in
theorem y1qt {f : Fn} {x : Ins} (h : y1c f x = true) (hd : ¬ defr x = -1) : 0 ≤ defr x ∧ defr x < (lst f.regs).length := by
  simp only [y1c, Bool.and_eq_true] at h
  obtain ⟨⟨⟨⟨⟨⟨h0, h1⟩, h2⟩, h3⟩, h4⟩, h5⟩, h6⟩ := h
  have key : defr x = x.d ∧ 0 ≤ (yl x).1 := by
    unfold defr at hd ⊢
    split at hd
    · rename_i hw
      rw [if_pos hw]
      refine ⟨rfl, ?_⟩
      rcases yez x.op with h|h|h|h|h|h|h|h|h|h|h|h|h|h|h|h|h|h|h|h|h|h|h|h|h|h|h|h|h|h|h|h|h|h|h
      all_goals first
        | (exfalso; simp [writes, calls, h] at hw; done)
        | (simp [yl, h, yx9, hd]; done)
        | (exfalso; simp [writes, calls, lo_f h] at hw; done)
        | (exfalso; simp [writes, calls, hi_f h] at hw; done)
    · exact (hd rfl).elim
  rw [key.1]
  exact y8d h1 key.2
theorem Wf.uses {f : Fn} (w : Wf f) {i : Nat} (hi : i < (lst f.code).length) {u : Int} (hu : u ∈ lst (Go.Vm.uses (yg f i))) : 0 ≤ u ∧ u < (lst f.regs).length := ynj (w.ins i hi) hu
theorem Wf.def {f : Fn} (w : Wf f) {i : Nat} (hi : i < (lst f.code).length) (hd : 0 ≤ defr (yg f i)) : defr (yg f i) < (lst f.regs).length := (y1qt (w.ins i hi) (by omega)).2
theorem yhr {l : List Int} {j a : Int} (h : j ∈ addN l a) : j ∈ l ∨ j = a := by
  unfold addN at h
  split at h
  · exact .inl h
  · rw [List.mem_append, List.mem_singleton] at h; exact h
theorem Wf.next {f : Fn} (w : Wf f) {i : Nat} (hi : i < (lst f.code).length) {to : Int} (h : to ∈ y2j f i) : 0 ≤ to ∧ to < (lst f.code).length := by
  rw [y2j, if_neg (by omega), show ((i : Int)).toNat = i by omega] at h
  have hself : ∀ {j : Int}, j ∈ (if ends (yg f i).op = true then [] else [(i : Int) + 1]) → 0 ≤ j ∧ j < (lst f.code).length := by
    intro j hj
    split at hj
    · cases hj
    · rename_i he
      rw [List.mem_singleton] at hj
      subst hj
      refine ⟨by omega, ?_⟩
      by_cases e : i = (lst f.code).length - 1
      · subst e; exact (he w.last).elim
      · omega
  unfold ysd at h
  split at h
  · rename_i hl
    rcases yhr h with h | h
    · exact hself h
    · rw [h]; exact w.leads hi hl
  · exact hself h
theorem yc2 {i to : Int} : ∀ {rs : List Row} {l : List Int}, to ∈ y3z i rs l → to ∈ l ∨ ∃ r ∈ rs, r.at_ = to
  | [], l, h => .inl h
  | r :: rs, l, h => by
    unfold y3z at h
    split at h
    · split at h
      · rcases yhr h with h | h
        · exact .inl h
        · exact .inr ⟨r, by simp, h.symm⟩
      · rcases yc2 h with h | ⟨r', h1, h2⟩
        · rcases yhr h with h | h
          · exact .inl h
          · exact .inr ⟨r, by simp, h.symm⟩
        · exact .inr ⟨r', by simp [h1], h2⟩
    · rcases yc2 h with h | ⟨r', h1, h2⟩
      · exact .inl h
      · exact .inr ⟨r', by simp [h1], h2⟩
theorem Wf.caught {f : Fn} (w : Wf f) {i to : Int} (h : to ∈ yx f i) : 0 ≤ to ∧ to < (lst f.code).length := by
  rw [yx] at h
  split at h
  · cases h
  · split at h
    · rcases yc2 h with h | ⟨r, h1, h2⟩
      · cases h
      · have := w.row h1
        rw [← h2]; exact ⟨this.a0, this.an⟩
    · cases h
theorem ym9 {l : List Int} {j : Int} (h : l.Nodup) : (addN l j).Nodup := by
  unfold addN
  split
  · exact h
  · rename_i hc
    rw [List.nodup_append]
    refine ⟨h, by simp, fun a ha b hb => ?_⟩
    rw [List.mem_singleton] at hb
    subst hb
    rintro rfl
    exact hc (by simpa using ha)
theorem y8h {i : Int} : ∀ {rs : List Row} {l : List Int}, l.Nodup → (y3z i rs l).Nodup
  | [], _, h => h
  | r :: rs, l, h => by
    rw [y3z]
    split
    · split
      · exact ym9 h
      · exact y8h (ym9 h)
    · exact y8h h
theorem Wf.caught_len {f : Fn} (w : Wf f) (i : Int) : (yx f i).length ≤ 20000 := by
  have hd : (yx f i).Nodup := by
    rw [yx]
    split
    · simp
    · split
      · exact y8h (by simp)
      · simp
  have hs : yx f i ⊆ (List.range (lst f.code).length).map fun k => ((k : Nat) : Int) := by
    intro to ht
    have := w.caught ht
    rw [List.mem_map]
    exact ⟨to.toNat, List.mem_range.2 (by omega), by omega⟩
  have := hd.length_le_of_subset hs
  have hn := w.n2
  rw [List.length_map, List.length_range] at this
  omega
theorem y19a {R : List Int} : ∀ {l : List Int} {i : Nat} {seen : List Int} {p : Int}, y8l R i seen l = true → p ∈ l → 0 ≤ p ∧ p < R.length
  | q :: l, i, seen, p, h, hp => by
    simp only [y8l, Bool.and_eq_true] at h
    rcases List.mem_cons.1 hp with rfl | hp
    · simpa [inR] using h.1.1.1
    · exact y19a h.2 hp
theorem yt4 {R : List Int} : ∀ {l : List Int} {i : Nat} {seen : List Int}, y8l R i seen l = true → l = [] ∨ i + l.length ≤ 21
  | [], _, _, _ => .inl rfl
  | q :: l, i, seen, h => by
    simp only [y8l, Bool.and_eq_true, decide_eq_true_eq] at h
    right
    rcases yt4 h.2 with h1 | h1
    · subst h1; simp; omega
    · simp only [List.length_cons]; omega
end Go.Vm
namespace Go.Vm
abbrev FTab := List (Option Fx)
def fAt (T : FTab) (i : Nat) : Option Fx := T[i]?.join
def ye4 (s : Fx) (to : Int) (p : FTab × List Int) : FTab × List Int :=
  if to = 0 ∨ fAt p.1 to.toNat = some (metM (fAt p.1 to.toNat) s) then p
  else (p.1.set to.toNat (some (metM (fAt p.1 to.toNat) s)), p.2 ++ [to])
def y4v (s : Fx) : List Int → FTab × List Int → FTab × List Int
  | [], p => p
  | to :: l, p => y4v s l (ye4 s to p)
theorem yqr {T : FTab} {i j : Nat} {x : Option Fx} (hi : i < T.length) : fAt (T.set i x) j = if i = j then x else fAt T j := by
  unfold fAt
  rw [List.getElem?_set]
  by_cases e : i = j
  · subst e; simp [hi]
  · simp [e]
theorem y219 {T : FTab} {i : Nat} {s : Fx} (h : fAt T i = some s) : T[i]? = some (some s) := by
  unfold fAt at h
  cases hT : T[i]? with
  | none => rw [hT] at h; cases h
  | some o => rw [hT] at h; have : o = some s := h; rw [this]
theorem y185 {T : FTab} {i : Nat} {s : Fx} (h : fAt T i = some s) : i < T.length := (List.getElem?_eq_some_iff.1 (y219 h)).1
def SubF (t s : Fx) : Prop := ∀ (u : Nat) (q : Int), 0 ≤ q → t.getD u (-1) = q → s.getD u (-1) = q
theorem SubF.refl (t : Fx) : SubF t t := fun _ _ _ h => h
theorem SubF.trans {a b c : Fx} (h : SubF a b) (h' : SubF b c) : SubF a c := fun u q h0 h1 => h' u q h0 (h u q h0 h1)
theorem y2ui (a b : Fx) : SubF (metL a b) a := fun _ _ h0 h => (y14o h0 h).1
theorem y2tq (a b : Fx) : SubF (metL a b) b := fun _ _ h0 h => (y14o h0 h).2
theorem SubF.none (n : Nat) (s : Fx) : SubF (List.replicate n (-1)) s := by
  intro u q h0 h
  rw [List.getD_eq_getElem?_getD, List.getElem?_replicate] at h
  split at h <;> simp at h <;> omega
theorem y1je (a : Fx) : metL a a = a := by
  unfold metL
  induction a with
  | nil => rfl
  | cons x a ih => rw [List.zipWith_cons_cons, ih, if_pos rfl]
def cntF (s : Fx) : Nat := s.countP (fun q => decide (q ≠ -1))
theorem y1vi (s : Fx) : cntF s ≤ s.length := List.countP_le_length
theorem y1xm : ∀ {a b : Fx}, a.length = b.length → cntF (metL a b) ≤ cntF a ∧ (metL a b ≠ a → cntF (metL a b) < cntF a)
  | [], [], _ => ⟨Nat.le_refl _, fun h => (h rfl).elim⟩
  | x :: a, y :: b, h => by
    obtain ⟨i1, i2⟩ := y1xm (a := a) (b := b) (by simpa using h)
    have e : metL (x :: a) (y :: b) = (if x = y then x else -1) :: metL a b := rfl
    rw [e]
    unfold cntF at *
    rw [List.countP_cons, List.countP_cons]
    by_cases hxy : x = y
    · rw [if_pos hxy]
      refine ⟨by omega, fun hn => ?_⟩
      have := i2 (fun e => hn (by rw [e]))
      omega
    · rw [if_neg hxy]
      by_cases hx : x = -1
      · subst hx
        simp only [ne_eq, not_true, decide_false, Bool.false_eq_true, if_false, Nat.add_zero]
        refine ⟨i1, fun hn => i2 (fun e => hn (by rw [e]))⟩
      · have h1 : decide (x ≠ -1) = true := decide_eq_true hx
        have h2 : decide ((-1 : Int) ≠ -1) = false := by decide
        rw [h1, h2]
        simp only [if_true, Bool.false_eq_true, if_false]
        exact ⟨by omega, fun _ => by omega⟩
  | [], _ :: _, h => by simp at h
  | _ :: _, [], h => by simp at h
def yam (f : Fn) (s : Fx) : Prop := ∀ (u : Nat) (q : Int), 0 ≤ q → s.getD u (-1) = q → q < (lst f.regs).length ∧ regK (lst f.regs) q = regK (lst f.regs) u
theorem yam.sub {f : Fn} {t s : Fx} (h : yam f s) (hs : SubF t s) : yam f t := fun u q h0 h1 => h u q h0 (hs u q h0 h1)
theorem yqg {f : Fn} {x : Ins} {s : Fx} (hx : y1c f x = true) (hl : s.length = (lst f.regs).length) (h : yam f s) : yam f (behM s x) := by
  intro u q h0 h1
  by_cases hu : u < s.length
  · rcases yp3 hu h0 h1 with h2 | ⟨h4, hd, h2⟩
    · exact h u q h0 h2
    · simp only [y1c, Bool.and_eq_true] at hx
      obtain ⟨⟨⟨⟨⟨⟨_, _⟩, q3⟩, _⟩, _⟩, _⟩, q7⟩ := hx
      have hk : yl x = (0, 0, -1, -1, true) := by simp [yl, h4]
      rw [hk] at q3
      have ha := y8d q3 (Int.le_refl _)
      have ht : regK (lst f.regs) x.d = regK (lst f.regs) x.a := by
        simp [y3f, h4] at q7
        exact q7
      have hdd : defr x = x.d := by simp [defr, h4, writes]
      rw [hd, hdd, ht]
      rcases h2 with h2 | h2
      · rw [← h2]; exact ⟨ha.2, rfl⟩
      · have := h x.a.toNat q h0 h2
        rwa [Int.toNat_of_nonneg ha.1] at this
  · rw [List.getD_eq_getElem?_getD, List.getElem?_eq_none (by rw [yc6]; omega)] at h1
    simp at h1; omega
structure TOk (f : Fn) (T : FTab) : Prop where
  len : T.length = (lst f.code).length
  rows : ∀ (i : Nat) s, fAt T i = some s → s.length = (lst f.regs).length ∧ yam f s
  zero : fAt T 0 = some (List.replicate (lst f.regs).length (-1))
def LeF (a b : FTab) : Prop := ∀ (i : Nat) s, fAt a i = some s → ∃ t, fAt b i = some t ∧ SubF t s
theorem LeF.refl (a : FTab) : LeF a a := fun _ s h => ⟨s, h, .refl _⟩
theorem LeF.trans {a b c : FTab} (h : LeF a b) (h' : LeF b c) : LeF a c := fun i s hs => by
  obtain ⟨t, h1, h2⟩ := h i s hs
  obtain ⟨u, h3, h4⟩ := h' i t h1
  exact ⟨u, h3, h4.trans h2⟩
def AtF (T : FTab) (to : Int) (s : Fx) : Prop := ∃ t, fAt T to.toNat = some t ∧ SubF t s
theorem AtF.mono {a b : FTab} (h : LeF a b) {to : Int} {s : Fx} (hs : AtF a to s) : AtF b to s := by
  obtain ⟨t, h1, h2⟩ := hs
  obtain ⟨u, h3, h4⟩ := h _ _ h1
  exact ⟨u, h3, h4.trans h2⟩
def wtF (R : Nat) : Option Fx → Nat
  | none => R + 1
  | some s => cntF s
def potF (R : Nat) (T : FTab) : Nat := (T.map (wtF R)).sum
theorem y217 {R : Nat} {T : FTab} {i : Nat} {y : Option Fx} (h : i < T.length) : potF R (T.set i y) + wtF R (fAt T i) = potF R T + wtF R y := by
  unfold potF
  induction T generalizing i with
  | nil => simp at h
  | cons a T ih =>
    cases i with
    | zero =>
      simp only [List.set_cons_zero, List.map_cons, List.sum_cons]
      have : fAt (a :: T) 0 = a := rfl
      rw [this]
      omega
    | succ i =>
      have := ih (i := i) (by simpa using h)
      have e : fAt (a :: T) (i + 1) = fAt T i := by simp [fAt]
      rw [e]
      simp only [List.set_cons_succ, List.map_cons, List.sum_cons]
      omega
structure FlowR (f : Fn) (J : Int → Prop) (p q : FTab × List Int) : Prop where
  ok : TOk f q.1
  le : LeF p.1 q.1
  work : ∀ (i : Nat) t, fAt q.1 i = some t → fAt p.1 i = some t ∨ (i : Int) ∈ q.2
  keep : ∀ j, j ∈ p.2 → j ∈ q.2
  fresh : ∀ j, j ∈ q.2 → j ∈ p.2 ∨ (0 ≤ j ∧ j < (lst f.code).length ∧ fAt q.1 j.toNat ≠ none)
  new : ∀ i : Nat, fAt q.1 i ≠ none → fAt p.1 i ≠ none ∨ J i
  pot : 2 * potF (lst f.regs).length q.1 + q.2.length ≤ 2 * potF (lst f.regs).length p.1 + p.2.length
theorem FlowR.refl {f : Fn} {J : Int → Prop} {p : FTab × List Int} (h : TOk f p.1) : FlowR f J p p :=
  ⟨h, .refl _, fun _ _ h => .inl h, fun _ h => h, fun _ h => .inl h, fun _ h => .inl h, Nat.le_refl _⟩
theorem FlowR.trans {f : Fn} {J : Int → Prop} {p q u : FTab × List Int} (h : FlowR f J p q) (h' : FlowR f J q u) : FlowR f J p u := by
  refine ⟨h'.ok, h.le.trans h'.le, fun i t ht => ?_, fun j hj => h'.keep j (h.keep j hj), fun j hj => ?_, fun i hi => ?_, Nat.le_trans h'.pot h.pot⟩
  · rcases h'.work i t ht with h1 | h1
    · rcases h.work i t h1 with h2 | h2
      · exact .inl h2
      · exact .inr (h'.keep _ h2)
    · exact .inr h1
  · rcases h'.fresh j hj with h1 | h1
    · rcases h.fresh j h1 with h2 | ⟨a, b, c⟩
      · exact .inl h2
      · refine .inr ⟨a, b, fun e => c ?_⟩
        cases hc : fAt q.1 j.toNat with
        | none => rfl
        | some t =>
          obtain ⟨v, hv, _⟩ := h'.le _ _ hc
          rw [e] at hv; cases hv
    · exact .inr h1
  · rcases h'.new i hi with h1 | h1
    · exact h.new i h1
    · exact .inr h1
theorem FlowR.mono {f : Fn} {J J' : Int → Prop} {p q : FTab × List Int} (h : FlowR f J p q) (hJ : ∀ j, J j → J' j) : FlowR f J' p q :=
  ⟨h.ok, h.le, h.work, h.keep, h.fresh, fun i hi => (h.new i hi).imp id (hJ _), h.pot⟩
theorem y11h {o : Option Fx} {s : Fx} (h : ∀ t, o = some t → t.length = s.length) : (metM o s).length = s.length := by
  cases o with
  | none => rfl
  | some t => rw [metM, y11w (h t rfl)]; exact h t rfl
theorem y20h (o : Option Fx) (s : Fx) : SubF (metM o s) s := by
  cases o with
  | none => exact .refl _
  | some t => exact y2tq t s
theorem yc4 {f : Fn} {s : Fx} {to : Int} {p : FTab × List Int} (hp : TOk f p.1) (hs : s.length = (lst f.regs).length) (hk : yam f s) (h0 : 0 ≤ to) (h1 : to < (lst f.code).length) :
    FlowR f (· = to) p (ye4 s to p) ∧ AtF (ye4 s to p).1 to s := by
  obtain ⟨T, W⟩ := p
  simp only at hp
  have hlt : to.toNat < T.length := by rw [hp.len]; omega
  have hm := y11h (o := fAt T to.toNat) (s := s) (fun t ht => by rw [(hp.rows _ _ ht).1, hs])
  have hsub := y20h (fAt T to.toNat) s
  unfold ye4
  simp only
  split
  · rename_i hc
    refine ⟨.refl hp, ?_⟩
    rcases hc with hc | hc
    · subst hc; exact ⟨_, hp.zero, .none _ _⟩
    · exact ⟨_, hc, hsub⟩
  · rename_i hc
    have hc0 : to ≠ 0 := fun e => hc (.inl e)
    have hc1 := fun e => hc (.inr e)
    have hpot := y217 (R := (lst f.regs).length) (y := some (metM (fAt T to.toNat) s)) hlt
    have at_ : ∀ j, fAt (T.set to.toNat (some (metM (fAt T to.toNat) s))) j = if to.toNat = j then some (metM (fAt T to.toNat) s) else fAt T j := fun j => yqr hlt
    generalize hT : T.set to.toNat (some (metM (fAt T to.toNat) s)) = T' at *
    have here : fAt T' to.toNat = some (metM (fAt T to.toNat) s) := by rw [at_, if_pos rfl]
    refine ⟨⟨⟨by rw [← hT, List.length_set]; exact hp.len, fun i t ht => ?_, ?_⟩, fun i t ht => ?_, fun i t ht => ?_, fun j hj => List.mem_append_left _ hj, fun j hj => ?_, fun i hi => ?_, ?_⟩, _, here, hsub⟩
    · rw [at_] at ht
      split at ht
      · injection ht with ht; subst ht; exact ⟨by rw [hm, hs], hk.sub hsub⟩
      · exact hp.rows i t ht
    · rw [at_, if_neg (by omega)]; exact hp.zero
    · simp only at ht ⊢
      rw [at_]
      by_cases e : to.toNat = i
      · rw [if_pos e]
        subst e
        rw [ht]
        exact ⟨_, rfl, y2ui t s⟩
      · rw [if_neg e]; exact ⟨t, ht, .refl _⟩
    · simp only at ht ⊢
      rw [at_] at ht
      split at ht
      · rename_i e
        right
        rw [List.mem_append, List.mem_singleton]
        right; omega
      · exact .inl ht
    · simp only at hj ⊢
      rcases List.mem_append.1 hj with h | h
      · exact .inl h
      · rw [List.mem_singleton] at h
        subst h
        exact .inr ⟨h0, h1, by rw [here]; simp⟩
    · simp only at hi ⊢
      rw [at_] at hi
      split at hi
      · right; omega
      · exact .inl hi
    · simp only [List.length_append, List.length_singleton]
      cases ho : fAt T to.toNat with
      | none =>
        rw [ho] at hpot
        simp only [wtF, metM] at hpot
        have := y1vi s
        omega
      | some t =>
        rw [ho] at hpot hc1
        simp only [wtF, metM] at hpot
        have hne : metL t s ≠ t := fun e => hc1 (by rw [metM, e])
        have := (y1xm (a := t) (b := s) (by rw [(hp.rows _ _ ho).1, hs])).2 hne
        omega
theorem y8t {f : Fn} {s : Fx} (hs : s.length = (lst f.regs).length) (hk : yam f s) : ∀ (l : List Int) (p : FTab × List Int), TOk f p.1 → (∀ to ∈ l, 0 ≤ to ∧ to < (lst f.code).length) →
    FlowR f (· ∈ l) p (y4v s l p) ∧ ∀ to ∈ l, AtF (y4v s l p).1 to s
  | [], p, hp, _ => ⟨.refl hp, fun _ h => by cases h⟩
  | to :: l, p, hp, hl => by
    obtain ⟨a1, a2⟩ := yc4 hp hs hk (hl to (by simp)).1 (hl to (by simp)).2
    obtain ⟨b1, b2⟩ := y8t hs hk l (ye4 s to p) a1.ok (fun t ht => hl t (by simp [ht]))
    refine ⟨(a1.mono fun j e => by simp [e]).trans (b1.mono fun j h => by simp [h]), fun t ht => ?_⟩
    rcases List.mem_cons.1 ht with rfl | ht
    · exact a2.mono b1.le
    · exact b2 t ht
theorem ym5 {t : Fx} {to : Int} {i : Nat} {p : FTab × List Int} (h : fAt p.1 i = some t) (hto : 0 ≤ to ∧ to < p.1.length) : fAt (ye4 t to p).1 i = some t := by
  unfold ye4
  split
  · exact h
  · rename_i hc
    simp only
    rw [yqr (by omega)]
    by_cases e : to.toNat = i
    · exfalso
      apply hc
      right
      rw [e, h, metM, y1je]
    · rw [if_neg e]; exact h
theorem yjf {f : Fn} {t : Fx} {i : Nat} (ht : t.length = (lst f.regs).length) (hk : yam f t) : ∀ (l : List Int) (p : FTab × List Int), TOk f p.1 → (∀ to ∈ l, 0 ≤ to ∧ to < (lst f.code).length) → fAt p.1 i = some t → fAt (y4v t l p).1 i = some t
  | [], _, _, _, h => h
  | to :: l, p, hp, hl, h => by
    have b := hl to (by simp)
    exact yjf ht hk l _ (yc4 hp ht hk b.1 b.2).1.ok (fun x hx => hl x (by simp [hx])) (ym5 h (by rw [hp.len]; exact b))
def yxq (f : Fn) (T : FTab) (i : Nat) (t : Fx) : Prop := (∀ to ∈ yx f i, AtF T to t) ∧ ∀ to ∈ y2j f i, AtF T to (behM t (yg f i))
structure InvF (f : Fn) (p : FTab × List Int) : Prop where
  ok : TOk f p.1
  wk : ∀ j ∈ p.2, 0 ≤ j ∧ j < (lst f.code).length ∧ fAt p.1 j.toNat ≠ none
  closed : ∀ (i : Nat) t, fAt p.1 i = some t → (i : Int) ∈ p.2 ∨ yxq f p.1 i t
  pred : ∀ i : Nat, fAt p.1 i ≠ none → i ≠ 0 → ∃ k : Nat, fAt p.1 k ≠ none ∧ k < (lst f.code).length ∧ ((i : Int) ∈ yx f k ∨ (i : Int) ∈ y2j f k)
def tF (T : FTab) (i : Nat) : Fx := (fAt T i).getD []
def rndF (f : Fn) (i : Nat) (p : FTab × List Int) : FTab × List Int := y4v (behM (tF p.1 i) (yg f i)) (y2j f i) (y4v (tF p.1 i) (yx f i) p)
def meaF (f : Fn) (p : FTab × List Int) : Nat := 2 * potF (lst f.regs).length p.1 + p.2.length
theorem y6h {α : Type} {o : Option α} (h : o ≠ none) : ∃ x, o = some x := by
  cases o with
  | none => exact (h rfl).elim
  | some x => exact ⟨x, rfl⟩
theorem LeF.nn {a b : FTab} (h : LeF a b) {i : Nat} (hi : fAt a i ≠ none) : fAt b i ≠ none := by
  obtain ⟨s, hs⟩ := y6h hi
  obtain ⟨t, ht, _⟩ := h i s hs
  rw [ht]; simp
theorem ysq {f : Fn} (w : Wf f) {p : FTab × List Int} (hp : TOk f p.1) {i : Nat} {t : Fx} (hi : i < (lst f.code).length) (ht : fAt p.1 i = some t) :
    FlowR f (fun j => j ∈ yx f i ∨ j ∈ y2j f i) p (rndF f i p) ∧ yxq f (rndF f i p).1 i t ∧
      TOk f (y4v t (yx f i) p).1 ∧ fAt (y4v t (yx f i) p).1 i = some t := by
  have e : tF p.1 i = t := by rw [tF, ht]; rfl
  obtain ⟨h1, h2⟩ := hp.rows i t ht
  obtain ⟨a1, a2⟩ := y8t h1 h2 (yx f i) p hp (fun to h => w.caught h)
  have a3 := yjf h1 h2 (yx f i) p hp (fun to h => w.caught h) ht
  obtain ⟨b1, b2⟩ := y8t (s := behM t (yg f i)) (by rw [yc6]; exact h1) (yqg (w.ins i hi) h1 h2) (y2j f i) _ a1.ok (fun to h => w.next hi h)
  rw [rndF, e]
  exact ⟨(a1.mono fun j h => .inl h).trans (b1.mono fun j h => .inr h), ⟨fun to h => (a2 to h).mono b1.le, b2⟩, a1.ok, a3⟩
theorem y242 {f : Fn} (w : Wf f) {T : FTab} {W : List Int} {i : Int} (h : InvF f (T, W ++ [i])) : InvF f (rndF f i.toNat (T, W)) ∧ meaF f (rndF f i.toNat (T, W)) < meaF f (T, W ++ [i]) := by
  obtain ⟨i0, i1, hn⟩ := h.wk i (by simp)
  obtain ⟨t, ht⟩ := y6h hn
  simp only at ht
  have e : ((i.toNat : Nat) : Int) = i := by omega
  obtain ⟨a, c, _, _⟩ := ysq w (p := (T, W)) h.ok (by omega) ht
  rw [e] at a
  generalize rndF f i.toNat (T, W) = q at *
  refine ⟨⟨a.ok, fun j hj => ?_, fun k s hs => ?_, fun k hk hk0 => ?_⟩, ?_⟩
  · rcases a.fresh j hj with h1 | h1
    · have := h.wk j (by simp [h1])
      exact ⟨this.1, this.2.1, a.le.nn this.2.2⟩
    · exact h1
  · rcases a.work k s hs with h1 | h1
    · simp only at h1
      rcases h.closed k s h1 with h2 | h2
      · simp only [List.mem_append, List.mem_singleton] at h2
        rcases h2 with h2 | h2
        · exact .inl (a.keep _ h2)
        · have : k = i.toNat := by omega
          subst this
          rw [ht] at h1
          injection h1 with h1
          subst h1
          exact .inr c
      · exact .inr ⟨fun to h => (h2.1 to h).mono a.le, fun to h => (h2.2 to h).mono a.le⟩
    · exact .inl h1
  · rcases a.new k hk with h1 | h1
    · obtain ⟨j, j1, j2, j3⟩ := h.pred k h1 hk0
      exact ⟨j, a.le.nn j1, j2, j3⟩
    · exact ⟨i.toNat, a.le.nn hn, by omega, by rw [e]; exact h1⟩
  · have := a.pot
    unfold meaF
    simp only [List.length_append, List.length_singleton] at this ⊢
    omega
def y6f (f : Fn) : FTab := (List.replicate (lst f.code).length none).set 0 (some (List.replicate (lst f.regs).length (-1)))
theorem y28h {f : Fn} (w : Wf f) (i : Nat) : fAt (y6f f) i = if i = 0 then some (List.replicate (lst f.regs).length (-1)) else none := by
  rw [y6f, yqr (by rw [List.length_replicate]; exact w.n1)]
  by_cases e : i = 0
  · subst e; simp
  · rw [if_neg (fun h => e h.symm), if_neg e]
    unfold fAt
    rw [List.getElem?_replicate]
    split <;> rfl
theorem y1mm {f : Fn} (w : Wf f) : InvF f (y6f f, [0]) := by
  have at_ := y28h w
  have hn : ∀ i : Nat, fAt (y6f f) i ≠ none → i = 0 := fun i h => by
    rw [at_] at h
    split at h
    · assumption
    · exact (h rfl).elim
  refine ⟨⟨by simp [y6f], fun i s h => ?_, by rw [at_, if_pos rfl]⟩, fun j hj => ?_, fun i t h => ?_, fun i h h0 => (h0 (hn i h)).elim⟩
  · have h0 := hn i (by rw [h]; simp)
    subst h0
    rw [at_, if_pos rfl] at h
    injection h with h
    subst h
    refine ⟨by simp, fun u q h0 h1 => ?_⟩
    have := SubF.none (lst f.regs).length [] u q h0 h1
    simp at this; omega
  · rw [List.mem_singleton] at hj
    subst hj
    have := w.n1
    refine ⟨by omega, by omega, ?_⟩
    rw [at_]; simp
  · have h0 := hn i (by rw [h]; simp)
    subst h0
    simp
end Go.Vm
namespace Go.Vm
def yeh (σ : Int → Int) (x : Ins) : Ins := repl x ((uses x).map fun l => l.map σ)
theorem y1cp (σ : Int → Int) (x : Ins) : (yeh σ x).op = x.op ∧ (yeh σ x).d = x.d ∧ (yeh σ x).n = x.n ∧ (yeh σ x).t = x.t ∧ (yeh σ x).s = x.s := by
  unfold yeh repl
  split
  · exact ⟨rfl, rfl, rfl, rfl, rfl⟩
  · split
    · exact ⟨rfl, rfl, rfl, rfl, rfl⟩
    · unfold y5f
      split <;> exact ⟨rfl, rfl, rfl, rfl, rfl⟩
theorem ybk (σ : Int → Int) (o : Option (List Int)) : lst (o.map fun l => l.map σ) = (lst o).map σ := by cases o <;> rfl
theorem yfs {σ : Int → Int} {x : Ins} (hc : calls x.op = true) : yeh σ x = { x with args := x.args.map fun l => l.map σ } := by
  have e : uses x = x.args := by simp [uses, hc]
  unfold yeh repl
  rw [e, ybk]
  simp [hc]
theorem yin {σ : Int → Int} {x : Ins} (hc : calls x.op = false) : yeh σ x = y5f x ((lst (uses x)).map σ) := by
  unfold yeh repl
  rw [ybk]
  simp [hc]
theorem y1br (σ : Int → Int) (x : Ins) : (lst (yeh σ x).args).length = (lst x.args).length := by
  by_cases hc : calls x.op = true
  · rw [yfs hc]
    simp only [ybk, List.length_map]
  · rw [yin (by simpa using hc)]
    unfold y5f
    split <;> rfl
theorem y1ba {σ : Int → Int} {x : Ins} (h0 : ∀ u ∈ lst (uses x), 0 ≤ σ u) : lst (uses (yeh σ x)) = (lst (uses x)).map σ := by
  by_cases hc : calls x.op = true
  · rw [yfs hc]
    simp [uses, hc, ybk]
  · have hc' : calls x.op = false := by simpa using hc
    rw [yin hc']
    by_cases h9 : x.op = 29
    · by_cases hb : x.b < 0
      · simp [uses, h9, hb, calls, y5f]
      · have e : lst (uses x) = [x.a, x.b] := by simp [uses, h9, hb, calls]
        have := h0 x.b (by rw [e]; simp)
        have hn : ¬ σ x.b < 0 := by omega
        rw [e]
        simp [uses, h9, calls, y5f, hn]
    · by_cases h30 : x.op = 30
      · by_cases ha : 0 ≤ x.a
        · have e : lst (uses x) = [x.a] := by simp [uses, h30, ha, calls]
          have := h0 x.a (by rw [e]; simp)
          rw [e]
          simp [uses, h30, calls, y5f, this]
        · have e : lst (uses x) = [] := by simp [uses, h30, ha, calls]
          rw [e]
          exact e
      · by_cases h1 : reads x.op = 1
        · simp [uses, hc', h9, h30, h1, y5f]
        · by_cases h2 : reads x.op = 2
          · simp [uses, hc', h9, h30, h2, y5f]
          · by_cases h3 : reads x.op = 3
            · simp [uses, hc', h9, h30, h3, y5f]
            · simp [uses, hc', h9, h30, h1, h2, h3, y5f]
def yia (R : List Int) (u v : Int) : Prop := inR R v = true ∧ regK R v = regK R u
theorem y94 {R : List Int} {k u v : Int} (h : y1l R k u = true) (a : yia R u v) : y1l R k v = true := by
  simp only [y1l, Bool.or_eq_true, Bool.and_eq_true, decide_eq_true_eq] at h ⊢
  rcases h with h | h
  · exact .inl h
  · exact .inr ⟨a.1, by rw [a.2]; exact h.2⟩
theorem y1hg {R : List Int} {v : Int} (h : inR R v = true) : 0 ≤ v := by
  simp only [inR, Bool.and_eq_true, decide_eq_true_eq] at h
  exact h.1
theorem y1ci {R : List Int} {σ : Int → Int} {x : Ins} (h : y5c R x = true) (hc : calls x.op = true) (hσ : ∀ u ∈ lst x.args, yia R u (σ u)) : y5c R { x with args := x.args.map fun l => l.map σ } = true := by
  simp only [y5c, hc, Bool.not_true, Bool.false_or, Bool.and_eq_true, List.all_eq_true, ybk] at h ⊢
  refine ⟨?_, fun u hu => ?_⟩
  · have h1 := h.1
    unfold yfw at h1 ⊢
    simp only [ybk] at h1 ⊢
    cases hl : lst x.args with
    | nil => rfl
    | cons r l =>
      rw [hl] at h1
      have a := hσ r (by rw [hl]; simp)
      simp only [List.map_cons] at h1 ⊢
      rw [a.2]
      exact h1
  · obtain ⟨v, hv, rfl⟩ := List.mem_map.1 hu
    exact (hσ v hv).1
set_option maxHeartbeats 8000000 in
theorem yy5 {f : Fn} {σ : Int → Int} {x : Ins} (h : y1c f x = true) (hσ : ∀ u ∈ lst (uses x), yia (lst f.regs) u (σ u)) : y1c f (yeh σ x) = true := by
  by_cases hc : calls x.op = true
  · have e : uses x = x.args := by simp [uses, hc]
    rw [e] at hσ
    rw [yfs hc]
    simp only [y1c, Bool.and_eq_true] at h ⊢
    obtain ⟨⟨⟨⟨⟨⟨q1, q2⟩, q3⟩, q4⟩, q5⟩, q6⟩, q7⟩ := h
    have hk : yl { x with args := x.args.map fun l => l.map σ } = yl x := by
      unfold yl
      simp only [ybk, List.length_map]
    rw [hk]
    exact ⟨⟨⟨⟨⟨⟨q1, q2⟩, q3⟩, q4⟩, q5⟩, y1ci q6 hc hσ⟩, q7⟩
  · have hc' : calls x.op = false := by simpa using hc
    rw [yin hc']
    have ao : ∀ y : Ins, y.op = x.op → y5c (lst f.regs) y = true := fun y e => by rw [y5c, e, hc']; rfl
    have key : ∀ y : Ins, y.op = x.op → y.d = x.d → y.n = x.n → y.t = x.t → yl y = yl x →
        (y.a = x.a ∨ yia (lst f.regs) x.a y.a ∧ 0 ≤ x.a) → (y.b = x.b ∨ yia (lst f.regs) x.b y.b) → (y.c = x.c ∨ yia (lst f.regs) x.c y.c) → y1c f y = true := by
      intro y e1 e2 e3 e4 hk ha hb hcc
      simp only [y1c, Bool.and_eq_true] at h ⊢
      obtain ⟨⟨⟨⟨⟨⟨q1, q2⟩, q3⟩, q4⟩, q5⟩, q6⟩, q7⟩ := h
      rw [hk]
      refine ⟨⟨⟨⟨⟨⟨q1, by rw [e2]; exact q2⟩, ?_⟩, ?_⟩, ?_⟩, ao y e1⟩, ?_⟩
      · rcases ha with e | ⟨a, _⟩
        · rw [e]; exact q3
        · exact y94 q3 a
      · rcases hb with e | a
        · rw [e]; exact q4
        · exact y94 q4 a
      · rcases hcc with e | a
        · rw [e]; exact q5
        · exact y94 q5 a
      · unfold y3f at q7 ⊢
        rw [e1, e2, e3, e4]
        rcases ha with e | ⟨a, a0⟩
        · rw [e]; exact q7
        · have n1 : ¬ y.a = -1 := by have := y1hg a.1; omega
          have n2 : ¬ x.a = -1 := by omega
          rw [a.2, decide_eq_false n1]
          rw [decide_eq_false n2] at q7
          exact q7
    have nn : ∀ u ∈ lst (uses x), 0 ≤ u := fun u hu => (ynj h hu).1
    have nv : ∀ u ∈ lst (uses x), 0 ≤ σ u := fun u hu => y1hg (hσ u hu).1
    by_cases h9 : x.op = 29
    · by_cases hb : x.b < 0
      · have e : lst (uses x) = [x.a] := by simp [uses, h9, hb, calls]
        rw [e] at hσ nn ⊢
        exact key _ rfl rfl rfl rfl (by simp [yl, y5f, h9]) (.inr ⟨hσ _ (by simp), nn _ (by simp)⟩) (.inl rfl) (.inl rfl)
      · have e : lst (uses x) = [x.a, x.b] := by simp [uses, h9, hb, calls]
        rw [e] at hσ nn nv ⊢
        have b1 := nv x.b (by simp)
        have b2 : ¬ σ x.b = -1 := by omega
        have b3 : ¬ x.b = -1 := by omega
        exact key _ rfl rfl rfl rfl (by simp [yl, y5f, h9, b2, b3]) (.inr ⟨hσ _ (by simp), nn _ (by simp)⟩) (.inr (hσ _ (by simp))) (.inl rfl)
    · by_cases h30 : x.op = 30
      · by_cases ha : 0 ≤ x.a
        · have e : lst (uses x) = [x.a] := by simp [uses, h30, ha, calls]
          rw [e] at hσ nn nv ⊢
          have b1 := nv x.a (by simp)
          have b2 : ¬ σ x.a = -1 := by omega
          have b3 : ¬ x.a = -1 := by omega
          exact key _ rfl rfl rfl rfl (by simp [yl, y5f, h30, b2, b3]) (.inr ⟨hσ _ (by simp), nn _ (by simp)⟩) (.inl rfl) (.inl rfl)
        · have e : lst (uses x) = [] := by simp [uses, h30, ha, calls]
          rw [e]
          exact h
      · have hk : ∀ y : Ins, y.op = x.op → y.n = x.n → y.s = x.s → y.d = x.d → y.args = x.args → yl y = yl x := by
          intro y e1 e2 e3 e4 e5
          have n9 : ∀ (z : Int × Int × Int × Int × Bool) (w : Int × Int × Int × Int × Bool), x.op = 29 → z = w := fun _ _ h => (h9 h).elim
          unfold yl
          rw [e1, e2, e3, e4, e5]
          split <;> first | rfl | (rename_i he; exact (h9 he).elim) | (rename_i he; exact (h30 he).elim)
        by_cases h1 : reads x.op = 1
        · have e : lst (uses x) = [x.a] := by simp [uses, hc', h9, h30, h1]
          rw [e] at hσ nn ⊢
          exact key _ rfl rfl rfl rfl (hk _ rfl rfl rfl rfl rfl) (.inr ⟨hσ _ (by simp), nn _ (by simp)⟩) (.inl rfl) (.inl rfl)
        · by_cases h2 : reads x.op = 2
          · have e : lst (uses x) = [x.a, x.b] := by simp [uses, hc', h9, h30, h2]
            rw [e] at hσ nn ⊢
            exact key _ rfl rfl rfl rfl (hk _ rfl rfl rfl rfl rfl) (.inr ⟨hσ _ (by simp), nn _ (by simp)⟩) (.inr (hσ _ (by simp))) (.inl rfl)
          · by_cases h3 : reads x.op = 3
            · have e : lst (uses x) = [x.a, x.b, x.c] := by simp [uses, hc', h9, h30, h3]
              rw [e] at hσ nn ⊢
              exact key _ rfl rfl rfl rfl (hk _ rfl rfl rfl rfl rfl) (.inr ⟨hσ _ (by simp), nn _ (by simp)⟩) (.inr (hσ _ (by simp))) (.inr (hσ _ (by simp)))
            · have e : lst (uses x) = [] := by simp [uses, hc', h9, h30, h1, h2, h3]
              rw [e]
              exact h
end Go.Vm
namespace Go.Vm
abbrev Ws := List (BitVec 64)
end Go.Vm
namespace Go.Vm
def yel (f : Fn) (i : Nat) : List Int := lst (uses (yg f i))
def yd8 (f : Fn) (r : Int) (i : Nat) : List Int := yx f i ++ if defr (yg f i) = r then [] else y2j f i
def badR (f : Fn) (r : Int) : Prop := ∃ i, Rch (lst f.code).length (yd8 f r) [0] i ∧ r ∈ yel f i
def setP (f : Fn) : Prop := ∀ r : Int, 0 ≤ r → r < (lst f.regs).length → r ∉ lst f.params → ¬ badR f r
open Classical in
noncomputable def setM (f : Fn) : Bool := wf f && decide (setP f)
abbrev Tab := List (Option (List Bool))
def andB (t s : List Bool) : List Bool := List.zipWith (· && ·) t s
def yxs (t s : List Bool) : Bool := (List.zipWith (fun a b => a && !b) t s).any id
def ydn (s : List Bool) (to : Int) (p : Tab × List Int) : Tab × List Int :=
  match p.1[to.toNat]? with
  | some (some t) => if yxs t s then (p.1.set to.toNat (some (andB t s)), p.2 ++ [to]) else p
  | _ => (p.1.set to.toNat (some s), p.2 ++ [to])
def y4g (s : List Bool) : List Int → Tab × List Int → Tab × List Int
  | [], p => p
  | to :: l, p => y4g s l (ydn s to p)
def y3k (d : Int) (s : List Bool) : List Bool := if 0 ≤ d then s.set d.toNat true else s
def ye3 (ins : Tab) (i : Nat) : List Bool := (ins[i]?.join).getD []
def yi5 (f : Fn) : Nat → Tab → List Int → Option Tab
  | 0, _, _ => none
  | k + 1, ins, work => match work.getLast? with
    | none => some ins
    | some i => match y4g (ye3 ins i.toNat) (yx f i) (ins, work.dropLast) with
      | (ins1, w1) => match y4g (y3k (defr (yg f i.toNat)) (ye3 ins i.toNat)) (y2j f i) (ins1, w1) with
        | (ins2, w2) => yi5 f k ins2 w2
def wt (R : Nat) : Option (List Bool) → Nat
  | none => R + 1
  | some s => s.countP id
def pot (R : Nat) (ins : Tab) : Nat := (ins.map (wt R)).sum
def LeB (t s : List Bool) : Prop := ∀ r : Nat, t[r]? = some true → s[r]? = some true
theorem LeB.refl (t : List Bool) : LeB t t := fun _ h => h
theorem LeB.trans {a b c : List Bool} (h : LeB a b) (h' : LeB b c) : LeB a c := fun r h1 => h' r (h r h1)
theorem y124 {t s : List Bool} (h : t.length = s.length) : (andB t s).length = t.length := by simp [andB, h]
theorem yqj {t s : List Bool} {r : Nat} : (andB t s)[r]? = some true ↔ t[r]? = some true ∧ s[r]? = some true := by
  rw [andB, List.getElem?_zipWith]
  cases t[r]? <;> cases s[r]? <;> simp
theorem yuk (t s : List Bool) : LeB (andB t s) t := fun _ h => (yqj.1 h).1
theorem y1cu (t s : List Bool) : LeB (andB t s) s := fun _ h => (yqj.1 h).2
theorem yec {t s : List Bool} : yxs t s = true ↔ ∃ r : Nat, t[r]? = some true ∧ s[r]? = some false := by
  rw [yxs, List.any_eq_true]
  constructor
  · rintro ⟨b, hb, h1⟩
    obtain ⟨r, hr⟩ := List.getElem?_of_mem hb
    rw [List.getElem?_zipWith] at hr
    refine ⟨r, ?_⟩
    cases ht : t[r]? <;> cases hs : s[r]? <;> rw [ht, hs] at hr <;> simp_all
  · rintro ⟨r, h1, h2⟩
    refine ⟨true, List.mem_of_getElem? (i := r) ?_, rfl⟩
    rw [List.getElem?_zipWith, h1, h2]; rfl
theorem y13z : ∀ {t s : List Bool}, t.length = s.length → LeB s t → (∃ r : Nat, t[r]? = some true ∧ s[r]? = some false) → s.countP id < t.countP id
  | [], [], _, _, ⟨r, h, _⟩ => by simp at h
  | a :: t, b :: s, hl, hle, ⟨r, h1, h2⟩ => by
    have hl' : t.length = s.length := by simpa using hl
    have hle' : LeB s t := fun q h => by have := hle (q + 1) (by simpa using h); simpa using this
    have le : ∀ {t s : List Bool}, t.length = s.length → LeB s t → s.countP id ≤ t.countP id := by
      intro t
      induction t with
      | nil => intro s hl _; rw [List.length_nil] at hl; rw [List.eq_nil_of_length_eq_zero hl.symm]; exact Nat.le_refl _
      | cons a t ih =>
        intro s hl hle
        cases s with
        | nil => simp at hl
        | cons b s =>
          have := ih (s := s) (by simpa using hl) (fun q h => by have := hle (q + 1) (by simpa using h); simpa using this)
          have h0 := hle 0
          simp only [List.countP_cons]
          cases a <;> cases b <;> simp_all <;> omega
    simp only [List.countP_cons]
    cases r with
    | zero =>
      simp at h1 h2
      subst h1; subst h2
      have := le hl' hle'
      simp; omega
    | succ r =>
      have := y13z hl' hle' ⟨r, by simpa using h1, by simpa using h2⟩
      have h0 := hle 0
      cases a <;> cases b <;> simp_all <;> omega
  | [], _ :: _, h, _, _ => by simp at h
  | _ :: _, [], h, _, _ => by simp at h
def LeT (a b : Tab) : Prop := ∀ (i : Nat) s, a[i]? = some (some s) → ∃ t, b[i]? = some (some t) ∧ LeB t s
theorem LeT.refl (a : Tab) : LeT a a := fun _ s h => ⟨s, h, .refl _⟩
theorem LeT.trans {a b c : Tab} (h : LeT a b) (h' : LeT b c) : LeT a c := fun i s hs => by
  obtain ⟨t, h1, h2⟩ := h i s hs
  obtain ⟨u, h3, h4⟩ := h' i t h1
  exact ⟨u, h3, h4.trans h2⟩
def LeAt (ins : Tab) (to : Int) (s : List Bool) : Prop := ∃ t, ins[to.toNat]? = some (some t) ∧ LeB t s
theorem LeAt.mono {a b : Tab} (h : LeT a b) {to : Int} {s : List Bool} (hs : LeAt a to s) : LeAt b to s := by
  obtain ⟨t, h1, h2⟩ := hs
  obtain ⟨u, h3, h4⟩ := h _ _ h1
  exact ⟨u, h3, h4.trans h2⟩
theorem y7z {ins : Tab} {i j : Nat} {x y : Option (List Bool)} (h : (ins.set i x)[j]? = some y) : (j = i ∧ y = x) ∨ (j ≠ i ∧ ins[j]? = some y) := by
  rw [List.getElem?_set] at h
  split at h
  · rename_i e
    split at h
    · injection h with h; exact .inl ⟨e.symm, h.symm⟩
    · cases h
  · rename_i e; exact .inr ⟨fun e' => e e'.symm, h⟩
theorem y5h {ins : Tab} {i : Nat} {x : Option (List Bool)} (h : i < ins.length) : (ins.set i x)[i]? = some x := by simp [h]
theorem yuy {ins : Tab} {i j : Nat} {x : Option (List Bool)} (h : j ≠ i) : (ins.set i x)[j]? = ins[j]? := List.getElem?_set_ne (fun e => h e.symm)
section
variable {n R : Nat}
structure TblOk (n R : Nat) (ins : Tab) : Prop where
  len : ins.length = n
  rows : ∀ (i : Nat) s, ins[i]? = some (some s) → s.length = R
structure MeetR (n R : Nat) (s : List Bool) (T : Int → Prop) (p q : Tab × List Int) : Prop where
  ok : TblOk n R q.1
  le : LeT p.1 q.1
  work : ∀ (i : Nat) t, q.1[i]? = some (some t) → p.1[i]? = some (some t) ∨ (i : Int) ∈ q.2
  keep : ∀ j, j ∈ p.2 → j ∈ q.2
  fresh : ∀ j, j ∈ q.2 → j ∈ p.2 ∨ (0 ≤ j ∧ j < n ∧ ∃ t, q.1[j.toNat]? = some (some t))
  src : ∀ (i r : Nat) t, q.1[i]? = some (some t) → t[r]? = some false → (∃ u, p.1[i]? = some (some u) ∧ u[r]? = some false) ∨ (s[r]? = some false ∧ T i)
  pot : 2 * pot R q.1 + q.2.length ≤ 2 * Go.Vm.pot R p.1 + p.2.length
theorem MeetR.refl {s : List Bool} {T : Int → Prop} {p : Tab × List Int} (h : TblOk n R p.1) : MeetR n R s T p p :=
  ⟨h, .refl _, fun _ _ h => .inl h, fun _ h => h, fun _ h => .inl h, fun _ _ _ h1 h2 => .inl ⟨_, h1, h2⟩, Nat.le_refl _⟩
theorem y2ls {ins : Tab} {i : Nat} {x y : Option (List Bool)} (h : ins[i]? = some x) : pot R (ins.set i y) + wt R x = pot R ins + wt R y := by
  unfold pot
  induction ins generalizing i with
  | nil => simp at h
  | cons a ins ih =>
    cases i with
    | zero =>
      simp at h
      subst h
      simp only [List.set_cons_zero, List.map_cons, List.sum_cons]
      omega
    | succ i =>
      simp only [List.getElem?_cons_succ] at h
      have := ih h
      simp only [List.set_cons_succ, List.map_cons, List.sum_cons]
      omega
theorem ynb {s : List Bool} {to : Int} {p : Tab × List Int} (hp : TblOk n R p.1) (hs : s.length = R) (h0 : 0 ≤ to) (h1 : to < n) : MeetR n R s (· = to) p (ydn s to p) ∧ LeAt (ydn s to p).1 to s := by
  obtain ⟨ins, work⟩ := p
  simp only at hp
  have hlt : to.toNat < ins.length := by rw [hp.len]; omega
  unfold ydn
  simp only
  obtain ⟨x, hx⟩ : ∃ x, ins[to.toNat]? = some x := ⟨_, List.getElem?_eq_getElem hlt⟩
  have hpot := fun y => y2ls (R := R) (y := y) hx
  cases x with
  | none =>
    rw [hx]
    simp only
    have hc : s.countP id ≤ R := by rw [← hs]; exact List.countP_le_length
    refine ⟨⟨⟨by simpa using hp.len, fun i t ht => ?_⟩, fun i t ht => ?_, fun i t ht => ?_, fun j hj => List.mem_append_left _ hj, fun j hj => ?_, fun i r t ht hr => ?_, ?_⟩, s, y5h hlt, .refl _⟩
    · rcases y7z ht with ⟨_, e⟩ | ⟨_, h⟩
      · injection e with e; rw [e]; exact hs
      · exact hp.rows i t h
    · by_cases e : i = to.toNat
      · subst e; simp only at ht; rw [hx] at ht; cases ht
      · exact ⟨t, by simp only; rw [yuy e]; exact ht, .refl _⟩
    · rcases y7z ht with ⟨e, _⟩ | ⟨_, h⟩
      · right; simp only [List.mem_append, List.mem_singleton]; right; omega
      · exact .inl h
    · rcases List.mem_append.1 hj with h | h
      · exact .inl h
      · rw [List.mem_singleton] at h
        subst h
        exact .inr ⟨h0, h1, s, y5h hlt⟩
    · rcases y7z ht with ⟨ei, e⟩ | ⟨_, h⟩
      · injection e with e; subst e; exact .inr ⟨hr, by omega⟩
      · exact .inl ⟨t, h, hr⟩
    · have := hpot (some s)
      simp only [wt] at this
      simp only [List.length_append, List.length_singleton] at this ⊢
      omega
  | some t0 =>
    rw [hx]
    simp only
    have ht0 := hp.rows _ _ hx
    split
    · rename_i hl
      obtain ⟨r0, q1, q2⟩ := yec.1 hl
      have hlen : (andB t0 s).length = R := by rw [y124 (by omega)]; exact ht0
      have hlt2 : (andB t0 s).countP id < t0.countP id := y13z (by omega) (yuk _ _) ⟨r0, q1, by
        have hr : r0 < (andB t0 s).length := by rw [hlen]; rw [← ht0]; exact (List.getElem?_eq_some_iff.1 q1).1
        rw [List.getElem?_eq_getElem hr]
        cases hb : (andB t0 s)[r0] with
        | false => rfl
        | true =>
          have := (yqj (t := t0) (s := s) (r := r0)).1 (by rw [List.getElem?_eq_getElem hr, hb])
          rw [q2] at this; cases this.2⟩
      refine ⟨⟨⟨by simpa using hp.len, fun i t ht => ?_⟩, fun i t ht => ?_, fun i t ht => ?_, fun j hj => List.mem_append_left _ hj, fun j hj => ?_, fun i r t ht hr => ?_, ?_⟩, andB t0 s, y5h hlt, y1cu _ _⟩
      · rcases y7z ht with ⟨_, e⟩ | ⟨_, h⟩
        · injection e with e; rw [e]; exact hlen
        · exact hp.rows i t h
      · by_cases e : i = to.toNat
        · subst e
          simp only at ht
          rw [hx] at ht
          injection ht with ht; injection ht with ht; subst ht
          exact ⟨_, y5h hlt, yuk _ _⟩
        · exact ⟨t, by simp only; rw [yuy e]; exact ht, .refl _⟩
      · rcases y7z ht with ⟨e, _⟩ | ⟨_, h⟩
        · right; simp only [List.mem_append, List.mem_singleton]; right; omega
        · exact .inl h
      · rcases List.mem_append.1 hj with h | h
        · exact .inl h
        · rw [List.mem_singleton] at h
          subst h
          exact .inr ⟨h0, h1, _, y5h hlt⟩
      · rcases y7z ht with ⟨ei, e⟩ | ⟨_, h⟩
        · injection e with e
          subst e
          subst ei
          have hr1 : r < (andB t0 s).length := (List.getElem?_eq_some_iff.1 hr).1
          have hrt : r < t0.length := by omega
          have hrs : r < s.length := by omega
          rw [andB, List.getElem?_zipWith, List.getElem?_eq_getElem hrt, List.getElem?_eq_getElem hrs] at hr
          cases ha : t0[r] with
          | false => exact .inl ⟨t0, hx, by rw [List.getElem?_eq_getElem hrt, ha]⟩
          | true =>
            rw [ha] at hr
            right
            rw [List.getElem?_eq_getElem hrs]
            exact ⟨by simpa using hr, by omega⟩
        · exact .inl ⟨t, h, hr⟩
      · have := hpot (some (andB t0 s))
        simp only [wt] at this
        simp only [List.length_append, List.length_singleton] at this ⊢
        omega
    · rename_i hl
      refine ⟨.refl hp, t0, hx, fun r hr => ?_⟩
      have hr1 : r < s.length := by have := (List.getElem?_eq_some_iff.1 hr).1; omega
      rw [List.getElem?_eq_getElem hr1]
      cases hb : s[r] with
      | true => rfl
      | false => exact (hl (yec.2 ⟨r, hr, by rw [List.getElem?_eq_getElem hr1, hb]⟩)).elim
theorem MeetR.trans {s : List Bool} {T : Int → Prop} {p q u : Tab × List Int} (h : MeetR n R s T p q) (h' : MeetR n R s T q u) : MeetR n R s T p u := by
  refine ⟨h'.ok, h.le.trans h'.le, fun i t ht => ?_, fun j hj => h'.keep j (h.keep j hj), fun j hj => ?_, fun i r t ht hr => ?_, Nat.le_trans h'.pot h.pot⟩
  · rcases h'.work i t ht with h1 | h1
    · rcases h.work i t h1 with h2 | h2
      · exact .inl h2
      · exact .inr (h'.keep _ h2)
    · exact .inr h1
  · rcases h'.fresh j hj with h1 | h1
    · rcases h.fresh j h1 with h2 | ⟨a, b, t, ht⟩
      · exact .inl h2
      · obtain ⟨v, hv, _⟩ := h'.le _ _ ht
        exact .inr ⟨a, b, v, hv⟩
    · exact .inr h1
  · rcases h'.src i r t ht hr with ⟨v, h1, h2⟩ | h1
    · exact h.src i r v h1 h2
    · exact .inr h1
theorem MeetR.mono {s : List Bool} {T T' : Int → Prop} {p q : Tab × List Int} (h : MeetR n R s T p q) (hT : ∀ j, T j → T' j) : MeetR n R s T' p q :=
  ⟨h.ok, h.le, h.work, h.keep, h.fresh, fun i r t h1 h2 => (h.src i r t h1 h2).imp id fun x => ⟨x.1, hT _ x.2⟩, h.pot⟩
theorem ycf {s : List Bool} (hs : s.length = R) : ∀ (l : List Int) (p : Tab × List Int), TblOk n R p.1 → (∀ to ∈ l, 0 ≤ to ∧ to < n) → MeetR n R s (· ∈ l) p (y4g s l p) ∧ ∀ to ∈ l, LeAt (y4g s l p).1 to s
  | [], p, hp, _ => ⟨.refl hp, fun _ h => by cases h⟩
  | to :: l, p, hp, hl => by
    obtain ⟨a1, a2⟩ := ynb hp hs (hl to (by simp)).1 (hl to (by simp)).2
    obtain ⟨b1, b2⟩ := ycf hs l (ydn s to p) a1.ok (fun t ht => hl t (by simp [ht]))
    refine ⟨(a1.mono fun j e => by simp [e]).trans (b1.mono fun j h => by simp [h]), fun t ht => ?_⟩
    rcases List.mem_cons.1 ht with rfl | ht
    · exact a2.mono b1.le
    · exact b2 t ht
end
end Go.Vm
namespace Go.Vm
theorem Rch.one {n : Nat} {S : Nat → List Int} {i k : Nat} : Rch n S [(i : Int)] k ↔ (k = i ∧ i < n) ∨ (i < n ∧ Rch n S (S i) k) := by
  constructor
  · intro h
    induction h with
    | base hj j0 j1 =>
      rw [List.mem_singleton] at hj
      subst hj
      exact .inl ⟨by omega, by omega⟩
    | step h hj j0 j1 ih =>
      rcases ih with ⟨e, hi⟩ | ⟨hi, h'⟩
      · subst e
        exact .inr ⟨hi, .base hj j0 j1⟩
      · exact .inr ⟨hi, .step h' hj j0 j1⟩
  · rintro (⟨e, hi⟩ | ⟨hi, h⟩)
    · subst e
      have := Rch.base (n := n) (S := S) (A := [(k : Int)]) (j := (k : Int)) (by simp) (by omega) (by omega)
      simpa using this
    · have hb : Rch n S [(i : Int)] i := by
        have := Rch.base (n := n) (S := S) (A := [(i : Int)]) (j := (i : Int)) (by simp) (by omega) (by omega)
        simpa using this
      induction h with
      | base hj j0 j1 => exact .step hb hj j0 j1
      | step h hj j0 j1 ih => exact .step ih hj j0 j1
section
variable (f : Fn)
structure Tb where
  b : List Ws
  a : List Ws
  h : List Ws
def rowW (l : List Ws) (i : Nat) : Ws := l.getD i []
structure TbOk (n W : Nat) (t : Tb) : Prop where
  b : t.b.length = n
  a : t.a.length = n
  h : t.h.length = n
  bw : ∀ i, i < n → (rowW t.b i).length = W
  aw : ∀ i, i < n → (rowW t.a i).length = W
  hw : ∀ i, i < n → (rowW t.h i).length = W
variable {W n : Nat} {l : List Ws}
end
end Go.Vm
namespace Go.Vm
end Go.Vm
namespace Go.Vm
theorem yus {f : Fn} {C : List Ins} : ∀ (l : List Ins) (i : Nat), (∀ k x, l[k]? = some x → y1c f x = true ∧ y3t C (i + k) x = true) → y4a f C i l = true
  | [], _, _ => rfl
  | y :: l, i, h => by
    rw [y4a, (h 0 y rfl).1, yus l (i + 1) (fun k x hx => by
      have := h (k + 1) x (by simpa using hx)
      rwa [show i + (k + 1) = i + 1 + k by omega] at this)]
    have := (h 0 y rfl).2
    rw [Nat.add_zero] at this
    rw [this]; rfl
theorem y14j {f : Fn} {i : Nat} (h : (lst f.code).length ≤ i) : yg f i = default := by
  rw [yg, List.getD_eq_getElem?_getD, List.getElem?_eq_none h]; rfl
structure Swap (f g : Fn) : Prop where
  regs : g.regs = f.regs
  params : g.params = f.params
  ret : g.ret = f.ret
  rows : g.rows = f.rows
  len : (lst g.code).length = (lst f.code).length
theorem Swap.refl (f : Fn) : Swap f f := ⟨rfl, rfl, rfl, rfl, rfl⟩
theorem Swap.trans {f g h : Fn} (a : Swap f g) (b : Swap g h) : Swap f h := ⟨b.regs.trans a.regs, b.params.trans a.params, b.ret.trans a.ret, b.rows.trans a.rows, b.len.trans a.len⟩
theorem yxf {f g : Fn} (s : Swap f g) (x : Ins) : y1c g x = y1c f x := by
  unfold y1c
  rw [s.regs, s.ret, s.len]
theorem y2mx {f g : Fn} (s : Swap f g) (hw : wf f = true) (h : ∀ i, i < (lst f.code).length → y1c f (yg g i) = true ∧ (ends (yg f i).op = true → ends (yg g i).op = true) ∧
    ((yg g i).op = 32 ↔ (yg f i).op = 32) ∧ (leads (yg g i).op = true → leads (yg f i).op = true ∧ (yg g i).t = (yg f i).t)) : wf g = true := by
  have w := y1uk hw
  have e32 : ∀ i : Nat, (yg g i).op = 32 ↔ (yg f i).op = 32 := fun i => by
    by_cases hi : i < (lst f.code).length
    · exact (h i hi).2.2.1
    · rw [y14j (f := g) (by rw [s.len]; omega), y14j (f := f) (by omega)]
  have hlast := (h ((lst f.code).length - 1) (by have := w.n1; omega)).2.1 w.last
  have hspot : ∀ i, i < (lst f.code).length → y3t (lst g.code) i (yg g i) = true := by
    intro i hi
    have h0 := w.spot i hi
    obtain ⟨_, _, h3, h4⟩ := h i hi
    unfold y3t at h0 ⊢
    rw [Bool.not_eq_true', Bool.or_eq_false_iff, Bool.and_eq_false_iff, Bool.and_eq_false_iff] at h0 ⊢
    refine ⟨?_, ?_⟩
    · rcases h0.1 with q | q
      · left
        simp only [decide_eq_false_iff_not] at q ⊢
        rwa [h3]
      · right
        rw [Bool.or_eq_false_iff] at q ⊢
        refine ⟨q.1, ?_⟩
        have he : ends (yg f (i - 1)).op = true := by simpa [yg] using q.2
        have := (h (i - 1) (by omega)).2.1 he
        simpa [yg] using this
    · cases hl : leads (yg g i).op with
      | false => exact .inl rfl
      | true =>
        right
        obtain ⟨a, b⟩ := h4 hl
        rcases h0.2 with h | h
        · rw [a] at h; cases h
        · simp only [decide_eq_false_iff_not] at h ⊢
          rw [b]
          exact fun e => h ((e32 _).1 e)
  have hw' := hw
  unfold wf at hw' ⊢
  rw [s.len, s.regs, s.ret, s.params, s.rows]
  simp only [Bool.and_eq_true] at hw' ⊢
  obtain ⟨⟨⟨⟨⟨⟨⟨⟨⟨h1, h2⟩, h3⟩, h4⟩, h5⟩, h6⟩, h7⟩, h8⟩, h9⟩, h10⟩ := hw'
  refine ⟨⟨⟨⟨⟨⟨⟨⟨⟨h1, h2⟩, h3⟩, h4⟩, h5⟩, hlast⟩, h7⟩, h8⟩, yus _ 0 fun k x hx => ?_⟩, ?_⟩
  · have hk : k < (lst f.code).length := by rw [← s.len]; exact (List.getElem?_eq_some_iff.1 hx).1
    have e : yg g k = x := by rw [yg, List.getD_eq_getElem?_getD, hx]; rfl
    rw [Nat.zero_add, ← e]
    exact ⟨by rw [yxf s]; exact (h k hk).1, hspot k hk⟩
  · rw [List.all_eq_true] at h10 ⊢
    intro r hr
    have := h10 r hr
    unfold y4p at this ⊢
    rw [s.len]
    rw [Bool.not_eq_true', Bool.or_eq_false_iff] at this ⊢
    refine ⟨this.1, ?_⟩
    have t2 := this.2
    simp only [decide_eq_false_iff_not, Classical.not_not] at t2 ⊢
    exact (e32 r.at_.toNat).2 t2
end Go.Vm
namespace Go.Vm
inductive Way (f : Fn) (r : Int) : Nat → Prop
  | use {i : Nat} : i < (lst f.code).length → r ∈ yel f i → Way f r i
  | step {i : Nat} {j : Int} : i < (lst f.code).length → j ∈ yd8 f r i → 0 ≤ j → j < (lst f.code).length → Way f r j.toNat → Way f r i
theorem Way.lt {f : Fn} {r : Int} {i : Nat} (h : Way f r i) : i < (lst f.code).length := by cases h <;> assumption
end Go.Vm
namespace Go.Vm
def y7l (f : Fn) (L : List Ins) : Fn := { f with code := some L }
@[simp] theorem y2ua (f : Fn) (L : List Ins) : lst (y7l f L).code = L := rfl
theorem yod {f : Fn} {L : List Ins} (h : f.code = some L) : y7l f L = f := by
  rw [y7l, ← h]
end Go.Vm
namespace Go.Vm
def putP (n : Nat) (p : Int) (a : List Bool) : List Bool := if 0 ≤ p ∧ p < n then a.set p.toNat true else a
def y1ds (n i : Nat) (x : Ins) (a : List Bool) : List Bool :=
  if leads x.op || ends x.op then (if leads x.op then putP n x.t a else a).set (i + 1) true else (if leads x.op then putP n x.t a else a)
def hA1 (n : Nat) : Nat → List Ins → List Bool → List Bool
  | _, [], a => a
  | i, x :: r, a => hA1 n (i + 1) r (y1ds n i x a)
def hA2 (n : Nat) : List Row → List Bool → List Bool
  | [], a => a
  | r :: rs, a => hA2 n rs (putP n r.at_ (putP n r.t (putP n r.f a)))
def hA0 (n : Nat) : List Bool := if 0 < n then (List.replicate (n + 1) false).set 0 true else List.replicate (n + 1) false
@[simp] theorem y2vc (n : Nat) (p : Int) (a : List Bool) : (putP n p a).length = a.length := by unfold putP; split <;> simp
@[simp] theorem y2s3 (n i : Nat) (x : Ins) (a : List Bool) : (y1ds n i x a).length = a.length := by
  unfold y1ds
  split <;> split <;> simp
theorem ypu (n : Nat) : ∀ (l : List Ins) (i : Nat) (a : List Bool), (hA1 n i l a).length = a.length
  | [], _, _ => rfl
  | x :: l, i, a => by rw [hA1, ypu]; simp
theorem y1xh (n : Nat) : ∀ (l : List Row) (a : List Bool), (hA2 n l a).length = a.length
  | [], _ => rfl
  | x :: l, a => by rw [hA2, y1xh]; simp
@[simp] theorem yp0 (n : Nat) : (hA0 n).length = n + 1 := by unfold hA0; split <;> simp
theorem ywq {a : List Bool} {i j : Nat} (h : j < a.length) : (a.set i true)[j]? = some true ↔ a[j]? = some true ∨ i = j := by
  rw [List.getElem?_set]
  by_cases e : i = j
  · subst e; simp [h]
  · rw [if_neg e]; exact ⟨.inl, fun h => h.resolve_right e⟩
theorem yhp {n : Nat} {p : Int} {a : List Bool} {j : Nat} (h : j < a.length) : (putP n p a)[j]? = some true ↔ a[j]? = some true ∨ (0 ≤ p ∧ p < n ∧ p.toNat = j) := by
  unfold putP
  split
  · rename_i hc
    rw [ywq h]
    exact ⟨fun h => h.imp id fun e => ⟨hc.1, hc.2, e⟩, fun h => h.imp id fun e => e.2.2⟩
  · rename_i hc
    exact ⟨.inl, fun h => h.resolve_right fun e => hc ⟨e.1, e.2.1⟩⟩
def hitI (n i j : Nat) (x : Ins) : Prop := (leads x.op = true ∧ 0 ≤ x.t ∧ x.t < n ∧ x.t.toNat = j) ∨ ((leads x.op || ends x.op) = true ∧ i + 1 = j)
theorem y1fz {n i : Nat} {x : Ins} {a : List Bool} {j : Nat} (h : j < a.length) : (y1ds n i x a)[j]? = some true ↔ a[j]? = some true ∨ hitI n i j x := by
  have h1 : (if leads x.op = true then putP n x.t a else a)[j]? = some true ↔ a[j]? = some true ∨ (leads x.op = true ∧ 0 ≤ x.t ∧ x.t < n ∧ x.t.toNat = j) := by
    split
    · rename_i hl
      rw [yhp h]; simp [hl]
    · rename_i hl
      simp [hl]
  unfold y1ds hitI
  split
  · rename_i hc
    rw [ywq (by split <;> simp [h]), h1]
    simp only [hc, true_and, or_assoc]
  · rename_i hc
    rw [h1]
    simp only [hc, Bool.false_eq_true, false_and, or_false]
theorem y1xl {n j : Nat} : ∀ (l : List Ins) (i : Nat) (a : List Bool), j < a.length → ((hA1 n i l a)[j]? = some true ↔ a[j]? = some true ∨ ∃ k x, l[k]? = some x ∧ hitI n (i + k) j x)
  | [], i, a, h => by simp [hA1]
  | y :: l, i, a, h => by
    rw [hA1, y1xl l (i + 1) _ (by simpa using h), y1fz h, or_assoc]
    apply or_congr_right
    constructor
    · rintro (h | ⟨k, x, h1, h2⟩)
      · exact ⟨0, y, rfl, h⟩
      · exact ⟨k + 1, x, h1, by rw [show i + (k + 1) = i + 1 + k by omega]; exact h2⟩
    · rintro ⟨k, x, h1, h2⟩
      cases k with
      | zero => simp at h1; subst h1; exact .inl h2
      | succ k => exact .inr ⟨k, x, h1, by rw [show i + 1 + k = i + (k + 1) by omega]; exact h2⟩
def hitR (n j : Nat) (r : Row) : Prop := (0 ≤ r.f ∧ r.f < n ∧ r.f.toNat = j) ∨ (0 ≤ r.t ∧ r.t < n ∧ r.t.toNat = j) ∨ (0 ≤ r.at_ ∧ r.at_ < n ∧ r.at_.toNat = j)
theorem y1xe {n j : Nat} : ∀ (l : List Row) (a : List Bool), j < a.length → ((hA2 n l a)[j]? = some true ↔ a[j]? = some true ∨ ∃ r ∈ l, hitR n j r)
  | [], a, h => by simp [hA2]
  | r :: l, a, h => by
    rw [hA2, y1xe l _ (by simpa using h), yhp (by simpa using h), yhp (by simpa using h), yhp h]
    simp only [List.mem_cons, exists_eq_or_imp, hitR, or_assoc]
theorem y2e7 {n j : Nat} (h : j < n) : (hA0 n)[j]? = some true ↔ j = 0 := by
  unfold hA0
  rw [if_pos (by omega), ywq (by simp; omega)]
  constructor
  · rintro (h | h)
    · rw [List.getElem?_replicate] at h; split at h <;> cases h
    · exact h.symm
  · exact fun e => .inr e.symm
def hA (f : Fn) : List Bool := hA2 (lst f.code).length (lst f.rows) (hA1 (lst f.code).length 0 (lst f.code) (hA0 (lst f.code).length))
theorem y2ta (f : Fn) : (hA f).length = (lst f.code).length + 1 := by rw [hA, y1xh, ypu, yp0]
theorem ymr (f : Fn) (i : Nat) : y53 f i = true ↔ i = 0 ∨ (leads (yg f (i - 1)).op || ends (yg f (i - 1)).op) = true ∨ (∃ x ∈ lst f.code, leads x.op = true ∧ x.t = i) ∨ ∃ r ∈ lst f.rows, r.f = i ∨ r.t = i ∨ r.at_ = i := by
  simp only [y53, Bool.or_eq_true, decide_eq_true_eq, List.any_eq_true, Bool.and_eq_true, or_assoc]
theorem y2rd (f : Fn) {j : Nat} (h : j < (lst f.code).length) : (hA f)[j]? = some (y53 f j) := by
  have hj : j < (hA f).length := by rw [y2ta]; omega
  have key : (hA f)[j]? = some true ↔ y53 f j = true := by
    rw [hA, y1xe _ _ (by rw [ypu, yp0]; omega), y1xl _ _ _ (by rw [yp0]; omega), y2e7 h, ymr, or_assoc]
    by_cases j0 : j = 0
    · exact ⟨fun _ => .inl j0, fun _ => .inl j0⟩
    apply or_congr_right
    constructor
    · rintro (⟨k, x, h1, h2 | h2⟩ | ⟨r, h1, h2⟩)
      · exact .inr (.inl ⟨x, List.mem_of_getElem? h1, h2.1, by omega⟩)
      · left
        have : yg f (j - 1) = x := by
          rw [yg, List.getD_eq_getElem?_getD, show j - 1 = k by omega, h1]; rfl
        rw [this]; exact h2.1
      · refine .inr (.inr ⟨r, h1, ?_⟩)
        rcases h2 with h2 | h2 | h2
        · exact .inl (by omega)
        · exact .inr (.inl (by omega))
        · exact .inr (.inr (by omega))
    · rintro (h1 | ⟨x, h1, h2, h3⟩ | ⟨r, h1, h2⟩)
      · refine .inl ⟨j - 1, yg f (j - 1), y3u (by omega), .inr ⟨h1, by omega⟩⟩
      · obtain ⟨k, hk⟩ := List.getElem?_of_mem h1
        exact .inl ⟨k, x, hk, .inl ⟨h2, by omega, by omega, by omega⟩⟩
      · refine .inr ⟨r, h1, ?_⟩
        rcases h2 with h2 | h2 | h2
        · exact .inl ⟨by omega, by omega, by omega⟩
        · exact .inr (.inl ⟨by omega, by omega, by omega⟩)
        · exact .inr (.inr ⟨by omega, by omega, by omega⟩)
  rw [List.getElem?_eq_getElem hj] at key ⊢
  simp only [Option.some.injEq] at key ⊢
  cases hb : (hA f)[j] <;> cases hc : y53 f j <;> simp_all
end Go.Vm
namespace Go.Vm
def rowC (f : Fn) (T : FTab) : Nat → Fx
  | 0 => tF T 0
  | i + 1 => if y53 f (i + 1) then tF T (i + 1) else behM (rowC f T i) (yg f i)
def subC (s : Fx) (u : Int) : Int := if 0 ≤ s.getD u.toNat (-1) then s.getD u.toNat (-1) else u
def carI (f : Fn) (T : FTab) (i : Nat) : Ins := if fAt T i = none then yg f i else yeh (subC (rowC f T i)) (yg f i)
def carL (f : Fn) (T : FTab) : List Ins := (List.range (lst f.code).length).map (carI f T)
def carF (f : Fn) (T : FTab) : Fn := y7l f (carL f T)
theorem y23a (f : Fn) (T : FTab) : (carL f T).length = (lst f.code).length := by simp [carL]
theorem y86 (f : Fn) (T : FTab) : Swap f (carF f T) := ⟨rfl, rfl, rfl, rfl, y23a f T⟩
theorem yi0 (f : Fn) (T : FTab) {i : Nat} (hi : i < (lst f.code).length) : yg (carF f T) i = carI f T i := by
  rw [yg, List.getD_eq_getElem?_getD]
  show ((carL f T)[i]?).getD default = _
  rw [carL, List.getElem?_map, List.getElem?_range hi]; rfl
theorem ybj (f : Fn) (T : FTab) (i : Nat) : (carI f T i).op = (yg f i).op ∧ (carI f T i).d = (yg f i).d ∧ (carI f T i).n = (yg f i).n ∧ (carI f T i).t = (yg f i).t ∧ (carI f T i).s = (yg f i).s := by
  unfold carI
  split
  · exact ⟨rfl, rfl, rfl, rfl, rfl⟩
  · exact y1cp _ _
theorem y1ke (f : Fn) (T : FTab) (i : Nat) : (lst (carI f T i).args).length = (lst (yg f i).args).length := by
  unfold carI
  split
  · rfl
  · exact y1br _ _
theorem y2b5 {f : Fn} {i : Nat} {j : Int} (hi : i < (lst f.code).length) (hj : j ∈ yx f i ∨ j ∈ y2j f i) (j0 : 0 ≤ j) (hh : y53 f j.toNat = false) : j = i + 1 ∧ j ∈ y2j f i := by
  have hn : ¬ y53 f j.toNat = true := by rw [hh]; simp
  rw [ymr] at hn
  have e : ((j.toNat : Nat) : Int) = j := by omega
  rw [e] at hn
  rcases hj with hj | hj
  · exfalso
    unfold yx at hj
    split at hj
    · cases hj
    · split at hj
      · rcases yc2 hj with h | ⟨r, h1, h2⟩
        · cases h
        · exact hn (.inr (.inr (.inr ⟨r, h1, .inr (.inr h2)⟩)))
      · cases hj
  · refine ⟨?_, hj⟩
    unfold y2j at hj
    split at hj
    · cases hj
    · rename_i hb
      rw [show ((i : Int)).toNat = i by omega] at hj
      have key : j ∈ (if ends (yg f i).op = true then [] else [(i : Int) + 1]) → j = i + 1 := by
        intro h
        split at h
        · cases h
        · simpa using h
      unfold ysd at hj
      split at hj
      · rename_i hl
        rcases yhr hj with h | h
        · exact key h
        · exact (hn (.inr (.inr (.inl ⟨_, List.mem_of_getElem? (y3u hi), hl, h.symm⟩)))).elim
      · exact key hj
section
variable {f : Fn} (w : Wf f) {T : FTab} (v : InvF f (T, []))
include w v
theorem InvF.shut {i : Nat} {t : Fx} (h : fAt T i = some t) : yxq f T i t := by
  rcases v.closed i t h with h1 | h1
  · cases h1
  · exact h1
theorem y2cb {i : Nat} (h : fAt T i ≠ none) : i < (lst f.code).length := by
  obtain ⟨t, ht⟩ := y6h h
  have := y185 ht
  have e := v.ok.len
  simp only at e
  omega
theorem ymk {i : Nat} (h : fAt T (i + 1) ≠ none) (hh : y53 f (i + 1) = false) : fAt T i ≠ none := by
  obtain ⟨k, k1, k2, k3⟩ := v.pred (i + 1) h (by omega)
  have := (y2b5 (j := ((i + 1 : Nat) : Int)) k2 k3 (by omega) (by rw [Int.toNat_natCast]; exact hh)).1
  have : k = i := by omega
  subst this
  exact k1
theorem yj8 : ∀ i : Nat, fAt T i ≠ none → (rowC f T i).length = (lst f.regs).length ∧ yam f (rowC f T i)
  | 0, h => by
    obtain ⟨t, ht⟩ := y6h h
    have e : rowC f T 0 = t := by rw [rowC, tF, ht]; rfl
    rw [e]
    exact v.ok.rows 0 t ht
  | i + 1, h => by
    rw [rowC]
    cases hh : y53 f (i + 1) with
    | true =>
      rw [if_pos rfl]
      obtain ⟨t, ht⟩ := y6h h
      have e : tF T (i + 1) = t := by rw [tF, ht]; rfl
      rw [e]
      exact v.ok.rows _ t ht
    | false =>
      rw [if_neg Bool.false_ne_true]
      have ha := ymk w v h hh
      obtain ⟨h1, h2⟩ := yj8 i ha
      exact ⟨by rw [yc6]; exact h1, yqg (w.ins i (y2cb w v ha)) h1 h2⟩
theorem y1f1 {i : Nat} (h : fAt T i ≠ none) {u : Int} (hu : u ∈ lst (uses (yg f i))) : yia (lst f.regs) u (subC (rowC f T i) u) := by
  have hi := y2cb w v h
  obtain ⟨u0, u1⟩ := w.uses hi hu
  unfold subC
  split
  · rename_i hq
    have := (yj8 w v i h).2 u.toNat _ hq rfl
    rw [Int.toNat_of_nonneg u0] at this
    refine ⟨?_, this.2⟩
    simp only [inR, Bool.and_eq_true, decide_eq_true_eq]
    exact ⟨hq, this.1⟩
  · refine ⟨?_, rfl⟩
    simp only [inR, Bool.and_eq_true, decide_eq_true_eq]
    exact ⟨u0, u1⟩
theorem y1dx {i : Nat} (hi : i < (lst f.code).length) : y1c f (carI f T i) = true := by
  unfold carI
  split
  · exact w.ins i hi
  · rename_i h
    exact yy5 (w.ins i hi) fun u hu => y1f1 w v h hu
theorem yji {q : Int} (q0 : 0 ≤ q) {i : Nat} (h : Rch (lst f.code).length (yd8 f q) [0] i) : fAt T i ≠ none ∧ ∀ u : Nat, (tF T i).getD u (-1) = q → badR f q := by
  induction h with
  | base hj j0 j1 =>
    rw [List.mem_singleton] at hj
    subst hj
    have hz := v.ok.zero
    refine ⟨by simp only at hz; simp [hz], fun u hu => ?_⟩
    simp only at hz
    rw [tF] at hu
    have : fAt T (Int.toNat 0) = some (List.replicate (lst f.regs).length (-1)) := hz
    rw [this] at hu
    have := SubF.none (lst f.regs).length [] u q q0 hu
    simp at this; omega
  | @step i j h hj j0 j1 ih =>
    obtain ⟨t, ht⟩ := y6h ih.1
    have hi := h.lt
    have c := v.shut w ht
    have e : tF T i = t := by rw [tF, ht]; rfl
    rw [e] at ih
    have hl := (v.ok.rows i t ht).1
    have hj' := hj
    unfold yd8 at hj
    rw [List.mem_append] at hj
    rcases hj with hj | hj
    · obtain ⟨t', h1, h2⟩ := c.1 j hj
      refine ⟨by rw [h1]; simp, fun u hu => ?_⟩
      have e' : tF T j.toNat = t' := by rw [tF, h1]; rfl
      rw [e'] at hu
      exact ih.2 u (h2 u q q0 hu)
    · split at hj
      · cases hj
      · obtain ⟨t', h1, h2⟩ := c.2 j hj
        refine ⟨by rw [h1]; simp, fun u hu => ?_⟩
        have e' : tF T j.toNat = t' := by rw [tF, h1]; rfl
        rw [e'] at hu
        have hb := h2 u q q0 hu
        have hul : u < t.length := by
          refine Classical.byContradiction fun hh => ?_
          rw [List.getD_eq_getElem?_getD, List.getElem?_eq_none (by rw [yc6]; omega)] at hb
          simp at hb; omega
        rcases yp3 hul q0 hb with h3 | ⟨h4, _, h5 | h5⟩
        · exact ih.2 u h3
        · exact ⟨i, h, by simp [yel, uses, h4, calls, reads, h5]⟩
        · exact ih.2 _ h5
theorem y1dh {q : Int} (q0 : 0 ≤ q) {i : Nat} (h : Rch (lst f.code).length (yd8 f q) [0] i) : ∀ u : Nat, (rowC f T i).getD u (-1) = q → badR f q := by
  induction h with
  | base hj j0 j1 =>
    rw [List.mem_singleton] at hj
    subst hj
    exact (yji w v q0 (.base (by simp) j0 j1)).2
  | @step i j h hj j0 j1 ih =>
    have hR := Rch.step h hj j0 j1
    intro u hu
    cases hh : y53 f j.toNat with
    | true =>
      have e : rowC f T j.toNat = tF T j.toNat := by
        cases hk : j.toNat with
        | zero => rfl
        | succ k => rw [hk] at hh; rw [rowC, if_pos hh]
      rw [e] at hu
      exact (yji w v q0 hR).2 u hu
    | false =>
      have hi := h.lt
      have hj2 : j ∈ yx f i ∨ j ∈ y2j f i := by
        unfold yd8 at hj
        rw [List.mem_append] at hj
        refine hj.imp id fun h => ?_
        split at h
        · cases h
        · exact h
      have e1 := (y2b5 hi hj2 j0 hh).1
      have e2 : j.toNat = i + 1 := by omega
      rw [e2] at hh hu
      rw [rowC, if_neg (by rw [hh]; simp)] at hu
      have hl := (yj8 w v i (yji w v q0 h).1).1
      have hul : u < (rowC f T i).length := by
        refine Classical.byContradiction fun hh => ?_
        rw [List.getD_eq_getElem?_getD, List.getElem?_eq_none (by rw [yc6]; omega)] at hu
        simp at hu; omega
      rcases yp3 hul q0 hu with h3 | ⟨h4, _, h5 | h5⟩
      · exact ih u h3
      · exact ⟨i, h, by simp [yel, uses, h4, calls, reads, h5]⟩
      · exact ih _ h5
omit w v in
theorem y1kh (i : Int) : y2j (carF f T) i = y2j f i := by
  unfold y2j
  rw [(y86 f T).len]
  by_cases h : i < 0 ∨ ((lst f.code).length : Int) ≤ i
  · rw [if_pos h, if_pos h]
  · rw [if_neg h, if_neg h, yi0 f T (by omega)]
    have r := ybj f T i.toNat
    unfold ysd
    rw [r.1, r.2.2.2.1]
omit w v in
theorem ywh (i : Int) : yx (carF f T) i = yx f i := by
  unfold yx
  rw [(y86 f T).len, (y86 f T).rows]
  by_cases h : i < 0 ∨ ((lst f.code).length : Int) ≤ i
  · rw [if_pos h, if_pos h]
  · rw [if_neg h, if_neg h, yi0 f T (by omega), (ybj f T i.toNat).1]
omit w v in
theorem y21j (i : Nat) : defr (carI f T i) = defr (yg f i) := by
  have r := ybj f T i
  rw [defr, defr, r.1, r.2.1]
omit w v in
theorem y20s {q : Int} {i : Nat} (h : Rch (lst (carF f T).code).length (yd8 (carF f T) q) [0] i) : Rch (lst f.code).length (yd8 f q) [0] i := by
  have hl := (y86 f T).len
  induction h with
  | base hj j0 j1 => exact .base hj j0 (by rw [hl] at j1; exact j1)
  | @step i j h hj j0 j1 ih =>
    refine .step ih ?_ j0 (by rw [hl] at j1; exact j1)
    unfold yd8 at hj ⊢
    rwa [ywh, y1kh, yi0 f T ih.lt, y21j] at hj
theorem y225 {q : Int} (q0 : 0 ≤ q) (h : badR (carF f T) q) : badR f q := by
  obtain ⟨i, hi, hu⟩ := h
  have hr := y20s hi
  have hlt := hr.lt
  rw [yel, yi0 f T hlt] at hu
  unfold carI at hu
  split at hu
  · exact ⟨i, hr, hu⟩
  · rename_i hn
    have nn : ∀ u ∈ lst (uses (yg f i)), 0 ≤ subC (rowC f T i) u := fun u h => y1hg (y1f1 w v hn h).1
    rw [y1ba nn] at hu
    obtain ⟨u, h1, h2⟩ := List.mem_map.1 hu
    unfold subC at h2
    split at h2
    · exact y1dh w v q0 hr u.toNat h2
    · subst h2
      exact ⟨i, hr, h1⟩
theorem y1p3 (hw : wf f = true) : wf (carF f T) = true :=
  y2mx (y86 f T) hw fun i hi => by
    have r := ybj f T i
    rw [yi0 f T hi, r.1, r.2.2.2.1]
    exact ⟨y1dx w v hi, id, Iff.rfl, fun h => ⟨h, rfl⟩⟩
theorem y24h (hw : wf f = true) (hs : setM f = true) : setM (carF f T) = true := by
  unfold setM at hs ⊢
  rw [y1p3 w v hw]
  rw [hw] at hs
  simp only [Bool.true_and, decide_eq_true_eq] at hs ⊢
  intro r h0 h1 hp hb
  exact hs r h0 h1 hp (y225 w v h0 hb)
omit w v in
theorem y24f {y : Ins} (hy : y ∈ lst (carF f T).code) : ∃ x ∈ lst f.code, y.n = x.n ∧ y.s = x.s ∧ (lst y.args).length = (lst x.args).length := by
  have hy' : y ∈ carL f T := hy
  unfold carL at hy'
  obtain ⟨i, hi, rfl⟩ := List.mem_map.1 hy'
  rw [List.mem_range] at hi
  have r := ybj f T i
  exact ⟨_, List.mem_of_getElem? (y3u hi), r.2.2.1, r.2.2.2.2, y1ke f T i⟩
end
end Go.Vm
namespace Go.Vm
open Cel
attribute [local simp] y7 y28 yr
theorem y16w {n b : Nat} (hb : b ≤ 200) (h : n ≤ 2 ^ 38) : (2 * n + 512) * b ≤ 281474976710656 := by
  have e : (2:Nat)^38 = 274877906944 := by decide
  have h1 : (2 * n + 512) ≤ 549755814400 := by omega
  have : (2 * n + 512) * b ≤ 549755814400 * 200 := Nat.mul_le_mul h1 hb
  omega
@[simp] theorem y6o (o : Option (List Int)) (h : (lst o).length ≤ 17592186043904) : (y8 E).p 39 [slA o] = some (exO o) := by
  rw [y2qq]
  cases o with
  | none => simp [y0t, y1an, yzm]; rfl
  | some L =>
    simp only [y3b] at h
    have h1 : (2 * L.length + 512) * 8 ≤ 281474976710656 := by omega
    simp [y0t, y1an, yzm, yw, y15, y3h, h1]
    exact y26 (α := Int) (by simp)
end Go.Vm
namespace Go.Vm
open Cel
section
variable {α : Type} [Cel α]
def ownV (j g : Nat) : Option (List α) → AV
  | none => .nils
  | some L => .ls j g (es α) 0 L.length
def ownO (g : Nat) (d : AO) : Option (List α) → AO
  | none => d
  | some L => ⟨g, .arr false false (es α) (L.map enc)⟩
def exV (k : Nat) : Option (List α) → AV
  | none => .nils
  | some L => .ls k 0 (es α) 0 L.length
def exOs : Option (List α) → List OC
  | none => []
  | some L => [.arr false false (es α) (L.map enc)]
def ownI (j : Nat) : Option (List α) → List Nat
  | none => []
  | some _ => [j]
@[simp] theorem y2lj (j g : Nat) (o : Option (List α)) : cellsOf (ownV j g o) = [ownV j g o] := by cases o <;> rfl
@[simp] theorem y2sy (j g : Nat) (o : Option (List α)) : y17 (ownV j g o) = true := by cases o <;> rfl
@[simp] theorem y2tn (j g : Nat) (o : Option (List α)) : known (ownV j g o) = true := by cases o <;> rfl
@[simp] theorem yvb (j g : Nat) (o : Option (List α)) (H : Heap) : yq 1 (ownV j g o) H = some (.int .i64 (lst o).length) := by cases o <;> rfl
theorem y6e {H : Heap} {i : Nat} {o : AO} (h : H[i]? = some o) : H.set i o = H := by
  refine List.ext_getElem? fun k => ?_
  rw [List.getElem?_set]
  split
  · rename_i e; subst e
    rw [if_pos (List.getElem?_eq_some_iff.1 h).1, h]
  · rfl
theorem y9a {E : Env} {C : Calls2} {fb j f : Nat} {args : List AV} {H : Heap} {fa : Fz (List AV)} {N : Option (List α)} {o : AO} (hE : E.pure f = true) (ha : yt (fz H y18) args = some fa) (hc : C.p f fa.v = some (exO N))
    (hf : fa.ids = []) (ho : H[fb + j]? = some o) : y7 E C fb (some j) false f args H = some (ownV (fb + j) (o.gen + 1) N, H.set (fb + j) (ownO (o.gen + 1) o N)) := by
  simp only [y7, hE, Bool.false_and, Bool.not_false, Bool.and_self, if_true, y28, ha, hc]
  have hfr : ((exO N).fresh || fa.ids.isEmpty) = true := by rw [hf]; simp
  simp only [hfr, if_true]
  cases N with
  | none =>
    simp only [exO, y2f, Bool.false_eq_true, if_false, ownV, ownO, y6e ho]
    rfl
  | some L => simp only [Bool.false_eq_true, if_false, y116, ho, y162, ownV, ownO]
theorem y147 {E : Env} {C : Calls2} {fb j f : Nat} {args : List AV} {H : Heap} {fa : Fz (List AV)} {N : Option (List α)} (hE : E.pure f = true) (ha : yt (fz H y18) args = some fa) (hc : C.p f fa.v = some (exO N))
    (hf : fa.ids = []) : y3p E C fb (some j) false f args H = some ([], ownI (fb + j) N) := by
  cases N with
  | none => simp [y3p, hE, ha, hc, hf, exO, ownI]
  | some L => simp [y3p, hE, ha, hc, hf, exO, ownI]
theorem y155 {H : Heap} {j g : Nat} {d : AO} {L : List α} (h : H[j]? = some (ownO g d (some L))) : ym H j g = some (false, es α, L.map enc) := by
  simp [ym, y37, h, ownO]
theorem y1vy {H : Heap} {j g k : Nat} {d : AO} {o : Option (List α)} (h : H[j]? = some (ownO g d o)) : fz H (k + 2) (ownV j g o) = some ⟨slA o, (lst o).all scal, ownI j o⟩ := by
  cases o with
  | none => rfl
  | some L =>
    rw [ownV, y2cf, y155 h]
    simp only [List.drop_zero, Nat.zero_add, List.length_map, Nat.le_refl, and_self, if_true, y6u, y15o]
    simp [slA, ownI]
theorem yev {H : Heap} {j g k : Nat} {d : AO} {o : Option (List α)} (h : H[j]? = some (ownO g d o)) (os : List OC) :
    expo H (k + 1) (ownV j g o) os = some ⟨exV os.length o, os ++ exOs o, (lst o).all scal, ownI j o, []⟩ := by
  cases o with
  | none => simp [ownV, expo, pure1, exV, exOs, ownI]
  | some L =>
    rw [ownV, y1id, y155 h]
    simp only [List.drop_zero, Nat.zero_add, List.length_map, Nat.le_refl, and_self, if_true, y6u, y1ms]
    rfl
end
theorem y186 {rows : List (List AV)} {i : Nat} {r : List AV} (h : rows[i]? = some r) : rows.set i r = rows := by
  refine List.ext_getElem? fun k => ?_
  rw [List.getElem?_set]
  split
  · rename_i e; subst e
    rw [if_pos (List.getElem?_eq_some_iff.1 h).1, h]
  · rfl
theorem ysu {H : Heap} {id g es : Nat} {fz : Bool} {rows : List (List AV)} (h : ym H id g = some (fz, es, rows)) : y29 H id rows = H := by
  unfold ym y37 at h
  cases ho : H[id]? with
  | none => rw [ho] at h; simp at h
  | some o =>
    obtain ⟨g', c⟩ := o
    rw [ho] at h
    by_cases hg : g' = g
    · cases c with
      | arr bx fz' es' rows' =>
        simp only [hg, if_true, Option.some.injEq, Prod.mk.injEq] at h
        obtain ⟨rfl, rfl, rfl⟩ := h
        simp only [y29, ho]
        exact y6e ho
      | dead => simp [hg] at h
      | map _ _ => simp [hg] at h
    · simp [hg] at h
def y2n (f : Fn) : Ex AV :=
  ⟨.agg [exV 0 f.regs, exV (exOs f.regs).length f.params, .int .i64 f.ret, exV (exOs f.regs ++ exOs f.params).length f.code, exV (exOs f.regs ++ exOs f.params ++ exOs f.code).length f.rows],
    exOs f.regs ++ exOs f.params ++ exOs f.code ++ exOs f.rows, (lst f.code).all scal && (lst f.rows).all scal, [], []⟩
theorem y2io {α : Type} [Cel α] (o : Option (List α)) (A B : List OC) (L : List α) (h : o = some L) : (y2e (A ++ exOs o ++ B))[A.length]? = some (ownO 0 ⟨0, .dead⟩ o) := by
  subst h
  simp [y2e, exOs, ownO]
theorem y0u {α : Type} [Cel α] (o : Option (List α)) (A B : List OC) (k : Nat) : fz (y2e (A ++ exOs o ++ B)) (k + 2) (exV A.length o) = some ⟨slA o, (lst o).all scal, ownI A.length o⟩ := by
  cases ho : o with
  | none => rfl
  | some L => exact y1vy (g := 0) (o := some L) (by have := y2io o A B L ho; rwa [ho] at this)
theorem y1bf (f : Fn) : ywn (y2n f) (.agg (enc f)) := by
  have h1 := y0u f.regs [] (exOs f.params ++ exOs f.code ++ exOs f.rows) 9
  have h2 := y0u f.params (exOs f.regs) (exOs f.code ++ exOs f.rows) 9
  have h3 := y0u f.code (exOs f.regs ++ exOs f.params) (exOs f.rows) 9
  have h4 := y0u f.rows (exOs f.regs ++ exOs f.params ++ exOs f.code) [] 9
  simp only [List.nil_append, List.append_nil, List.append_assoc, List.length_nil, List.length_append] at h1 h2 h3 h4
  have hi : fz (y2e (y2n f).objs) 11 (.int .i64 f.ret) = some ⟨.int .i64 f.ret, true, []⟩ := rfl
  refine ⟨_, (yfb _ 11 _).trans (by
    simp only [y2n, yk, List.append_assoc, List.length_append] at hi ⊢
    simp only [h1, h2, h3, h4, hi, y11]
    rfl), rfl⟩
theorem y27 {E : Env} {C : Calls2} {fb f : Nat} {args : List AV} {h : Heap} {fa : Fz (List AV)} {r : Ex AV} {v : AV} (hE : E.pure f = true) (ha : yt (fz h y18) args = some fa) (hf : fa.ids = [])
    (hc : C.p f fa.v = some r) (hr : ywn r v) (sl : Option Nat := none) (hsl : sl = none := by rfl) : y7 E C fb sl true f args h = some (v, h) := by
  subst hsl
  obtain ⟨q, h1, h2⟩ := hr
  simp [y7, hE, y28, ha, hc, hf, h1, h2]
theorem yzj {E : Env} {C : Calls2} {fb f : Nat} {args : List AV} {h : Heap} {fa : Fz (List AV)} {r : Ex AV} (hE : E.pure f = true) (ha : yt (fz h y18) args = some fa) (hf : fa.ids = [])
    (hc : C.p f fa.v = some r) (sl : Option Nat := none) (hsl : sl = none := by rfl) : y3p E C fb sl true f args h = some ([], []) := by
  subst hsl
  simp [y3p, hE, ha, hc, hf]
end Go.Vm
namespace Go.Vm
open Cel
theorem y3w {H : Heap} {a : Nat} {x : AO} (h : a < H.length) : (H.set a x)[a]? = some x := by simp [h]
theorem yv {H : Heap} {a b : Nat} {x : AO} (h : a ≠ b) : (H.set a x)[b]? = H[b]? := List.getElem?_set_ne h
theorem y1bn {H : Heap} {n b : Nat} (h : b < H.length) : (H ++ yp n)[b]? = H[b]? := List.getElem?_append_left h
theorem y29g {H : Heap} {n j : Nat} (h : j < n) : (H ++ yp n)[H.length + j]? = some ⟨0, .dead⟩ := by
  rw [List.getElem?_append_right (by omega), Nat.add_sub_cancel_left, yp, List.getElem?_replicate, if_pos h]
theorem y3d {H : Heap} {a : Nat} {x : AO} (h : H[a]? = some x) : a < H.length := (List.getElem?_eq_some_iff.1 h).1
theorem yoa {H : Heap} {fb j : Nat} {o : AO} (n : Int) (h : H[fb + j]? = some o) : yw fb (some j) 1 1 [.int .i64 0] [(0, .int .i64 n)] H = some (.ls (fb + j) (o.gen + 1) 1 0 1, H.set (fb + j) (AI (o.gen + 1) [n])) := by
  simp [yw, y15, y42, place, h]
  rfl
theorem yxk {α : Type} [Cel α] {H : Heap} {id g : Nat} {L : List α} (h : H[id]? = some ⟨g, .arr false false (es α) (L.map enc)⟩) : y3g H (es α) (.ls id g (es α) 0 L.length) = some (L.map enc) := by
  simp [y3g, ym, y37, h]
theorem y1ie {α : Type} [Cel α] {H : Heap} {id g k : Nat} {L : List α} (h : H[id]? = some ⟨g, .arr false false (es α) (L.map enc)⟩) : fz H (k + 2) (.ls id g (es α) 0 L.length) = some ⟨slA (some L), L.all scal, [id]⟩ :=
  y1vy (o := some L) (d := ⟨0, .dead⟩) h
theorem ykv {α : Type} [Cel α] {E : Env} {C : Calls2} {fb j f : Nat} {args : List AV} {H : Heap} {fa : Fz (List AV)} {N : Option (List α)} {o : AO} (hE : E.pure f = true) (ha : yt (fz H y18) args = some fa) (hc : C.p f fa.v = some (exO N))
    (hf : (lst N).all scal = true) (ho : H[fb + j]? = some o) : y7 E C fb (some j) false f args H = some (ownV (fb + j) (o.gen + 1) N, H.set (fb + j) (ownO (o.gen + 1) o N)) := by
  simp only [y7, hE, Bool.false_and, Bool.not_false, Bool.and_self, if_true, y28, ha, hc]
  have hfr : ((exO N).fresh || fa.ids.isEmpty) = true := by rw [y6x, hf]; rfl
  simp only [hfr, if_true]
  cases N with
  | none =>
    simp only [exO, y2f, Bool.false_eq_true, if_false, ownV, ownO, y6e ho]
    rfl
  | some L => simp only [Bool.false_eq_true, if_false, y116, ho, y162, ownV, ownO]
theorem ya6 {H : Heap} {id g i es : Nat} {rows : List (List AV)} {v : AV} (h : H[id]? = some ⟨g, .arr false false es rows⟩) (hx : rows[i]? = some [v]) : evLd false 1 (.lp id g i 0) H = some v := by
  have hr : ym H id g = some (false, es, rows) := by simp [ym, y37, h]
  rw [y38, hr]
  simp [hx]
theorem yud {H : Heap} {id g i : Nat} {rows : List (List AV)} {v w : AV} (h : H[id]? = some ⟨g, .arr false false 1 rows⟩) (hx : rows[i]? = some [w]) (hv : cellsOf v = [v]) (hl : y17 v = true) :
    evSt 1 (.lp id g i 0) v H = some (.tup [], H.set id ⟨g, .arr false false 1 (rows.set i [v])⟩) := by
  have hr : ym H id g = some (false, 1, rows) := by simp [ym, y37, h]
  rw [y5n, hr]
  simp only [hx, hv]
  rw [if_pos ⟨rfl, Nat.le_refl _, by simp [hl]⟩]
  rw [show y13 0 [v] [w] = [v] from rfl, y29, h]
end Go.Vm
namespace Go.Vm
open Cel
attribute [local simp] y7 y28 yr
@[simp] theorem ywu (o : Option (List Ins)) (h : (lst o).length ≤ 2 ^ 38) : (y8 E).p 40 [slA o] = some (exO o) := by
  rw [y2sj]
  cases o with
  | none => simp [y0d, y19r, y137]; rfl
  | some L =>
    have h1 := y16w (b := 96) (by omega) h
    simp only [y3b] at h1
    simp [y0d, y19r, y137, yw, y15, y3h, h1]
    exact y26 (α := Ins) (by simp)
@[simp] theorem ywl (o : Option (List Row)) (h : (lst o).length ≤ 2 ^ 38) : (y8 E).p 41 [slA o] = some (exO o) := by
  rw [y2pu]
  cases o with
  | none => simp [y15h, yyr, y14t]; rfl
  | some L =>
    have h1 := y16w (b := 40) (by omega) h
    simp only [y3b] at h1
    simp [y15h, yyr, y14t, yw, y15, y3h, h1]
    exact y26 (α := Row) (by simp)
end Go.Vm
namespace Go.Vm
structure FnSm (f : Fn) : Prop where
  regs : (lst f.regs).length ≤ 17592186043904
  params : (lst f.params).length ≤ 17592186043904
  code : (lst f.code).length ≤ 2 ^ 38
  rows : (lst f.rows).length ≤ 2 ^ 38
  args : ∀ x ∈ lst f.code, (lst x.args).length ≤ 17592186043904
abbrev y121 (f : Fn) : Prop := ∀ x ∈ lst f.code, (lst x.args).length ≤ 17592186043904
end Go.Vm
