/- What a well formed function is like. In a well formed function the registers that are read and written are registers, and the places that follow are places. The table of the pass 'carry', in plain words: facts flow from place to place until they stay. An instruction that reads other registers of the same kinds is as right as before. Sets of registers, 64 a word. Whether each register is written ahead of all that reads it, in plain words: by ways, and by what is set at each place. Which registers are live, in plain words: by ways, and by what the sweeps over the table leave. What is live ahead of, behind and across a place, as tests. Functions with other instructions at some places: well formed as before. Ways to a read, from their beginning on. A function with other code. Where blocks begin, in plain words. What the pass 'carry' leaves, in plain words. Facts of the pass 'known', in plain words: what was checked, and of which registers. -/
import Derived.Test.YtgbajicpokolcaaGTa
set_option linter.unusedSimpArgs false
set_option linter.unusedVariables false
set_option linter.unusedSectionVars false
namespace Go.Vm
theorem yk1 {f : Fn} {C : List Ins} : ∀ {l : List Ins} {i k : Nat} {x : Ins}, y45 f C i l = true → l[k]? = some x → y1m f x = true ∧ y3o C (i + k) x = true
  | [], _, _, _, _, h => by simp at h
  | y :: l, i, k, x, hk, h => by
    simp only [y45, Bool.and_eq_true] at hk
    cases k with
    | zero => simp at h; subst h; exact hk.1
    | succ k =>
      have := yk1 hk.2 (by simpa using h)
      rwa [show i + 1 + k = i + (k + 1) by omega] at this
structure Wf (f : Fn) : Prop where
  n1 : 1 ≤ (lst f.code).length
  n2 : (lst f.code).length ≤ 20000
  regs : (lst f.regs).length ≤ 20000
  ret0 : 0 ≤ f.ret
  ret3 : f.ret ≤ 3
  last : ends (yh f ((lst f.code).length - 1)).op = true
  kinds : ∀ k ∈ lst f.regs, 1 ≤ k ∧ k ≤ 3
  pars : y8b (lst f.regs) 0 [] (lst f.params) = true
  ins : ∀ i, i < (lst f.code).length → y1m f (yh f i) = true
  spot : ∀ i, i < (lst f.code).length → y3o (lst f.code) i (yh f i) = true
  rows : ∀ r ∈ lst f.rows, y4f (lst f.code) r = true
theorem y1od {f : Fn} (h : wf f = true) : Wf f := by
  simp only [wf, Bool.and_eq_true, decide_eq_true_eq, List.all_eq_true] at h
  obtain ⟨⟨⟨⟨⟨⟨⟨⟨⟨h1, h2⟩, h3⟩, h4⟩, h5⟩, h6⟩, h7⟩, h8⟩, h9⟩, h10⟩ := h
  refine ⟨h1, h2, h3, h4, h5, h6, h7, h8, fun i hi => ?_, fun i hi => ?_, h10⟩
  · exact (yk1 h9 (y5g hi)).1
  · have := (yk1 h9 (y5g hi)).2
    rwa [Nat.zero_add] at this
theorem ywq {R : List Int} {ret : Int} {n : Nat} {x : Ins} (h : y3a R ret n x = true) (hl : leads x.op = true) : 0 ≤ x.t ∧ x.t < n := by
  have hne : ¬ x.op = 1 ∧ ¬ x.op = 4 ∧ ¬ x.op = 7 ∧ ¬ x.op = 30 := by
    simp only [leads, Bool.or_eq_true, decide_eq_true_eq] at hl
    omega
  simp only [y3a, hne, if_false, hl, Bool.not_true, Bool.false_or, Bool.and_eq_true, decide_eq_true_eq] at h
  exact h
theorem Wf.leads {f : Fn} (w : Wf f) {i : Nat} (hi : i < (lst f.code).length) (hl : Go.Vm.leads (yh f i).op = true) : 0 ≤ (yh f i).t ∧ (yh f i).t < (lst f.code).length := by
  have h := w.ins i hi
  simp only [y1m, Bool.and_eq_true] at h
  exact ywq h.2 hl
structure RowIn (f : Fn) (r : Row) : Prop where
  f0 : 0 ≤ r.f
  ft : r.f < r.t
  tn : r.t ≤ (lst f.code).length
  a0 : 0 ≤ r.at_
  an : r.at_ < (lst f.code).length
  op : (yh f r.at_.toNat).op = 32
theorem Wf.row {f : Fn} (w : Wf f) {r : Row} (hr : r ∈ lst f.rows) : RowIn f r := by
  have h := w.rows r hr
  simp only [y4f, Bool.not_eq_true', Bool.or_eq_false_iff, decide_eq_false_iff_not, Classical.not_not] at h
  exact ⟨by omega, by omega, by omega, by omega, by omega, h.2⟩
end Go.Vm
namespace Go.Vm
theorem y5a {R : List Int} {k r : Int} (h : y23 R k r = true) (hk : 0 ≤ k) : 0 ≤ r ∧ r < R.length := by
  simp only [y23, Bool.or_eq_true, decide_eq_true_eq, Bool.and_eq_true, inR] at h
  omega
theorem yuy (n : Int) : 0 ≤ (numK n).1 ∧ 0 ≤ (numK n).2.1 ∧ 0 ≤ (numK n).2.2 := by
  unfold numK
  repeat' split
  all_goals decide
set_option maxHeartbeats 4000000 in
theorem y1ax {f : Fn} {x : Ins} (h : y1m f x = true) {u : Int} (hu : u ∈ lst (uses x)) : 0 ≤ u ∧ u < (lst f.regs).length := by
  simp only [y1m, Bool.and_eq_true] at h
  obtain ⟨⟨⟨⟨⟨⟨h0, h1⟩, h2⟩, h3⟩, h4⟩, h5⟩, h6⟩ := h
  by_cases hc : calls x.op = true
  · have hu' : u ∈ lst x.args := by simpa [uses, hc] using hu
    simp only [y75, hc, Bool.not_true, Bool.false_or, Bool.and_eq_true, List.all_eq_true] at h5
    have := h5.2 u hu'
    simpa [inR] using this
  · have key : (u = x.a ∧ 0 ≤ (yo x).2.1) ∨ (u = x.b ∧ 0 ≤ (yo x).2.2.1) ∨ (u = x.c ∧ 0 ≤ (yo x).2.2.2.1) ∨ False := by
      rcases ydz x.op with h|h|h|h|h|h|h|h|h|h|h|h|h|h|h|h|h|h|h|h|h|h|h|h|h|h|h|h|h|h|h|h|h|h|h
      all_goals first
        | (exfalso; simp [uses, reads, calls, h] at hu; done)
        | (exfalso; simp [calls, h] at hc; done)
        | (simp [uses, reads, calls, h] at hu; simp [yo, h] at h0 ⊢; first | omega | (rcases hu with rfl | rfl <;> simp [yuy]) | (rcases hu with rfl | rfl | rfl <;> simp) | (subst hu; simp [yuy]))
        | (simp [uses, reads, calls, h] at hu; simp [yo, h]; split at hu <;> simp_all; done)
        | (exfalso; simp [uses, reads, calls, lo_f h] at hu; done)
        | (exfalso; simp [uses, reads, calls, hi_f h] at hu; done)
        | skip
      · by_cases hb : x.b < 0
        · simp [uses, calls, h, hb] at hu
          exact .inl ⟨hu, by simp [yo, h]⟩
        · simp [uses, calls, h, hb] at hu
          rcases hu with hu | hu
          · exact .inl ⟨hu, by simp [yo, h]⟩
          · have : ¬ x.b = -1 := by omega
            exact .inr (.inl ⟨hu, by simp [yo, h, this]⟩)
      · by_cases ha : 0 ≤ x.a
        · simp [uses, calls, h, ha] at hu
          have : ¬ x.a = -1 := by omega
          exact .inl ⟨hu, by simp [yo, h, this]⟩
        · simp [uses, calls, h, ha] at hu
    rcases key with ⟨rfl, hk⟩ | ⟨rfl, hk⟩ | ⟨rfl, hk⟩ | hk
    · exact y5a h2 hk
    · exact y5a h3 hk
    · exact y5a h4 hk
    · exact hk.elim
set_option maxHeartbeats 4000000 in
theorem y1p0 {f : Fn} {x : Ins} (h : y1m f x = true) (hd : ¬ defr x = -1) : 0 ≤ defr x ∧ defr x < (lst f.regs).length := by
  simp only [y1m, Bool.and_eq_true] at h
  obtain ⟨⟨⟨⟨⟨⟨h0, h1⟩, h2⟩, h3⟩, h4⟩, h5⟩, h6⟩ := h
  have key : defr x = x.d ∧ 0 ≤ (yo x).1 := by
    unfold defr at hd ⊢
    split at hd
    · rename_i hw
      rw [if_pos hw]
      refine ⟨rfl, ?_⟩
      rcases ydz x.op with h|h|h|h|h|h|h|h|h|h|h|h|h|h|h|h|h|h|h|h|h|h|h|h|h|h|h|h|h|h|h|h|h|h|h
      all_goals first
        | (exfalso; simp [writes, calls, h] at hw; done)
        | (simp [yo, h, yuy, hd]; done)
        | (exfalso; simp [writes, calls, lo_f h] at hw; done)
        | (exfalso; simp [writes, calls, hi_f h] at hw; done)
    · exact (hd rfl).elim
  rw [key.1]
  exact y5a h1 key.2
theorem Wf.uses {f : Fn} (w : Wf f) {i : Nat} (hi : i < (lst f.code).length) {u : Int} (hu : u ∈ lst (Go.Vm.uses (yh f i))) : 0 ≤ u ∧ u < (lst f.regs).length := y1ax (w.ins i hi) hu
theorem Wf.def {f : Fn} (w : Wf f) {i : Nat} (hi : i < (lst f.code).length) (hd : 0 ≤ defr (yh f i)) : defr (yh f i) < (lst f.regs).length := (y1p0 (w.ins i hi) (by omega)).2
theorem yhh {l : List Int} {j a : Int} (h : j ∈ addN l a) : j ∈ l ∨ j = a := by
  unfold addN at h
  split at h
  · exact .inl h
  · rw [List.mem_append, List.mem_singleton] at h; exact h
theorem Wf.next {f : Fn} (w : Wf f) {i : Nat} (hi : i < (lst f.code).length) {to : Int} (h : to ∈ y26 f i) : 0 ≤ to ∧ to < (lst f.code).length := by
  rw [y26, if_neg (by omega), show ((i : Int)).toNat = i by omega] at h
  have hself : ∀ {j : Int}, j ∈ (if ends (yh f i).op = true then [] else [(i : Int) + 1]) → 0 ≤ j ∧ j < (lst f.code).length := by
    intro j hj
    split at hj
    · cases hj
    · rename_i he
      rw [List.mem_singleton] at hj
      subst hj
      refine ⟨by omega, ?_⟩
      by_cases e : i = (lst f.code).length - 1
      · subst e; exact (he w.last).elim
      · omega
  unfold yri at h
  split at h
  · rename_i hl
    rcases yhh h with h | h
    · exact hself h
    · rw [h]; exact w.leads hi hl
  · exact hself h
theorem y7u {i to : Int} : ∀ {rs : List Row} {l : List Int}, to ∈ y3s i rs l → to ∈ l ∨ ∃ r ∈ rs, r.at_ = to
  | [], l, h => .inl h
  | r :: rs, l, h => by
    unfold y3s at h
    split at h
    · split at h
      · rcases yhh h with h | h
        · exact .inl h
        · exact .inr ⟨r, by simp, h.symm⟩
      · rcases y7u h with h | ⟨r', h1, h2⟩
        · rcases yhh h with h | h
          · exact .inl h
          · exact .inr ⟨r, by simp, h.symm⟩
        · exact .inr ⟨r', by simp [h1], h2⟩
    · rcases y7u h with h | ⟨r', h1, h2⟩
      · exact .inl h
      · exact .inr ⟨r', by simp [h1], h2⟩
theorem Wf.caught {f : Fn} (w : Wf f) {i to : Int} (h : to ∈ yp f i) : 0 ≤ to ∧ to < (lst f.code).length := by
  rw [yp] at h
  split at h
  · cases h
  · split at h
    · rcases y7u h with h | ⟨r, h1, h2⟩
      · cases h
      · have := w.row h1
        rw [← h2]; exact ⟨this.a0, this.an⟩
    · cases h
theorem yni {l : List Int} {j : Int} (h : l.Nodup) : (addN l j).Nodup := by
  unfold addN
  split
  · exact h
  · rename_i hc
    rw [List.nodup_append]
    refine ⟨h, by simp, fun a ha b hb => ?_⟩
    rw [List.mem_singleton] at hb
    subst hb
    rintro rfl
    exact hc (by simpa using ha)
theorem y93 {i : Int} : ∀ {rs : List Row} {l : List Int}, l.Nodup → (y3s i rs l).Nodup
  | [], _, h => h
  | r :: rs, l, h => by
    rw [y3s]
    split
    · split
      · exact yni h
      · exact y93 (yni h)
    · exact y93 h
theorem Wf.caught_len {f : Fn} (w : Wf f) (i : Int) : (yp f i).length ≤ 20000 := by
  have hd : (yp f i).Nodup := by
    rw [yp]
    split
    · simp
    · split
      · exact y93 (by simp)
      · simp
  have hs : yp f i ⊆ (List.range (lst f.code).length).map fun k => ((k : Nat) : Int) := by
    intro to ht
    have := w.caught ht
    rw [List.mem_map]
    exact ⟨to.toNat, List.mem_range.2 (by omega), by omega⟩
  have := hd.length_le_of_subset hs
  have hn := w.n2
  rw [List.length_map, List.length_range] at this
  omega
theorem y14u {R : List Int} : ∀ {l : List Int} {i : Nat} {seen : List Int} {p : Int}, y8b R i seen l = true → p ∈ l → 0 ≤ p ∧ p < R.length
  | q :: l, i, seen, p, h, hp => by
    simp only [y8b, Bool.and_eq_true] at h
    rcases List.mem_cons.1 hp with rfl | hp
    · simpa [inR] using h.1.1.1
    · exact y14u h.2 hp
theorem yqy {R : List Int} : ∀ {l : List Int} {i : Nat} {seen : List Int}, y8b R i seen l = true → l = [] ∨ i + l.length ≤ 21
  | [], _, _, _ => .inl rfl
  | q :: l, i, seen, h => by
    simp only [y8b, Bool.and_eq_true, decide_eq_true_eq] at h
    right
    rcases yqy h.2 with h1 | h1
    · subst h1; simp; omega
    · simp only [List.length_cons]; omega
end Go.Vm
namespace Go.Vm
abbrev FTab := List (Option Fx)
def fAt (T : FTab) (i : Nat) : Option Fx := T[i]?.join
def SubF (t s : Fx) : Prop := ∀ (u : Nat) (q : Int), 0 ≤ q → t.getD u (-1) = q → s.getD u (-1) = q
theorem SubF.refl (t : Fx) : SubF t t := fun _ _ _ h => h
theorem SubF.trans {a b c : Fx} (h : SubF a b) (h' : SubF b c) : SubF a c := fun u q h0 h1 => h' u q h0 (h u q h0 h1)
theorem SubF.none (n : Nat) (s : Fx) : SubF (List.replicate n (-1)) s := by
  intro u q h0 h
  rw [List.getD_eq_getElem?_getD, List.getElem?_replicate] at h
  split at h <;> simp at h <;> omega
def cntF (s : Fx) : Nat := s.countP (fun q => decide (q ≠ -1))
def yz9 (f : Fn) (s : Fx) : Prop := ∀ (u : Nat) (q : Int), 0 ≤ q → s.getD u (-1) = q → q < (lst f.regs).length ∧ regK (lst f.regs) q = regK (lst f.regs) u
theorem yz9.sub {f : Fn} {t s : Fx} (h : yz9 f s) (hs : SubF t s) : yz9 f t := fun u q h0 h1 => h u q h0 (hs u q h0 h1)
structure TOk (f : Fn) (T : FTab) : Prop where
  len : T.length = (lst f.code).length
  rows : ∀ (i : Nat) s, fAt T i = some s → s.length = (lst f.regs).length ∧ yz9 f s
  zero : fAt T 0 = some (List.replicate (lst f.regs).length (-1))
def LeF (a b : FTab) : Prop := ∀ (i : Nat) s, fAt a i = some s → ∃ t, fAt b i = some t ∧ SubF t s
theorem LeF.refl (a : FTab) : LeF a a := fun _ s h => ⟨s, h, .refl _⟩
theorem LeF.trans {a b c : FTab} (h : LeF a b) (h' : LeF b c) : LeF a c := fun i s hs => by
  obtain ⟨t, h1, h2⟩ := h i s hs
  obtain ⟨u, h3, h4⟩ := h' i t h1
  exact ⟨u, h3, h4.trans h2⟩
def AtF (T : FTab) (to : Int) (s : Fx) : Prop := ∃ t, fAt T to.toNat = some t ∧ SubF t s
theorem AtF.mono {a b : FTab} (h : LeF a b) {to : Int} {s : Fx} (hs : AtF a to s) : AtF b to s := by
  obtain ⟨t, h1, h2⟩ := hs
  obtain ⟨u, h3, h4⟩ := h _ _ h1
  exact ⟨u, h3, h4.trans h2⟩
def wtF (R : Nat) : Option Fx → Nat
  | none => R + 1
  | some s => cntF s
def potF (R : Nat) (T : FTab) : Nat := (T.map (wtF R)).sum
structure FlowR (f : Fn) (J : Int → Prop) (p q : FTab × List Int) : Prop where
  ok : TOk f q.1
  le : LeF p.1 q.1
  work : ∀ (i : Nat) t, fAt q.1 i = some t → fAt p.1 i = some t ∨ (i : Int) ∈ q.2
  keep : ∀ j, j ∈ p.2 → j ∈ q.2
  fresh : ∀ j, j ∈ q.2 → j ∈ p.2 ∨ (0 ≤ j ∧ j < (lst f.code).length ∧ fAt q.1 j.toNat ≠ none)
  new : ∀ i : Nat, fAt q.1 i ≠ none → fAt p.1 i ≠ none ∨ J i
  pot : 2 * potF (lst f.regs).length q.1 + q.2.length ≤ 2 * potF (lst f.regs).length p.1 + p.2.length
theorem FlowR.refl {f : Fn} {J : Int → Prop} {p : FTab × List Int} (h : TOk f p.1) : FlowR f J p p :=
  ⟨h, .refl _, fun _ _ h => .inl h, fun _ h => h, fun _ h => .inl h, fun _ h => .inl h, Nat.le_refl _⟩
theorem FlowR.trans {f : Fn} {J : Int → Prop} {p q u : FTab × List Int} (h : FlowR f J p q) (h' : FlowR f J q u) : FlowR f J p u := by
  refine ⟨h'.ok, h.le.trans h'.le, fun i t ht => ?_, fun j hj => h'.keep j (h.keep j hj), fun j hj => ?_, fun i hi => ?_, Nat.le_trans h'.pot h.pot⟩
  · rcases h'.work i t ht with h1 | h1
    · rcases h.work i t h1 with h2 | h2
      · exact .inl h2
      · exact .inr (h'.keep _ h2)
    · exact .inr h1
  · rcases h'.fresh j hj with h1 | h1
    · rcases h.fresh j h1 with h2 | ⟨a, b, c⟩
      · exact .inl h2
      · refine .inr ⟨a, b, fun e => c ?_⟩
        cases hc : fAt q.1 j.toNat with
        | none => rfl
        | some t =>
          obtain ⟨v, hv, _⟩ := h'.le _ _ hc
          rw [e] at hv; cases hv
    · exact .inr h1
  · rcases h'.new i hi with h1 | h1
    · exact h.new i h1
    · exact .inr h1
theorem FlowR.mono {f : Fn} {J J' : Int → Prop} {p q : FTab × List Int} (h : FlowR f J p q) (hJ : ∀ j, J j → J' j) : FlowR f J' p q :=
  ⟨h.ok, h.le, h.work, h.keep, h.fresh, fun i hi => (h.new i hi).imp id (hJ _), h.pot⟩
def y1n4 (f : Fn) (T : FTab) (i : Nat) (t : Fx) : Prop := (∀ to ∈ yp f i, AtF T to t) ∧ ∀ to ∈ y26 f i, AtF T to (behM t (yh f i))
structure InvF (f : Fn) (p : FTab × List Int) : Prop where
  ok : TOk f p.1
  wk : ∀ j ∈ p.2, 0 ≤ j ∧ j < (lst f.code).length ∧ fAt p.1 j.toNat ≠ none
  closed : ∀ (i : Nat) t, fAt p.1 i = some t → (i : Int) ∈ p.2 ∨ y1n4 f p.1 i t
  pred : ∀ i : Nat, fAt p.1 i ≠ none → i ≠ 0 → ∃ k : Nat, fAt p.1 k ≠ none ∧ k < (lst f.code).length ∧ ((i : Int) ∈ yp f k ∨ (i : Int) ∈ y26 f k)
theorem y1y0 {α : Type} {o : Option α} (h : o ≠ none) : ∃ x, o = some x := by
  cases o with
  | none => exact (h rfl).elim
  | some x => exact ⟨x, rfl⟩
theorem LeF.nn {a b : FTab} (h : LeF a b) {i : Nat} (hi : fAt a i ≠ none) : fAt b i ≠ none := by
  obtain ⟨s, hs⟩ := y1y0 hi
  obtain ⟨t, ht, _⟩ := h i s hs
  rw [ht]; simp
end Go.Vm
namespace Go.Vm
end Go.Vm
namespace Go.Vm
abbrev Ws := List (BitVec 64)
end Go.Vm
namespace Go.Vm
def yiu (f : Fn) (i : Nat) : List Int := lst (uses (yh f i))
def yj1 (f : Fn) (r : Int) (i : Nat) : List Int := yp f i ++ if defr (yh f i) = r then [] else y26 f i
def badR (f : Fn) (r : Int) : Prop := ∃ i, Rch (lst f.code).length (yj1 f r) [0] i ∧ r ∈ yiu f i
def setP (f : Fn) : Prop := ∀ r : Int, 0 ≤ r → r < (lst f.regs).length → r ∉ lst f.params → ¬ badR f r
open Classical in
noncomputable def setM (f : Fn) : Bool := wf f && decide (setP f)
abbrev Tab := List (Option (List Bool))
def andB (t s : List Bool) : List Bool := List.zipWith (· && ·) t s
def yw9 (t s : List Bool) : Bool := (List.zipWith (fun a b => a && !b) t s).any id
def yd9 (s : List Bool) (to : Int) (p : Tab × List Int) : Tab × List Int :=
  match p.1[to.toNat]? with
  | some (some t) => if yw9 t s then (p.1.set to.toNat (some (andB t s)), p.2 ++ [to]) else p
  | _ => (p.1.set to.toNat (some s), p.2 ++ [to])
def y47 (s : List Bool) : List Int → Tab × List Int → Tab × List Int
  | [], p => p
  | to :: l, p => y47 s l (yd9 s to p)
def y3h (d : Int) (s : List Bool) : List Bool := if 0 ≤ d then s.set d.toNat true else s
def ydl (ins : Tab) (i : Nat) : List Bool := (ins[i]?.join).getD []
def yiz (f : Fn) : Nat → Tab → List Int → Option Tab
  | 0, _, _ => none
  | k + 1, ins, work => match work.getLast? with
    | none => some ins
    | some i => match y47 (ydl ins i.toNat) (yp f i) (ins, work.dropLast) with
      | (ins1, w1) => match y47 (y3h (defr (yh f i.toNat)) (ydl ins i.toNat)) (y26 f i) (ins1, w1) with
        | (ins2, w2) => yiz f k ins2 w2
def wt (R : Nat) : Option (List Bool) → Nat
  | none => R + 1
  | some s => s.countP id
def pot (R : Nat) (ins : Tab) : Nat := (ins.map (wt R)).sum
def LeB (t s : List Bool) : Prop := ∀ r : Nat, t[r]? = some true → s[r]? = some true
theorem LeB.refl (t : List Bool) : LeB t t := fun _ h => h
theorem LeB.trans {a b c : List Bool} (h : LeB a b) (h' : LeB b c) : LeB a c := fun r h1 => h' r (h r h1)
theorem y17g {t s : List Bool} (h : t.length = s.length) : (andB t s).length = t.length := by simp [andB, h]
theorem yop {t s : List Bool} {r : Nat} : (andB t s)[r]? = some true ↔ t[r]? = some true ∧ s[r]? = some true := by
  rw [andB, List.getElem?_zipWith]
  cases t[r]? <;> cases s[r]? <;> simp
theorem ys7 (t s : List Bool) : LeB (andB t s) t := fun _ h => (yop.1 h).1
theorem y1ak (t s : List Bool) : LeB (andB t s) s := fun _ h => (yop.1 h).2
theorem yei {t s : List Bool} : yw9 t s = true ↔ ∃ r : Nat, t[r]? = some true ∧ s[r]? = some false := by
  rw [yw9, List.any_eq_true]
  constructor
  · rintro ⟨b, hb, h1⟩
    obtain ⟨r, hr⟩ := List.getElem?_of_mem hb
    rw [List.getElem?_zipWith] at hr
    refine ⟨r, ?_⟩
    cases ht : t[r]? <;> cases hs : s[r]? <;> rw [ht, hs] at hr <;> simp_all
  · rintro ⟨r, h1, h2⟩
    refine ⟨true, List.mem_of_getElem? (i := r) ?_, rfl⟩
    rw [List.getElem?_zipWith, h1, h2]; rfl
theorem y16k : ∀ {t s : List Bool}, t.length = s.length → LeB s t → (∃ r : Nat, t[r]? = some true ∧ s[r]? = some false) → s.countP id < t.countP id
  | [], [], _, _, ⟨r, h, _⟩ => by simp at h
  | a :: t, b :: s, hl, hle, ⟨r, h1, h2⟩ => by
    have hl' : t.length = s.length := by simpa using hl
    have hle' : LeB s t := fun q h => by have := hle (q + 1) (by simpa using h); simpa using this
    have le : ∀ {t s : List Bool}, t.length = s.length → LeB s t → s.countP id ≤ t.countP id := by
      intro t
      induction t with
      | nil => intro s hl _; rw [List.length_nil] at hl; rw [List.eq_nil_of_length_eq_zero hl.symm]; exact Nat.le_refl _
      | cons a t ih =>
        intro s hl hle
        cases s with
        | nil => simp at hl
        | cons b s =>
          have := ih (s := s) (by simpa using hl) (fun q h => by have := hle (q + 1) (by simpa using h); simpa using this)
          have h0 := hle 0
          simp only [List.countP_cons]
          cases a <;> cases b <;> simp_all <;> omega
    simp only [List.countP_cons]
    cases r with
    | zero =>
      simp at h1 h2
      subst h1; subst h2
      have := le hl' hle'
      simp; omega
    | succ r =>
      have := y16k hl' hle' ⟨r, by simpa using h1, by simpa using h2⟩
      have h0 := hle 0
      cases a <;> cases b <;> simp_all <;> omega
  | [], _ :: _, h, _, _ => by simp at h
  | _ :: _, [], h, _, _ => by simp at h
def LeT (a b : Tab) : Prop := ∀ (i : Nat) s, a[i]? = some (some s) → ∃ t, b[i]? = some (some t) ∧ LeB t s
theorem LeT.refl (a : Tab) : LeT a a := fun _ s h => ⟨s, h, .refl _⟩
theorem LeT.trans {a b c : Tab} (h : LeT a b) (h' : LeT b c) : LeT a c := fun i s hs => by
  obtain ⟨t, h1, h2⟩ := h i s hs
  obtain ⟨u, h3, h4⟩ := h' i t h1
  exact ⟨u, h3, h4.trans h2⟩
def LeAt (ins : Tab) (to : Int) (s : List Bool) : Prop := ∃ t, ins[to.toNat]? = some (some t) ∧ LeB t s
theorem LeAt.mono {a b : Tab} (h : LeT a b) {to : Int} {s : List Bool} (hs : LeAt a to s) : LeAt b to s := by
  obtain ⟨t, h1, h2⟩ := hs
  obtain ⟨u, h3, h4⟩ := h _ _ h1
  exact ⟨u, h3, h4.trans h2⟩
theorem y7w {ins : Tab} {i j : Nat} {x y : Option (List Bool)} (h : (ins.set i x)[j]? = some y) : (j = i ∧ y = x) ∨ (j ≠ i ∧ ins[j]? = some y) := by
  rw [List.getElem?_set] at h
  split at h
  · rename_i e
    split at h
    · injection h with h; exact .inl ⟨e.symm, h.symm⟩
    · cases h
  · rename_i e; exact .inr ⟨fun e' => e e'.symm, h⟩
theorem y54 {ins : Tab} {i : Nat} {x : Option (List Bool)} (h : i < ins.length) : (ins.set i x)[i]? = some x := by simp [h]
theorem yt2 {ins : Tab} {i j : Nat} {x : Option (List Bool)} (h : j ≠ i) : (ins.set i x)[j]? = ins[j]? := List.getElem?_set_ne (fun e => h e.symm)
section
variable {n R : Nat}
structure TblOk (n R : Nat) (ins : Tab) : Prop where
  len : ins.length = n
  rows : ∀ (i : Nat) s, ins[i]? = some (some s) → s.length = R
structure MeetR (n R : Nat) (s : List Bool) (T : Int → Prop) (p q : Tab × List Int) : Prop where
  ok : TblOk n R q.1
  le : LeT p.1 q.1
  work : ∀ (i : Nat) t, q.1[i]? = some (some t) → p.1[i]? = some (some t) ∨ (i : Int) ∈ q.2
  keep : ∀ j, j ∈ p.2 → j ∈ q.2
  fresh : ∀ j, j ∈ q.2 → j ∈ p.2 ∨ (0 ≤ j ∧ j < n ∧ ∃ t, q.1[j.toNat]? = some (some t))
  src : ∀ (i r : Nat) t, q.1[i]? = some (some t) → t[r]? = some false → (∃ u, p.1[i]? = some (some u) ∧ u[r]? = some false) ∨ (s[r]? = some false ∧ T i)
  pot : 2 * pot R q.1 + q.2.length ≤ 2 * Go.Vm.pot R p.1 + p.2.length
theorem MeetR.refl {s : List Bool} {T : Int → Prop} {p : Tab × List Int} (h : TblOk n R p.1) : MeetR n R s T p p :=
  ⟨h, .refl _, fun _ _ h => .inl h, fun _ h => h, fun _ h => .inl h, fun _ _ _ h1 h2 => .inl ⟨_, h1, h2⟩, Nat.le_refl _⟩
theorem y2cj {ins : Tab} {i : Nat} {x y : Option (List Bool)} (h : ins[i]? = some x) : pot R (ins.set i y) + wt R x = pot R ins + wt R y := by
  unfold pot
  induction ins generalizing i with
  | nil => simp at h
  | cons a ins ih =>
    cases i with
    | zero =>
      simp at h
      subst h
      simp only [List.set_cons_zero, List.map_cons, List.sum_cons]
      omega
    | succ i =>
      simp only [List.getElem?_cons_succ] at h
      have := ih h
      simp only [List.set_cons_succ, List.map_cons, List.sum_cons]
      omega
theorem ynv {s : List Bool} {to : Int} {p : Tab × List Int} (hp : TblOk n R p.1) (hs : s.length = R) (h0 : 0 ≤ to) (h1 : to < n) : MeetR n R s (· = to) p (yd9 s to p) ∧ LeAt (yd9 s to p).1 to s := by
  obtain ⟨ins, work⟩ := p
  simp only at hp
  have hlt : to.toNat < ins.length := by rw [hp.len]; omega
  unfold yd9
  simp only
  obtain ⟨x, hx⟩ : ∃ x, ins[to.toNat]? = some x := ⟨_, List.getElem?_eq_getElem hlt⟩
  have hpot := fun y => y2cj (R := R) (y := y) hx
  cases x with
  | none =>
    rw [hx]
    simp only
    have hc : s.countP id ≤ R := by rw [← hs]; exact List.countP_le_length
    refine ⟨⟨⟨by simpa using hp.len, fun i t ht => ?_⟩, fun i t ht => ?_, fun i t ht => ?_, fun j hj => List.mem_append_left _ hj, fun j hj => ?_, fun i r t ht hr => ?_, ?_⟩, s, y54 hlt, .refl _⟩
    · rcases y7w ht with ⟨_, e⟩ | ⟨_, h⟩
      · injection e with e; rw [e]; exact hs
      · exact hp.rows i t h
    · by_cases e : i = to.toNat
      · subst e; simp only at ht; rw [hx] at ht; cases ht
      · exact ⟨t, by simp only; rw [yt2 e]; exact ht, .refl _⟩
    · rcases y7w ht with ⟨e, _⟩ | ⟨_, h⟩
      · right; simp only [List.mem_append, List.mem_singleton]; right; omega
      · exact .inl h
    · rcases List.mem_append.1 hj with h | h
      · exact .inl h
      · rw [List.mem_singleton] at h
        subst h
        exact .inr ⟨h0, h1, s, y54 hlt⟩
    · rcases y7w ht with ⟨ei, e⟩ | ⟨_, h⟩
      · injection e with e; subst e; exact .inr ⟨hr, by omega⟩
      · exact .inl ⟨t, h, hr⟩
    · have := hpot (some s)
      simp only [wt] at this
      simp only [List.length_append, List.length_singleton] at this ⊢
      omega
  | some t0 =>
    rw [hx]
    simp only
    have ht0 := hp.rows _ _ hx
    split
    · rename_i hl
      obtain ⟨r0, q1, q2⟩ := yei.1 hl
      have hlen : (andB t0 s).length = R := by rw [y17g (by omega)]; exact ht0
      have hlt2 : (andB t0 s).countP id < t0.countP id := y16k (by omega) (ys7 _ _) ⟨r0, q1, by
        have hr : r0 < (andB t0 s).length := by rw [hlen]; rw [← ht0]; exact (List.getElem?_eq_some_iff.1 q1).1
        rw [List.getElem?_eq_getElem hr]
        cases hb : (andB t0 s)[r0] with
        | false => rfl
        | true =>
          have := (yop (t := t0) (s := s) (r := r0)).1 (by rw [List.getElem?_eq_getElem hr, hb])
          rw [q2] at this; cases this.2⟩
      refine ⟨⟨⟨by simpa using hp.len, fun i t ht => ?_⟩, fun i t ht => ?_, fun i t ht => ?_, fun j hj => List.mem_append_left _ hj, fun j hj => ?_, fun i r t ht hr => ?_, ?_⟩, andB t0 s, y54 hlt, y1ak _ _⟩
      · rcases y7w ht with ⟨_, e⟩ | ⟨_, h⟩
        · injection e with e; rw [e]; exact hlen
        · exact hp.rows i t h
      · by_cases e : i = to.toNat
        · subst e
          simp only at ht
          rw [hx] at ht
          injection ht with ht; injection ht with ht; subst ht
          exact ⟨_, y54 hlt, ys7 _ _⟩
        · exact ⟨t, by simp only; rw [yt2 e]; exact ht, .refl _⟩
      · rcases y7w ht with ⟨e, _⟩ | ⟨_, h⟩
        · right; simp only [List.mem_append, List.mem_singleton]; right; omega
        · exact .inl h
      · rcases List.mem_append.1 hj with h | h
        · exact .inl h
        · rw [List.mem_singleton] at h
          subst h
          exact .inr ⟨h0, h1, _, y54 hlt⟩
      · rcases y7w ht with ⟨ei, e⟩ | ⟨_, h⟩
        · injection e with e
          subst e
          subst ei
          have hr1 : r < (andB t0 s).length := (List.getElem?_eq_some_iff.1 hr).1
          have hrt : r < t0.length := by omega
          have hrs : r < s.length := by omega
          rw [andB, List.getElem?_zipWith, List.getElem?_eq_getElem hrt, List.getElem?_eq_getElem hrs] at hr
          cases ha : t0[r] with
          | false => exact .inl ⟨t0, hx, by rw [List.getElem?_eq_getElem hrt, ha]⟩
          | true =>
            rw [ha] at hr
            right
            rw [List.getElem?_eq_getElem hrs]
            exact ⟨by simpa using hr, by omega⟩
        · exact .inl ⟨t, h, hr⟩
      · have := hpot (some (andB t0 s))
        simp only [wt] at this
        simp only [List.length_append, List.length_singleton] at this ⊢
        omega
    · rename_i hl
      refine ⟨.refl hp, t0, hx, fun r hr => ?_⟩
      have hr1 : r < s.length := by have := (List.getElem?_eq_some_iff.1 hr).1; omega
      rw [List.getElem?_eq_getElem hr1]
      cases hb : s[r] with
      | true => rfl
      | false => exact (hl (yei.2 ⟨r, hr, by rw [List.getElem?_eq_getElem hr1, hb]⟩)).elim
theorem MeetR.trans {s : List Bool} {T : Int → Prop} {p q u : Tab × List Int} (h : MeetR n R s T p q) (h' : MeetR n R s T q u) : MeetR n R s T p u := by
  refine ⟨h'.ok, h.le.trans h'.le, fun i t ht => ?_, fun j hj => h'.keep j (h.keep j hj), fun j hj => ?_, fun i r t ht hr => ?_, Nat.le_trans h'.pot h.pot⟩
  · rcases h'.work i t ht with h1 | h1
    · rcases h.work i t h1 with h2 | h2
      · exact .inl h2
      · exact .inr (h'.keep _ h2)
    · exact .inr h1
  · rcases h'.fresh j hj with h1 | h1
    · rcases h.fresh j h1 with h2 | ⟨a, b, t, ht⟩
      · exact .inl h2
      · obtain ⟨v, hv, _⟩ := h'.le _ _ ht
        exact .inr ⟨a, b, v, hv⟩
    · exact .inr h1
  · rcases h'.src i r t ht hr with ⟨v, h1, h2⟩ | h1
    · exact h.src i r v h1 h2
    · exact .inr h1
theorem MeetR.mono {s : List Bool} {T T' : Int → Prop} {p q : Tab × List Int} (h : MeetR n R s T p q) (hT : ∀ j, T j → T' j) : MeetR n R s T' p q :=
  ⟨h.ok, h.le, h.work, h.keep, h.fresh, fun i r t h1 h2 => (h.src i r t h1 h2).imp id fun x => ⟨x.1, hT _ x.2⟩, h.pot⟩
theorem yc4 {s : List Bool} (hs : s.length = R) : ∀ (l : List Int) (p : Tab × List Int), TblOk n R p.1 → (∀ to ∈ l, 0 ≤ to ∧ to < n) → MeetR n R s (· ∈ l) p (y47 s l p) ∧ ∀ to ∈ l, LeAt (y47 s l p).1 to s
  | [], p, hp, _ => ⟨.refl hp, fun _ h => by cases h⟩
  | to :: l, p, hp, hl => by
    obtain ⟨a1, a2⟩ := ynv hp hs (hl to (by simp)).1 (hl to (by simp)).2
    obtain ⟨b1, b2⟩ := yc4 hs l (yd9 s to p) a1.ok (fun t ht => hl t (by simp [ht]))
    refine ⟨(a1.mono fun j e => by simp [e]).trans (b1.mono fun j h => by simp [h]), fun t ht => ?_⟩
    rcases List.mem_cons.1 ht with rfl | ht
    · exact a2.mono b1.le
    · exact b2 t ht
end
end Go.Vm
namespace Go.Vm
theorem Rch.one {n : Nat} {S : Nat → List Int} {i k : Nat} : Rch n S [(i : Int)] k ↔ (k = i ∧ i < n) ∨ (i < n ∧ Rch n S (S i) k) := by
  constructor
  · intro h
    induction h with
    | base hj j0 j1 =>
      rw [List.mem_singleton] at hj
      subst hj
      exact .inl ⟨by omega, by omega⟩
    | step h hj j0 j1 ih =>
      rcases ih with ⟨e, hi⟩ | ⟨hi, h'⟩
      · subst e
        exact .inr ⟨hi, .base hj j0 j1⟩
      · exact .inr ⟨hi, .step h' hj j0 j1⟩
  · rintro (⟨e, hi⟩ | ⟨hi, h⟩)
    · subst e
      have := Rch.base (n := n) (S := S) (A := [(k : Int)]) (j := (k : Int)) (by simp) (by omega) (by omega)
      simpa using this
    · have hb : Rch n S [(i : Int)] i := by
        have := Rch.base (n := n) (S := S) (A := [(i : Int)]) (j := (i : Int)) (by simp) (by omega) (by omega)
        simpa using this
      induction h with
      | base hj j0 j1 => exact .step hb hj j0 j1
      | step h hj j0 j1 ih => exact .step ih hj j0 j1
section
variable (f : Fn)
structure Tb where
  b : List Ws
  a : List Ws
  h : List Ws
def rowW (l : List Ws) (i : Nat) : Ws := l.getD i []
structure TbOk (n W : Nat) (t : Tb) : Prop where
  b : t.b.length = n
  a : t.a.length = n
  h : t.h.length = n
  bw : ∀ i, i < n → (rowW t.b i).length = W
  aw : ∀ i, i < n → (rowW t.a i).length = W
  hw : ∀ i, i < n → (rowW t.h i).length = W
variable {W n : Nat} {l : List Ws}
end
end Go.Vm
namespace Go.Vm
end Go.Vm
namespace Go.Vm
theorem yul {f : Fn} {C : List Ins} : ∀ (l : List Ins) (i : Nat), (∀ k x, l[k]? = some x → y1m f x = true ∧ y3o C (i + k) x = true) → y45 f C i l = true
  | [], _, _ => rfl
  | y :: l, i, h => by
    rw [y45, (h 0 y rfl).1, yul l (i + 1) (fun k x hx => by
      have := h (k + 1) x (by simpa using hx)
      rwa [show i + (k + 1) = i + 1 + k by omega] at this)]
    have := (h 0 y rfl).2
    rw [Nat.add_zero] at this
    rw [this]; rfl
theorem y115 {f : Fn} {i : Nat} (h : (lst f.code).length ≤ i) : yh f i = default := by
  rw [yh, List.getD_eq_getElem?_getD, List.getElem?_eq_none h]; rfl
structure Swap (f g : Fn) : Prop where
  regs : g.regs = f.regs
  params : g.params = f.params
  ret : g.ret = f.ret
  rows : g.rows = f.rows
  len : (lst g.code).length = (lst f.code).length
theorem Swap.refl (f : Fn) : Swap f f := ⟨rfl, rfl, rfl, rfl, rfl⟩
theorem Swap.trans {f g h : Fn} (a : Swap f g) (b : Swap g h) : Swap f h := ⟨b.regs.trans a.regs, b.params.trans a.params, b.ret.trans a.ret, b.rows.trans a.rows, b.len.trans a.len⟩
theorem yw2 {f g : Fn} (s : Swap f g) (x : Ins) : y1m g x = y1m f x := by
  unfold y1m
  rw [s.regs, s.ret, s.len]
theorem y2br {f g : Fn} (s : Swap f g) (hw : wf f = true) (h : ∀ i, i < (lst f.code).length → y1m f (yh g i) = true ∧ (ends (yh f i).op = true → ends (yh g i).op = true) ∧
    ((yh g i).op = 32 ↔ (yh f i).op = 32) ∧ (leads (yh g i).op = true → leads (yh f i).op = true ∧ (yh g i).t = (yh f i).t)) : wf g = true := by
  have w := y1od hw
  have e32 : ∀ i : Nat, (yh g i).op = 32 ↔ (yh f i).op = 32 := fun i => by
    by_cases hi : i < (lst f.code).length
    · exact (h i hi).2.2.1
    · rw [y115 (f := g) (by rw [s.len]; omega), y115 (f := f) (by omega)]
  have hlast := (h ((lst f.code).length - 1) (by have := w.n1; omega)).2.1 w.last
  have hspot : ∀ i, i < (lst f.code).length → y3o (lst g.code) i (yh g i) = true := by
    intro i hi
    have h0 := w.spot i hi
    obtain ⟨_, _, h3, h4⟩ := h i hi
    unfold y3o at h0 ⊢
    rw [Bool.not_eq_true', Bool.or_eq_false_iff, Bool.and_eq_false_iff, Bool.and_eq_false_iff] at h0 ⊢
    refine ⟨?_, ?_⟩
    · rcases h0.1 with q | q
      · left
        simp only [decide_eq_false_iff_not] at q ⊢
        rwa [h3]
      · right
        rw [Bool.or_eq_false_iff] at q ⊢
        refine ⟨q.1, ?_⟩
        have he : ends (yh f (i - 1)).op = true := by simpa [yh] using q.2
        have := (h (i - 1) (by omega)).2.1 he
        simpa [yh] using this
    · cases hl : leads (yh g i).op with
      | false => exact .inl rfl
      | true =>
        right
        obtain ⟨a, b⟩ := h4 hl
        rcases h0.2 with h | h
        · rw [a] at h; cases h
        · simp only [decide_eq_false_iff_not] at h ⊢
          rw [b]
          exact fun e => h ((e32 _).1 e)
  have hw' := hw
  unfold wf at hw' ⊢
  rw [s.len, s.regs, s.ret, s.params, s.rows]
  simp only [Bool.and_eq_true] at hw' ⊢
  obtain ⟨⟨⟨⟨⟨⟨⟨⟨⟨h1, h2⟩, h3⟩, h4⟩, h5⟩, h6⟩, h7⟩, h8⟩, h9⟩, h10⟩ := hw'
  refine ⟨⟨⟨⟨⟨⟨⟨⟨⟨h1, h2⟩, h3⟩, h4⟩, h5⟩, hlast⟩, h7⟩, h8⟩, yul _ 0 fun k x hx => ?_⟩, ?_⟩
  · have hk : k < (lst f.code).length := by rw [← s.len]; exact (List.getElem?_eq_some_iff.1 hx).1
    have e : yh g k = x := by rw [yh, List.getD_eq_getElem?_getD, hx]; rfl
    rw [Nat.zero_add, ← e]
    exact ⟨by rw [yw2 s]; exact (h k hk).1, hspot k hk⟩
  · rw [List.all_eq_true] at h10 ⊢
    intro r hr
    have := h10 r hr
    unfold y4f at this ⊢
    rw [s.len]
    rw [Bool.not_eq_true', Bool.or_eq_false_iff] at this ⊢
    refine ⟨this.1, ?_⟩
    have t2 := this.2
    simp only [decide_eq_false_iff_not, Classical.not_not] at t2 ⊢
    exact (e32 r.at_.toNat).2 t2
end Go.Vm
namespace Go.Vm
inductive Way (f : Fn) (r : Int) : Nat → Prop
  | use {i : Nat} : i < (lst f.code).length → r ∈ yiu f i → Way f r i
  | step {i : Nat} {j : Int} : i < (lst f.code).length → j ∈ yj1 f r i → 0 ≤ j → j < (lst f.code).length → Way f r j.toNat → Way f r i
theorem Way.lt {f : Fn} {r : Int} {i : Nat} (h : Way f r i) : i < (lst f.code).length := by cases h <;> assumption
end Go.Vm
namespace Go.Vm
def yda (f : Fn) (L : List Ins) : Fn := { f with code := some L }
@[simp] theorem y2hm (f : Fn) (L : List Ins) : lst (yda f L).code = L := rfl
theorem yls {f : Fn} {L : List Ins} (h : f.code = some L) : yda f L = f := by
  rw [yda, ← h]
end Go.Vm
namespace Go.Vm
def putP (n : Nat) (p : Int) (a : List Bool) : List Bool := if 0 ≤ p ∧ p < n then a.set p.toNat true else a
def y2d0 (n i : Nat) (x : Ins) (a : List Bool) : List Bool :=
  if leads x.op || ends x.op then (if leads x.op then putP n x.t a else a).set (i + 1) true else (if leads x.op then putP n x.t a else a)
def hA1 (n : Nat) : Nat → List Ins → List Bool → List Bool
  | _, [], a => a
  | i, x :: r, a => hA1 n (i + 1) r (y2d0 n i x a)
def hA2 (n : Nat) : List Row → List Bool → List Bool
  | [], a => a
  | r :: rs, a => hA2 n rs (putP n r.at_ (putP n r.t (putP n r.f a)))
def hA0 (n : Nat) : List Bool := if 0 < n then (List.replicate (n + 1) false).set 0 true else List.replicate (n + 1) false
@[simp] theorem y2n2 (n : Nat) (p : Int) (a : List Bool) : (putP n p a).length = a.length := by unfold putP; split <;> simp
@[simp] theorem y2ke (n i : Nat) (x : Ins) (a : List Bool) : (y2d0 n i x a).length = a.length := by
  unfold y2d0
  split <;> split <;> simp
@[simp] theorem y2nu (n : Nat) : (hA0 n).length = n + 1 := by unfold hA0; split <;> simp
def hA (f : Fn) : List Bool := hA2 (lst f.code).length (lst f.rows) (hA1 (lst f.code).length 0 (lst f.code) (hA0 (lst f.code).length))
theorem yny (f : Fn) (i : Nat) : ymw f i = true ↔ i = 0 ∨ (leads (yh f (i - 1)).op || ends (yh f (i - 1)).op) = true ∨ (∃ x ∈ lst f.code, leads x.op = true ∧ x.t = i) ∨ ∃ r ∈ lst f.rows, r.f = i ∨ r.t = i ∨ r.at_ = i := by
  simp only [ymw, Bool.or_eq_true, decide_eq_true_eq, List.any_eq_true, Bool.and_eq_true, or_assoc]
end Go.Vm
namespace Go.Vm
theorem y2jg {f : Fn} {i : Nat} {j : Int} (hi : i < (lst f.code).length) (hj : j ∈ yp f i ∨ j ∈ y26 f i) (j0 : 0 ≤ j) (hh : ymw f j.toNat = false) : j = i + 1 ∧ j ∈ y26 f i := by
  have hn : ¬ ymw f j.toNat = true := by rw [hh]; simp
  rw [yny] at hn
  have e : ((j.toNat : Nat) : Int) = j := by omega
  rw [e] at hn
  rcases hj with hj | hj
  · exfalso
    unfold yp at hj
    split at hj
    · cases hj
    · split at hj
      · rcases y7u hj with h | ⟨r, h1, h2⟩
        · cases h
        · exact hn (.inr (.inr (.inr ⟨r, h1, .inr (.inr h2)⟩)))
      · cases hj
  · refine ⟨?_, hj⟩
    unfold y26 at hj
    split at hj
    · cases hj
    · rename_i hb
      rw [show ((i : Int)).toNat = i by omega] at hj
      have key : j ∈ (if ends (yh f i).op = true then [] else [(i : Int) + 1]) → j = i + 1 := by
        intro h
        split at h
        · cases h
        · simpa using h
      unfold yri at hj
      split at hj
      · rename_i hl
        rcases yhh hj with h | h
        · exact key h
        · exact (hn (.inr (.inr (.inl ⟨_, List.mem_of_getElem? (y5g hi), hl, h.symm⟩)))).elim
      · exact key hj
section
variable {f : Fn} (w : Wf f) {T : FTab} (v : InvF f (T, []))
include w v
theorem InvF.shut {i : Nat} {t : Fx} (h : fAt T i = some t) : y1n4 f T i t := by
  rcases v.closed i t h with h1 | h1
  · cases h1
  · exact h1
end
end Go.Vm
namespace Go.Vm
abbrev Fa := Int × Int × Int
abbrev Fs := List Fa
def ofM (x : Ins) : Option Fa := if x.op = 7 ∨ x.op = 8 ∨ x.op = 10 then some (x.op, x.a, -1) else if x.op = 9 then some (9, x.a, x.b) else none
def hitF (d : Int) (c : Fa) : Bool := decide (c.2.1 = d) || decide (c.2.2 = d)
def movF (a : Int) (c : Fa) : Bool := decide (c.2.1 = a) && decide (c.2.2 = -1)
def fput (c : Fa) (s : Fs) : Fs := if c ∈ s then s else s ++ [c]
def movL (s : Fs) (a d : Int) : Fs := (s.filter (movF a)).map fun c => (c.1, d, -1)
def behK (s : Fs) (x : Ins) : Fs :=
  match ofM x with
  | some c => fput c s
  | none =>
    if defr x < 0 then s else
    if x.op = 4 ∧ x.a = defr x then s else
    if x.op = 4 then s.filter (fun c => !hitF (defr x) c) ++ movL s x.a (defr x) else
    if x.op = 20 ∨ x.op = 21 ∨ x.op = 3 ∨ x.op = 32 then s.filter (fun c => !hitF (defr x) c) ++ [(8, defr x, -1)] else
    s.filter (fun c => !hitF (defr x) c)
def y4m (t s : Fs) : Fs := t.filter fun c => decide (c ∈ s)
theorem y266 {x : Ins} {c : Fa} (h : ofM x = some c) : defr x = -1 := by
  unfold ofM at h
  unfold defr
  rw [if_neg]
  have : x.op = 7 ∨ x.op = 8 ∨ x.op = 9 ∨ x.op = 10 := by
    split at h
    · omega
    · split at h
      · omega
      · cases h
  rcases this with e | e | e | e <;> rw [e] <;> decide
theorem ypk {c x : Fa} {s : Fs} : x ∈ fput c s ↔ x ∈ s ∨ x = c := by
  unfold fput
  split
  · rename_i h
    exact ⟨.inl, fun h' => h'.elim id fun e => e ▸ h⟩
  · simp
theorem y19o {c : Fa} {s : Fs} (h : s.Nodup) : (fput c s).Nodup := by
  unfold fput
  split
  · exact h
  · rename_i hn
    rw [List.nodup_append]
    exact ⟨h, by simp, fun a ha b hb => by simp at hb; subst hb; exact fun e => hn (e ▸ ha)⟩
theorem y1bl {s : Fs} {a d : Int} (h : s.Nodup) : (movL s a d).Nodup := by
  unfold movL List.Nodup
  rw [List.pairwise_map]
  have h2 : (s.filter (movF a)).Nodup := List.Nodup.sublist List.filter_sublist h
  refine (List.Pairwise.imp_of_mem ?_ h2)
  intro x y hx hy hne e
  rw [List.mem_filter] at hx hy
  simp only [movF, Bool.and_eq_true, decide_eq_true_eq] at hx hy
  apply hne
  obtain ⟨x1, x2, x3⟩ := x
  obtain ⟨y1, y2, y3⟩ := y
  injection e with e1 _
  simp only at hx hy e1
  rw [e1, hx.2.1, hx.2.2, hy.2.1, hy.2.2]
theorem y204 {s : Fs} {a d : Int} {c : Fa} (h : c ∈ movL s a d) : c.2.1 = d ∧ c.2.2 = -1 := by
  unfold movL at h
  obtain ⟨x, _, rfl⟩ := List.mem_map.1 h
  exact ⟨rfl, rfl⟩
theorem y1b2 {s : Fs} (x : Ins) (h : s.Nodup) : (behK s x).Nodup := by
  have hf : ∀ d, (s.filter (fun c => !hitF d c)).Nodup := fun d => List.Nodup.sublist List.filter_sublist h
  have hno : ∀ d c, c ∈ s.filter (fun c => !hitF d c) → c.2.1 ≠ d := fun d c hc e => by
    rw [List.mem_filter] at hc
    simp [hitF, e] at hc
  unfold behK
  split
  · exact y19o h
  · split
    · exact h
    · split
      · exact h
      · split
        · rw [List.nodup_append]
          refine ⟨hf _, y1bl h, fun a ha b hb e => ?_⟩
          subst e
          exact hno _ _ ha (y204 hb).1
        · split
          · rw [List.nodup_append]
            refine ⟨hf _, by simp, fun a ha b hb e => ?_⟩
            simp at hb
            subst hb
            subst e
            exact hno _ _ ha rfl
          · exact hf _
theorem y1iv {s : Fs} {x : Ins} {c : Fa} (h : c ∈ s) (hd : defr x < 0 ∨ (c.2.1 ≠ defr x ∧ c.2.2 ≠ defr x)) : c ∈ behK s x := by
  have hf : ¬ defr x < 0 → c ∈ s.filter (fun c => !hitF (defr x) c) := fun hn => by
    rw [List.mem_filter]
    have := hd.resolve_left hn
    simp [hitF, this.1, this.2, h]
  unfold behK
  split
  · exact ypk.2 (.inl h)
  · split
    · exact h
    · rename_i hn
      split
      · exact h
      · split
        · exact List.mem_append_left _ (hf hn)
        · split
          · exact List.mem_append_left _ (hf hn)
          · exact hf hn
theorem y22t {s : Fs} {x : Ins} {c : Fa} (h : ofM x = some c) : c ∈ behK s x := by
  unfold behK
  rw [h]
  exact ypk.2 (.inr rfl)
theorem y7k {t s : Fs} {c : Fa} : c ∈ y4m t s ↔ c ∈ t ∧ c ∈ s := by
  unfold y4m
  rw [List.mem_filter, decide_eq_true_eq]
theorem yw5 {t s : Fs} (h : t.Nodup) : (y4m t s).Nodup := List.Nodup.sublist List.filter_sublist h
theorem y1f5 (t s : Fs) : (y4m t s).length ≤ t.length := List.length_filter_le _ _
theorem y230 {t s : Fs} (h : (y4m t s).length = t.length) {c : Fa} (hc : c ∈ t) : c ∈ s := by
  have e : y4m t s = t := List.filter_sublist.eq_of_length h
  rw [← e, y7k] at hc
  exact hc.2
def FaIn (R : Nat) (c : Fa) : Prop := 7 ≤ c.1 ∧ c.1 ≤ 10 ∧ 0 ≤ c.2.1 ∧ c.2.1 < R ∧ -1 ≤ c.2.2 ∧ c.2.2 < R
def FsIn (R : Nat) (s : Fs) : Prop := ∀ c ∈ s, FaIn R c
theorem y2pd {f : Fn} {x : Ins} {c : Fa} (hx : y1m f x = true) (h : ofM x = some c) : FaIn (lst f.regs).length c := by
  simp only [y1m, Bool.and_eq_true] at hx
  obtain ⟨⟨⟨⟨⟨⟨_, _⟩, q3⟩, q4⟩, _⟩, _⟩, _⟩ := hx
  unfold ofM at h
  split at h
  · rename_i ho
    injection h with h
    subst h
    have ha : 0 ≤ x.a ∧ x.a < (lst f.regs).length := by
      rcases ho with e | e | e <;> (simp only [yo, e] at q3; exact y5a q3 (by decide))
    refine ⟨?_, ?_, ha.1, ha.2, ?_, ?_⟩ <;> simp only <;> omega
  · split at h
    · rename_i ho
      injection h with h
      subst h
      simp only [yo, ho] at q3 q4
      have ha := y5a q3 (by decide)
      have hb := y5a q4 (by decide)
      refine ⟨?_, ?_, ha.1, ha.2, ?_, hb.2⟩ <;> simp only <;> omega
    · cases h
theorem y287 {f : Fn} {i : Nat} {s : Fs} (w : Wf f) (hi : i < (lst f.code).length) (h : FsIn (lst f.regs).length s) : FsIn (lst f.regs).length (behK s (yh f i)) := by
  have hx := w.ins i hi
  have hdef : ¬ defr (yh f i) < 0 → 0 ≤ defr (yh f i) ∧ defr (yh f i) < (lst f.regs).length := fun hn => ⟨by omega, w.def hi (by omega)⟩
  have hf : ∀ c, c ∈ s.filter (fun c => !hitF (defr (yh f i)) c) → FaIn (lst f.regs).length c := fun c hc => h c (List.mem_filter.1 hc).1
  intro c hc
  unfold behK at hc
  split at hc
  · rename_i c' hc'
    rcases ypk.1 hc with h1 | h1
    · exact h c h1
    · subst h1; exact y2pd hx hc'
  · split at hc
    · exact h c hc
    · rename_i hn
      obtain ⟨d0, d1⟩ := hdef hn
      split at hc
      · exact h c hc
      · split at hc
        · rcases List.mem_append.1 hc with h1 | h1
          · exact hf c h1
          · unfold movL at h1
            obtain ⟨y, hy, rfl⟩ := List.mem_map.1 h1
            have := h y (List.mem_filter.1 hy).1
            exact ⟨this.1, this.2.1, d0, d1, by simp only; omega, by simp only; omega⟩
        · split at hc
          · rcases List.mem_append.1 hc with h1 | h1
            · exact hf c h1
            · simp at h1
              subst h1
              exact ⟨by show (7 : Int) ≤ 8; decide, by show (8 : Int) ≤ 10; decide, d0, d1, by simp only; omega, by simp only; omega⟩
          · exact hf c hc
def bndK (R : Nat) : Nat := 4 * (R * (R + 1))
theorem yym : ∀ {n : Nat} {l : List Nat}, l.Nodup → (∀ x ∈ l, x < n) → l.length ≤ n
  | 0, [], _, _ => Nat.le_refl _
  | 0, a :: l, _, h => by have := h a (by simp); omega
  | n + 1, l, hd, h => by
    have h1 : (l.filter (· ≠ n)).Nodup := List.Nodup.sublist List.filter_sublist hd
    have h2 := yym (n := n) h1 (fun x hx => by
      rw [List.mem_filter] at hx
      have := h x hx.1
      have := hx.2
      simp at this
      omega)
    have h3 : l.length ≤ (l.filter (· ≠ n)).length + 1 := by
      clear h h1 h2
      induction l with
      | nil => simp
      | cons a l ih =>
        have hd' := hd
        rw [List.nodup_cons] at hd'
        by_cases e : a = n
        · subst e
          have : l.filter (· ≠ a) = l := by
            rw [List.filter_eq_self]
            intro b hb
            have : b ≠ a := fun e => hd'.1 (e ▸ hb)
            simpa using this
          rw [List.filter_cons_of_neg (by simp), this, List.length_cons]
          exact Nat.le_refl _
        · rw [List.filter_cons_of_pos (by simpa using e), List.length_cons, List.length_cons]
          have := ih hd'.2
          omega
    omega
def y28t (R : Nat) (c : Fa) : Nat := ((c.1 - 7).toNat * R + c.2.1.toNat) * (R + 1) + (c.2.2 + 1).toNat
theorem ykl {a b c d n : Nat} (hb : b < n) (hd : d < n) (h : a * n + b = c * n + d) : a = c ∧ b = d := by
  have hn : 0 < n := by omega
  have e1 : (a * n + b) / n = a := by rw [Nat.mul_comm, Nat.mul_add_div hn, Nat.div_eq_of_lt hb, Nat.add_zero]
  have e2 : (c * n + d) / n = c := by rw [Nat.mul_comm, Nat.mul_add_div hn, Nat.div_eq_of_lt hd, Nat.add_zero]
  rw [h, e2] at e1
  subst e1
  exact ⟨rfl, by omega⟩
theorem y2j4 {R : Nat} {s : Fs} (hd : s.Nodup) (h : FsIn R s) : s.length ≤ bndK R := by
  have h1 : (s.map (y28t R)).Nodup := by
    unfold List.Nodup
    rw [List.pairwise_map]
    refine List.Pairwise.imp_of_mem ?_ hd
    intro x y hx hy hne e
    obtain ⟨a1, a2, a3, a4, a5, a6⟩ := h x hx
    obtain ⟨b1, b2, b3, b4, b5, b6⟩ := h y hy
    apply hne
    obtain ⟨x1, x2, x3⟩ := x
    obtain ⟨y1, y2, y3⟩ := y
    simp only at a1 a2 a3 a4 a5 a6 b1 b2 b3 b4 b5 b6
    unfold y28t at e
    simp only at e
    obtain ⟨e1, e2⟩ := ykl (by omega) (by omega) e
    obtain ⟨e3, e4⟩ := ykl (by omega) (by omega) e1
    have q1 : x1 = y1 := by omega
    have q2 : x2 = y2 := by omega
    have q3 : x3 = y3 := by omega
    rw [q1, q2, q3]
  have h2 := yym (n := bndK R) h1 (fun n hn => by
    obtain ⟨c, hc, rfl⟩ := List.mem_map.1 hn
    obtain ⟨a1, a2, a3, a4, a5, a6⟩ := h c hc
    unfold y28t bndK
    have k1 : (c.1 - 7).toNat ≤ 3 := by omega
    have k2 : (c.1 - 7).toNat * R ≤ 3 * R := Nat.mul_le_mul_right R k1
    have k3 : (c.1 - 7).toNat * R + c.2.1.toNat ≤ 4 * R - 1 := by omega
    have k4 : ((c.1 - 7).toNat * R + c.2.1.toNat) * (R + 1) ≤ (4 * R - 1) * (R + 1) := Nat.mul_le_mul_right _ k3
    have k5 : (4 * R - 1) * (R + 1) + (R + 1) = 4 * (R * (R + 1)) := by
      rw [← Nat.succ_mul, ← Nat.mul_assoc]
      congr 1
      omega
    omega)
  rwa [List.length_map] at h2
end Go.Vm
