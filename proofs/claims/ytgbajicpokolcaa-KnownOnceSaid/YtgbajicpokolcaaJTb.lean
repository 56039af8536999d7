/- What a well formed function is like. In a well formed function the registers that are read and written are registers, and the places that follow are places. The table of the pass 'carry', in plain words: facts flow from place to place until they stay. An instruction that reads other registers of the same kinds is as right as before. Sets of registers, 64 a word. Whether each register is written ahead of all that reads it, in plain words: by ways, and by what is set at each place. Which registers are live, in plain words: by ways, and by what the sweeps over the table leave. What is live ahead of, behind and across a place, as tests. Functions with other instructions at some places: well formed as before. Ways to a read, from their beginning on. A function with other code. Where blocks begin, in plain words. What the pass 'carry' leaves, in plain words. Facts of the pass 'known', in plain words: what was checked, and of which registers. -/
import Derived.Test.YtgbajicpokolcaaJTa
set_option linter.unusedSimpArgs false
set_option linter.unusedVariables false
set_option linter.unusedSectionVars false
namespace Go.Vm
theorem yet {f : Fn} {C : List Ins} : ∀ {l : List Ins} {i k : Nat} {x : Ins}, y59 f C i l = true → l[k]? = some x → y2h f x = true ∧ y47 C (i + k) x = true
  | [], _, _, _, _, h => by simp at h
  | y :: l, i, k, x, hk, h => by
    simp only [y59, Bool.and_eq_true] at hk
    cases k with
    | zero => simp at h; subst h; exact hk.1
    | succ k =>
      have := yet hk.2 (by simpa using h)
      rwa [show i + 1 + k = i + (k + 1) by omega] at this
structure Wf (f : Fn) : Prop where
  n1 : 1 ≤ (lst f.code).length
  n2 : (lst f.code).length ≤ 20000
  regs : (lst f.regs).length ≤ 20000
  ret0 : 0 ≤ f.ret
  ret3 : f.ret ≤ 3
  last : ends (ye f ((lst f.code).length - 1)).op = true
  kinds : ∀ k ∈ lst f.regs, 1 ≤ k ∧ k ≤ 3
  pars : yg5 (lst f.regs) 0 [] (lst f.params) = true
  ins : ∀ i, i < (lst f.code).length → y2h f (ye f i) = true
  spot : ∀ i, i < (lst f.code).length → y47 (lst f.code) i (ye f i) = true
  rows : ∀ r ∈ lst f.rows, y7t (lst f.code) r = true
theorem y1hv {f : Fn} (h : wf f = true) : Wf f := by
  simp only [wf, Bool.and_eq_true, decide_eq_true_eq, List.all_eq_true] at h
  obtain ⟨⟨⟨⟨⟨⟨⟨⟨⟨h1, h2⟩, h3⟩, h4⟩, h5⟩, h6⟩, h7⟩, h8⟩, h9⟩, h10⟩ := h
  refine ⟨h1, h2, h3, h4, h5, h6, h7, h8, fun i hi => ?_, fun i hi => ?_, h10⟩
  · exact (yet h9 (y3e hi)).1
  · have := (yet h9 (y3e hi)).2
    rwa [Nat.zero_add] at this
theorem yo8 {R : List Int} {ret : Int} {n : Nat} {x : Ins} (h : y3i R ret n x = true) (hl : leads x.op = true) : 0 ≤ x.t ∧ x.t < n := by
  have hne : ¬ x.op = 1 ∧ ¬ x.op = 4 ∧ ¬ x.op = 7 ∧ ¬ x.op = 30 := by
    simp only [leads, Bool.or_eq_true, decide_eq_true_eq] at hl
    omega
  simp only [y3i, hne, if_false, hl, Bool.not_true, Bool.false_or, Bool.and_eq_true, decide_eq_true_eq] at h
  exact h
theorem Wf.leads {f : Fn} (w : Wf f) {i : Nat} (hi : i < (lst f.code).length) (hl : Go.Vm.leads (ye f i).op = true) : 0 ≤ (ye f i).t ∧ (ye f i).t < (lst f.code).length := by
  have h := w.ins i hi
  simp only [y2h, Bool.and_eq_true] at h
  exact yo8 h.2 hl
structure RowIn (f : Fn) (r : Row) : Prop where
  f0 : 0 ≤ r.f
  ft : r.f < r.t
  tn : r.t ≤ (lst f.code).length
  a0 : 0 ≤ r.at_
  an : r.at_ < (lst f.code).length
  op : (ye f r.at_.toNat).op = 32
theorem Wf.row {f : Fn} (w : Wf f) {r : Row} (hr : r ∈ lst f.rows) : RowIn f r := by
  have h := w.rows r hr
  simp only [y7t, Bool.not_eq_true', Bool.or_eq_false_iff, decide_eq_false_iff_not, Classical.not_not] at h
  exact ⟨by omega, by omega, by omega, by omega, by omega, h.2⟩
end Go.Vm
namespace Go.Vm
theorem y3v {R : List Int} {k r : Int} (h : y25 R k r = true) (hk : 0 ≤ k) : 0 ≤ r ∧ r < R.length := by
  simp only [y25, Bool.or_eq_true, decide_eq_true_eq, Bool.and_eq_true, inR] at h
  omega
theorem yox (n : Int) : 0 ≤ (numK n).1 ∧ 0 ≤ (numK n).2.1 ∧ 0 ≤ (numK n).2.2 := by
  unfold numK
  repeat' split
  all_goals decide
set_option maxHeartbeats 4000000 in
theorem yy3 {f : Fn} {x : Ins} (h : y2h f x = true) {u : Int} (hu : u ∈ lst (uses x)) : 0 ≤ u ∧ u < (lst f.regs).length := by
  simp only [y2h, Bool.and_eq_true] at h
  obtain ⟨⟨⟨⟨⟨⟨h0, h1⟩, h2⟩, h3⟩, h4⟩, h5⟩, h6⟩ := h
  by_cases hc : calls x.op = true
  · have hu' : u ∈ lst x.args := by simpa [uses, hc] using hu
    simp only [ydw, hc, Bool.not_true, Bool.false_or, Bool.and_eq_true, List.all_eq_true] at h5
    have := h5.2 u hu'
    simpa [inR] using this
  · have key : (u = x.a ∧ 0 ≤ (yl x).2.1) ∨ (u = x.b ∧ 0 ≤ (yl x).2.2.1) ∨ (u = x.c ∧ 0 ≤ (yl x).2.2.2.1) ∨ False := by
      rcases ydc x.op with h|h|h|h|h|h|h|h|h|h|h|h|h|h|h|h|h|h|h|h|h|h|h|h|h|h|h|h|h|h|h|h|h|h|h
      all_goals first
        | (exfalso; simp [uses, reads, calls, h] at hu; done)
        | (exfalso; simp [calls, h] at hc; done)
        | (simp [uses, reads, calls, h] at hu; simp [yl, h] at h0 ⊢; first | omega | (rcases hu with rfl | rfl <;> simp [yox]) | (rcases hu with rfl | rfl | rfl <;> simp) | (subst hu; simp [yox]))
        | (simp [uses, reads, calls, h] at hu; simp [yl, h]; split at hu <;> simp_all; done)
        | (exfalso; simp [uses, reads, calls, lo_f h] at hu; done)
        | (exfalso; simp [uses, reads, calls, hi_f h] at hu; done)
        | skip
      · by_cases hb : x.b < 0
        · simp [uses, calls, h, hb] at hu
          exact .inl ⟨hu, by simp [yl, h]⟩
        · simp [uses, calls, h, hb] at hu
          rcases hu with hu | hu
          · exact .inl ⟨hu, by simp [yl, h]⟩
          · have : ¬ x.b = -1 := by omega
            exact .inr (.inl ⟨hu, by simp [yl, h, this]⟩)
      · by_cases ha : 0 ≤ x.a
        · simp [uses, calls, h, ha] at hu
          have : ¬ x.a = -1 := by omega
          exact .inl ⟨hu, by simp [yl, h, this]⟩
        · simp [uses, calls, h, ha] at hu
    rcases key with ⟨rfl, hk⟩ | ⟨rfl, hk⟩ | ⟨rfl, hk⟩ | hk
    · exact y3v h2 hk
    · exact y3v h3 hk
    · exact y3v h4 hk
    · exact hk.elim
set_option maxHeartbeats 4000000 in
theorem y193 {f : Fn} {x : Ins} (h : y2h f x = true) (hd : ¬ defr x = -1) : 0 ≤ defr x ∧ defr x < (lst f.regs).length := by
  simp only [y2h, Bool.and_eq_true] at h
  obtain ⟨⟨⟨⟨⟨⟨h0, h1⟩, h2⟩, h3⟩, h4⟩, h5⟩, h6⟩ := h
  have key : defr x = x.d ∧ 0 ≤ (yl x).1 := by
    unfold defr at hd ⊢
    split at hd
    · rename_i hw
      rw [if_pos hw]
      refine ⟨rfl, ?_⟩
      rcases ydc x.op with h|h|h|h|h|h|h|h|h|h|h|h|h|h|h|h|h|h|h|h|h|h|h|h|h|h|h|h|h|h|h|h|h|h|h
      all_goals first
        | (exfalso; simp [writes, calls, h] at hw; done)
        | (simp [yl, h, yox, hd]; done)
        | (exfalso; simp [writes, calls, lo_f h] at hw; done)
        | (exfalso; simp [writes, calls, hi_f h] at hw; done)
    · exact (hd rfl).elim
  rw [key.1]
  exact y3v h1 key.2
theorem Wf.uses {f : Fn} (w : Wf f) {i : Nat} (hi : i < (lst f.code).length) {u : Int} (hu : u ∈ lst (Go.Vm.uses (ye f i))) : 0 ≤ u ∧ u < (lst f.regs).length := yy3 (w.ins i hi) hu
theorem Wf.def {f : Fn} (w : Wf f) {i : Nat} (hi : i < (lst f.code).length) (hd : 0 ≤ defr (ye f i)) : defr (ye f i) < (lst f.regs).length := (y193 (w.ins i hi) (by omega)).2
theorem yd8 {l : List Int} {j a : Int} (h : j ∈ addN l a) : j ∈ l ∨ j = a := by
  unfold addN at h
  split at h
  · exact .inl h
  · rw [List.mem_append, List.mem_singleton] at h; exact h
theorem Wf.next {f : Fn} (w : Wf f) {i : Nat} (hi : i < (lst f.code).length) {to : Int} (h : to ∈ y1v f i) : 0 ≤ to ∧ to < (lst f.code).length := by
  rw [y1v, if_neg (by omega), show ((i : Int)).toNat = i by omega] at h
  have hself : ∀ {j : Int}, j ∈ (if ends (ye f i).op = true then [] else [(i : Int) + 1]) → 0 ≤ j ∧ j < (lst f.code).length := by
    intro j hj
    split at hj
    · cases hj
    · rename_i he
      rw [List.mem_singleton] at hj
      subst hj
      refine ⟨by omega, ?_⟩
      by_cases e : i = (lst f.code).length - 1
      · subst e; exact (he w.last).elim
      · omega
  unfold yk8 at h
  split at h
  · rename_i hl
    rcases yd8 h with h | h
    · exact hself h
    · rw [h]; exact w.leads hi hl
  · exact hself h
theorem y5k {i to : Int} : ∀ {rs : List Row} {l : List Int}, to ∈ y35 i rs l → to ∈ l ∨ ∃ r ∈ rs, r.at_ = to
  | [], l, h => .inl h
  | r :: rs, l, h => by
    unfold y35 at h
    split at h
    · split at h
      · rcases yd8 h with h | h
        · exact .inl h
        · exact .inr ⟨r, by simp, h.symm⟩
      · rcases y5k h with h | ⟨r', h1, h2⟩
        · rcases yd8 h with h | h
          · exact .inl h
          · exact .inr ⟨r, by simp, h.symm⟩
        · exact .inr ⟨r', by simp [h1], h2⟩
    · rcases y5k h with h | ⟨r', h1, h2⟩
      · exact .inl h
      · exact .inr ⟨r', by simp [h1], h2⟩
theorem Wf.caught {f : Fn} (w : Wf f) {i to : Int} (h : to ∈ yv f i) : 0 ≤ to ∧ to < (lst f.code).length := by
  rw [yv] at h
  split at h
  · cases h
  · split at h
    · rcases y5k h with h | ⟨r, h1, h2⟩
      · cases h
      · have := w.row h1
        rw [← h2]; exact ⟨this.a0, this.an⟩
    · cases h
end Go.Vm
namespace Go.Vm
abbrev FTab := List (Option Fx)
def fAt (T : FTab) (i : Nat) : Option Fx := T[i]?.join
def SubF (t s : Fx) : Prop := ∀ (u : Nat) (q : Int), 0 ≤ q → t.getD u (-1) = q → s.getD u (-1) = q
theorem SubF.refl (t : Fx) : SubF t t := fun _ _ _ h => h
theorem SubF.trans {a b c : Fx} (h : SubF a b) (h' : SubF b c) : SubF a c := fun u q h0 h1 => h' u q h0 (h u q h0 h1)
theorem SubF.none (n : Nat) (s : Fx) : SubF (List.replicate n (-1)) s := by
  intro u q h0 h
  rw [List.getD_eq_getElem?_getD, List.getElem?_replicate] at h
  split at h <;> simp at h <;> omega
def cntF (s : Fx) : Nat := s.countP (fun q => decide (q ≠ -1))
def yx0 (f : Fn) (s : Fx) : Prop := ∀ (u : Nat) (q : Int), 0 ≤ q → s.getD u (-1) = q → q < (lst f.regs).length ∧ regK (lst f.regs) q = regK (lst f.regs) u
theorem yx0.sub {f : Fn} {t s : Fx} (h : yx0 f s) (hs : SubF t s) : yx0 f t := fun u q h0 h1 => h u q h0 (hs u q h0 h1)
structure TOk (f : Fn) (T : FTab) : Prop where
  len : T.length = (lst f.code).length
  rows : ∀ (i : Nat) s, fAt T i = some s → s.length = (lst f.regs).length ∧ yx0 f s
  zero : fAt T 0 = some (List.replicate (lst f.regs).length (-1))
def LeF (a b : FTab) : Prop := ∀ (i : Nat) s, fAt a i = some s → ∃ t, fAt b i = some t ∧ SubF t s
theorem LeF.refl (a : FTab) : LeF a a := fun _ s h => ⟨s, h, .refl _⟩
theorem LeF.trans {a b c : FTab} (h : LeF a b) (h' : LeF b c) : LeF a c := fun i s hs => by
  obtain ⟨t, h1, h2⟩ := h i s hs
  obtain ⟨u, h3, h4⟩ := h' i t h1
  exact ⟨u, h3, h4.trans h2⟩
def AtF (T : FTab) (to : Int) (s : Fx) : Prop := ∃ t, fAt T to.toNat = some t ∧ SubF t s
theorem AtF.mono {a b : FTab} (h : LeF a b) {to : Int} {s : Fx} (hs : AtF a to s) : AtF b to s := by
  obtain ⟨t, h1, h2⟩ := hs
  obtain ⟨u, h3, h4⟩ := h _ _ h1
  exact ⟨u, h3, h4.trans h2⟩
def wtF (R : Nat) : Option Fx → Nat
  | none => R + 1
  | some s => cntF s
def potF (R : Nat) (T : FTab) : Nat := (T.map (wtF R)).sum
structure FlowR (f : Fn) (J : Int → Prop) (p q : FTab × List Int) : Prop where
  ok : TOk f q.1
  le : LeF p.1 q.1
  work : ∀ (i : Nat) t, fAt q.1 i = some t → fAt p.1 i = some t ∨ (i : Int) ∈ q.2
  keep : ∀ j, j ∈ p.2 → j ∈ q.2
  fresh : ∀ j, j ∈ q.2 → j ∈ p.2 ∨ (0 ≤ j ∧ j < (lst f.code).length ∧ fAt q.1 j.toNat ≠ none)
  new : ∀ i : Nat, fAt q.1 i ≠ none → fAt p.1 i ≠ none ∨ J i
  pot : 2 * potF (lst f.regs).length q.1 + q.2.length ≤ 2 * potF (lst f.regs).length p.1 + p.2.length
theorem FlowR.refl {f : Fn} {J : Int → Prop} {p : FTab × List Int} (h : TOk f p.1) : FlowR f J p p :=
  ⟨h, .refl _, fun _ _ h => .inl h, fun _ h => h, fun _ h => .inl h, fun _ h => .inl h, Nat.le_refl _⟩
theorem FlowR.trans {f : Fn} {J : Int → Prop} {p q u : FTab × List Int} (h : FlowR f J p q) (h' : FlowR f J q u) : FlowR f J p u := by
  refine ⟨h'.ok, h.le.trans h'.le, fun i t ht => ?_, fun j hj => h'.keep j (h.keep j hj), fun j hj => ?_, fun i hi => ?_, Nat.le_trans h'.pot h.pot⟩
  · rcases h'.work i t ht with h1 | h1
    · rcases h.work i t h1 with h2 | h2
      · exact .inl h2
      · exact .inr (h'.keep _ h2)
    · exact .inr h1
  · rcases h'.fresh j hj with h1 | h1
    · rcases h.fresh j h1 with h2 | ⟨a, b, c⟩
      · exact .inl h2
      · refine .inr ⟨a, b, fun e => c ?_⟩
        cases hc : fAt q.1 j.toNat with
        | none => rfl
        | some t =>
          obtain ⟨v, hv, _⟩ := h'.le _ _ hc
          rw [e] at hv; cases hv
    · exact .inr h1
  · rcases h'.new i hi with h1 | h1
    · exact h.new i h1
    · exact .inr h1
theorem FlowR.mono {f : Fn} {J J' : Int → Prop} {p q : FTab × List Int} (h : FlowR f J p q) (hJ : ∀ j, J j → J' j) : FlowR f J' p q :=
  ⟨h.ok, h.le, h.work, h.keep, h.fresh, fun i hi => (h.new i hi).imp id (hJ _), h.pot⟩
def y137 (f : Fn) (T : FTab) (i : Nat) (t : Fx) : Prop := (∀ to ∈ yv f i, AtF T to t) ∧ ∀ to ∈ y1v f i, AtF T to (behM t (ye f i))
structure InvF (f : Fn) (p : FTab × List Int) : Prop where
  ok : TOk f p.1
  wk : ∀ j ∈ p.2, 0 ≤ j ∧ j < (lst f.code).length ∧ fAt p.1 j.toNat ≠ none
  closed : ∀ (i : Nat) t, fAt p.1 i = some t → (i : Int) ∈ p.2 ∨ y137 f p.1 i t
  pred : ∀ i : Nat, fAt p.1 i ≠ none → i ≠ 0 → ∃ k : Nat, fAt p.1 k ≠ none ∧ k < (lst f.code).length ∧ ((i : Int) ∈ yv f k ∨ (i : Int) ∈ y1v f k)
theorem y1i1 {α : Type} {o : Option α} (h : o ≠ none) : ∃ x, o = some x := by
  cases o with
  | none => exact (h rfl).elim
  | some x => exact ⟨x, rfl⟩
theorem LeF.nn {a b : FTab} (h : LeF a b) {i : Nat} (hi : fAt a i ≠ none) : fAt b i ≠ none := by
  obtain ⟨s, hs⟩ := y1i1 hi
  obtain ⟨t, ht, _⟩ := h i s hs
  rw [ht]; simp
end Go.Vm
namespace Go.Vm
end Go.Vm
namespace Go.Vm
abbrev Ws := List (BitVec 64)
end Go.Vm
namespace Go.Vm
def y21v (f : Fn) (i : Nat) : List Int := lst (uses (ye f i))
def y265 (f : Fn) (r : Int) (i : Nat) : List Int := yv f i ++ if defr (ye f i) = r then [] else y1v f i
abbrev Tab := List (Option (List Bool))
def wt (R : Nat) : Option (List Bool) → Nat
  | none => R + 1
  | some s => s.countP id
def pot (R : Nat) (ins : Tab) : Nat := (ins.map (wt R)).sum
def LeB (t s : List Bool) : Prop := ∀ r : Nat, t[r]? = some true → s[r]? = some true
theorem LeB.refl (t : List Bool) : LeB t t := fun _ h => h
theorem LeB.trans {a b c : List Bool} (h : LeB a b) (h' : LeB b c) : LeB a c := fun r h1 => h' r (h r h1)
def LeT (a b : Tab) : Prop := ∀ (i : Nat) s, a[i]? = some (some s) → ∃ t, b[i]? = some (some t) ∧ LeB t s
theorem LeT.refl (a : Tab) : LeT a a := fun _ s h => ⟨s, h, .refl _⟩
theorem LeT.trans {a b c : Tab} (h : LeT a b) (h' : LeT b c) : LeT a c := fun i s hs => by
  obtain ⟨t, h1, h2⟩ := h i s hs
  obtain ⟨u, h3, h4⟩ := h' i t h1
  exact ⟨u, h3, h4.trans h2⟩
def LeAt (ins : Tab) (to : Int) (s : List Bool) : Prop := ∃ t, ins[to.toNat]? = some (some t) ∧ LeB t s
theorem LeAt.mono {a b : Tab} (h : LeT a b) {to : Int} {s : List Bool} (hs : LeAt a to s) : LeAt b to s := by
  obtain ⟨t, h1, h2⟩ := hs
  obtain ⟨u, h3, h4⟩ := h _ _ h1
  exact ⟨u, h3, h4.trans h2⟩
section
variable {n R : Nat}
structure TblOk (n R : Nat) (ins : Tab) : Prop where
  len : ins.length = n
  rows : ∀ (i : Nat) s, ins[i]? = some (some s) → s.length = R
structure MeetR (n R : Nat) (s : List Bool) (T : Int → Prop) (p q : Tab × List Int) : Prop where
  ok : TblOk n R q.1
  le : LeT p.1 q.1
  work : ∀ (i : Nat) t, q.1[i]? = some (some t) → p.1[i]? = some (some t) ∨ (i : Int) ∈ q.2
  keep : ∀ j, j ∈ p.2 → j ∈ q.2
  fresh : ∀ j, j ∈ q.2 → j ∈ p.2 ∨ (0 ≤ j ∧ j < n ∧ ∃ t, q.1[j.toNat]? = some (some t))
  src : ∀ (i r : Nat) t, q.1[i]? = some (some t) → t[r]? = some false → (∃ u, p.1[i]? = some (some u) ∧ u[r]? = some false) ∨ (s[r]? = some false ∧ T i)
  pot : 2 * pot R q.1 + q.2.length ≤ 2 * Go.Vm.pot R p.1 + p.2.length
theorem MeetR.refl {s : List Bool} {T : Int → Prop} {p : Tab × List Int} (h : TblOk n R p.1) : MeetR n R s T p p :=
  ⟨h, .refl _, fun _ _ h => .inl h, fun _ h => h, fun _ h => .inl h, fun _ _ _ h1 h2 => .inl ⟨_, h1, h2⟩, Nat.le_refl _⟩
theorem MeetR.trans {s : List Bool} {T : Int → Prop} {p q u : Tab × List Int} (h : MeetR n R s T p q) (h' : MeetR n R s T q u) : MeetR n R s T p u := by
  refine ⟨h'.ok, h.le.trans h'.le, fun i t ht => ?_, fun j hj => h'.keep j (h.keep j hj), fun j hj => ?_, fun i r t ht hr => ?_, Nat.le_trans h'.pot h.pot⟩
  · rcases h'.work i t ht with h1 | h1
    · rcases h.work i t h1 with h2 | h2
      · exact .inl h2
      · exact .inr (h'.keep _ h2)
    · exact .inr h1
  · rcases h'.fresh j hj with h1 | h1
    · rcases h.fresh j h1 with h2 | ⟨a, b, t, ht⟩
      · exact .inl h2
      · obtain ⟨v, hv, _⟩ := h'.le _ _ ht
        exact .inr ⟨a, b, v, hv⟩
    · exact .inr h1
  · rcases h'.src i r t ht hr with ⟨v, h1, h2⟩ | h1
    · exact h.src i r v h1 h2
    · exact .inr h1
theorem MeetR.mono {s : List Bool} {T T' : Int → Prop} {p q : Tab × List Int} (h : MeetR n R s T p q) (hT : ∀ j, T j → T' j) : MeetR n R s T' p q :=
  ⟨h.ok, h.le, h.work, h.keep, h.fresh, fun i r t h1 h2 => (h.src i r t h1 h2).imp id fun x => ⟨x.1, hT _ x.2⟩, h.pot⟩
end
end Go.Vm
namespace Go.Vm
theorem Rch.one {n : Nat} {S : Nat → List Int} {i k : Nat} : Rch n S [(i : Int)] k ↔ (k = i ∧ i < n) ∨ (i < n ∧ Rch n S (S i) k) := by
  constructor
  · intro h
    induction h with
    | base hj j0 j1 =>
      rw [List.mem_singleton] at hj
      subst hj
      exact .inl ⟨by omega, by omega⟩
    | step h hj j0 j1 ih =>
      rcases ih with ⟨e, hi⟩ | ⟨hi, h'⟩
      · subst e
        exact .inr ⟨hi, .base hj j0 j1⟩
      · exact .inr ⟨hi, .step h' hj j0 j1⟩
  · rintro (⟨e, hi⟩ | ⟨hi, h⟩)
    · subst e
      have := Rch.base (n := n) (S := S) (A := [(k : Int)]) (j := (k : Int)) (by simp) (by omega) (by omega)
      simpa using this
    · have hb : Rch n S [(i : Int)] i := by
        have := Rch.base (n := n) (S := S) (A := [(i : Int)]) (j := (i : Int)) (by simp) (by omega) (by omega)
        simpa using this
      induction h with
      | base hj j0 j1 => exact .step hb hj j0 j1
      | step h hj j0 j1 ih => exact .step ih hj j0 j1
section
variable (f : Fn)
structure Tb where
  b : List Ws
  a : List Ws
  h : List Ws
def rowW (l : List Ws) (i : Nat) : Ws := l.getD i []
structure TbOk (n W : Nat) (t : Tb) : Prop where
  b : t.b.length = n
  a : t.a.length = n
  h : t.h.length = n
  bw : ∀ i, i < n → (rowW t.b i).length = W
  aw : ∀ i, i < n → (rowW t.a i).length = W
  hw : ∀ i, i < n → (rowW t.h i).length = W
variable {W n : Nat} {l : List Ws}
end
end Go.Vm
namespace Go.Vm
end Go.Vm
namespace Go.Vm
theorem yei {f : Fn} {C : List Ins} : ∀ (l : List Ins) (i : Nat), (∀ k x, l[k]? = some x → y2h f x = true ∧ y47 C (i + k) x = true) → y59 f C i l = true
  | [], _, _ => rfl
  | y :: l, i, h => by
    rw [y59, (h 0 y rfl).1, yei l (i + 1) (fun k x hx => by
      have := h (k + 1) x (by simpa using hx)
      rwa [show i + (k + 1) = i + 1 + k by omega] at this)]
    have := (h 0 y rfl).2
    rw [Nat.add_zero] at this
    rw [this]; rfl
theorem ywh {f : Fn} {i : Nat} (h : (lst f.code).length ≤ i) : ye f i = default := by
  rw [ye, List.getD_eq_getElem?_getD, List.getElem?_eq_none h]; rfl
structure Swap (f g : Fn) : Prop where
  regs : g.regs = f.regs
  params : g.params = f.params
  ret : g.ret = f.ret
  rows : g.rows = f.rows
  len : (lst g.code).length = (lst f.code).length
theorem Swap.refl (f : Fn) : Swap f f := ⟨rfl, rfl, rfl, rfl, rfl⟩
theorem Swap.trans {f g h : Fn} (a : Swap f g) (b : Swap g h) : Swap f h := ⟨b.regs.trans a.regs, b.params.trans a.params, b.ret.trans a.ret, b.rows.trans a.rows, b.len.trans a.len⟩
theorem yo2 {f g : Fn} (s : Swap f g) (x : Ins) : y2h g x = y2h f x := by
  unfold y2h
  rw [s.regs, s.ret, s.len]
theorem y1ya {f g : Fn} (s : Swap f g) (hw : wf f = true) (h : ∀ i, i < (lst f.code).length → y2h f (ye g i) = true ∧ (ends (ye f i).op = true → ends (ye g i).op = true) ∧
    ((ye g i).op = 32 ↔ (ye f i).op = 32) ∧ (leads (ye g i).op = true → leads (ye f i).op = true ∧ (ye g i).t = (ye f i).t)) : wf g = true := by
  have w := y1hv hw
  have e32 : ∀ i : Nat, (ye g i).op = 32 ↔ (ye f i).op = 32 := fun i => by
    by_cases hi : i < (lst f.code).length
    · exact (h i hi).2.2.1
    · rw [ywh (f := g) (by rw [s.len]; omega), ywh (f := f) (by omega)]
  have hlast := (h ((lst f.code).length - 1) (by have := w.n1; omega)).2.1 w.last
  have hspot : ∀ i, i < (lst f.code).length → y47 (lst g.code) i (ye g i) = true := by
    intro i hi
    have h0 := w.spot i hi
    obtain ⟨_, _, h3, h4⟩ := h i hi
    unfold y47 at h0 ⊢
    rw [Bool.not_eq_true', Bool.or_eq_false_iff, Bool.and_eq_false_iff, Bool.and_eq_false_iff] at h0 ⊢
    refine ⟨?_, ?_⟩
    · rcases h0.1 with q | q
      · left
        simp only [decide_eq_false_iff_not] at q ⊢
        rwa [h3]
      · right
        rw [Bool.or_eq_false_iff] at q ⊢
        refine ⟨q.1, ?_⟩
        have he : ends (ye f (i - 1)).op = true := by simpa [ye] using q.2
        have := (h (i - 1) (by omega)).2.1 he
        simpa [ye] using this
    · cases hl : leads (ye g i).op with
      | false => exact .inl rfl
      | true =>
        right
        obtain ⟨a, b⟩ := h4 hl
        rcases h0.2 with h | h
        · rw [a] at h; cases h
        · simp only [decide_eq_false_iff_not] at h ⊢
          rw [b]
          exact fun e => h ((e32 _).1 e)
  have hw' := hw
  unfold wf at hw' ⊢
  rw [s.len, s.regs, s.ret, s.params, s.rows]
  simp only [Bool.and_eq_true] at hw' ⊢
  obtain ⟨⟨⟨⟨⟨⟨⟨⟨⟨h1, h2⟩, h3⟩, h4⟩, h5⟩, h6⟩, h7⟩, h8⟩, h9⟩, h10⟩ := hw'
  refine ⟨⟨⟨⟨⟨⟨⟨⟨⟨h1, h2⟩, h3⟩, h4⟩, h5⟩, hlast⟩, h7⟩, h8⟩, yei _ 0 fun k x hx => ?_⟩, ?_⟩
  · have hk : k < (lst f.code).length := by rw [← s.len]; exact (List.getElem?_eq_some_iff.1 hx).1
    have e : ye g k = x := by rw [ye, List.getD_eq_getElem?_getD, hx]; rfl
    rw [Nat.zero_add, ← e]
    exact ⟨by rw [yo2 s]; exact (h k hk).1, hspot k hk⟩
  · rw [List.all_eq_true] at h10 ⊢
    intro r hr
    have := h10 r hr
    unfold y7t at this ⊢
    rw [s.len]
    rw [Bool.not_eq_true', Bool.or_eq_false_iff] at this ⊢
    refine ⟨this.1, ?_⟩
    have t2 := this.2
    simp only [decide_eq_false_iff_not, Classical.not_not] at t2 ⊢
    exact (e32 r.at_.toNat).2 t2
end Go.Vm
namespace Go.Vm
inductive Way (f : Fn) (r : Int) : Nat → Prop
  | use {i : Nat} : i < (lst f.code).length → r ∈ y21v f i → Way f r i
  | step {i : Nat} {j : Int} : i < (lst f.code).length → j ∈ y265 f r i → 0 ≤ j → j < (lst f.code).length → Way f r j.toNat → Way f r i
theorem Way.lt {f : Fn} {r : Int} {i : Nat} (h : Way f r i) : i < (lst f.code).length := by cases h <;> assumption
end Go.Vm
namespace Go.Vm
def y9p (f : Fn) (L : List Ins) : Fn := { f with code := some L }
@[simp] theorem y21c (f : Fn) (L : List Ins) : lst (y9p f L).code = L := rfl
theorem yhe {f : Fn} {L : List Ins} (h : f.code = some L) : y9p f L = f := by
  rw [y9p, ← h]
end Go.Vm
namespace Go.Vm
def putP (n : Nat) (p : Int) (a : List Bool) : List Bool := if 0 ≤ p ∧ p < n then a.set p.toNat true else a
def y1uc (n i : Nat) (x : Ins) (a : List Bool) : List Bool :=
  if leads x.op || ends x.op then (if leads x.op then putP n x.t a else a).set (i + 1) true else (if leads x.op then putP n x.t a else a)
def hA1 (n : Nat) : Nat → List Ins → List Bool → List Bool
  | _, [], a => a
  | i, x :: r, a => hA1 n (i + 1) r (y1uc n i x a)
def hA2 (n : Nat) : List Row → List Bool → List Bool
  | [], a => a
  | r :: rs, a => hA2 n rs (putP n r.at_ (putP n r.t (putP n r.f a)))
def hA0 (n : Nat) : List Bool := if 0 < n then (List.replicate (n + 1) false).set 0 true else List.replicate (n + 1) false
@[simp] theorem y24d (n : Nat) (p : Int) (a : List Bool) : (putP n p a).length = a.length := by unfold putP; split <;> simp
@[simp] theorem y23a (n i : Nat) (x : Ins) (a : List Bool) : (y1uc n i x a).length = a.length := by
  unfold y1uc
  split <;> split <;> simp
@[simp] theorem y26s (n : Nat) : (hA0 n).length = n + 1 := by unfold hA0; split <;> simp
def hA (f : Fn) : List Bool := hA2 (lst f.code).length (lst f.rows) (hA1 (lst f.code).length 0 (lst f.code) (hA0 (lst f.code).length))
theorem ybh (f : Fn) (i : Nat) : ycq f i = true ↔ i = 0 ∨ (leads (ye f (i - 1)).op || ends (ye f (i - 1)).op) = true ∨ (∃ x ∈ lst f.code, leads x.op = true ∧ x.t = i) ∨ ∃ r ∈ lst f.rows, r.f = i ∨ r.t = i ∨ r.at_ = i := by
  simp only [ycq, Bool.or_eq_true, decide_eq_true_eq, List.any_eq_true, Bool.and_eq_true, or_assoc]
end Go.Vm
namespace Go.Vm
theorem y20y {f : Fn} {i : Nat} {j : Int} (hi : i < (lst f.code).length) (hj : j ∈ yv f i ∨ j ∈ y1v f i) (j0 : 0 ≤ j) (hh : ycq f j.toNat = false) : j = i + 1 ∧ j ∈ y1v f i := by
  have hn : ¬ ycq f j.toNat = true := by rw [hh]; simp
  rw [ybh] at hn
  have e : ((j.toNat : Nat) : Int) = j := by omega
  rw [e] at hn
  rcases hj with hj | hj
  · exfalso
    unfold yv at hj
    split at hj
    · cases hj
    · split at hj
      · rcases y5k hj with h | ⟨r, h1, h2⟩
        · cases h
        · exact hn (.inr (.inr (.inr ⟨r, h1, .inr (.inr h2)⟩)))
      · cases hj
  · refine ⟨?_, hj⟩
    unfold y1v at hj
    split at hj
    · cases hj
    · rename_i hb
      rw [show ((i : Int)).toNat = i by omega] at hj
      have key : j ∈ (if ends (ye f i).op = true then [] else [(i : Int) + 1]) → j = i + 1 := by
        intro h
        split at h
        · cases h
        · simpa using h
      unfold yk8 at hj
      split at hj
      · rename_i hl
        rcases yd8 hj with h | h
        · exact key h
        · exact (hn (.inr (.inr (.inl ⟨_, List.mem_of_getElem? (y3e hi), hl, h.symm⟩)))).elim
      · exact key hj
section
variable {f : Fn} (w : Wf f) {T : FTab} (v : InvF f (T, []))
include w v
theorem InvF.shut {i : Nat} {t : Fx} (h : fAt T i = some t) : y137 f T i t := by
  rcases v.closed i t h with h1 | h1
  · cases h1
  · exact h1
end
end Go.Vm
namespace Go.Vm
abbrev Fa := Int × Int × Int
abbrev Fs := List Fa
def ofM (x : Ins) : Option Fa := if x.op = 7 ∨ x.op = 8 ∨ x.op = 10 then some (x.op, x.a, -1) else if x.op = 9 then some (9, x.a, x.b) else none
def hitF (d : Int) (c : Fa) : Bool := decide (c.2.1 = d) || decide (c.2.2 = d)
def movF (a : Int) (c : Fa) : Bool := decide (c.2.1 = a) && decide (c.2.2 = -1)
def fput (c : Fa) (s : Fs) : Fs := if c ∈ s then s else s ++ [c]
def movL (s : Fs) (a d : Int) : Fs := (s.filter (movF a)).map fun c => (c.1, d, -1)
def behK (s : Fs) (x : Ins) : Fs :=
  match ofM x with
  | some c => fput c s
  | none =>
    if defr x < 0 then s else
    if x.op = 4 ∧ x.a = defr x then s else
    if x.op = 4 then s.filter (fun c => !hitF (defr x) c) ++ movL s x.a (defr x) else
    if x.op = 20 ∨ x.op = 21 ∨ x.op = 3 ∨ x.op = 32 then s.filter (fun c => !hitF (defr x) c) ++ [(8, defr x, -1)] else
    s.filter (fun c => !hitF (defr x) c)
def y3c (t s : Fs) : Fs := t.filter fun c => decide (c ∈ s)
theorem y235 {x : Ins} {c : Fa} (h : ofM x = some c) : defr x = -1 := by
  unfold ofM at h
  unfold defr
  rw [if_neg]
  have : x.op = 7 ∨ x.op = 8 ∨ x.op = 9 ∨ x.op = 10 := by
    split at h
    · omega
    · split at h
      · omega
      · cases h
  rcases this with e | e | e | e <;> rw [e] <;> decide
theorem yjl {c x : Fa} {s : Fs} : x ∈ fput c s ↔ x ∈ s ∨ x = c := by
  unfold fput
  split
  · rename_i h
    exact ⟨.inl, fun h' => h'.elim id fun e => e ▸ h⟩
  · simp
theorem yyl {c : Fa} {s : Fs} (h : s.Nodup) : (fput c s).Nodup := by
  unfold fput
  split
  · exact h
  · rename_i hn
    rw [List.nodup_append]
    exact ⟨h, by simp, fun a ha b hb => by simp at hb; subst hb; exact fun e => hn (e ▸ ha)⟩
theorem yyv {s : Fs} {a d : Int} (h : s.Nodup) : (movL s a d).Nodup := by
  unfold movL List.Nodup
  rw [List.pairwise_map]
  have h2 : (s.filter (movF a)).Nodup := List.Nodup.sublist List.filter_sublist h
  refine (List.Pairwise.imp_of_mem ?_ h2)
  intro x y hx hy hne e
  rw [List.mem_filter] at hx hy
  simp only [movF, Bool.and_eq_true, decide_eq_true_eq] at hx hy
  apply hne
  obtain ⟨x1, x2, x3⟩ := x
  obtain ⟨y1, y2, y3⟩ := y
  injection e with e1 _
  simp only at hx hy e1
  rw [e1, hx.2.1, hx.2.2, hy.2.1, hy.2.2]
theorem y1jx {s : Fs} {a d : Int} {c : Fa} (h : c ∈ movL s a d) : c.2.1 = d ∧ c.2.2 = -1 := by
  unfold movL at h
  obtain ⟨x, _, rfl⟩ := List.mem_map.1 h
  exact ⟨rfl, rfl⟩
theorem yyx {s : Fs} (x : Ins) (h : s.Nodup) : (behK s x).Nodup := by
  have hf : ∀ d, (s.filter (fun c => !hitF d c)).Nodup := fun d => List.Nodup.sublist List.filter_sublist h
  have hno : ∀ d c, c ∈ s.filter (fun c => !hitF d c) → c.2.1 ≠ d := fun d c hc e => by
    rw [List.mem_filter] at hc
    simp [hitF, e] at hc
  unfold behK
  split
  · exact yyl h
  · split
    · exact h
    · split
      · exact h
      · split
        · rw [List.nodup_append]
          refine ⟨hf _, yyv h, fun a ha b hb e => ?_⟩
          subst e
          exact hno _ _ ha (y1jx hb).1
        · split
          · rw [List.nodup_append]
            refine ⟨hf _, by simp, fun a ha b hb e => ?_⟩
            simp at hb
            subst hb
            subst e
            exact hno _ _ ha rfl
          · exact hf _
theorem y1g7 {s : Fs} {x : Ins} {c : Fa} (h : c ∈ s) (hd : defr x < 0 ∨ (c.2.1 ≠ defr x ∧ c.2.2 ≠ defr x)) : c ∈ behK s x := by
  have hf : ¬ defr x < 0 → c ∈ s.filter (fun c => !hitF (defr x) c) := fun hn => by
    rw [List.mem_filter]
    have := hd.resolve_left hn
    simp [hitF, this.1, this.2, h]
  unfold behK
  split
  · exact yjl.2 (.inl h)
  · split
    · exact h
    · rename_i hn
      split
      · exact h
      · split
        · exact List.mem_append_left _ (hf hn)
        · split
          · exact List.mem_append_left _ (hf hn)
          · exact hf hn
theorem y1ok {s : Fs} {x : Ins} {c : Fa} (h : ofM x = some c) : c ∈ behK s x := by
  unfold behK
  rw [h]
  exact yjl.2 (.inr rfl)
theorem y60 {t s : Fs} {c : Fa} : c ∈ y3c t s ↔ c ∈ t ∧ c ∈ s := by
  unfold y3c
  rw [List.mem_filter, decide_eq_true_eq]
theorem yot {t s : Fs} (h : t.Nodup) : (y3c t s).Nodup := List.Nodup.sublist List.filter_sublist h
theorem y1ga (t s : Fs) : (y3c t s).length ≤ t.length := List.length_filter_le _ _
theorem y1nh {t s : Fs} (h : (y3c t s).length = t.length) {c : Fa} (hc : c ∈ t) : c ∈ s := by
  have e : y3c t s = t := List.filter_sublist.eq_of_length h
  rw [← e, y60] at hc
  exact hc.2
def FaIn (R : Nat) (c : Fa) : Prop := 7 ≤ c.1 ∧ c.1 ≤ 10 ∧ 0 ≤ c.2.1 ∧ c.2.1 < R ∧ -1 ≤ c.2.2 ∧ c.2.2 < R
def FsIn (R : Nat) (s : Fs) : Prop := ∀ c ∈ s, FaIn R c
theorem y27u {f : Fn} {x : Ins} {c : Fa} (hx : y2h f x = true) (h : ofM x = some c) : FaIn (lst f.regs).length c := by
  simp only [y2h, Bool.and_eq_true] at hx
  obtain ⟨⟨⟨⟨⟨⟨_, _⟩, q3⟩, q4⟩, _⟩, _⟩, _⟩ := hx
  unfold ofM at h
  split at h
  · rename_i ho
    injection h with h
    subst h
    have ha : 0 ≤ x.a ∧ x.a < (lst f.regs).length := by
      rcases ho with e | e | e <;> (simp only [yl, e] at q3; exact y3v q3 (by decide))
    refine ⟨?_, ?_, ha.1, ha.2, ?_, ?_⟩ <;> simp only <;> omega
  · split at h
    · rename_i ho
      injection h with h
      subst h
      simp only [yl, ho] at q3 q4
      have ha := y3v q3 (by decide)
      have hb := y3v q4 (by decide)
      refine ⟨?_, ?_, ha.1, ha.2, ?_, hb.2⟩ <;> simp only <;> omega
    · cases h
theorem y1vp {f : Fn} {i : Nat} {s : Fs} (w : Wf f) (hi : i < (lst f.code).length) (h : FsIn (lst f.regs).length s) : FsIn (lst f.regs).length (behK s (ye f i)) := by
  have hx := w.ins i hi
  have hdef : ¬ defr (ye f i) < 0 → 0 ≤ defr (ye f i) ∧ defr (ye f i) < (lst f.regs).length := fun hn => ⟨by omega, w.def hi (by omega)⟩
  have hf : ∀ c, c ∈ s.filter (fun c => !hitF (defr (ye f i)) c) → FaIn (lst f.regs).length c := fun c hc => h c (List.mem_filter.1 hc).1
  intro c hc
  unfold behK at hc
  split at hc
  · rename_i c' hc'
    rcases yjl.1 hc with h1 | h1
    · exact h c h1
    · subst h1; exact y27u hx hc'
  · split at hc
    · exact h c hc
    · rename_i hn
      obtain ⟨d0, d1⟩ := hdef hn
      split at hc
      · exact h c hc
      · split at hc
        · rcases List.mem_append.1 hc with h1 | h1
          · exact hf c h1
          · unfold movL at h1
            obtain ⟨y, hy, rfl⟩ := List.mem_map.1 h1
            have := h y (List.mem_filter.1 hy).1
            exact ⟨this.1, this.2.1, d0, d1, by simp only; omega, by simp only; omega⟩
        · split at hc
          · rcases List.mem_append.1 hc with h1 | h1
            · exact hf c h1
            · simp at h1
              subst h1
              exact ⟨by show (7 : Int) ≤ 8; decide, by show (8 : Int) ≤ 10; decide, d0, d1, by simp only; omega, by simp only; omega⟩
          · exact hf c hc
def bndK (R : Nat) : Nat := 4 * (R * (R + 1))
theorem yxr : ∀ {n : Nat} {l : List Nat}, l.Nodup → (∀ x ∈ l, x < n) → l.length ≤ n
  | 0, [], _, _ => Nat.le_refl _
  | 0, a :: l, _, h => by have := h a (by simp); omega
  | n + 1, l, hd, h => by
    have h1 : (l.filter (· ≠ n)).Nodup := List.Nodup.sublist List.filter_sublist hd
    have h2 := yxr (n := n) h1 (fun x hx => by
      rw [List.mem_filter] at hx
      have := h x hx.1
      have := hx.2
      simp at this
      omega)
    have h3 : l.length ≤ (l.filter (· ≠ n)).length + 1 := by
      clear h h1 h2
      induction l with
      | nil => simp
      | cons a l ih =>
        have hd' := hd
        rw [List.nodup_cons] at hd'
        by_cases e : a = n
        · subst e
          have : l.filter (· ≠ a) = l := by
            rw [List.filter_eq_self]
            intro b hb
            have : b ≠ a := fun e => hd'.1 (e ▸ hb)
            simpa using this
          rw [List.filter_cons_of_neg (by simp), this, List.length_cons]
          exact Nat.le_refl _
        · rw [List.filter_cons_of_pos (by simpa using e), List.length_cons, List.length_cons]
          have := ih hd'.2
          omega
    omega
def y1re (R : Nat) (c : Fa) : Nat := ((c.1 - 7).toNat * R + c.2.1.toNat) * (R + 1) + (c.2.2 + 1).toNat
theorem yf2 {a b c d n : Nat} (hb : b < n) (hd : d < n) (h : a * n + b = c * n + d) : a = c ∧ b = d := by
  have hn : 0 < n := by omega
  have e1 : (a * n + b) / n = a := by rw [Nat.mul_comm, Nat.mul_add_div hn, Nat.div_eq_of_lt hb, Nat.add_zero]
  have e2 : (c * n + d) / n = c := by rw [Nat.mul_comm, Nat.mul_add_div hn, Nat.div_eq_of_lt hd, Nat.add_zero]
  rw [h, e2] at e1
  subst e1
  exact ⟨rfl, by omega⟩
theorem y22s {R : Nat} {s : Fs} (hd : s.Nodup) (h : FsIn R s) : s.length ≤ bndK R := by
  have h1 : (s.map (y1re R)).Nodup := by
    unfold List.Nodup
    rw [List.pairwise_map]
    refine List.Pairwise.imp_of_mem ?_ hd
    intro x y hx hy hne e
    obtain ⟨a1, a2, a3, a4, a5, a6⟩ := h x hx
    obtain ⟨b1, b2, b3, b4, b5, b6⟩ := h y hy
    apply hne
    obtain ⟨x1, x2, x3⟩ := x
    obtain ⟨y1, y2, y3⟩ := y
    simp only at a1 a2 a3 a4 a5 a6 b1 b2 b3 b4 b5 b6
    unfold y1re at e
    simp only at e
    obtain ⟨e1, e2⟩ := yf2 (by omega) (by omega) e
    obtain ⟨e3, e4⟩ := yf2 (by omega) (by omega) e1
    have q1 : x1 = y1 := by omega
    have q2 : x2 = y2 := by omega
    have q3 : x3 = y3 := by omega
    rw [q1, q2, q3]
  have h2 := yxr (n := bndK R) h1 (fun n hn => by
    obtain ⟨c, hc, rfl⟩ := List.mem_map.1 hn
    obtain ⟨a1, a2, a3, a4, a5, a6⟩ := h c hc
    unfold y1re bndK
    have k1 : (c.1 - 7).toNat ≤ 3 := by omega
    have k2 : (c.1 - 7).toNat * R ≤ 3 * R := Nat.mul_le_mul_right R k1
    have k3 : (c.1 - 7).toNat * R + c.2.1.toNat ≤ 4 * R - 1 := by omega
    have k4 : ((c.1 - 7).toNat * R + c.2.1.toNat) * (R + 1) ≤ (4 * R - 1) * (R + 1) := Nat.mul_le_mul_right _ k3
    have k5 : (4 * R - 1) * (R + 1) + (R + 1) = 4 * (R * (R + 1)) := by
      rw [← Nat.succ_mul, ← Nat.mul_assoc]
      congr 1
      omega
    omega)
  rwa [List.length_map] at h2
end Go.Vm
