/- Whether each register is written ahead of all that reads it, in plain words: by ways, and by what is set at each place. In a well formed function the registers that are read and written are registers, and the places that follow are places. Which registers are live, in plain words: by ways, and by what the sweeps over the table leave. What is live ahead of, behind and across a place, as tests. The sweeps end, and leave what is live. What a callee made, as the caller's own: a list, or nothing. Heaps that grow: what lies where, behind one more object, behind one that is turned. The machine's sets of registers. What the functions of 'ins' answer of single instructions. Which instructions may throw. A number in a list: the library's 'Contains'. flow.Next, flow.Caught. Clones of lists of numbers. What 'Uses' answers. The register that an instruction writes. live.Of: the sweeps over the table are as the plain words have them. -/
import Derived.Test.YthemfgeagohdhaaSX
import Derived.Test.YthemfgeagohdhaaSTa
set_option linter.unusedSimpArgs false
set_option linter.unusedVariables false
set_option linter.unusedSectionVars false
namespace Go.Vm
def usesAt (f : Fn) (i : Nat) : List Int := lst (uses (insAt f i))
def succR (f : Fn) (r : Int) (i : Nat) : List Int := caughtL f i ++ if defr (insAt f i) = r then [] else nextL f i
def badR (f : Fn) (r : Int) : Prop := ∃ i, Rch (lst f.code).length (succR f r) [0] i ∧ r ∈ usesAt f i
def setP (f : Fn) : Prop := ∀ r : Int, 0 ≤ r → r < (lst f.regs).length → r ∉ lst f.params → ¬ badR f r
open Classical in
noncomputable def setM (f : Fn) : Bool := wf f && decide (setP f)
abbrev Tab := List (Option (List Bool))
def andB (t s : List Bool) : List Bool := List.zipWith (· && ·) t s
def lessB (t s : List Bool) : Bool := (List.zipWith (fun a b => a && !b) t s).any id
def meetM (s : List Bool) (to : Int) (p : Tab × List Int) : Tab × List Int :=
  match p.1[to.toNat]? with
  | some (some t) => if lessB t s then (p.1.set to.toNat (some (andB t s)), p.2 ++ [to]) else p
  | _ => (p.1.set to.toNat (some s), p.2 ++ [to])
def meets_ (s : List Bool) : List Int → Tab × List Int → Tab × List Int
  | [], p => p
  | to :: l, p => meets_ s l (meetM s to p)
def writeB (d : Int) (s : List Bool) : List Bool := if 0 ≤ d then s.set d.toNat true else s
def tabAt (ins : Tab) (i : Nat) : List Bool := (ins[i]?.join).getD []
def setLoop (f : Fn) : Nat → Tab → List Int → Option Tab
  | 0, _, _ => none
  | k + 1, ins, work => match work.getLast? with
    | none => some ins
    | some i => match meets_ (tabAt ins i.toNat) (caughtL f i) (ins, work.dropLast) with
      | (ins1, w1) => match meets_ (writeB (defr (insAt f i.toNat)) (tabAt ins i.toNat)) (nextL f i) (ins1, w1) with
        | (ins2, w2) => setLoop f k ins2 w2
def wt (R : Nat) : Option (List Bool) → Nat
  | none => R + 1
  | some s => s.countP id
def pot (R : Nat) (ins : Tab) : Nat := (ins.map (wt R)).sum
def LeB (t s : List Bool) : Prop := ∀ r : Nat, t[r]? = some true → s[r]? = some true
theorem LeB.refl (t : List Bool) : LeB t t := fun _ h => h
theorem LeB.trans {a b c : List Bool} (h : LeB a b) (h' : LeB b c) : LeB a c := fun r h1 => h' r (h r h1)
theorem andB_len {t s : List Bool} (h : t.length = s.length) : (andB t s).length = t.length := by simp [andB, h]
theorem andB_get {t s : List Bool} {r : Nat} : (andB t s)[r]? = some true ↔ t[r]? = some true ∧ s[r]? = some true := by
  rw [andB, List.getElem?_zipWith]
  cases t[r]? <;> cases s[r]? <;> simp
theorem andB_left (t s : List Bool) : LeB (andB t s) t := fun _ h => (andB_get.1 h).1
theorem andB_right (t s : List Bool) : LeB (andB t s) s := fun _ h => (andB_get.1 h).2
theorem lessB_iff {t s : List Bool} : lessB t s = true ↔ ∃ r : Nat, t[r]? = some true ∧ s[r]? = some false := by
  rw [lessB, List.any_eq_true]
  constructor
  · rintro ⟨b, hb, h1⟩
    obtain ⟨r, hr⟩ := List.getElem?_of_mem hb
    rw [List.getElem?_zipWith] at hr
    refine ⟨r, ?_⟩
    cases ht : t[r]? <;> cases hs : s[r]? <;> rw [ht, hs] at hr <;> simp_all
  · rintro ⟨r, h1, h2⟩
    refine ⟨true, List.mem_of_getElem? (i := r) ?_, rfl⟩
    rw [List.getElem?_zipWith, h1, h2]; rfl
theorem count_lt : ∀ {t s : List Bool}, t.length = s.length → LeB s t → (∃ r : Nat, t[r]? = some true ∧ s[r]? = some false) → s.countP id < t.countP id
  | [], [], _, _, ⟨r, h, _⟩ => by simp at h
  | a :: t, b :: s, hl, hle, ⟨r, h1, h2⟩ => by
    have hl' : t.length = s.length := by simpa using hl
    have hle' : LeB s t := fun q h => by have := hle (q + 1) (by simpa using h); simpa using this
    have le : ∀ {t s : List Bool}, t.length = s.length → LeB s t → s.countP id ≤ t.countP id := by
      intro t
      induction t with
      | nil => intro s hl _; rw [List.length_nil] at hl; rw [List.eq_nil_of_length_eq_zero hl.symm]; exact Nat.le_refl _
      | cons a t ih =>
        intro s hl hle
        cases s with
        | nil => simp at hl
        | cons b s =>
          have := ih (s := s) (by simpa using hl) (fun q h => by have := hle (q + 1) (by simpa using h); simpa using this)
          have h0 := hle 0
          simp only [List.countP_cons]
          cases a <;> cases b <;> simp_all <;> omega
    simp only [List.countP_cons]
    cases r with
    | zero =>
      simp at h1 h2
      subst h1; subst h2
      have := le hl' hle'
      simp; omega
    | succ r =>
      have := count_lt hl' hle' ⟨r, by simpa using h1, by simpa using h2⟩
      have h0 := hle 0
      cases a <;> cases b <;> simp_all <;> omega
  | [], _ :: _, h, _, _ => by simp at h
  | _ :: _, [], h, _, _ => by simp at h
def LeT (a b : Tab) : Prop := ∀ (i : Nat) s, a[i]? = some (some s) → ∃ t, b[i]? = some (some t) ∧ LeB t s
theorem LeT.refl (a : Tab) : LeT a a := fun _ s h => ⟨s, h, .refl _⟩
theorem LeT.trans {a b c : Tab} (h : LeT a b) (h' : LeT b c) : LeT a c := fun i s hs => by
  obtain ⟨t, h1, h2⟩ := h i s hs
  obtain ⟨u, h3, h4⟩ := h' i t h1
  exact ⟨u, h3, h4.trans h2⟩
def LeAt (ins : Tab) (to : Int) (s : List Bool) : Prop := ∃ t, ins[to.toNat]? = some (some t) ∧ LeB t s
theorem LeAt.mono {a b : Tab} (h : LeT a b) {to : Int} {s : List Bool} (hs : LeAt a to s) : LeAt b to s := by
  obtain ⟨t, h1, h2⟩ := hs
  obtain ⟨u, h3, h4⟩ := h _ _ h1
  exact ⟨u, h3, h4.trans h2⟩
theorem set_at {ins : Tab} {i j : Nat} {x y : Option (List Bool)} (h : (ins.set i x)[j]? = some y) : (j = i ∧ y = x) ∨ (j ≠ i ∧ ins[j]? = some y) := by
  rw [List.getElem?_set] at h
  split at h
  · rename_i e
    split at h
    · injection h with h; exact .inl ⟨e.symm, h.symm⟩
    · cases h
  · rename_i e; exact .inr ⟨fun e' => e e'.symm, h⟩
theorem set_same_at {ins : Tab} {i : Nat} {x : Option (List Bool)} (h : i < ins.length) : (ins.set i x)[i]? = some x := by simp [h]
theorem set_ne_at {ins : Tab} {i j : Nat} {x : Option (List Bool)} (h : j ≠ i) : (ins.set i x)[j]? = ins[j]? := List.getElem?_set_ne (fun e => h e.symm)
section
variable {n R : Nat}
structure TblOk (n R : Nat) (ins : Tab) : Prop where
  len : ins.length = n
  rows : ∀ (i : Nat) s, ins[i]? = some (some s) → s.length = R
structure MeetR (n R : Nat) (s : List Bool) (T : Int → Prop) (p q : Tab × List Int) : Prop where
  ok : TblOk n R q.1
  le : LeT p.1 q.1
  work : ∀ (i : Nat) t, q.1[i]? = some (some t) → p.1[i]? = some (some t) ∨ (i : Int) ∈ q.2
  keep : ∀ j, j ∈ p.2 → j ∈ q.2
  fresh : ∀ j, j ∈ q.2 → j ∈ p.2 ∨ (0 ≤ j ∧ j < n ∧ ∃ t, q.1[j.toNat]? = some (some t))
  src : ∀ (i r : Nat) t, q.1[i]? = some (some t) → t[r]? = some false → (∃ u, p.1[i]? = some (some u) ∧ u[r]? = some false) ∨ (s[r]? = some false ∧ T i)
  pot : 2 * pot R q.1 + q.2.length ≤ 2 * Go.Vm.pot R p.1 + p.2.length
theorem MeetR.refl {s : List Bool} {T : Int → Prop} {p : Tab × List Int} (h : TblOk n R p.1) : MeetR n R s T p p :=
  ⟨h, .refl _, fun _ _ h => .inl h, fun _ h => h, fun _ h => .inl h, fun _ _ _ h1 h2 => .inl ⟨_, h1, h2⟩, Nat.le_refl _⟩
theorem pot_set {ins : Tab} {i : Nat} {x y : Option (List Bool)} (h : ins[i]? = some x) : pot R (ins.set i y) + wt R x = pot R ins + wt R y := by
  unfold pot
  induction ins generalizing i with
  | nil => simp at h
  | cons a ins ih =>
    cases i with
    | zero =>
      simp at h
      subst h
      simp only [List.set_cons_zero, List.map_cons, List.sum_cons]
      omega
    | succ i =>
      simp only [List.getElem?_cons_succ] at h
      have := ih h
      simp only [List.set_cons_succ, List.map_cons, List.sum_cons]
      omega
theorem meetM_spec {s : List Bool} {to : Int} {p : Tab × List Int} (hp : TblOk n R p.1) (hs : s.length = R) (h0 : 0 ≤ to) (h1 : to < n) : MeetR n R s (· = to) p (meetM s to p) ∧ LeAt (meetM s to p).1 to s := by
  obtain ⟨ins, work⟩ := p
  simp only at hp
  have hlt : to.toNat < ins.length := by rw [hp.len]; omega
  unfold meetM
  simp only
  obtain ⟨x, hx⟩ : ∃ x, ins[to.toNat]? = some x := ⟨_, List.getElem?_eq_getElem hlt⟩
  have hpot := fun y => pot_set (R := R) (y := y) hx
  cases x with
  | none =>
    rw [hx]
    simp only
    have hc : s.countP id ≤ R := by rw [← hs]; exact List.countP_le_length
    refine ⟨⟨⟨by simpa using hp.len, fun i t ht => ?_⟩, fun i t ht => ?_, fun i t ht => ?_, fun j hj => List.mem_append_left _ hj, fun j hj => ?_, fun i r t ht hr => ?_, ?_⟩, s, set_same_at hlt, .refl _⟩
    · rcases set_at ht with ⟨_, e⟩ | ⟨_, h⟩
      · injection e with e; rw [e]; exact hs
      · exact hp.rows i t h
    · by_cases e : i = to.toNat
      · subst e; simp only at ht; rw [hx] at ht; cases ht
      · exact ⟨t, by simp only; rw [set_ne_at e]; exact ht, .refl _⟩
    · rcases set_at ht with ⟨e, _⟩ | ⟨_, h⟩
      · right; simp only [List.mem_append, List.mem_singleton]; right; omega
      · exact .inl h
    · rcases List.mem_append.1 hj with h | h
      · exact .inl h
      · rw [List.mem_singleton] at h
        subst h
        exact .inr ⟨h0, h1, s, set_same_at hlt⟩
    · rcases set_at ht with ⟨ei, e⟩ | ⟨_, h⟩
      · injection e with e; subst e; exact .inr ⟨hr, by omega⟩
      · exact .inl ⟨t, h, hr⟩
    · have := hpot (some s)
      simp only [wt] at this
      simp only [List.length_append, List.length_singleton] at this ⊢
      omega
  | some t0 =>
    rw [hx]
    simp only
    have ht0 := hp.rows _ _ hx
    split
    · rename_i hl
      obtain ⟨r0, q1, q2⟩ := lessB_iff.1 hl
      have hlen : (andB t0 s).length = R := by rw [andB_len (by omega)]; exact ht0
      have hlt2 : (andB t0 s).countP id < t0.countP id := count_lt (by omega) (andB_left _ _) ⟨r0, q1, by
        have hr : r0 < (andB t0 s).length := by rw [hlen]; rw [← ht0]; exact (List.getElem?_eq_some_iff.1 q1).1
        rw [List.getElem?_eq_getElem hr]
        cases hb : (andB t0 s)[r0] with
        | false => rfl
        | true =>
          have := (andB_get (t := t0) (s := s) (r := r0)).1 (by rw [List.getElem?_eq_getElem hr, hb])
          rw [q2] at this; cases this.2⟩
      refine ⟨⟨⟨by simpa using hp.len, fun i t ht => ?_⟩, fun i t ht => ?_, fun i t ht => ?_, fun j hj => List.mem_append_left _ hj, fun j hj => ?_, fun i r t ht hr => ?_, ?_⟩, andB t0 s, set_same_at hlt, andB_right _ _⟩
      · rcases set_at ht with ⟨_, e⟩ | ⟨_, h⟩
        · injection e with e; rw [e]; exact hlen
        · exact hp.rows i t h
      · by_cases e : i = to.toNat
        · subst e
          simp only at ht
          rw [hx] at ht
          injection ht with ht; injection ht with ht; subst ht
          exact ⟨_, set_same_at hlt, andB_left _ _⟩
        · exact ⟨t, by simp only; rw [set_ne_at e]; exact ht, .refl _⟩
      · rcases set_at ht with ⟨e, _⟩ | ⟨_, h⟩
        · right; simp only [List.mem_append, List.mem_singleton]; right; omega
        · exact .inl h
      · rcases List.mem_append.1 hj with h | h
        · exact .inl h
        · rw [List.mem_singleton] at h
          subst h
          exact .inr ⟨h0, h1, _, set_same_at hlt⟩
      · rcases set_at ht with ⟨ei, e⟩ | ⟨_, h⟩
        · injection e with e
          subst e
          subst ei
          have hr1 : r < (andB t0 s).length := (List.getElem?_eq_some_iff.1 hr).1
          have hrt : r < t0.length := by omega
          have hrs : r < s.length := by omega
          rw [andB, List.getElem?_zipWith, List.getElem?_eq_getElem hrt, List.getElem?_eq_getElem hrs] at hr
          cases ha : t0[r] with
          | false => exact .inl ⟨t0, hx, by rw [List.getElem?_eq_getElem hrt, ha]⟩
          | true =>
            rw [ha] at hr
            right
            rw [List.getElem?_eq_getElem hrs]
            exact ⟨by simpa using hr, by omega⟩
        · exact .inl ⟨t, h, hr⟩
      · have := hpot (some (andB t0 s))
        simp only [wt] at this
        simp only [List.length_append, List.length_singleton] at this ⊢
        omega
    · rename_i hl
      refine ⟨.refl hp, t0, hx, fun r hr => ?_⟩
      have hr1 : r < s.length := by have := (List.getElem?_eq_some_iff.1 hr).1; omega
      rw [List.getElem?_eq_getElem hr1]
      cases hb : s[r] with
      | true => rfl
      | false => exact (hl (lessB_iff.2 ⟨r, hr, by rw [List.getElem?_eq_getElem hr1, hb]⟩)).elim
theorem MeetR.trans {s : List Bool} {T : Int → Prop} {p q u : Tab × List Int} (h : MeetR n R s T p q) (h' : MeetR n R s T q u) : MeetR n R s T p u := by
  refine ⟨h'.ok, h.le.trans h'.le, fun i t ht => ?_, fun j hj => h'.keep j (h.keep j hj), fun j hj => ?_, fun i r t ht hr => ?_, Nat.le_trans h'.pot h.pot⟩
  · rcases h'.work i t ht with h1 | h1
    · rcases h.work i t h1 with h2 | h2
      · exact .inl h2
      · exact .inr (h'.keep _ h2)
    · exact .inr h1
  · rcases h'.fresh j hj with h1 | h1
    · rcases h.fresh j h1 with h2 | ⟨a, b, t, ht⟩
      · exact .inl h2
      · obtain ⟨v, hv, _⟩ := h'.le _ _ ht
        exact .inr ⟨a, b, v, hv⟩
    · exact .inr h1
  · rcases h'.src i r t ht hr with ⟨v, h1, h2⟩ | h1
    · exact h.src i r v h1 h2
    · exact .inr h1
theorem MeetR.mono {s : List Bool} {T T' : Int → Prop} {p q : Tab × List Int} (h : MeetR n R s T p q) (hT : ∀ j, T j → T' j) : MeetR n R s T' p q :=
  ⟨h.ok, h.le, h.work, h.keep, h.fresh, fun i r t h1 h2 => (h.src i r t h1 h2).imp id fun x => ⟨x.1, hT _ x.2⟩, h.pot⟩
theorem meets_spec {s : List Bool} (hs : s.length = R) : ∀ (l : List Int) (p : Tab × List Int), TblOk n R p.1 → (∀ to ∈ l, 0 ≤ to ∧ to < n) → MeetR n R s (· ∈ l) p (meets_ s l p) ∧ ∀ to ∈ l, LeAt (meets_ s l p).1 to s
  | [], p, hp, _ => ⟨.refl hp, fun _ h => by cases h⟩
  | to :: l, p, hp, hl => by
    obtain ⟨a1, a2⟩ := meetM_spec hp hs (hl to (by simp)).1 (hl to (by simp)).2
    obtain ⟨b1, b2⟩ := meets_spec hs l (meetM s to p) a1.ok (fun t ht => hl t (by simp [ht]))
    refine ⟨(a1.mono fun j e => by simp [e]).trans (b1.mono fun j h => by simp [h]), fun t ht => ?_⟩
    rcases List.mem_cons.1 ht with rfl | ht
    · exact a2.mono b1.le
    · exact b2 t ht
end
end Go.Vm
namespace Go.Vm
theorem fieldOk_in {R : List Int} {k r : Int} (h : fieldOk R k r = true) (hk : 0 ≤ k) : 0 ≤ r ∧ r < R.length := by
  simp only [fieldOk, Bool.or_eq_true, decide_eq_true_eq, Bool.and_eq_true, inR] at h
  omega
theorem numK_nn (n : Int) : 0 ≤ (numK n).1 ∧ 0 ≤ (numK n).2.1 ∧ 0 ≤ (numK n).2.2 := by
  unfold numK
  repeat' split
  all_goals decide
set_option maxHeartbeats 4000000 in
theorem right_uses {f : Fn} {x : Ins} (h : rightM f x = true) {u : Int} (hu : u ∈ lst (uses x)) : 0 ≤ u ∧ u < (lst f.regs).length := by
  simp only [rightM, Bool.and_eq_true] at h
  obtain ⟨⟨⟨⟨⟨⟨h0, h1⟩, h2⟩, h3⟩, h4⟩, h5⟩, h6⟩ := h
  by_cases hc : calls x.op = true
  · have hu' : u ∈ lst x.args := by simpa [uses, hc] using hu
    simp only [argsOk, hc, Bool.not_true, Bool.false_or, Bool.and_eq_true, List.all_eq_true] at h5
    have := h5.2 u hu'
    simpa [inR] using this
  · have key : (u = x.a ∧ 0 ≤ (kindsM x).2.1) ∨ (u = x.b ∧ 0 ≤ (kindsM x).2.2.1) ∨ (u = x.c ∧ 0 ≤ (kindsM x).2.2.2.1) ∨ False := by
      rcases op_cases x.op with h|h|h|h|h|h|h|h|h|h|h|h|h|h|h|h|h|h|h|h|h|h|h|h|h|h|h|h|h|h|h|h|h|h|h
      all_goals first
        | (exfalso; simp [uses, reads, calls, h] at hu; done)
        | (exfalso; simp [calls, h] at hc; done)
        | (simp [uses, reads, calls, h] at hu; simp [kindsM, h] at h0 ⊢; first | omega | (rcases hu with rfl | rfl <;> simp [numK_nn]) | (rcases hu with rfl | rfl | rfl <;> simp) | (subst hu; simp [numK_nn]))
        | (simp [uses, reads, calls, h] at hu; simp [kindsM, h]; split at hu <;> simp_all; done)
        | (exfalso; simp [uses, reads, calls, lo_f h] at hu; done)
        | (exfalso; simp [uses, reads, calls, hi_f h] at hu; done)
        | skip
      · by_cases hb : x.b < 0
        · simp [uses, calls, h, hb] at hu
          exact .inl ⟨hu, by simp [kindsM, h]⟩
        · simp [uses, calls, h, hb] at hu
          rcases hu with hu | hu
          · exact .inl ⟨hu, by simp [kindsM, h]⟩
          · have : ¬ x.b = -1 := by omega
            exact .inr (.inl ⟨hu, by simp [kindsM, h, this]⟩)
      · by_cases ha : 0 ≤ x.a
        · simp [uses, calls, h, ha] at hu
          have : ¬ x.a = -1 := by omega
          exact .inl ⟨hu, by simp [kindsM, h, this]⟩
        · simp [uses, calls, h, ha] at hu
    rcases key with ⟨rfl, hk⟩ | ⟨rfl, hk⟩ | ⟨rfl, hk⟩ | hk
    · exact fieldOk_in h2 hk
    · exact fieldOk_in h3 hk
    · exact fieldOk_in h4 hk
    · exact hk.elim
set_option maxHeartbeats 4000000 in
theorem right_def {f : Fn} {x : Ins} (h : rightM f x = true) (hd : ¬ defr x = -1) : 0 ≤ defr x ∧ defr x < (lst f.regs).length := by
  simp only [rightM, Bool.and_eq_true] at h
  obtain ⟨⟨⟨⟨⟨⟨h0, h1⟩, h2⟩, h3⟩, h4⟩, h5⟩, h6⟩ := h
  have key : defr x = x.d ∧ 0 ≤ (kindsM x).1 := by
    unfold defr at hd ⊢
    split at hd
    · rename_i hw
      rw [if_pos hw]
      refine ⟨rfl, ?_⟩
      rcases op_cases x.op with h|h|h|h|h|h|h|h|h|h|h|h|h|h|h|h|h|h|h|h|h|h|h|h|h|h|h|h|h|h|h|h|h|h|h
      all_goals first
        | (exfalso; simp [writes, calls, h] at hw; done)
        | (simp [kindsM, h, numK_nn, hd]; done)
        | (exfalso; simp [writes, calls, lo_f h] at hw; done)
        | (exfalso; simp [writes, calls, hi_f h] at hw; done)
    · exact (hd rfl).elim
  rw [key.1]
  exact fieldOk_in h1 key.2
theorem Wf.uses {f : Fn} (w : Wf f) {i : Nat} (hi : i < (lst f.code).length) {u : Int} (hu : u ∈ lst (Go.Vm.uses (insAt f i))) : 0 ≤ u ∧ u < (lst f.regs).length := right_uses (w.ins i hi) hu
theorem Wf.def {f : Fn} (w : Wf f) {i : Nat} (hi : i < (lst f.code).length) (hd : 0 ≤ defr (insAt f i)) : defr (insAt f i) < (lst f.regs).length := (right_def (w.ins i hi) (by omega)).2
theorem mem_addN {l : List Int} {j a : Int} (h : j ∈ addN l a) : j ∈ l ∨ j = a := by
  unfold addN at h
  split at h
  · exact .inl h
  · rw [List.mem_append, List.mem_singleton] at h; exact h
theorem Wf.next {f : Fn} (w : Wf f) {i : Nat} (hi : i < (lst f.code).length) {to : Int} (h : to ∈ nextL f i) : 0 ≤ to ∧ to < (lst f.code).length := by
  rw [nextL, if_neg (by omega), show ((i : Int)).toNat = i by omega] at h
  have hself : ∀ {j : Int}, j ∈ (if ends (insAt f i).op = true then [] else [(i : Int) + 1]) → 0 ≤ j ∧ j < (lst f.code).length := by
    intro j hj
    split at hj
    · cases hj
    · rename_i he
      rw [List.mem_singleton] at hj
      subst hj
      refine ⟨by omega, ?_⟩
      by_cases e : i = (lst f.code).length - 1
      · subst e; exact (he w.last).elim
      · omega
  unfold nextI at h
  split at h
  · rename_i hl
    rcases mem_addN h with h | h
    · exact hself h
    · rw [h]; exact w.leads hi hl
  · exact hself h
theorem caughtG_in {i to : Int} : ∀ {rs : List Row} {l : List Int}, to ∈ caughtG i rs l → to ∈ l ∨ ∃ r ∈ rs, r.at_ = to
  | [], l, h => .inl h
  | r :: rs, l, h => by
    unfold caughtG at h
    split at h
    · split at h
      · rcases mem_addN h with h | h
        · exact .inl h
        · exact .inr ⟨r, by simp, h.symm⟩
      · rcases caughtG_in h with h | ⟨r', h1, h2⟩
        · rcases mem_addN h with h | h
          · exact .inl h
          · exact .inr ⟨r, by simp, h.symm⟩
        · exact .inr ⟨r', by simp [h1], h2⟩
    · rcases caughtG_in h with h | ⟨r', h1, h2⟩
      · exact .inl h
      · exact .inr ⟨r', by simp [h1], h2⟩
theorem Wf.caught {f : Fn} (w : Wf f) {i to : Int} (h : to ∈ caughtL f i) : 0 ≤ to ∧ to < (lst f.code).length := by
  rw [caughtL] at h
  split at h
  · cases h
  · split at h
    · rcases caughtG_in h with h | ⟨r, h1, h2⟩
      · cases h
      · have := w.row h1
        rw [← h2]; exact ⟨this.a0, this.an⟩
    · cases h
theorem addN_nodup {l : List Int} {j : Int} (h : l.Nodup) : (addN l j).Nodup := by
  unfold addN
  split
  · exact h
  · rename_i hc
    rw [List.nodup_append]
    refine ⟨h, by simp, fun a ha b hb => ?_⟩
    rw [List.mem_singleton] at hb
    subst hb
    rintro rfl
    exact hc (by simpa using ha)
theorem caughtG_nodup {i : Int} : ∀ {rs : List Row} {l : List Int}, l.Nodup → (caughtG i rs l).Nodup
  | [], _, h => h
  | r :: rs, l, h => by
    rw [caughtG]
    split
    · split
      · exact addN_nodup h
      · exact caughtG_nodup (addN_nodup h)
    · exact caughtG_nodup h
theorem Wf.caught_len {f : Fn} (w : Wf f) (i : Int) : (caughtL f i).length ≤ 20000 := by
  have hd : (caughtL f i).Nodup := by
    rw [caughtL]
    split
    · simp
    · split
      · exact caughtG_nodup (by simp)
      · simp
  have hs : caughtL f i ⊆ (List.range (lst f.code).length).map fun k => ((k : Nat) : Int) := by
    intro to ht
    have := w.caught ht
    rw [List.mem_map]
    exact ⟨to.toNat, List.mem_range.2 (by omega), by omega⟩
  have := hd.length_le_of_subset hs
  have hn := w.n2
  rw [List.length_map, List.length_range] at this
  omega
theorem parOk_in {R : List Int} : ∀ {l : List Int} {i : Nat} {seen : List Int} {p : Int}, parOk R i seen l = true → p ∈ l → 0 ≤ p ∧ p < R.length
  | q :: l, i, seen, p, h, hp => by
    simp only [parOk, Bool.and_eq_true] at h
    rcases List.mem_cons.1 hp with rfl | hp
    · simpa [inR] using h.1.1.1
    · exact parOk_in h.2 hp
theorem parOk_len {R : List Int} : ∀ {l : List Int} {i : Nat} {seen : List Int}, parOk R i seen l = true → l = [] ∨ i + l.length ≤ 21
  | [], _, _, _ => .inl rfl
  | q :: l, i, seen, h => by
    simp only [parOk, Bool.and_eq_true, decide_eq_true_eq] at h
    right
    rcases parOk_len h.2 with h1 | h1
    · subst h1; simp; omega
    · simp only [List.length_cons]; omega
end Go.Vm
namespace Go.Vm
def fromP (f : Fn) (A : List Int) (r : Nat) : Prop := ∃ i, Rch (lst f.code).length (succR f r) A i ∧ (r : Int) ∈ usesAt f i
theorem Rch.one {n : Nat} {S : Nat → List Int} {i k : Nat} : Rch n S [(i : Int)] k ↔ (k = i ∧ i < n) ∨ (i < n ∧ Rch n S (S i) k) := by
  constructor
  · intro h
    induction h with
    | base hj j0 j1 =>
      rw [List.mem_singleton] at hj
      subst hj
      exact .inl ⟨by omega, by omega⟩
    | step h hj j0 j1 ih =>
      rcases ih with ⟨e, hi⟩ | ⟨hi, h'⟩
      · subst e
        exact .inr ⟨hi, .base hj j0 j1⟩
      · exact .inr ⟨hi, .step h' hj j0 j1⟩
  · rintro (⟨e, hi⟩ | ⟨hi, h⟩)
    · subst e
      have := Rch.base (n := n) (S := S) (A := [(k : Int)]) (j := (k : Int)) (by simp) (by omega) (by omega)
      simpa using this
    · have hb : Rch n S [(i : Int)] i := by
        have := Rch.base (n := n) (S := S) (A := [(i : Int)]) (j := (i : Int)) (by simp) (by omega) (by omega)
        simpa using this
      induction h with
      | base hj j0 j1 => exact .step hb hj j0 j1
      | step h hj j0 j1 ih => exact .step ih hj j0 j1
theorem Rch.some_ {n : Nat} {S : Nat → List Int} {A : List Int} {k : Nat} : Rch n S A k ↔ ∃ a ∈ A, 0 ≤ a ∧ a < n ∧ Rch n S [a] k := by
  constructor
  · intro h
    induction h with
    | base hj j0 j1 => exact ⟨_, hj, j0, j1, .base (by simp) j0 j1⟩
    | step h hj j0 j1 ih =>
      obtain ⟨a, ha, a0, a1, h'⟩ := ih
      exact ⟨a, ha, a0, a1, .step h' hj j0 j1⟩
  · rintro ⟨a, ha, a0, a1, h⟩
    induction h with
    | base hj j0 j1 =>
      rw [List.mem_singleton] at hj
      subst hj
      exact .base ha j0 j1
    | step h hj j0 j1 ih => exact .step ih hj j0 j1
section
variable (f : Fn)
theorem from_some {A : List Int} {r : Nat} : fromP f A r ↔ ∃ a ∈ A, 0 ≤ a ∧ a < (lst f.code).length ∧ fromP f [a] r := by
  unfold fromP
  constructor
  · rintro ⟨i, h, hu⟩
    obtain ⟨a, ha, a0, a1, h'⟩ := Rch.some_.1 h
    exact ⟨a, ha, a0, a1, i, h', hu⟩
  · rintro ⟨a, ha, a0, a1, i, h', hu⟩
    exact ⟨i, Rch.some_.2 ⟨a, ha, a0, a1, h'⟩, hu⟩
theorem from_one {i r : Nat} (hi : i < (lst f.code).length) : fromP f [(i : Int)] r ↔ (r : Int) ∈ usesAt f i ∨ fromP f (caughtL f i) r ∨ (defr (insAt f i) ≠ r ∧ fromP f (nextL f i) r) := by
  have key : fromP f [(i : Int)] r ↔ (r : Int) ∈ usesAt f i ∨ fromP f (succR f r i) r := by
    unfold fromP
    constructor
    · rintro ⟨k, h, hu⟩
      rcases Rch.one.1 h with ⟨e, _⟩ | ⟨_, h'⟩
      · subst e; exact .inl hu
      · exact .inr ⟨k, h', hu⟩
    · rintro (hu | ⟨k, h', hu⟩)
      · exact ⟨i, Rch.one.2 (.inl ⟨rfl, hi⟩), hu⟩
      · exact ⟨k, Rch.one.2 (.inr ⟨hi, h'⟩), hu⟩
  rw [key, from_some, from_some, from_some]
  unfold succR
  constructor
  · rintro (h | ⟨a, ha, h⟩)
    · exact .inl h
    · rw [List.mem_append] at ha
      rcases ha with ha | ha
      · exact .inr (.inl ⟨a, ha, h⟩)
      · split at ha
        · cases ha
        · rename_i hd
          exact .inr (.inr ⟨hd, a, ha, h⟩)
  · rintro (h | ⟨a, ha, h⟩ | ⟨hd, a, ha, h⟩)
    · exact .inl h
    · exact .inr ⟨a, List.mem_append_left _ ha, h⟩
    · refine .inr ⟨a, List.mem_append_right _ ?_, h⟩
      rw [if_neg hd]; exact ha
structure Tb where
  b : List Ws
  a : List Ws
  h : List Ws
def rowW (l : List Ws) (i : Nat) : Ws := l.getD i []
def joins (l : List Ws) (ts : List Int) (s : Ws) : Ws := ts.foldl (fun s to => joinW s (rowW l to.toNat)) s
def adds (us : List Int) (s : Ws) : Ws := us.foldl (fun s u => addW s u.toNat) s
def dropD (d : Int) (s : Ws) : Ws := if 0 ≤ d then dropW s d.toNat else s
def aftT (t : Tb) (i : Nat) : Ws := joins t.b (nextL f i) (rowW t.a i)
def hanT (t : Tb) (i : Nat) : Ws := joins t.b (caughtL f i) (rowW t.h i)
def befT (t : Tb) (i : Nat) : Ws := adds (usesAt f i) (joinW (dropD (defr (insAt f i)) (aftT f t i)) (hanT f t i))
def stepT (t : Tb) (i : Nat) : Tb := ⟨t.b.set i (joinW (rowW t.b i) (befT f t i)), t.a.set i (aftT f t i), t.h.set i (hanT f t i)⟩
def moreT (t : Tb) (i : Nat) : Bool := moreW (rowW t.b i) (befT f t i)
def sweepT : Nat → Tb → Tb × Bool
  | 0, t => (t, false)
  | i + 1, t => ((sweepT i (stepT f t i)).1, moreT f t i || (sweepT i (stepT f t i)).2)
def liveLoop : Nat → Tb → Option Tb
  | 0, _ => none
  | k + 1, t => if (sweepT f (lst f.code).length t).2 then liveLoop k (sweepT f (lst f.code).length t).1 else some (sweepT f (lst f.code).length t).1
structure TbOk (n W : Nat) (t : Tb) : Prop where
  b : t.b.length = n
  a : t.a.length = n
  h : t.h.length = n
  bw : ∀ i, i < n → (rowW t.b i).length = W
  aw : ∀ i, i < n → (rowW t.a i).length = W
  hw : ∀ i, i < n → (rowW t.h i).length = W
theorem row_set {l : List Ws} {i j : Nat} {x : Ws} (hi : i < l.length) : rowW (l.set i x) j = if j = i then x else rowW l j := by
  unfold rowW
  rw [List.getD_eq_getElem?_getD, List.getElem?_set]
  by_cases e : j = i
  · subst e; simp [hi]
  · rw [if_neg (fun h => e h.symm), if_neg e, List.getD_eq_getElem?_getD]
variable {W n : Nat} {l : List Ws}
theorem joins_len : ∀ (ts : List Int) (s : Ws), s.length = W → (∀ i, i < n → (rowW l i).length = W) → (∀ to ∈ ts, 0 ≤ to ∧ to < n) → (joins l ts s).length = W
  | [], s, hs, _, _ => hs
  | to :: ts, s, hs, hl, ht => by
    have h1 := ht to (by simp)
    refine joins_len ts _ ?_ hl fun t h => ht t (by simp [h])
    rw [joinW_len (by rw [hs, hl _ (by omega)]), hs]
theorem joins_bit : ∀ (ts : List Int) (s : Ws), s.length = W → (∀ i, i < n → (rowW l i).length = W) → (∀ to ∈ ts, 0 ≤ to ∧ to < n) → ∀ r, bit (joins l ts s) r = true ↔ bit s r = true ∨ ∃ to ∈ ts, bit (rowW l to.toNat) r = true
  | [], s, hs, _, _, r => by simp [joins]
  | to :: ts, s, hs, hl, ht, r => by
    have h1 := ht to (by simp)
    have e : s.length = (rowW l to.toNat).length := by rw [hs, hl _ (by omega)]
    have := joins_bit ts (joinW s (rowW l to.toNat)) (by rw [joinW_len e, hs]) hl (fun t h => ht t (by simp [h])) r
    have e2 : joins l (to :: ts) s = joins l ts (joinW s (rowW l to.toNat)) := rfl
    rw [e2, this, bit_join e, Bool.or_eq_true]
    simp only [List.mem_cons]
    constructor
    · rintro ((h | h) | ⟨t, h, h'⟩)
      · exact .inl h
      · exact .inr ⟨to, .inl rfl, h⟩
      · exact .inr ⟨t, .inr h, h'⟩
    · rintro (h | ⟨t, (rfl | h), h'⟩)
      · exact .inl (.inl h)
      · exact .inl (.inr h')
      · exact .inr ⟨t, h, h'⟩
theorem adds_len : ∀ (us : List Int) (s : Ws), (adds us s).length = s.length
  | [], _ => rfl
  | u :: us, s => by
    have := adds_len us (addW s u.toNat)
    rw [addW_len] at this
    exact this
theorem adds_bit : ∀ (us : List Int) (s : Ws), (∀ u ∈ us, 0 ≤ u ∧ u.toNat / 64 < s.length) → ∀ r, bit (adds us s) r = true ↔ bit s r = true ∨ ((r : Nat) : Int) ∈ us
  | [], s, _, r => by simp [adds]
  | u :: us, s, h, r => by
    have h1 := h u (by simp)
    have := adds_bit us (addW s u.toNat) (fun v hv => by rw [addW_len]; exact h v (by simp [hv])) r
    have e2 : adds (u :: us) s = adds us (addW s u.toNat) := rfl
    rw [e2, this, bit_add h1.2, Bool.or_eq_true, decide_eq_true_eq, List.mem_cons]
    constructor
    · rintro ((h | h) | h)
      · exact .inl h
      · exact .inr (.inl (by omega))
      · exact .inr (.inr h)
    · rintro (h | h | h)
      · exact .inl (.inl h)
      · exact .inl (.inr (by omega))
      · exact .inr h
theorem dropD_len (d : Int) (s : Ws) : (dropD d s).length = s.length := by
  unfold dropD
  split
  · exact dropW_len _ _
  · rfl
theorem dropD_bit {d : Int} {s : Ws} (h : 0 ≤ d → d.toNat / 64 < s.length) (r : Nat) : bit (dropD d s) r = true ↔ bit s r = true ∧ d ≠ r := by
  unfold dropD
  split
  · rename_i hd
    rw [bit_drop (h hd), Bool.and_eq_true, decide_eq_true_eq]
    have : r ≠ d.toNat ↔ d ≠ (r : Int) := by omega
    rw [this]
  · have : d ≠ (r : Int) := by omega
    simp [this]
end
end Go.Vm
namespace Go.Vm
open Classical in
noncomputable def befR (f : Fn) (i r : Int) : Bool := decide (0 ≤ i) && (decide (i < (lst f.code).length) && (decide (0 ≤ r) && (decide (r < (lst f.regs).length) && decide (fromP f [i] r.toNat))))
end Go.Vm
namespace Go.Vm
section
variable {f : Fn}
structure LvSnd (f : Fn) (t : Tb) : Prop where
  b : ∀ i, i < (lst f.code).length → ∀ r, bit (rowW t.b i) r = true → fromP f [(i : Int)] r
  a : ∀ i, i < (lst f.code).length → ∀ r, bit (rowW t.a i) r = true → fromP f (nextL f i) r
  h : ∀ i, i < (lst f.code).length → ∀ r, bit (rowW t.h i) r = true → fromP f (caughtL f i) r
structure Cl (f : Fn) (t : Tb) (i : Nat) : Prop where
  a : ∀ to ∈ nextL f i, ∀ r, bit (rowW t.b to.toNat) r = true → bit (rowW t.a i) r = true
  h : ∀ to ∈ caughtL f i, ∀ r, bit (rowW t.b to.toNat) r = true → bit (rowW t.h i) r = true
  b : ∀ r : Nat, (r : Int) ∈ usesAt f i ∨ bit (rowW t.h i) r = true ∨ (bit (rowW t.a i) r = true ∧ defr (insAt f i) ≠ r) → bit (rowW t.b i) r = true
variable (w : Wf f)
include w
theorem from_lt {A : List Int} {r : Nat} (h : fromP f A r) : r < (lst f.regs).length := by
  obtain ⟨i, hi, hu⟩ := h
  have := w.uses hi.lt hu
  omega
variable {t : Tb} (ok : TbOk (lst f.code).length ((lst f.regs).length / 64 + 1) t) {i : Nat} (hi : i < (lst f.code).length)
include ok hi
theorem next_in : ∀ to ∈ nextL f i, 0 ≤ to ∧ to < (lst f.code).length := fun _ h => w.next hi h
theorem aft_len : (aftT f t i).length = (lst f.regs).length / 64 + 1 := joins_len _ _ (ok.aw i hi) ok.bw (next_in w ok hi)
theorem han_len : (hanT f t i).length = (lst f.regs).length / 64 + 1 := joins_len _ _ (ok.hw i hi) ok.bw (fun _ h => w.caught h)
theorem bef_len : (befT f t i).length = (lst f.regs).length / 64 + 1 := by
  unfold befT
  rw [adds_len, joinW_len (by rw [dropD_len, aft_len w ok hi, han_len w ok hi]), dropD_len, aft_len w ok hi]
theorem aft_bit (r : Nat) : bit (aftT f t i) r = true ↔ bit (rowW t.a i) r = true ∨ ∃ to ∈ nextL f i, bit (rowW t.b to.toNat) r = true := joins_bit _ _ (ok.aw i hi) ok.bw (next_in w ok hi) r
theorem han_bit (r : Nat) : bit (hanT f t i) r = true ↔ bit (rowW t.h i) r = true ∨ ∃ to ∈ caughtL f i, bit (rowW t.b to.toNat) r = true := joins_bit _ _ (ok.hw i hi) ok.bw (fun _ h => w.caught h) r
theorem bef_bit (r : Nat) : bit (befT f t i) r = true ↔ (r : Int) ∈ usesAt f i ∨ bit (hanT f t i) r = true ∨ (bit (aftT f t i) r = true ∧ defr (insAt f i) ≠ r) := by
  unfold befT
  have h1 : (dropD (defr (insAt f i)) (aftT f t i)).length = (hanT f t i).length := by rw [dropD_len, aft_len w ok hi, han_len w ok hi]
  rw [adds_bit _ _ (fun u hu => by
    obtain ⟨u0, u1⟩ := w.uses hi hu
    rw [joinW_len h1, dropD_len, aft_len w ok hi]
    exact ⟨u0, by omega⟩), bit_join h1, Bool.or_eq_true, dropD_bit (fun hd => by
    have := w.def hi hd
    rw [aft_len w ok hi]; omega)]
  constructor
  · rintro ((h | h) | h)
    · exact .inr (.inr h)
    · exact .inr (.inl h)
    · exact .inl h
  · rintro (h | h | h)
    · exact .inr h
    · exact .inl (.inr h)
    · exact .inl (.inl h)
theorem lstep_ok : TbOk (lst f.code).length ((lst f.regs).length / 64 + 1) (stepT f t i) := by
  have e1 : (rowW t.b i).length = (befT f t i).length := by rw [ok.bw i hi, bef_len w ok hi]
  refine ⟨by simp [stepT, ok.b], by simp [stepT, ok.a], by simp [stepT, ok.h], fun j hj => ?_, fun j hj => ?_, fun j hj => ?_⟩
  · simp only [stepT]
    rw [row_set (by rw [ok.b]; exact hi)]
    split
    · rw [joinW_len e1, ok.bw i hi]
    · exact ok.bw j hj
  · simp only [stepT]
    rw [row_set (by rw [ok.a]; exact hi)]
    split
    · exact aft_len w ok hi
    · exact ok.aw j hj
  · simp only [stepT]
    rw [row_set (by rw [ok.h]; exact hi)]
    split
    · exact han_len w ok hi
    · exact ok.hw j hj
theorem lstep_b (j : Nat) : rowW (stepT f t i).b j = if j = i then joinW (rowW t.b i) (befT f t i) else rowW t.b j := row_set (by rw [ok.b]; exact hi)
theorem lstep_a (j : Nat) : rowW (stepT f t i).a j = if j = i then aftT f t i else rowW t.a j := row_set (by rw [ok.a]; exact hi)
theorem lstep_h (j : Nat) : rowW (stepT f t i).h j = if j = i then hanT f t i else rowW t.h j := row_set (by rw [ok.h]; exact hi)
theorem aft_sound (S : LvSnd f t) (r : Nat) (h : bit (aftT f t i) r = true) : fromP f (nextL f i) r := by
  rcases (aft_bit w ok hi r).1 h with h | ⟨to, ht, h⟩
  · exact S.a i hi r h
  · have hr := next_in w ok hi to ht
    have := S.b to.toNat (by omega) r h
    rw [show ((to.toNat : Nat) : Int) = to by omega] at this
    exact (from_some f).2 ⟨to, ht, hr.1, hr.2, this⟩
theorem han_sound (S : LvSnd f t) (r : Nat) (h : bit (hanT f t i) r = true) : fromP f (caughtL f i) r := by
  rcases (han_bit w ok hi r).1 h with h | ⟨to, ht, h⟩
  · exact S.h i hi r h
  · have hr := w.caught ht
    have := S.b to.toNat (by omega) r h
    rw [show ((to.toNat : Nat) : Int) = to by omega] at this
    exact (from_some f).2 ⟨to, ht, hr.1, hr.2, this⟩
theorem bef_sound (S : LvSnd f t) (r : Nat) (h : bit (befT f t i) r = true) : fromP f [(i : Int)] r := by
  rw [from_one f hi]
  rcases (bef_bit w ok hi r).1 h with h | h | ⟨h, hd⟩
  · exact .inl h
  · exact .inr (.inl (han_sound w ok hi S r h))
  · exact .inr (.inr ⟨hd, aft_sound w ok hi S r h⟩)
theorem lstep_snd (S : LvSnd f t) : LvSnd f (stepT f t i) := by
  refine ⟨fun j hj r h => ?_, fun j hj r h => ?_, fun j hj r h => ?_⟩
  · rw [lstep_b w ok hi] at h
    split at h
    · rename_i e
      subst e
      rw [bit_join (by rw [ok.bw j hj, bef_len w ok hj]), Bool.or_eq_true] at h
      rcases h with h | h
      · exact S.b j hj r h
      · exact bef_sound w ok hj S r h
    · exact S.b j hj r h
  · rw [lstep_a w ok hi] at h
    split at h
    · rename_i e
      subst e
      exact aft_sound w ok hj S r h
    · exact S.a j hj r h
  · rw [lstep_h w ok hi] at h
    split at h
    · rename_i e
      subst e
      exact han_sound w ok hj S r h
    · exact S.h j hj r h
theorem lstep_same (hm : moreT f t i = false) : (∀ j, rowW (stepT f t i).b j = rowW t.b j) ∧ Cl f (stepT f t i) i ∧ ∀ j, j ≠ i → Cl f t j → Cl f (stepT f t i) j := by
  have e1 : (rowW t.b i).length = (befT f t i).length := by rw [ok.bw i hi, bef_len w ok hi]
  have js := join_same e1 hm
  have hb : ∀ j, rowW (stepT f t i).b j = rowW t.b j := fun j => by
    rw [lstep_b w ok hi]
    split
    · rename_i e; rw [js, e]
    · rfl
  refine ⟨hb, ⟨fun to ht r h => ?_, fun to ht r h => ?_, fun r h => ?_⟩, fun j hj C => ⟨fun to ht r h => ?_, fun to ht r h => ?_, fun r h => ?_⟩⟩
  · rw [hb] at h
    rw [lstep_a w ok hi, if_pos rfl, aft_bit w ok hi]
    exact .inr ⟨to, ht, h⟩
  · rw [hb] at h
    rw [lstep_h w ok hi, if_pos rfl, han_bit w ok hi]
    exact .inr ⟨to, ht, h⟩
  · rw [lstep_h w ok hi, if_pos rfl, lstep_a w ok hi, if_pos rfl] at h
    have := (bef_bit w ok hi r).2 h
    rw [hb, ← js, bit_join e1, this, Bool.or_true]
  · rw [hb] at h
    rw [lstep_a w ok hi, if_neg hj]
    exact C.a to ht r h
  · rw [hb] at h
    rw [lstep_h w ok hi, if_neg hj]
    exact C.h to ht r h
  · rw [lstep_h w ok hi, if_neg hj, lstep_a w ok hi, if_neg hj] at h
    rw [hb]
    exact C.b r h
end
section
variable {f : Fn} (w : Wf f)
include w
theorem sweep_ok : ∀ (k : Nat) (t : Tb), k ≤ (lst f.code).length → TbOk (lst f.code).length ((lst f.regs).length / 64 + 1) t → LvSnd f t → TbOk (lst f.code).length ((lst f.regs).length / 64 + 1) (sweepT f k t).1 ∧ LvSnd f (sweepT f k t).1
  | 0, t, _, ok, S => ⟨ok, S⟩
  | k + 1, t, hk, ok, S => sweep_ok k _ (by omega) (lstep_ok w ok (by omega)) (lstep_snd w ok (by omega) S)
theorem sweep_same : ∀ (k : Nat) (t : Tb), k ≤ (lst f.code).length → TbOk (lst f.code).length ((lst f.regs).length / 64 + 1) t → (sweepT f k t).2 = false → (∀ j, j < k → Cl f (sweepT f k t).1 j) ∧ ∀ j, k ≤ j → Cl f t j → Cl f (sweepT f k t).1 j
  | 0, t, _, _, _ => ⟨fun _ h => by omega, fun _ _ h => h⟩
  | k + 1, t, hk, ok, h => by
    rw [sweepT, Bool.or_eq_false_iff] at h
    obtain ⟨_, c2, c3⟩ := lstep_same w ok (by omega) h.1
    obtain ⟨d1, d2⟩ := sweep_same k (stepT f t k) (by omega) (lstep_ok w ok (by omega)) h.2
    refine ⟨fun j hj => ?_, fun j hj C => d2 j (by omega) (c3 j (by omega) C)⟩
    by_cases e : j = k
    · subst e; exact d2 j (Nat.le_refl _) c2
    · exact d1 j (by omega)
theorem live_tells {t : Tb} (S : LvSnd f t) (C : ∀ i, i < (lst f.code).length → Cl f t i) {i : Nat} (hi : i < (lst f.code).length) (r : Nat) :
    (bit (rowW t.b i) r = true ↔ fromP f [(i : Int)] r) ∧ (bit (rowW t.a i) r = true ↔ fromP f (nextL f i) r) ∧ (bit (rowW t.h i) r = true ↔ fromP f (caughtL f i) r) := by
  have key : ∀ {i : Nat}, i < (lst f.code).length → fromP f [(i : Int)] r → bit (rowW t.b i) r = true := by
    intro i hi ⟨k, hk, hu⟩
    have h0 : bit (rowW t.b k) r = true := (C k hk.lt).b r (.inl hu)
    have back : ∀ {k : Nat}, Rch (lst f.code).length (succR f r) [(i : Int)] k → bit (rowW t.b k) r = true → bit (rowW t.b i) r = true := by
      intro k hk
      induction hk with
      | base hj j0 j1 =>
        rw [List.mem_singleton] at hj
        subst hj
        intro h; simpa using h
      | step hr hj j0 j1 ih =>
        intro h
        refine ih ?_
        have hlt := hr.lt
        rw [succR, List.mem_append] at hj
        rcases hj with hj | hj
        · exact (C _ hlt).b r (.inr (.inl ((C _ hlt).h _ hj r h)))
        · split at hj
          · cases hj
          · rename_i hd
            exact (C _ hlt).b r (.inr (.inr ⟨(C _ hlt).a _ hj r h, hd⟩))
    exact back hk h0
  refine ⟨⟨S.b i hi r, key hi⟩, ⟨S.a i hi r, fun h => ?_⟩, ⟨S.h i hi r, fun h => ?_⟩⟩
  · obtain ⟨a, ha, a0, a1, h'⟩ := (from_some f).1 h
    rw [show a = ((a.toNat : Nat) : Int) by omega] at h'
    exact (C i hi).a a ha r (key (by omega) h')
  · obtain ⟨a, ha, a0, a1, h'⟩ := (from_some f).1 h
    rw [show a = ((a.toNat : Nat) : Int) by omega] at h'
    exact (C i hi).h a ha r (key (by omega) h')
def rowB (R : Nat) (s : Ws) : List Bool := (List.range R).map (bit s)
theorem rowB_get {R : Nat} {s : Ws} {r : Nat} (h : r < R) : (rowB R s)[r]? = some (bit s r) := by simp [rowB, h]
omit w in
theorem rowB_len (R : Nat) (s : Ws) : (rowB R s).length = R := by simp [rowB]
def tabB (R : Nat) (t : Tb) : Tab := t.b.map fun s => some (rowB R s)
def lpot (R : Nat) (t : Tb) : Nat := pot R (tabB R t)
theorem lpot_step {t : Tb} (ok : TbOk (lst f.code).length ((lst f.regs).length / 64 + 1) t) (S : LvSnd f t) {i : Nat} (hi : i < (lst f.code).length) :
    lpot (lst f.regs).length t ≤ lpot (lst f.regs).length (stepT f t i) ∧ (moreT f t i = true → lpot (lst f.regs).length t < lpot (lst f.regs).length (stepT f t i)) := by
  have e1 : (rowW t.b i).length = (befT f t i).length := by rw [ok.bw i hi, bef_len w ok hi]
  have hb : i < t.b.length := by rw [ok.b]; exact hi
  have hg : (tabB (lst f.regs).length t)[i]? = some (some (rowB (lst f.regs).length (rowW t.b i))) := by
    simp [tabB, rowW, List.getD_eq_getElem?_getD, List.getElem?_eq_getElem hb]
  have hs : tabB (lst f.regs).length (stepT f t i) = (tabB (lst f.regs).length t).set i (some (rowB (lst f.regs).length (joinW (rowW t.b i) (befT f t i)))) := by
    simp only [tabB, stepT, List.map_set]
  have hp := pot_set (R := (lst f.regs).length) (y := some (rowB (lst f.regs).length (joinW (rowW t.b i) (befT f t i)))) hg
  rw [← hs] at hp
  simp only [wt] at hp
  have le : LeB (rowB (lst f.regs).length (rowW t.b i)) (rowB (lst f.regs).length (joinW (rowW t.b i) (befT f t i))) := by
    intro r hr
    have hlt : r < (lst f.regs).length := by have := (List.getElem?_eq_some_iff.1 hr).1; rw [rowB_len] at this; exact this
    rw [rowB_get w hlt] at hr ⊢
    injection hr with hr
    rw [bit_join e1, hr, Bool.true_or]
  have hlen : (rowB (lst f.regs).length (joinW (rowW t.b i) (befT f t i))).length = (rowB (lst f.regs).length (rowW t.b i)).length := by rw [rowB_len, rowB_len]
  have strict : moreT f t i = true → (rowB (lst f.regs).length (rowW t.b i)).countP id < (rowB (lst f.regs).length (joinW (rowW t.b i) (befT f t i))).countP id := by
    intro hm
    obtain ⟨q, h1, h2⟩ := (moreW_iff e1).1 hm
    have hq := from_lt w (bef_sound w ok hi S q h1)
    refine count_lt hlen le ⟨q, ?_, ?_⟩
    · rw [rowB_get w hq, bit_join e1, h1, Bool.or_true]
    · rw [rowB_get w hq, h2]
  have weak : (rowB (lst f.regs).length (rowW t.b i)).countP id ≤ (rowB (lst f.regs).length (joinW (rowW t.b i) (befT f t i))).countP id := by
    cases hm : moreT f t i with
    | true => exact Nat.le_of_lt (strict hm)
    | false => rw [join_same e1 hm]; exact Nat.le_refl _
  unfold lpot
  exact ⟨by omega, fun hm => by have := strict hm; omega⟩
theorem lpot_sweep : ∀ (k : Nat) (t : Tb), k ≤ (lst f.code).length → TbOk (lst f.code).length ((lst f.regs).length / 64 + 1) t → LvSnd f t → lpot (lst f.regs).length t ≤ lpot (lst f.regs).length (sweepT f k t).1 ∧ ((sweepT f k t).2 = true → lpot (lst f.regs).length t < lpot (lst f.regs).length (sweepT f k t).1)
  | 0, t, _, _, _ => ⟨Nat.le_refl _, fun h => by cases h⟩
  | k + 1, t, hk, ok, S => by
    obtain ⟨a1, a2⟩ := lpot_step w ok S (i := k) (by omega)
    obtain ⟨b1, b2⟩ := lpot_sweep k (stepT f t k) (by omega) (lstep_ok w ok (i := k) (by omega)) (lstep_snd w ok (i := k) (by omega) S)
    rw [sweepT]
    refine ⟨Nat.le_trans a1 b1, fun h => ?_⟩
    rw [Bool.or_eq_true] at h
    rcases h with h | h
    · exact Nat.lt_of_lt_of_le (a2 h) b1
    · exact Nat.lt_of_le_of_lt a1 (b2 h)
theorem lpot_le {t : Tb} (ok : TbOk (lst f.code).length ((lst f.regs).length / 64 + 1) t) : lpot (lst f.regs).length t ≤ (lst f.code).length * ((lst f.regs).length + 1) := by
  have key : ∀ (R : Nat) (l : List Ws), pot R (l.map fun s => some (rowB R s)) ≤ l.length * (R + 1) := by
    intro R l
    induction l with
    | nil => simp [pot]
    | cons a l ih =>
      have hc : (rowB R a).countP id ≤ (rowB R a).length := List.countP_le_length
      rw [rowB_len] at hc
      simp only [pot, List.map_cons, List.sum_cons, List.length_cons, Nat.add_mul, wt] at ih ⊢
      omega
  have := key (lst f.regs).length t.b
  rw [ok.b] at this
  exact this
theorem liveLoop_ends : ∀ (k : Nat) (t : Tb), TbOk (lst f.code).length ((lst f.regs).length / 64 + 1) t → LvSnd f t → (lst f.code).length * ((lst f.regs).length + 1) < k + lpot (lst f.regs).length t →
    ∃ r, liveLoop f k t = some r ∧ TbOk (lst f.code).length ((lst f.regs).length / 64 + 1) r ∧ LvSnd f r ∧ ∀ i, i < (lst f.code).length → Cl f r i
  | 0, t, ok, _, h => by have := lpot_le w ok; omega
  | k + 1, t, ok, S, h => by
    obtain ⟨o2, s2⟩ := sweep_ok w _ t (Nat.le_refl _) ok S
    obtain ⟨p1, p2⟩ := lpot_sweep w _ t (Nat.le_refl _) ok S
    rw [liveLoop]
    cases hm : (sweepT f (lst f.code).length t).2 with
    | true =>
      rw [if_pos rfl]
      have := p2 hm
      exact liveLoop_ends k _ o2 s2 (by omega)
    | false =>
      rw [if_neg Bool.false_ne_true]
      exact ⟨_, rfl, o2, s2, (sweep_same w _ t (Nat.le_refl _) ok hm).1⟩
def tb0 (f : Fn) : Tb := ⟨List.replicate (lst f.code).length (noneW ((lst f.regs).length / 64 + 1)), List.replicate (lst f.code).length (noneW ((lst f.regs).length / 64 + 1)), List.replicate (lst f.code).length (noneW ((lst f.regs).length / 64 + 1))⟩
omit w in
theorem row_rep {n i W : Nat} (h : i < n) : rowW (List.replicate n (noneW W)) i = noneW W := by
  simp [rowW, List.getD_eq_getElem?_getD, h]
omit w in
theorem tb0_ok : TbOk (lst f.code).length ((lst f.regs).length / 64 + 1) (tb0 f) := by
  refine ⟨by simp [tb0], by simp [tb0], by simp [tb0], fun i hi => ?_, fun i hi => ?_, fun i hi => ?_⟩ <;> (simp only [tb0]; rw [row_rep hi]; simp [noneW])
omit w in
theorem tb0_sound : LvSnd f (tb0 f) := by
  refine ⟨fun i hi r h => ?_, fun i hi r h => ?_, fun i hi r h => ?_⟩ <;> (simp only [tb0] at h; rw [row_rep hi, bit_none] at h; cases h)
end
end Go.Vm
namespace Go.Vm
open Cel
section
variable {α : Type} [Cel α]
def ownV (j g : Nat) : Option (List α) → AV
  | none => .nils
  | some L => .ls j g (es α) 0 L.length
def ownO (g : Nat) (d : AO) : Option (List α) → AO
  | none => d
  | some L => ⟨g, .arr false false (es α) (L.map enc)⟩
def ownI (j : Nat) : Option (List α) → List Nat
  | none => []
  | some _ => [j]
@[simp] theorem cellsOf_own (j g : Nat) (o : Option (List α)) : cellsOf (ownV j g o) = [ownV j g o] := by cases o <;> rfl
@[simp] theorem leaf1_own (j g : Nat) (o : Option (List α)) : leaf1 (ownV j g o) = true := by cases o <;> rfl
@[simp] theorem known_own (j g : Nat) (o : Option (List α)) : known (ownV j g o) = true := by cases o <;> rfl
@[simp] theorem evLen_own (j g : Nat) (o : Option (List α)) (H : Heap) : evLen 1 (ownV j g o) H = some (.int .i64 (lst o).length) := by cases o <;> rfl
theorem set_same {H : Heap} {i : Nat} {o : AO} (h : H[i]? = some o) : H.set i o = H := by
  refine List.ext_getElem? fun k => ?_
  rw [List.getElem?_set]
  split
  · rename_i e; subst e
    rw [if_pos (List.getElem?_eq_some_iff.1 h).1, h]
  · rfl
theorem own_rows {H : Heap} {j g : Nat} {d : AO} {L : List α} (h : H[j]? = some (ownO g d (some L))) : rowsAt H j g = some (false, es α, L.map enc) := by
  simp [rowsAt, objAt, h, ownO]
theorem fz_own {H : Heap} {j g k : Nat} {d : AO} {o : Option (List α)} (h : H[j]? = some (ownO g d o)) : fz H (k + 2) (ownV j g o) = some ⟨slA o, (lst o).all scal, ownI j o⟩ := by
  cases o with
  | none => rfl
  | some L =>
    rw [ownV, fz_lsk, own_rows h]
    simp only [List.drop_zero, Nat.zero_add, List.length_map, Nat.le_refl, and_self, if_true, take_rows, fz_rowsk]
    simp [slA, ownI]
end
theorem set_rows {rows : List (List AV)} {i : Nat} {r : List AV} (h : rows[i]? = some r) : rows.set i r = rows := by
  refine List.ext_getElem? fun k => ?_
  rw [List.getElem?_set]
  split
  · rename_i e; subst e
    rw [if_pos (List.getElem?_eq_some_iff.1 h).1, h]
  · rfl
theorem call_reads {E : Env} {C : Calls2} {fb f : Nat} {sl : Option Nat} {args : List AV} {h : Heap} {fa : Fz (List AV)} {r : Ex AV} {v : AV} (hE : E.pure f = true) (ha : fzList (fz h fuelF) args = some fa) (hf : fa.ids = [])
    (hc : C.p f fa.v = some r) (hr : Reads r v) : callAny E C fb sl true f args h = some (v, h) := by
  obtain ⟨q, h1, h2⟩ := hr
  simp [callAny, hE, callP, ha, hc, hf, h1, h2]
end Go.Vm
namespace Go.Vm
open Cel
theorem gs_eq {H : Heap} {a : Nat} {x : AO} (h : a < H.length) : (H.set a x)[a]? = some x := by simp [h]
theorem gs_ne {H : Heap} {a b : Nat} {x : AO} (h : a ≠ b) : (H.set a x)[b]? = H[b]? := List.getElem?_set_ne h
theorem ga_lt {H : Heap} {n b : Nat} (h : b < H.length) : (H ++ deadSlots n)[b]? = H[b]? := List.getElem?_append_left h
theorem ga_ge {H : Heap} {n j : Nat} (h : j < n) : (H ++ deadSlots n)[H.length + j]? = some ⟨0, .dead⟩ := by
  rw [List.getElem?_append_right (by omega), Nat.add_sub_cancel_left, deadSlots, List.getElem?_replicate, if_pos h]
theorem get_lt {H : Heap} {a : Nat} {x : AO} (h : H[a]? = some x) : a < H.length := (List.getElem?_eq_some_iff.1 h).1
theorem bs_one {H : Heap} {fb j : Nat} {o : AO} (n : Int) (h : H[fb + j]? = some o) : buildSC fb (some j) 1 1 [.int .i64 0] [(0, .int .i64 n)] H = some (.ls (fb + j) (o.gen + 1) 1 0 1, H.set (fb + j) (AI (o.gen + 1) [n])) := by
  simp [buildSC, fillRows, newArr, place, h]
  rfl
theorem rows_ls {α : Type} [Cel α] {H : Heap} {id g : Nat} {L : List α} (h : H[id]? = some ⟨g, .arr false false (es α) (L.map enc)⟩) : rowsOf H (es α) (.ls id g (es α) 0 L.length) = some (L.map enc) := by
  simp [rowsOf, rowsAt, objAt, h]
theorem fz_ls0 {α : Type} [Cel α] {H : Heap} {id g k : Nat} {L : List α} (h : H[id]? = some ⟨g, .arr false false (es α) (L.map enc)⟩) : fz H (k + 2) (.ls id g (es α) 0 L.length) = some ⟨slA (some L), L.all scal, [id]⟩ :=
  fz_own (o := some L) (d := ⟨0, .dead⟩) h
theorem call_own2 {α : Type} [Cel α] {E : Env} {C : Calls2} {fb j f : Nat} {args : List AV} {H : Heap} {fa : Fz (List AV)} {N : Option (List α)} {o : AO} (hE : E.pure f = true) (ha : fzList (fz H fuelF) args = some fa) (hc : C.p f fa.v = some (exO N))
    (hf : (lst N).all scal = true) (ho : H[fb + j]? = some o) : callAny E C fb (some j) false f args H = some (ownV (fb + j) (o.gen + 1) N, H.set (fb + j) (ownO (o.gen + 1) o N)) := by
  simp only [callAny, hE, if_true, callP, ha, hc]
  have hfr : ((exO N).fresh || fa.ids.isEmpty) = true := by rw [exO_fresh, hf]; rfl
  simp only [hfr, if_true]
  cases N with
  | none =>
    simp only [exO, placeAll, Bool.false_eq_true, if_false, ownV, ownO, set_same ho]
    rfl
  | some L => simp only [Bool.false_eq_true, if_false, place_ex, ho, reloc_ex, ownV, ownO]
theorem ld_row {H : Heap} {id g i es : Nat} {rows : List (List AV)} {v : AV} (h : H[id]? = some ⟨g, .arr false false es rows⟩) (hx : rows[i]? = some [v]) : evLd false 1 (.lp id g i 0) H = some v := by
  have hr : rowsAt H id g = some (false, es, rows) := by simp [rowsAt, objAt, h]
  rw [evLd_lp, hr]
  simp [hx]
theorem st_row {H : Heap} {id g i : Nat} {rows : List (List AV)} {v w : AV} (h : H[id]? = some ⟨g, .arr false false 1 rows⟩) (hx : rows[i]? = some [w]) (hv : cellsOf v = [v]) (hl : leaf1 v = true) :
    evSt 1 (.lp id g i 0) v H = some (.tup [], H.set id ⟨g, .arr false false 1 (rows.set i [v])⟩) := by
  have hr : rowsAt H id g = some (false, 1, rows) := by simp [rowsAt, objAt, h]
  rw [evSt_lp, hr]
  simp only [hx, hv]
  rw [if_pos ⟨rfl, Nat.le_refl _, by simp [hl]⟩]
  rw [show spliceAt 0 [v] [w] = [v] from rfl, setRows, h]
end Go.Vm
namespace Go.Vm
open Cel
instance : Cel (BitVec 64) := ⟨1, fun w => [.int .u64 w.toNat], fun _ => rfl, fun _ => rfl, fun _ => rfl⟩
@[simp] theorem enc_w (w : BitVec 64) : enc w = [.int .u64 w.toNat] := rfl
@[simp] theorem es_w : es (BitVec 64) = 1 := rfl
abbrev AW (g : Nat) (s : Ws) : AO := ⟨g, .arr false false 1 (s.map enc)⟩
theorem wrap_u64 {n : Nat} (h : n < 18446744073709551616) : IntKind.wrap .u64 (n : Int) = (n : Int) := by
  simp [IntKind.wrap, IntKind.bits, IntKind.signed]; omega
theorem wrap_w (c : BitVec 64) : IntKind.wrap .u64 (c.toNat : Int) = (c.toNat : Int) := wrap_u64 c.isLt
theorem ofInt_w (c : BitVec 64) : BitVec.ofInt 64 (c.toNat : Int) = c := by simp
theorem or_w (a b : BitVec 64) : evBin .or (.int .u64 a.toNat) (.int .u64 b.toNat) = some (.int .u64 (a ||| b).toNat) := by
  show some (AV.int .u64 (IntKind.wrap .u64 ((BitVec.ofInt 64 (a.toNat : Int) ||| BitVec.ofInt 64 (b.toNat : Int)).toNat : Int))) = _
  rw [ofInt_w, ofInt_w, wrap_w]
theorem andNot_w (a b : BitVec 64) : evBin .andNot (.int .u64 a.toNat) (.int .u64 b.toNat) = some (.int .u64 (a &&& ~~~ b).toNat) := by
  show some (AV.int .u64 (IntKind.wrap .u64 ((BitVec.ofInt 64 (a.toNat : Int) &&& ~~~ (BitVec.ofInt 64 (b.toNat : Int))).toNat : Int))) = _
  rw [ofInt_w, ofInt_w, wrap_w]
theorem neq0_w (a : BitVec 64) : evBin .neq (.int .u64 a.toNat) (.int .u64 0) = some (.bool (decide (a ≠ 0))) := by
  rw [evBin_neq]
  have : ((a.toNat : Int) ≠ 0) ↔ a ≠ 0 := by
    constructor
    · intro h e; subst e; exact h rfl
    · intro h e
      exact h (BitVec.eq_of_toNat_eq (by simpa using e))
  rw [decide_eq_decide.2 this]
theorem shl_w {r : Nat} (h : r < 64) : evBin .shl (.int .u64 1) (.int .i64 r) = some (.int .u64 (BitVec.twoPow 64 r).toNat) := by
  have h0 : ¬ (r : Int) < 0 := by omega
  have hm : min r 64 = r := by omega
  have hp : 2 ^ r < 2 ^ 64 := Nat.pow_lt_pow_right (by omega) h
  have e : (BitVec.twoPow 64 r).toNat = 2 ^ r := by rw [BitVec.toNat_twoPow, Nat.mod_eq_of_lt hp]
  rw [e]
  show (if (r : Int) < 0 then none else some (AV.int .u64 (IntKind.wrap .u64 (1 * 2 ^ (min (r : Int).toNat 64))))) = _
  rw [if_neg h0, Int.toNat_natCast, hm, Int.one_mul]
  have e2 : ((2 : Int) ^ r) = ((2 ^ r : Nat) : Int) := by simp
  rw [e2, wrap_u64 hp]
theorem has_w {r : Nat} (h : r < 64) (a : BitVec 64) : ∃ v w, evBin .shr (.int .u64 a.toNat) (.int .i64 r) = some v ∧ evBin .and v (.int .u64 1) = some w ∧ evBin .eql w (.int .u64 1) = some (.bool (a.getLsbD r)) := by
  have h0 : ¬ (r : Int) < 0 := by omega
  have hm : min r 64 = r := by omega
  refine ⟨.int .u64 ((a >>> r).toNat), .int .u64 ((a >>> r) &&& 1#64).toNat, ?_, ?_, ?_⟩
  · show (if (r : Int) < 0 then none else some (AV.int .u64 (Int.fdiv (a.toNat : Int) (2 ^ (min (r : Int).toNat 64))))) = _
    rw [if_neg h0, Int.toNat_natCast, hm]
    have e2 : ((2 : Int) ^ r) = ((2 ^ r : Nat) : Int) := by simp
    rw [e2, BitVec.toNat_ushiftRight, Nat.shiftRight_eq_div_pow, Int.fdiv_eq_ediv_of_nonneg _ (Int.natCast_nonneg _), Int.natCast_ediv]
  · show some (AV.int .u64 (IntKind.wrap .u64 ((BitVec.ofInt 64 (((a >>> r).toNat : Nat) : Int) &&& BitVec.ofInt 64 1).toNat : Int))) = _
    rw [ofInt_w, show BitVec.ofInt 64 1 = 1#64 from rfl, wrap_w]
  · rw [evBin_eql]
    congr 2
    rw [BitVec.toNat_and, BitVec.toNat_ushiftRight, show (1#64).toNat = 1 from rfl, Nat.and_one_is_mod, Nat.shiftRight_eq_div_pow, BitVec.getLsbD, Nat.testBit_eq_decide_div_mod_eq]
    rw [decide_eq_decide]
    omega
theorem quo_rem {r : Nat} (h : r < 9223372036854775808) : evBin .quo (.int .i64 r) (.int .i64 64) = some (.int .i64 ((r / 64 : Nat) : Int)) ∧ evBin .rem (.int .i64 r) (.int .i64 64) = some (.int .i64 ((r % 64 : Nat) : Int)) := by
  constructor
  · show (if (64 : Int) = 0 then none else some (AV.int .i64 (IntKind.wrap .i64 ((r : Int).tdiv 64)))) = _
    rw [if_neg (by omega), Int.tdiv_eq_ediv_of_nonneg (by omega), wrap_i64 (by omega) (by omega)]
    congr 2
  · show (if (64 : Int) = 0 then none else some (AV.int .i64 ((r : Int).tmod 64))) = _
    rw [if_neg (by omega), Int.tmod_eq_emod_of_nonneg (by omega)]
    congr 2
section
variable {H : Heap} {a ga : Nat} {s : Ws} (h : H[a]? = some (AW ga s))
include h
theorem s_add {r : Nat} (hr : r < 9223372036854775808) (hs : r / 64 < s.length) : callAny E (callW E) 0 none false 86 [.ls a ga 1 0 s.length, .int .i64 r] H = some (.tup [], H.set a (AW ga (addW s r))) := by
  have hd : H ++ deadSlots 0 = H := by simp [deadSlots]
  have ecall : callAny E (callW E) 0 none false 86 [.ls a ga 1 0 s.length, .int .i64 r] H = q40_1 H.length (.ls a ga 1 0 s.length) (.int .i64 r) (H ++ deadSlots 0) := by
    rw [callAny, if_neg (by simp), x_q40, if_pos rfl]
  obtain ⟨q1, q2⟩ := quo_rem hr
  have ix := ixAt' (n := s.length) (p := ((r / 64 : Nat) : Int)) (by omega) (by omega) a ga .i64
  rw [Int.toNat_natCast] at ix
  have ld := ld_at (α := BitVec 64) (H := H) (id := a) (g := ga) (i := r / 64) (v := .int .u64 (s.getD (r / 64) 0).toNat) h (by rw [List.getElem?_eq_getElem hs]) (by rw [List.getD_eq_getElem?_getD, List.getElem?_eq_getElem hs]; rfl)
  have st := evSt_at (α := BitVec 64) (H := H) (id := a) (g := ga) (i := r / 64) (L := s) (v := .int .u64 (s.getD (r / 64) 0 ||| BitVec.twoPow 64 (r % 64)).toNat) (y := s.getD (r / 64) 0 ||| BitVec.twoPow 64 (r % 64)) h hs rfl
  simp only [es_w] at st
  rw [ecall, hd]
  simp only [q40_1, q1, q2, ob_some, ix, ld, shl_w (Nat.mod_lt r (by omega : 64 > 0)), or_w, st, oh_some]
  rfl
theorem s_drop {r : Nat} (hr : r < 9223372036854775808) (hs : r / 64 < s.length) : callAny E (callW E) 0 none false 85 [.ls a ga 1 0 s.length, .int .i64 r] H = some (.tup [], H.set a (AW ga (dropW s r))) := by
  have hd : H ++ deadSlots 0 = H := by simp [deadSlots]
  have ecall : callAny E (callW E) 0 none false 85 [.ls a ga 1 0 s.length, .int .i64 r] H = q41_1 H.length (.ls a ga 1 0 s.length) (.int .i64 r) (H ++ deadSlots 0) := by
    rw [callAny, if_neg (by simp), x_q41, if_pos rfl]
  obtain ⟨q1, q2⟩ := quo_rem hr
  have ix := ixAt' (n := s.length) (p := ((r / 64 : Nat) : Int)) (by omega) (by omega) a ga .i64
  rw [Int.toNat_natCast] at ix
  have ld := ld_at (α := BitVec 64) (H := H) (id := a) (g := ga) (i := r / 64) (v := .int .u64 (s.getD (r / 64) 0).toNat) h (by rw [List.getElem?_eq_getElem hs]) (by rw [List.getD_eq_getElem?_getD, List.getElem?_eq_getElem hs]; rfl)
  have st := evSt_at (α := BitVec 64) (H := H) (id := a) (g := ga) (i := r / 64) (L := s) (v := .int .u64 (s.getD (r / 64) 0 &&& ~~~ BitVec.twoPow 64 (r % 64)).toNat) (y := s.getD (r / 64) 0 &&& ~~~ BitVec.twoPow 64 (r % 64)) h hs rfl
  simp only [es_w] at st
  rw [ecall, hd]
  simp only [q41_1, q1, q2, ob_some, ix, ld, shl_w (Nat.mod_lt r (by omega : 64 > 0)), andNot_w, st, oh_some]
  rfl
end
theorem range_setW {α : Type} {n k : Nat} {p q : Nat → α} {v : α} (hq : q k = v) (he : ∀ j, j ≠ k → q j = p j) : ((List.range n).map p).set k v = (List.range n).map q := by
  refine List.ext_getElem (by simp) fun i h1 h2 => ?_
  rw [List.getElem_set]
  simp only [List.getElem_map, List.getElem_range]
  split
  · rename_i e; rw [← e, hq]
  · rename_i e; rw [he i (fun h => e h.symm)]
def joinK (k : Nat) (s t : Ws) : Ws := (List.range s.length).map fun j => if j < k then s.getD j 0 ||| t.getD j 0 else s.getD j 0
def moreK (k : Nat) (s t : Ws) : Bool := (List.range k).any fun j => decide (t.getD j 0 &&& ~~~ s.getD j 0 ≠ 0)
theorem joinK_len (k : Nat) (s t : Ws) : (joinK k s t).length = s.length := by simp [joinK]
theorem joinK_0 (s t : Ws) : joinK 0 s t = s := by
  refine List.ext_getElem (by simp [joinK]) fun i h1 h2 => ?_
  simp [joinK, h2]
theorem joinK_get {k : Nat} {s t : Ws} {j : Nat} (h : j < s.length) : (joinK k s t)[j]? = some (if j < k then s.getD j 0 ||| t.getD j 0 else s.getD j 0) := by simp [joinK, h]
theorem joinK_all {s t : Ws} (h : s.length = t.length) : joinK s.length s t = joinW s t := by
  refine List.ext_getElem (by simp [joinK, joinW, h]) fun i h1 h2 => ?_
  have hi : i < s.length := by simpa [joinK] using h1
  have hi2 : i < t.length := by omega
  simp [joinK, joinW, hi, hi2]
theorem moreK_all {s t : Ws} (h : s.length = t.length) : moreK s.length s t = moreW s t := by
  rw [Bool.eq_iff_iff, moreK, moreW, List.any_eq_true, List.any_eq_true]
  constructor
  · rintro ⟨j, hj, hb⟩
    rw [List.mem_range] at hj
    refine ⟨true, List.mem_of_getElem? (i := j) ?_, rfl⟩
    rw [List.getElem?_zipWith, List.getElem?_eq_getElem hj, List.getElem?_eq_getElem (by omega)]
    simp only [List.getD_eq_getElem?_getD, List.getElem?_eq_getElem hj, List.getElem?_eq_getElem (show j < t.length by omega), Option.getD_some] at hb
    simp only [hb]
  · rintro ⟨b, hb, h1⟩
    obtain ⟨k, hk⟩ := List.getElem?_of_mem hb
    rw [List.getElem?_zipWith] at hk
    by_cases hlt : k < s.length
    · rw [List.getElem?_eq_getElem hlt, List.getElem?_eq_getElem (show k < t.length by omega)] at hk
      simp only [Option.some.injEq] at hk
      refine ⟨k, List.mem_range.2 hlt, ?_⟩
      simp only [List.getD_eq_getElem?_getD, List.getElem?_eq_getElem hlt, List.getElem?_eq_getElem (show k < t.length by omega), Option.getD_some]
      rw [hk]; exact h1
    · rw [List.getElem?_eq_none (by omega)] at hk
      simp at hk
theorem joinK_set (k : Nat) (s t : Ws) : (joinK k s t).set k (s.getD k 0 ||| t.getD k 0) = joinK (k + 1) s t := by
  unfold joinK
  refine range_setW ?_ fun j hj => ?_
  · rw [if_pos (by omega)]
  · by_cases h1 : j < k
    · rw [if_pos (by omega), if_pos h1]
    · rw [if_neg (by omega), if_neg h1]
theorem moreK_succ (k : Nat) (s t : Ws) : moreK (k + 1) s t = (moreK k s t || decide (t.getD k 0 &&& ~~~ s.getD k 0 ≠ 0)) := by
  simp [moreK, List.range_succ]
theorem join_loop (fb : Nat) {a ga b gb : Nat} {s t : Ws} (hl : s.length = t.length) (hn : s.length ≤ 9223372036854775806) (hab : a ≠ b) : ∀ (d k : Nat) (H : Heap), k + d = t.length → H[a]? = some (AW ga (joinK k s t)) → H[b]? = some (AW gb t) →
    q43_L2 fb (.ls a ga 1 0 s.length) (.bool (moreK k s t)) (.ls b gb 1 0 t.length) (.int .i64 t.length) (.int .i64 (k : Int)) H = some (.bool (moreW s t), H.set a (AW ga (joinW s t))) := by
  intro d
  induction d with
  | zero =>
    intro k H hk ha hb
    have hk' : k = t.length := by omega
    subst hk'
    have hc : ¬ ((t.length : Int) < (t.length : Int)) := by omega
    rw [q43_L2_go]
    simp only [q43_6, evBin_lss, ob_some, hc, decide_false, q43_5, cnd_f, q43_1]
    rw [← joinK_all hl, ← moreK_all hl, hl, set_same ha]
  | succ d ih =>
    intro k H hk ha hb
    have hlt : k < t.length := by omega
    have hls : k < s.length := by omega
    have hc : ((k : Int) < (t.length : Int)) := by omega
    have hw := wrap_up hlt (by omega)
    have ixA := ixAt' (n := s.length) (p := (k : Int)) (by omega) (by omega) a ga .i64
    have ixB := ixAt' (n := t.length) (p := (k : Int)) (by omega) (by omega) b gb .i64
    rw [Int.toNat_natCast] at ixA ixB
    have gA := joinK_get (k := k) (t := t) hls
    rw [if_neg (Nat.lt_irrefl _)] at gA
    have lA := ld_at (α := BitVec 64) (H := H) (id := a) (g := ga) (i := k) (v := .int .u64 (s.getD k 0).toNat) ha gA rfl
    have lB := ld_at (α := BitVec 64) (H := H) (id := b) (g := gb) (i := k) (v := .int .u64 (t.getD k 0).toNat) hb (by rw [List.getElem?_eq_getElem hlt]) (by rw [List.getD_eq_getElem?_getD, List.getElem?_eq_getElem hlt]; rfl)
    have st := evSt_at (α := BitVec 64) (H := H) (id := a) (g := ga) (i := k) (L := joinK k s t) (v := .int .u64 (s.getD k 0 ||| t.getD k 0).toNat) (y := s.getD k 0 ||| t.getD k 0) ha (by rw [joinK_len]; exact hls) rfl
    rw [joinK_set] at st
    simp only [es_w] at st
    have ih0 := ih (k + 1) (H.set a (AW ga (joinK (k + 1) s t))) (by omega) (gs_eq (get_lt ha)) (by rw [gs_ne hab]; exact hb)
    rw [List.set_set, moreK_succ] at ih0
    push_cast at ih0
    rw [q43_L2_go]
    cases hm : moreK k s t with
    | true =>
      rw [hm, Bool.true_or] at ih0
      simp only [q43_6, evBin_lss, ob_some, hc, decide_true, q43_5, cnd_t, q43_4, ixB, lB, gb_tf, evPick_t, ixA, lA, or_w, st, oh_some, q43_3, evBin_add, hw, ih0]
    | false =>
      rw [hm, Bool.false_or] at ih0
      simp only [q43_6, evBin_lss, ob_some, hc, decide_true, q43_5, cnd_t, q43_4, ixB, lB, gb_ff, evPick_f, ixA, lA, andNot_w, neq0_w, or_w, st, oh_some, q43_3, evBin_add, hw]
      exact ih0
theorem s_join {H : Heap} {a ga b gb : Nat} {s t : Ws} (ha : H[a]? = some (AW ga s)) (hb : H[b]? = some (AW gb t)) (hl : s.length = t.length) (hn : s.length ≤ 9223372036854775806) (hab : a ≠ b) :
    callAny E (callW E) 0 none false 84 [.ls a ga 1 0 s.length, .ls b gb 1 0 t.length] H = some (.bool (moreW s t), H.set a (AW ga (joinW s t))) := by
  have hd : H ++ deadSlots 0 = H := by simp [deadSlots]
  rw [callAny, if_neg (by simp), x_q43, if_pos rfl, hd]
  have lp := join_loop H.length (ga := ga) (gb := gb) hl hn hab _ 0 H (Nat.zero_add _) (by rw [joinK_0]; exact ha) hb
  simp only [Int.ofNat_zero] at lp
  simp only [q43_11, q43_10, q43_8, evLen_ls, ob_some]
  exact lp
end Go.Vm
namespace Go.Vm
open Cel
attribute [local simp] callAny callP heapOf_nil
@[simp] theorem s_Ends (x : Ins) : (callW E).p 24 [.agg (enc x)] = some ⟨.bool (ends x.op), [], true, [], []⟩ := by
  rw [x_q17, q17_1]
  by_cases h1 : x.op = 27
  · simp [h1, ends]
  by_cases h2 : x.op = 30
  · simp [h2, ends]
  by_cases h3 : x.op = 31 <;> simp [h1, h2, h3, ends]
@[simp] theorem s_Leads (x : Ins) : (callW E).p 22 [.agg (enc x)] = some ⟨.bool (leads x.op), [], true, [], []⟩ := by
  rw [x_q18, q18_1]
  by_cases h1 : x.op = 27
  · simp [h1, leads]
  by_cases h2 : x.op = 28
  · simp [h2, leads]
  by_cases h3 : x.op = 29 <;> simp [h1, h2, h3, leads]
@[simp] theorem s_Calls (x : Ins) : (callW E).p 17 [.agg (enc x)] = some ⟨.bool (calls x.op), [], true, [], []⟩ := by
  rw [x_q13, q13_1]
  by_cases h1 : 23 ≤ x.op
  · by_cases h2 : x.op ≤ 26 <;> simp [h1, h2, calls]
  · simp [h1, calls]
end Go.Vm
namespace Go.Vm
open Cel
attribute [local simp] callAny callP heapOf_nil
@[simp] theorem s_Throws (x : Ins) : (callW E).p 18 [.agg (enc x)] = some ⟨.bool (throws x.op), [], true, [], []⟩ := by
  rw [x_q19]
  rcases op_cases x.op with h|h|h|h|h|h|h|h|h|h|h|h|h|h|h|h|h|h|h|h|h|h|h|h|h|h|h|h|h|h|h|h|h|h|h <;> first | (simp [h, throws, calls, q19_1]; done) | (simp [lo_f h, throws, calls, q19_1]; done) | simp [hi_f h, throws, calls, q19_1]
end Go.Vm
namespace Go.Vm
open Cel
attribute [local simp] callAny callP heapOf_nil
theorem slc_to {α : Type} [Cel α] (o : Option (List α)) (i : Nat) (h : i ≤ (lst o).length) (k : IntKind) : evSlcO (es α) (slA o) none (some (.int k i)) = some (slA (o.map (List.take i))) := by
  have h2 : (0 : Int) ≤ (i : Int) ∧ (i : Int) ≤ ((lst o).length : Int) := by omega
  cases o with
  | none =>
    have : i = 0 := by simpa using h
    subst this
    simp [evSlcO, slA, evSlc, optIxv, asNat]
  | some L =>
    simp only [lst_some] at h2
    simp [evSlcO, slA, evSlc, optIxv, asNat, h2, List.map_take]
theorem Index_loop (o : Option (List Int)) (r : Int) (hl : (lst o).length ≤ 9223372036854775807) (h : Heap) : ∀ (d i : Nat), i + d = (lst o).length →
    ∃ k : Int, q106_L2 (slA o) (.int .i64 r) (.int .i64 (lst o).length) (.int .i64 i) h = some ⟨.int .i64 k, [], true, [], []⟩ ∧ (0 ≤ k ↔ r ∈ (lst o).drop i) := by
  intro d
  induction d with
  | zero =>
    intro i hi
    have e1 : (lst o).drop i = [] := List.drop_eq_nil_of_le (by omega)
    have hn : ¬ ((i : Int) < ((lst o).length : Int)) := by omega
    rw [q106_L2_go, e1]
    exact ⟨-1, by simp [q106_1, q106_3, q106_4, q106_5, q106_6, q106_8, q106_10, hn], by simp⟩
  | succ d ih =>
    intro i hi
    have hlt : i < (lst o).length := by omega
    have hn : ((i : Int) < ((lst o).length : Int)) := by omega
    have k1 := ixs_int (o := o) (i := i) (List.getElem?_eq_getElem hlt) .i64
    have hm : r ∈ (lst o).drop i ↔ r = (lst o)[i] ∨ r ∈ (lst o).drop (i + 1) := by rw [List.drop_eq_getElem_cons hlt, List.mem_cons]
    rw [q106_L2_go, hm]
    by_cases he : r = (lst o)[i]
    · exact ⟨i, by simp [q106_1, q106_3, q106_4, q106_5, q106_6, q106_8, q106_10, hn, k1, he], by simp [he]⟩
    · obtain ⟨k, h1, h2⟩ := ih (i + 1) (by omega)
      push_cast at h1
      refine ⟨k, ?_, ?_⟩
      · simp [q106_1, q106_3, q106_4, q106_5, q106_6, q106_8, q106_10, hn, k1, he, wrap_up hlt hl, h1]
      · rw [h2]; simp [he]
@[simp] theorem s_Contains (o : Option (List Int)) (r : Int) (hl : (lst o).length ≤ 9223372036854775807) : (callW E).p 46 [slA o, .int .i64 r] = some ⟨.bool ((lst o).contains r), [], true, [], []⟩ := by
  obtain ⟨k, h1, h2⟩ := Index_loop o r hl [] (lst o).length 0 (by omega)
  simp only [Int.ofNat_zero, List.drop_zero] at h1 h2
  have hi : (callW E).p 45 [slA o, .int .i64 r] = some ⟨.int .i64 k, [], true, [], []⟩ := by
    rw [x_q106, ← h1]
    simp [q106_1, q106_3, q106_4, q106_5, q106_6, q106_8, q106_10]
  rw [x_q105]
  by_cases h0 : 0 ≤ k
  · have := h2.1 h0
    simp [q105_1, hi, h0, this]
  · have : r ∉ lst o := fun h => h0 (h2.2 h)
    simp [q105_1, hi, h0, this]
end Go.Vm
namespace Go.Vm
open Cel
attribute [local simp] callAny callP heapOf_nil
theorem contains1 (a b : Int) : (callW E).p 46 [.rs 1 [[.int .i64 a]], .int .i64 b] = some ⟨.bool ([a].contains b), [], true, [], []⟩ := by
  have := s_Contains (some [a]) b (by simp)
  exact this
theorem s_Next (f : Fn) (i : Int) (hl : (lst f.code).length ≤ 9223372036854775807) : (callW E).p 81 [.agg (enc f), .int .i64 i] = some (exO (nz (nextL f i))) := by
  rw [x_q6]
  by_cases h0 : i < 0
  · simp [q6_1, q6_2, q6_3, q6_4, q6_5, q6_6, q6_7, h0, nextL, nz]; rfl
  by_cases h1 : ((lst f.code).length : Int) ≤ i
  · simp [q6_1, q6_2, q6_3, q6_4, q6_5, q6_6, q6_7, h0, h1, nextL, nz]; rfl
  have g0 : 0 ≤ i := by omega
  have hx := insAt_lt (f := f) (i := i.toNat) (by omega)
  have k1 := ixs_insI (o := f.code) g0 hx .i64
  have hw := wrap_next g0 (by omega) hl
  have hn : nextL f i = nextI (insAt f i.toNat) i := by rw [nextL, if_neg (by omega)]
  rw [hn]
  generalize insAt f i.toNat = x at *
  have e : q6_7 (.agg (enc f)) (.int .i64 i) [⟨0, .dead⟩, ⟨0, .dead⟩, ⟨0, .dead⟩, ⟨0, .dead⟩, ⟨0, .dead⟩, ⟨0, .dead⟩] = q6_3 (.int .i64 i) (.lp 1 1 0 0) .nils [⟨1, .arr true false 5 [enc f]⟩, ⟨1, .arr true false 9 [enc x]⟩, ⟨0, .dead⟩, ⟨0, .dead⟩, ⟨0, .dead⟩, ⟨0, .dead⟩] := by
    simp [q6_7, q6_6, q6_5, q6_4, h0, h1, k1]
  rw [e, nextI]
  cases he : ends x.op with
  | true =>
    cases hd : leads x.op with
    | false => simp [q6_3, q6_2, q6_1, he, hd, nz]; rfl
    | true =>
      have := s_Contains none x.t (by simp)
      simp [q6_3, q6_2, q6_1, he, hd, nz, slA] at this ⊢
      simp [this, buildSC, fillRows, evApp, addN]
      exact expo1_int1 (by simp)
  | false =>
    cases hd : leads x.op with
    | false =>
      simp [q6_3, q6_2, q6_1, he, hd, hw, buildSC, fillRows, evApp]
      exact expo1_int1 (by simp)
    | true =>
      have hz : fz [⟨1, .arr true false 5 [enc f]⟩, ⟨1, .arr true false 9 [enc x]⟩, ⟨1, .arr false false 1 [[.int .i64 (i + 1)]]⟩, ⟨1, .arr false false 1 [[.int .i64 (i + 1)]]⟩, ⟨0, .dead⟩, ⟨0, .dead⟩] fuelF (.ls 3 1 1 0 1) = some ⟨.rs 1 [[.int .i64 (i + 1)]], true, [3]⟩ := by
        rw [fz_ls]; rfl
      generalize hxt : x.t = t at *
      by_cases hc : i + 1 = t
      · subst hc
        simp [q6_3, q6_2, q6_1, he, hd, hw, buildSC, fillRows, evApp, hz, contains1, addN, hxt]
        exact expo1_int1 (by simp)
      · have hc' : ¬ t = i + 1 := fun h => hc h.symm
        simp [q6_3, q6_2, q6_1, he, hd, hw, buildSC, fillRows, evApp, hz, contains1, hc, hc', addN, hxt]
        exact expo1_int2 (by simp)
theorem Caught_loop (f : Fn) (i : Int) (hl : (lst f.rows).length ≤ 10000000000000) : ∀ (d k g : Nat) (L : List Int) (o1 o2 : AO), k + d = (lst f.rows).length → L.length ≤ k →
    q4_L2 (.int .i64 i) (slotV Int 3 g L) (slA f.rows) (.int .i64 (lst f.rows).length) (.int .i64 k) [⟨1, .arr true false 5 [enc f]⟩, o1, o2, slotO g D0 L] = some (exO (nz (caughtG i ((lst f.rows).drop k) L))) := by
  intro d
  induction d with
  | zero =>
    intro k g L o1 o2 hk _
    have e1 : (lst f.rows).drop k = [] := List.drop_eq_nil_of_le (by omega)
    have hn : ¬ ((k : Int) < ((lst f.rows).length : Int)) := by omega
    have hx := expo1_slotX (H := [⟨1, .arr true false 5 [enc f]⟩, o1, o2, slotO g D0 L]) (j := 3) (g := g) (o := D0) (L := L) rfl
    rw [q4_L2_go, e1]
    simp [q4_11, q4_10, q4_1, hn, caughtG, hx]
  | succ d ih =>
    intro k g L o1 o2 hk hL
    have hlt : k < (lst f.rows).length := by omega
    have hc : ((k : Int) < ((lst f.rows).length : Int)) := by omega
    have k1 := ixs_row (o := f.rows) (i := k) (List.getElem?_eq_getElem hlt) .i64
    rw [q4_L2_go, List.drop_eq_getElem_cons hlt]
    generalize hr : (lst f.rows)[k] = r at *
    have ih0 := fun g L o1 o2 hL => ih (k + 1) g L o1 o2 (by omega) hL
    push_cast at ih0
    have hw := wrap_up hlt (by omega)
    have e11 : q4_11 (.int .i64 i) (slotV Int 3 g L) (slA f.rows) (.int .i64 (lst f.rows).length) (.int .i64 k) [⟨1, .arr true false 5 [enc f]⟩, o1, o2, slotO g D0 L] =
        q4_6 (.int .i64 i) (slotV Int 3 g L) (.lp 1 (o1.gen + 1) 0 0) (slA f.rows) (.int .i64 (lst f.rows).length) (.int .i64 k) [⟨1, .arr true false 5 [enc f]⟩, ⟨o1.gen + 1, .arr true false 4 [enc r]⟩, o2, slotO g D0 L] := by
      simp [q4_11, q4_10, q4_7, hc, k1]
    rw [e11]
    generalize (o1.gen + 1) = g1
    by_cases h1 : i < r.f
    · have : ¬ (r.f ≤ i ∧ i < r.t) := by omega
      simp [q4_6, q4_3, h1, hw, caughtG, this, ih0 g L _ _ (by omega)]
    by_cases h2 : r.t ≤ i
    · have : ¬ (r.f ≤ i ∧ i < r.t) := by omega
      simp [q4_6, q4_3, h1, h2, hw, caughtG, this, ih0 g L _ _ (by omega)]
    have hin : r.f ≤ i ∧ i < r.t := by omega
    rw [caughtG, if_pos hin]
    have hz : ∀ o2, fz [⟨1, .arr true false 5 [enc f]⟩, ⟨g1, .arr true false 4 [enc r]⟩, o2, slotO g D0 L] fuelF (slotV Int 3 g L) = some ⟨slA (nz L), true, ids1 (slotV Int 3 g L)⟩ := fun o2 => fz_slotI rfl
    have hct := s_Contains (nz L) r.at_ (by rw [lst_nz]; omega)
    rw [lst_nz] at hct
    have tail : ∀ g L o2, L.length ≤ k + 1 → q4_4 (.int .i64 i) (slotV Int 3 g L) (.lp 1 g1 0 0) (slA f.rows) (.int .i64 (lst f.rows).length) (.int .i64 k) [⟨1, .arr true false 5 [enc f]⟩, ⟨g1, .arr true false 4 [enc r]⟩, o2, slotO g D0 L] =
        some (exO (nz (if r.c = [] then L else caughtG i ((lst f.rows).drop (k + 1)) L))) := by
      intro g L o2 hL
      have hx := expo1_slotX (H := [⟨1, .arr true false 5 [enc f]⟩, ⟨g1, .arr true false 4 [enc r]⟩, o2, slotO g D0 L]) (j := 3) (g := g) (o := D0) (L := L) rfl
      by_cases hcl : r.c = []
      · simp [q4_4, q4_1, hcl, hx]
      · simp [q4_4, q4_3, hcl, hw, ih0 g L _ _ hL]
    unfold addN
    cases hb : L.contains r.at_ with
    | true =>
      rw [hb] at hct
      rw [if_pos rfl]
      have := tail g L o2 (by omega)
      simp [q4_6, q4_5, h1, h2, hz, hct, this]
    | false =>
      rw [hb] at hct
      rw [if_neg Bool.false_ne_true]
      obtain ⟨g', ha⟩ := app_int (H := [⟨1, .arr true false 5 [enc f]⟩, ⟨g1, .arr true false 4 [enc r]⟩, ⟨o2.gen + 1, .arr false false 1 [[.int .i64 r.at_]]⟩, slotO g D0 L]) (fb := 0) (j := 3) (g := g) (o := D0) (y := .ls 2 (o2.gen + 1) 1 0 1) (L := L) (n := r.at_) (by simp) rfl (by omega)
      have ha' : evApp 0 (some 3) 1 8 (slotV Int 3 g L) (.ls 2 (o2.gen + 1) 1 0 1) [⟨1, .arr true false 5 [enc f]⟩, ⟨g1, .arr true false 4 [enc r]⟩, ⟨o2.gen + 1, .arr false false 1 [[.int .i64 r.at_]]⟩, slotO g D0 L] = some (slotV Int 3 g' (L ++ [r.at_]), [⟨1, .arr true false 5 [enc f]⟩, ⟨g1, .arr true false 4 [enc r]⟩, ⟨o2.gen + 1, .arr false false 1 [[.int .i64 r.at_]]⟩, slotO g' D0 (L ++ [r.at_])]) := ha
      have := tail g' (L ++ [r.at_]) ⟨o2.gen + 1, .arr false false 1 [[.int .i64 r.at_]]⟩ (by simp; omega)
      simp [q4_6, q4_5, h1, h2, hz, hct, buildSC, fillRows, ha', this]
theorem s_Caught (f : Fn) (i : Int) (hl : (lst f.rows).length ≤ 10000000000000) : (callW E).p 79 [.agg (enc f), .int .i64 i] = some (exO (nz (caughtL f i))) := by
  rw [x_q4]
  by_cases h0 : i < 0
  · simp [q4_17, q4_16, h0, caughtL, nz]; rfl
  by_cases h1 : ((lst f.code).length : Int) ≤ i
  · simp [q4_17, q4_16, h0, h1, caughtL, nz]; rfl
  have g0 : 0 ≤ i := by omega
  have hx := insAt_lt (f := f) (i := i.toNat) (by omega)
  have k1 := ixs_insI (o := f.code) g0 hx .i64
  have hn : caughtL f i = if throws (insAt f i.toNat).op then caughtG i (lst f.rows) [] else [] := by rw [caughtL, if_neg (by omega)]
  rw [hn]
  generalize insAt f i.toNat = x at *
  have lp := Caught_loop f i hl _ 0 0 [] D0 D0 (Nat.zero_add _) (Nat.zero_le _)
  simp only [slotV_nil, slotO_nil, List.drop_zero, Int.ofNat_zero] at lp
  cases ht : throws x.op with
  | false => simp [q4_17, q4_16, h0, h1, k1, ht, nz]; rfl
  | true => simp [q4_17, q4_16, q4_15, q4_13, h0, h1, k1, ht, lp]
end Go.Vm
namespace Go.Vm
open Cel
attribute [local simp] callAny callP heapOf_nil
@[simp] theorem s_Clone_int (o : Option (List Int)) (h : (lst o).length ≤ 17592186043904) : (callW E).p 39 [slA o] = some (exO o) := by
  rw [x_q104]
  cases o with
  | none => simp [q104_1, q104_2, q104_3]; rfl
  | some L =>
    simp only [lst_some] at h
    have h1 : (2 * L.length + 512) * 8 ≤ 281474976710656 := by omega
    simp [q104_1, q104_2, q104_3, buildSC, fillRows, evApp, h1]
    exact expo1_own (α := Int) (by simp)
end Go.Vm
namespace Go.Vm
open Cel
attribute [local simp] callAny callP heapOf_nil
theorem uses_1 (x : Ins) (h : x.op = 4 ∨ x.op = 6 ∨ x.op = 7 ∨ x.op = 8 ∨ x.op = 10 ∨ x.op = 12 ∨ x.op = 15 ∨ x.op = 16 ∨ x.op = 19 ∨ x.op = 21 ∨ x.op = 22 ∨ x.op = 31) : (callW E).p 10 [.agg (enc x)] = some (exO (uses x)) := by
  rw [x_q20]
  rcases h with h|h|h|h|h|h|h|h|h|h|h|h <;> (simp [h, uses, calls, reads, q20_1, q20_2, q20_3, q20_4, q20_5, q20_6, q20_7, q20_8, q20_9, q20_10, q20_11, q20_12, q20_13, q20_15, q20_17, buildSC, fillRows]; exact expo1_own (α := Int) (L := [x.a]) (by simp))
theorem uses_2 (x : Ins) (h : x.op = 5 ∨ x.op = 9 ∨ x.op = 11 ∨ x.op = 13 ∨ x.op = 17 ∨ x.op = 28) : (callW E).p 10 [.agg (enc x)] = some (exO (uses x)) := by
  rw [x_q20]
  rcases h with h|h|h|h|h|h <;> (simp [h, uses, calls, reads, q20_1, q20_2, q20_3, q20_4, q20_5, q20_6, q20_7, q20_8, q20_9, q20_10, q20_11, q20_12, q20_13, q20_15, q20_17, buildSC, fillRows]; exact expo1_own (α := Int) (L := [x.a, x.b]) (by simp))
theorem uses_3 (x : Ins) (h : x.op = 14) : (callW E).p 10 [.agg (enc x)] = some (exO (uses x)) := by
  rw [x_q20]
  simp [h, uses, calls, reads, q20_1, q20_2, q20_3, q20_4, q20_5, q20_6, q20_7, q20_8, q20_9, q20_10, q20_11, q20_12, q20_13, q20_15, q20_17, buildSC, fillRows]
  exact expo1_own (α := Int) (L := [x.a, x.b, x.c]) (by simp)
theorem uses_4 (x : Ins) (h : x.op = 23 ∨ x.op = 24 ∨ x.op = 25 ∨ x.op = 26) (hl : (lst x.args).length ≤ 17592186043904) : (callW E).p 10 [.agg (enc x)] = some (exO (uses x)) := by
  rw [x_q20]
  have e : uses x = x.args := by rcases h with h|h|h|h <;> simp [h, uses, calls]
  rw [e]
  have hc := s_Clone_int x.args hl
  cases ha : x.args with
  | none =>
    rw [ha] at hc
    rcases h with h|h|h|h <;> (simp [h, q20_1, q20_2, q20_3, q20_4, q20_5, q20_6, q20_7, q20_8, q20_9, q20_10, q20_11, q20_12, q20_13, q20_15, q20_17, ha, hc, exO, placeAll, reloc, relocAgg, relocLeaf]; done)
  | some L =>
    rw [ha] at hc
    rcases h with h|h|h|h <;> (simp [h, q20_1, q20_2, q20_3, q20_4, q20_5, q20_6, q20_7, q20_8, q20_9, q20_10, q20_11, q20_12, q20_13, q20_15, q20_17, ha, hc, placeAll, relocOC, okOC, reloc, relocAgg, relocLeaf, exO]; exact expo1_own (α := Int) (L := L) (by simp))
theorem uses_5 (x : Ins) (h : x.op = 29) : (callW E).p 10 [.agg (enc x)] = some (exO (uses x)) := by
  rw [x_q20]
  by_cases hb : x.b < 0
  · simp [hb, h, uses, calls, reads, q20_1, q20_2, q20_3, q20_4, q20_5, q20_6, q20_7, q20_8, q20_9, q20_10, q20_11, q20_12, q20_13, q20_15, q20_17, buildSC, fillRows]
    exact expo1_own (α := Int) (L := [x.a]) (by simp)
  · simp [hb, h, uses, calls, reads, q20_1, q20_2, q20_3, q20_4, q20_5, q20_6, q20_7, q20_8, q20_9, q20_10, q20_11, q20_12, q20_13, q20_15, q20_17, buildSC, fillRows]
    exact expo1_own (α := Int) (L := [x.a, x.b]) (by simp)
theorem uses_6 (x : Ins) (h : x.op = 30) : (callW E).p 10 [.agg (enc x)] = some (exO (uses x)) := by
  rw [x_q20]
  by_cases hb : 0 ≤ x.a
  · simp [hb, h, uses, calls, reads, q20_1, q20_2, q20_3, q20_4, q20_5, q20_6, q20_7, q20_8, q20_9, q20_10, q20_11, q20_12, q20_13, q20_15, q20_17, buildSC, fillRows]
    exact expo1_own (α := Int) (L := [x.a]) (by simp)
  · simp [hb, h, uses, calls, reads, q20_1, q20_2, q20_3, q20_4, q20_5, q20_6, q20_7, q20_8, q20_9, q20_10, q20_11, q20_12, q20_13, q20_15, q20_17, buildSC, fillRows, exO]
theorem uses_7 (x : Ins) (h : x.op = 1 ∨ x.op = 2 ∨ x.op = 3 ∨ x.op = 18 ∨ x.op = 20 ∨ x.op = 27 ∨ x.op = 32 ∨ x.op = 33 ∨ x.op < 1 ∨ 33 < x.op) : (callW E).p 10 [.agg (enc x)] = some (exO (uses x)) := by
  rw [x_q20]
  rcases h with h|h|h|h|h|h|h|h|h|h
  all_goals first | (simp [h, uses, calls, reads, q20_1, q20_2, q20_3, q20_4, q20_5, q20_6, q20_7, q20_8, q20_9, q20_10, q20_11, q20_12, q20_13, q20_15, q20_17, exO]; done) | (simp [lo_f h, uses, calls, reads, q20_1, q20_2, q20_3, q20_4, q20_5, q20_6, q20_7, q20_8, q20_9, q20_10, q20_11, q20_12, q20_13, q20_15, q20_17, exO]; done) | simp [hi_f h, uses, calls, reads, q20_1, q20_2, q20_3, q20_4, q20_5, q20_6, q20_7, q20_8, q20_9, q20_10, q20_11, q20_12, q20_13, q20_15, q20_17, exO]
theorem s_Uses (x : Ins) (hl : (lst x.args).length ≤ 17592186043904) : (callW E).p 10 [.agg (enc x)] = some (exO (uses x)) := by
  by_cases h1 : x.op = 4 ∨ x.op = 6 ∨ x.op = 7 ∨ x.op = 8 ∨ x.op = 10 ∨ x.op = 12 ∨ x.op = 15 ∨ x.op = 16 ∨ x.op = 19 ∨ x.op = 21 ∨ x.op = 22 ∨ x.op = 31
  · exact uses_1 x h1
  by_cases h2 : x.op = 5 ∨ x.op = 9 ∨ x.op = 11 ∨ x.op = 13 ∨ x.op = 17 ∨ x.op = 28
  · exact uses_2 x h2
  by_cases h4 : x.op = 23 ∨ x.op = 24 ∨ x.op = 25 ∨ x.op = 26
  · exact uses_4 x h4 hl
  by_cases h5 : x.op = 29
  · exact uses_5 x h5
  by_cases h6 : x.op = 30
  · exact uses_6 x h6
  by_cases h3 : x.op = 14
  · exact uses_3 x h3
  exact uses_7 x (by omega)
end Go.Vm
namespace Go.Vm
open Cel
attribute [local simp] callAny callP heapOf_nil
@[simp] theorem s_Def (x : Ins) : (callW E).p 9 [.agg (enc x)] = some ⟨.int .i64 (defr x), [], true, [], []⟩ := by
  rw [x_q16]
  rcases op_cases x.op with h|h|h|h|h|h|h|h|h|h|h|h|h|h|h|h|h|h|h|h|h|h|h|h|h|h|h|h|h|h|h|h|h|h|h <;> first | (simp [h, defr, writes, calls, q16_1, q16_2, q16_3, q16_4, q16_6, q16_8]; done) | (simp [lo_f h, defr, writes, calls, q16_1, q16_2, q16_3, q16_4, q16_6, q16_8]; done) | simp [hi_f h, defr, writes, calls, q16_1, q16_2, q16_3, q16_4, q16_6, q16_8]
end Go.Vm
namespace Go.Vm
open Cel
def tk (t : Tb) : Nat → List Ws
  | 0 => t.b
  | 1 => t.a
  | _ => t.h
def setk (t : Tb) (k i : Nat) (x : Ws) : Tb := match k with
  | 0 => ⟨t.b.set i x, t.a, t.h⟩
  | 1 => ⟨t.b, t.a.set i x, t.h⟩
  | _ => ⟨t.b, t.a, t.h.set i x⟩
abbrev Plc := Nat → Nat → Nat × Nat
abbrev Arr := Nat → Nat × Nat
def rowsP (P : Plc) (W k n : Nat) : List (List AV) := (List.range n).map fun i => [.ls (P k i).1 (P k i).2 1 0 W]
structure LvRep (f : Fn) (P : Plc) (Q : Arr) (H : Heap) (t : Tb) : Prop where
  box : H[0]? = some (AB f)
  tb : H[1]? = some ⟨1, .arr true false 4 [[.ls (Q 0).1 (Q 0).2 1 0 (lst f.code).length, .ls (Q 1).1 (Q 1).2 1 0 (lst f.code).length, .ls (Q 2).1 (Q 2).2 1 0 (lst f.code).length, .int .i64 (lst f.regs).length]]⟩
  arr : ∀ k, k < 3 → H[(Q k).1]? = some ⟨(Q k).2, .arr false false 1 (rowsP P ((lst f.regs).length / 64 + 1) k (lst f.code).length)⟩
  row : ∀ k, k < 3 → ∀ i, i < (lst f.code).length → H[(P k i).1]? = some (AW (P k i).2 (rowW (tk t k) i))
  inj : ∀ k k' i i', k < 3 → k' < 3 → i < (lst f.code).length → i' < (lst f.code).length → (P k i).1 = (P k' i').1 → k = k' ∧ i = i'
  off : ∀ k k' i, k < 3 → k' < 3 → i < (lst f.code).length → (P k i).1 ≠ (Q k').1
  farP : ∀ k i, k < 3 → i < (lst f.code).length → 3 ≤ (P k i).1
  farQ : ∀ k, k < 3 → 3 ≤ (Q k).1
  injQ : ∀ k k', k < 3 → k' < 3 → (Q k).1 = (Q k').1 → k = k'
  size : 3 ≤ H.length
  ok : TbOk (lst f.code).length ((lst f.regs).length / 64 + 1) t
section
variable {f : Fn} {P : Plc} {Q : Arr} {H : Heap} {t : Tb} (L : LvRep f P Q H t)
include L
theorem LvRep.len {k i : Nat} (hk : k < 3) (hi : i < (lst f.code).length) : (rowW (tk t k) i).length = (lst f.regs).length / 64 + 1 := by
  match k, hk with
  | 0, _ => exact L.ok.bw i hi
  | 1, _ => exact L.ok.aw i hi
  | 2, _ => exact L.ok.hw i hi
theorem LvRep.slot (x : AO) : LvRep f P Q (H.set 2 x) t := by
  refine ⟨?_, ?_, fun k hk => ?_, fun k hk i hi => ?_, L.inj, L.off, L.farP, L.farQ, L.injQ, by rw [List.length_set]; exact L.size, L.ok⟩
  · rw [gs_ne (by omega)]; exact L.box
  · rw [gs_ne (by omega)]; exact L.tb
  · have := L.farQ k hk
    rw [gs_ne (by omega)]; exact L.arr k hk
  · have := L.farP k i hk hi
    rw [gs_ne (by omega)]; exact L.row k hk i hi
theorem LvRep.put {k i : Nat} (hk : k < 3) (hi : i < (lst f.code).length) {x : Ws} (hx : x.length = (lst f.regs).length / 64 + 1) : LvRep f P Q (H.set (P k i).1 (AW (P k i).2 x)) (setk t k i x) := by
  have fp := L.farP k i hk hi
  have hrow : ∀ k' j, k' < 3 → j < (lst f.code).length → rowW (tk (setk t k i x) k') j = if k' = k ∧ j = i then x else rowW (tk t k') j := by
    intro k' j hk' hj
    match k, hk, k', hk' with
    | 0, _, 0, _ => simp only [setk, tk]; rw [row_set (by rw [L.ok.b]; exact hi)]; simp
    | 1, _, 1, _ => simp only [setk, tk]; rw [row_set (by rw [L.ok.a]; exact hi)]; simp
    | 2, _, 2, _ => simp only [setk, tk]; rw [row_set (by rw [L.ok.h]; exact hi)]; simp
    | 0, _, 1, _ => simp [setk, tk]
    | 0, _, 2, _ => simp [setk, tk]
    | 1, _, 0, _ => simp [setk, tk]
    | 1, _, 2, _ => simp [setk, tk]
    | 2, _, 0, _ => simp [setk, tk]
    | 2, _, 1, _ => simp [setk, tk]
  have hlen : ∀ k' j, k' < 3 → j < (lst f.code).length → (rowW (tk (setk t k i x) k') j).length = (lst f.regs).length / 64 + 1 := by
    intro k' j hk' hj
    rw [hrow k' j hk' hj]
    split
    · exact hx
    · exact L.len hk' hj
  refine ⟨?_, ?_, fun k' hk' => ?_, fun k' hk' j hj => ?_, L.inj, L.off, L.farP, L.farQ, L.injQ, by rw [List.length_set]; exact L.size, ?_⟩
  · rw [gs_ne (by omega)]; exact L.box
  · rw [gs_ne (by omega)]; exact L.tb
  · rw [gs_ne (L.off k k' i hk hk' hi)]; exact L.arr k' hk'
  · rw [hrow k' j hk' hj]
    by_cases e : k' = k ∧ j = i
    · obtain ⟨e1, e2⟩ := e
      subst e1; subst e2
      rw [if_pos ⟨rfl, rfl⟩]
      exact gs_eq (get_lt (L.row k' hk j hi))
    · rw [if_neg e, gs_ne (fun h => e (by
        obtain ⟨a, b⟩ := L.inj k k' i j hk hk' hi hj h
        exact ⟨a.symm, b.symm⟩))]
      exact L.row k' hk' j hj
  · refine ⟨?_, ?_, ?_, fun j hj => hlen 0 j (by omega) hj, fun j hj => hlen 1 j (by omega) hj, fun j hj => hlen 2 j (by omega) hj⟩
    · match k, hk with
      | 0, _ => simp only [setk, List.length_set]; exact L.ok.b
      | 1, _ => exact L.ok.b
      | 2, _ => exact L.ok.b
    · match k, hk with
      | 0, _ => exact L.ok.a
      | 1, _ => simp only [setk, List.length_set]; exact L.ok.a
      | 2, _ => exact L.ok.a
    · match k, hk with
      | 0, _ => exact L.ok.h
      | 1, _ => exact L.ok.h
      | 2, _ => simp only [setk, List.length_set]; exact L.ok.h
theorem LvRep.fld {k : Nat} (hk : k < 3) : evLd false 1 (.lp 1 1 0 k) H = some (.ls (Q k).1 (Q k).2 1 0 (lst f.code).length) := by
  have hr : rowsAt H 1 1 = some (false, 4, [[.ls (Q 0).1 (Q 0).2 1 0 (lst f.code).length, .ls (Q 1).1 (Q 1).2 1 0 (lst f.code).length, .ls (Q 2).1 (Q 2).2 1 0 (lst f.code).length, .int .i64 (lst f.regs).length]]) := by simp [rowsAt, objAt, L.tb]
  rw [evLd_lp, hr]
  match k, hk with
  | 0, _ => rfl
  | 1, _ => rfl
  | 2, _ => rfl
theorem LvRep.at {k i : Nat} (hk : k < 3) (hi : i < (lst f.code).length) : evLd false 1 (.lp (Q k).1 (Q k).2 i 0) H = some (.ls (P k i).1 (P k i).2 1 0 ((lst f.regs).length / 64 + 1)) :=
  ld_row (L.arr k hk) (by simp [rowsP, hi])
theorem LvRep.join {k k' i j : Nat} (hk : k < 3) (hi : i < (lst f.code).length) (hk' : k' < 3) (hj : j < (lst f.code).length) (hR : (lst f.regs).length ≤ 20000) (hne : k ≠ k') :
    callAny E (callW E) 0 none false 84 [.ls (P k i).1 (P k i).2 1 0 ((lst f.regs).length / 64 + 1), .ls (P k' j).1 (P k' j).2 1 0 ((lst f.regs).length / 64 + 1)] H =
      some (.bool (moreW (rowW (tk t k) i) (rowW (tk t k') j)), H.set (P k i).1 (AW (P k i).2 (joinW (rowW (tk t k) i) (rowW (tk t k') j)))) := by
  have h1 := L.len hk hi
  have h2 := L.len hk' hj
  have := s_join (L.row k hk i hi) (L.row k' hk' j hj) (by rw [h1, h2]) (by rw [h1]; omega) (fun e => hne (L.inj k k' i j hk hk' hi hj e).1)
  rw [h1, h2] at this
  exact this
end
theorem joins_loop {f : Fn} {P : Plc} {Q : Arr} (hR : (lst f.regs).length ≤ 20000) {k i : Nat} (hk : k < 3) (hk0 : k ≠ 0) (hi : i < (lst f.code).length) {l : List Int} (hl : ∀ to ∈ l, 0 ≤ to ∧ to < ((lst f.code).length : Int)) (G : Nat → Heap → Option (Ex AV))
    (step : ∀ m to H t, l[m]? = some to → LvRep f P Q H t → G m H = oh (callAny E (callW E) 0 none false 84 [.ls (P k i).1 (P k i).2 1 0 ((lst f.regs).length / 64 + 1), .ls (P 0 to.toNat).1 (P 0 to.toNat).2 1 0 ((lst f.regs).length / 64 + 1)] H) fun _ H' => G (m + 1) H') :
    ∀ (d m : Nat) (H : Heap) (t : Tb), m + d = l.length → LvRep f P Q H t →
    ∃ H', G m H = G l.length H' ∧ LvRep f P Q H' (setk t k i (joins t.b (l.drop m) (rowW (tk t k) i))) := by
  intro d
  induction d with
  | zero =>
    intro m H t hm L
    have e : l.drop m = [] := List.drop_eq_nil_of_le (by omega)
    have hm' : m = l.length := by omega
    rw [e, hm']
    refine ⟨H, rfl, ?_⟩
    have : setk t k i (joins t.b [] (rowW (tk t k) i)) = t := by
      have hs : ∀ (l : List Ws), i < l.length → l.set i (rowW l i) = l := fun l h => by
        refine List.ext_getElem (by simp) fun j h1 h2 => ?_
        rw [List.getElem_set]
        split
        · rename_i e; subst e; simp [rowW, List.getD_eq_getElem?_getD, List.getElem?_eq_getElem h]
        · rfl
      match k, hk with
      | 0, _ => simp only [setk, tk, joins, List.foldl_nil]; rw [hs _ (by rw [L.ok.b]; exact hi)]
      | 1, _ => simp only [setk, tk, joins, List.foldl_nil]; rw [hs _ (by rw [L.ok.a]; exact hi)]
      | 2, _ => simp only [setk, tk, joins, List.foldl_nil]; rw [hs _ (by rw [L.ok.h]; exact hi)]
    rw [this]; exact L
  | succ d ih =>
    intro m H t hm L
    have hlt : m < l.length := by omega
    have hto := hl _ (List.getElem_mem hlt)
    have st := step m _ H t (List.getElem?_eq_getElem hlt) L
    rw [List.drop_eq_getElem_cons hlt]
    generalize l[m] = to at *
    have hj : to.toNat < (lst f.code).length := by omega
    have h1 := L.len hk hi
    have h2 := L.len (k := 0) (by omega) hj
    rw [L.join hk hi (by omega) hj hR hk0, oh_some] at st
    have L2 := L.put hk hi (x := joinW (rowW (tk t k) i) (rowW (tk t 0) to.toNat)) (by rw [joinW_len (by rw [h1, h2]), h1])
    obtain ⟨H', e, L3⟩ := ih (m + 1) _ _ (by omega) L2
    refine ⟨H', by rw [st, e], ?_⟩
    have eb : (setk t k i (joinW (rowW (tk t k) i) (rowW (tk t 0) to.toNat))).b = t.b := by
      match k, hk, hk0 with
      | 1, _, _ => rfl
      | 2, _, _ => rfl
    have er : rowW (tk (setk t k i (joinW (rowW (tk t k) i) (rowW (tk t 0) to.toNat))) k) i = joinW (rowW (tk t k) i) (rowW t.b to.toNat) := by
      match k, hk, hk0 with
      | 1, _, _ => simp only [setk, tk]; rw [row_set (by rw [L.ok.a]; exact hi), if_pos rfl]
      | 2, _, _ => simp only [setk, tk]; rw [row_set (by rw [L.ok.h]; exact hi), if_pos rfl]
    have ess : ∀ y x, setk (setk t k i y) k i x = setk t k i x := fun y x => by
      match k, hk with
      | 0, _ => simp [setk]
      | 1, _ => simp [setk]
      | 2, _ => simp [setk]
    rw [eb, er, ess] at L3
    exact L3
end Go.Vm
