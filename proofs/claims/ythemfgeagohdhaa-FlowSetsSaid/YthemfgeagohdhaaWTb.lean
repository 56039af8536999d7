/- Whether each register is written ahead of all that reads it, in plain words: by ways, and by what is set at each place. In a well formed function the registers that are read and written are registers, and the places that follow are places. The table of what is set tells whether each register is written ahead of all that reads it. What a callee made, as the caller's own: a list, or nothing. Heaps that grow: what lies where, behind one more object, behind one that is turned. Clones of lists of marks. flow.meet: what is set on one way more to a place. What the functions of 'ins' answer of single instructions. Which instructions may throw. A number in a list: the library's 'Contains'. flow.Next, flow.Caught. Clones of lists of numbers. What 'Uses' answers. The register that an instruction writes. What 'kinds' answers. What 'other' answers; all of 'kinds'. Whether one instruction is well formed: 'right'. -/
import Derived.Test.YthemfgeagohdhaaWX
import Derived.Test.YthemfgeagohdhaaWTa
set_option linter.unusedSimpArgs false
set_option linter.unusedVariables false
set_option linter.unusedSectionVars false
namespace Go.Vm
def usesAt (f : Fn) (i : Nat) : List Int := lst (uses (insAt f i))
def succR (f : Fn) (r : Int) (i : Nat) : List Int := caughtL f i ++ if defr (insAt f i) = r then [] else nextL f i
def badR (f : Fn) (r : Int) : Prop := ∃ i, Rch (lst f.code).length (succR f r) [0] i ∧ r ∈ usesAt f i
def setP (f : Fn) : Prop := ∀ r : Int, 0 ≤ r → r < (lst f.regs).length → r ∉ lst f.params → ¬ badR f r
open Classical in
noncomputable def setM (f : Fn) : Bool := wf f && decide (setP f)
abbrev Tab := List (Option (List Bool))
def andB (t s : List Bool) : List Bool := List.zipWith (· && ·) t s
def lessB (t s : List Bool) : Bool := (List.zipWith (fun a b => a && !b) t s).any id
def meetM (s : List Bool) (to : Int) (p : Tab × List Int) : Tab × List Int :=
  match p.1[to.toNat]? with
  | some (some t) => if lessB t s then (p.1.set to.toNat (some (andB t s)), p.2 ++ [to]) else p
  | _ => (p.1.set to.toNat (some s), p.2 ++ [to])
def meets_ (s : List Bool) : List Int → Tab × List Int → Tab × List Int
  | [], p => p
  | to :: l, p => meets_ s l (meetM s to p)
def writeB (d : Int) (s : List Bool) : List Bool := if 0 ≤ d then s.set d.toNat true else s
def tabAt (ins : Tab) (i : Nat) : List Bool := (ins[i]?.join).getD []
def setLoop (f : Fn) : Nat → Tab → List Int → Option Tab
  | 0, _, _ => none
  | k + 1, ins, work => match work.getLast? with
    | none => some ins
    | some i => match meets_ (tabAt ins i.toNat) (caughtL f i) (ins, work.dropLast) with
      | (ins1, w1) => match meets_ (writeB (defr (insAt f i.toNat)) (tabAt ins i.toNat)) (nextL f i) (ins1, w1) with
        | (ins2, w2) => setLoop f k ins2 w2
def wt (R : Nat) : Option (List Bool) → Nat
  | none => R + 1
  | some s => s.countP id
def pot (R : Nat) (ins : Tab) : Nat := (ins.map (wt R)).sum
def LeB (t s : List Bool) : Prop := ∀ r : Nat, t[r]? = some true → s[r]? = some true
theorem LeB.refl (t : List Bool) : LeB t t := fun _ h => h
theorem LeB.trans {a b c : List Bool} (h : LeB a b) (h' : LeB b c) : LeB a c := fun r h1 => h' r (h r h1)
theorem andB_len {t s : List Bool} (h : t.length = s.length) : (andB t s).length = t.length := by simp [andB, h]
theorem andB_get {t s : List Bool} {r : Nat} : (andB t s)[r]? = some true ↔ t[r]? = some true ∧ s[r]? = some true := by
  rw [andB, List.getElem?_zipWith]
  cases t[r]? <;> cases s[r]? <;> simp
theorem andB_left (t s : List Bool) : LeB (andB t s) t := fun _ h => (andB_get.1 h).1
theorem andB_right (t s : List Bool) : LeB (andB t s) s := fun _ h => (andB_get.1 h).2
theorem lessB_iff {t s : List Bool} : lessB t s = true ↔ ∃ r : Nat, t[r]? = some true ∧ s[r]? = some false := by
  rw [lessB, List.any_eq_true]
  constructor
  · rintro ⟨b, hb, h1⟩
    obtain ⟨r, hr⟩ := List.getElem?_of_mem hb
    rw [List.getElem?_zipWith] at hr
    refine ⟨r, ?_⟩
    cases ht : t[r]? <;> cases hs : s[r]? <;> rw [ht, hs] at hr <;> simp_all
  · rintro ⟨r, h1, h2⟩
    refine ⟨true, List.mem_of_getElem? (i := r) ?_, rfl⟩
    rw [List.getElem?_zipWith, h1, h2]; rfl
theorem count_lt : ∀ {t s : List Bool}, t.length = s.length → LeB s t → (∃ r : Nat, t[r]? = some true ∧ s[r]? = some false) → s.countP id < t.countP id
  | [], [], _, _, ⟨r, h, _⟩ => by simp at h
  | a :: t, b :: s, hl, hle, ⟨r, h1, h2⟩ => by
    have hl' : t.length = s.length := by simpa using hl
    have hle' : LeB s t := fun q h => by have := hle (q + 1) (by simpa using h); simpa using this
    have le : ∀ {t s : List Bool}, t.length = s.length → LeB s t → s.countP id ≤ t.countP id := by
      intro t
      induction t with
      | nil => intro s hl _; rw [List.length_nil] at hl; rw [List.eq_nil_of_length_eq_zero hl.symm]; exact Nat.le_refl _
      | cons a t ih =>
        intro s hl hle
        cases s with
        | nil => simp at hl
        | cons b s =>
          have := ih (s := s) (by simpa using hl) (fun q h => by have := hle (q + 1) (by simpa using h); simpa using this)
          have h0 := hle 0
          simp only [List.countP_cons]
          cases a <;> cases b <;> simp_all <;> omega
    simp only [List.countP_cons]
    cases r with
    | zero =>
      simp at h1 h2
      subst h1; subst h2
      have := le hl' hle'
      simp; omega
    | succ r =>
      have := count_lt hl' hle' ⟨r, by simpa using h1, by simpa using h2⟩
      have h0 := hle 0
      cases a <;> cases b <;> simp_all <;> omega
  | [], _ :: _, h, _, _ => by simp at h
  | _ :: _, [], h, _, _ => by simp at h
def LeT (a b : Tab) : Prop := ∀ (i : Nat) s, a[i]? = some (some s) → ∃ t, b[i]? = some (some t) ∧ LeB t s
theorem LeT.refl (a : Tab) : LeT a a := fun _ s h => ⟨s, h, .refl _⟩
theorem LeT.trans {a b c : Tab} (h : LeT a b) (h' : LeT b c) : LeT a c := fun i s hs => by
  obtain ⟨t, h1, h2⟩ := h i s hs
  obtain ⟨u, h3, h4⟩ := h' i t h1
  exact ⟨u, h3, h4.trans h2⟩
def LeAt (ins : Tab) (to : Int) (s : List Bool) : Prop := ∃ t, ins[to.toNat]? = some (some t) ∧ LeB t s
theorem LeAt.mono {a b : Tab} (h : LeT a b) {to : Int} {s : List Bool} (hs : LeAt a to s) : LeAt b to s := by
  obtain ⟨t, h1, h2⟩ := hs
  obtain ⟨u, h3, h4⟩ := h _ _ h1
  exact ⟨u, h3, h4.trans h2⟩
theorem set_at {ins : Tab} {i j : Nat} {x y : Option (List Bool)} (h : (ins.set i x)[j]? = some y) : (j = i ∧ y = x) ∨ (j ≠ i ∧ ins[j]? = some y) := by
  rw [List.getElem?_set] at h
  split at h
  · rename_i e
    split at h
    · injection h with h; exact .inl ⟨e.symm, h.symm⟩
    · cases h
  · rename_i e; exact .inr ⟨fun e' => e e'.symm, h⟩
theorem set_same_at {ins : Tab} {i : Nat} {x : Option (List Bool)} (h : i < ins.length) : (ins.set i x)[i]? = some x := by simp [h]
theorem set_ne_at {ins : Tab} {i j : Nat} {x : Option (List Bool)} (h : j ≠ i) : (ins.set i x)[j]? = ins[j]? := List.getElem?_set_ne (fun e => h e.symm)
section
variable {n R : Nat}
structure TblOk (n R : Nat) (ins : Tab) : Prop where
  len : ins.length = n
  rows : ∀ (i : Nat) s, ins[i]? = some (some s) → s.length = R
structure MeetR (n R : Nat) (s : List Bool) (T : Int → Prop) (p q : Tab × List Int) : Prop where
  ok : TblOk n R q.1
  le : LeT p.1 q.1
  work : ∀ (i : Nat) t, q.1[i]? = some (some t) → p.1[i]? = some (some t) ∨ (i : Int) ∈ q.2
  keep : ∀ j, j ∈ p.2 → j ∈ q.2
  fresh : ∀ j, j ∈ q.2 → j ∈ p.2 ∨ (0 ≤ j ∧ j < n ∧ ∃ t, q.1[j.toNat]? = some (some t))
  src : ∀ (i r : Nat) t, q.1[i]? = some (some t) → t[r]? = some false → (∃ u, p.1[i]? = some (some u) ∧ u[r]? = some false) ∨ (s[r]? = some false ∧ T i)
  pot : 2 * pot R q.1 + q.2.length ≤ 2 * Go.Vm.pot R p.1 + p.2.length
theorem MeetR.refl {s : List Bool} {T : Int → Prop} {p : Tab × List Int} (h : TblOk n R p.1) : MeetR n R s T p p :=
  ⟨h, .refl _, fun _ _ h => .inl h, fun _ h => h, fun _ h => .inl h, fun _ _ _ h1 h2 => .inl ⟨_, h1, h2⟩, Nat.le_refl _⟩
theorem pot_set {ins : Tab} {i : Nat} {x y : Option (List Bool)} (h : ins[i]? = some x) : pot R (ins.set i y) + wt R x = pot R ins + wt R y := by
  unfold pot
  induction ins generalizing i with
  | nil => simp at h
  | cons a ins ih =>
    cases i with
    | zero =>
      simp at h
      subst h
      simp only [List.set_cons_zero, List.map_cons, List.sum_cons]
      omega
    | succ i =>
      simp only [List.getElem?_cons_succ] at h
      have := ih h
      simp only [List.set_cons_succ, List.map_cons, List.sum_cons]
      omega
theorem meetM_spec {s : List Bool} {to : Int} {p : Tab × List Int} (hp : TblOk n R p.1) (hs : s.length = R) (h0 : 0 ≤ to) (h1 : to < n) : MeetR n R s (· = to) p (meetM s to p) ∧ LeAt (meetM s to p).1 to s := by
  obtain ⟨ins, work⟩ := p
  simp only at hp
  have hlt : to.toNat < ins.length := by rw [hp.len]; omega
  unfold meetM
  simp only
  obtain ⟨x, hx⟩ : ∃ x, ins[to.toNat]? = some x := ⟨_, List.getElem?_eq_getElem hlt⟩
  have hpot := fun y => pot_set (R := R) (y := y) hx
  cases x with
  | none =>
    rw [hx]
    simp only
    have hc : s.countP id ≤ R := by rw [← hs]; exact List.countP_le_length
    refine ⟨⟨⟨by simpa using hp.len, fun i t ht => ?_⟩, fun i t ht => ?_, fun i t ht => ?_, fun j hj => List.mem_append_left _ hj, fun j hj => ?_, fun i r t ht hr => ?_, ?_⟩, s, set_same_at hlt, .refl _⟩
    · rcases set_at ht with ⟨_, e⟩ | ⟨_, h⟩
      · injection e with e; rw [e]; exact hs
      · exact hp.rows i t h
    · by_cases e : i = to.toNat
      · subst e; simp only at ht; rw [hx] at ht; cases ht
      · exact ⟨t, by simp only; rw [set_ne_at e]; exact ht, .refl _⟩
    · rcases set_at ht with ⟨e, _⟩ | ⟨_, h⟩
      · right; simp only [List.mem_append, List.mem_singleton]; right; omega
      · exact .inl h
    · rcases List.mem_append.1 hj with h | h
      · exact .inl h
      · rw [List.mem_singleton] at h
        subst h
        exact .inr ⟨h0, h1, s, set_same_at hlt⟩
    · rcases set_at ht with ⟨ei, e⟩ | ⟨_, h⟩
      · injection e with e; subst e; exact .inr ⟨hr, by omega⟩
      · exact .inl ⟨t, h, hr⟩
    · have := hpot (some s)
      simp only [wt] at this
      simp only [List.length_append, List.length_singleton] at this ⊢
      omega
  | some t0 =>
    rw [hx]
    simp only
    have ht0 := hp.rows _ _ hx
    split
    · rename_i hl
      obtain ⟨r0, q1, q2⟩ := lessB_iff.1 hl
      have hlen : (andB t0 s).length = R := by rw [andB_len (by omega)]; exact ht0
      have hlt2 : (andB t0 s).countP id < t0.countP id := count_lt (by omega) (andB_left _ _) ⟨r0, q1, by
        have hr : r0 < (andB t0 s).length := by rw [hlen]; rw [← ht0]; exact (List.getElem?_eq_some_iff.1 q1).1
        rw [List.getElem?_eq_getElem hr]
        cases hb : (andB t0 s)[r0] with
        | false => rfl
        | true =>
          have := (andB_get (t := t0) (s := s) (r := r0)).1 (by rw [List.getElem?_eq_getElem hr, hb])
          rw [q2] at this; cases this.2⟩
      refine ⟨⟨⟨by simpa using hp.len, fun i t ht => ?_⟩, fun i t ht => ?_, fun i t ht => ?_, fun j hj => List.mem_append_left _ hj, fun j hj => ?_, fun i r t ht hr => ?_, ?_⟩, andB t0 s, set_same_at hlt, andB_right _ _⟩
      · rcases set_at ht with ⟨_, e⟩ | ⟨_, h⟩
        · injection e with e; rw [e]; exact hlen
        · exact hp.rows i t h
      · by_cases e : i = to.toNat
        · subst e
          simp only at ht
          rw [hx] at ht
          injection ht with ht; injection ht with ht; subst ht
          exact ⟨_, set_same_at hlt, andB_left _ _⟩
        · exact ⟨t, by simp only; rw [set_ne_at e]; exact ht, .refl _⟩
      · rcases set_at ht with ⟨e, _⟩ | ⟨_, h⟩
        · right; simp only [List.mem_append, List.mem_singleton]; right; omega
        · exact .inl h
      · rcases List.mem_append.1 hj with h | h
        · exact .inl h
        · rw [List.mem_singleton] at h
          subst h
          exact .inr ⟨h0, h1, _, set_same_at hlt⟩
      · rcases set_at ht with ⟨ei, e⟩ | ⟨_, h⟩
        · injection e with e
          subst e
          subst ei
          have hr1 : r < (andB t0 s).length := (List.getElem?_eq_some_iff.1 hr).1
          have hrt : r < t0.length := by omega
          have hrs : r < s.length := by omega
          rw [andB, List.getElem?_zipWith, List.getElem?_eq_getElem hrt, List.getElem?_eq_getElem hrs] at hr
          cases ha : t0[r] with
          | false => exact .inl ⟨t0, hx, by rw [List.getElem?_eq_getElem hrt, ha]⟩
          | true =>
            rw [ha] at hr
            right
            rw [List.getElem?_eq_getElem hrs]
            exact ⟨by simpa using hr, by omega⟩
        · exact .inl ⟨t, h, hr⟩
      · have := hpot (some (andB t0 s))
        simp only [wt] at this
        simp only [List.length_append, List.length_singleton] at this ⊢
        omega
    · rename_i hl
      refine ⟨.refl hp, t0, hx, fun r hr => ?_⟩
      have hr1 : r < s.length := by have := (List.getElem?_eq_some_iff.1 hr).1; omega
      rw [List.getElem?_eq_getElem hr1]
      cases hb : s[r] with
      | true => rfl
      | false => exact (hl (lessB_iff.2 ⟨r, hr, by rw [List.getElem?_eq_getElem hr1, hb]⟩)).elim
theorem MeetR.trans {s : List Bool} {T : Int → Prop} {p q u : Tab × List Int} (h : MeetR n R s T p q) (h' : MeetR n R s T q u) : MeetR n R s T p u := by
  refine ⟨h'.ok, h.le.trans h'.le, fun i t ht => ?_, fun j hj => h'.keep j (h.keep j hj), fun j hj => ?_, fun i r t ht hr => ?_, Nat.le_trans h'.pot h.pot⟩
  · rcases h'.work i t ht with h1 | h1
    · rcases h.work i t h1 with h2 | h2
      · exact .inl h2
      · exact .inr (h'.keep _ h2)
    · exact .inr h1
  · rcases h'.fresh j hj with h1 | h1
    · rcases h.fresh j h1 with h2 | ⟨a, b, t, ht⟩
      · exact .inl h2
      · obtain ⟨v, hv, _⟩ := h'.le _ _ ht
        exact .inr ⟨a, b, v, hv⟩
    · exact .inr h1
  · rcases h'.src i r t ht hr with ⟨v, h1, h2⟩ | h1
    · exact h.src i r v h1 h2
    · exact .inr h1
theorem MeetR.mono {s : List Bool} {T T' : Int → Prop} {p q : Tab × List Int} (h : MeetR n R s T p q) (hT : ∀ j, T j → T' j) : MeetR n R s T' p q :=
  ⟨h.ok, h.le, h.work, h.keep, h.fresh, fun i r t h1 h2 => (h.src i r t h1 h2).imp id fun x => ⟨x.1, hT _ x.2⟩, h.pot⟩
theorem meets_spec {s : List Bool} (hs : s.length = R) : ∀ (l : List Int) (p : Tab × List Int), TblOk n R p.1 → (∀ to ∈ l, 0 ≤ to ∧ to < n) → MeetR n R s (· ∈ l) p (meets_ s l p) ∧ ∀ to ∈ l, LeAt (meets_ s l p).1 to s
  | [], p, hp, _ => ⟨.refl hp, fun _ h => by cases h⟩
  | to :: l, p, hp, hl => by
    obtain ⟨a1, a2⟩ := meetM_spec hp hs (hl to (by simp)).1 (hl to (by simp)).2
    obtain ⟨b1, b2⟩ := meets_spec hs l (meetM s to p) a1.ok (fun t ht => hl t (by simp [ht]))
    refine ⟨(a1.mono fun j e => by simp [e]).trans (b1.mono fun j h => by simp [h]), fun t ht => ?_⟩
    rcases List.mem_cons.1 ht with rfl | ht
    · exact a2.mono b1.le
    · exact b2 t ht
end
end Go.Vm
namespace Go.Vm
theorem fieldOk_in {R : List Int} {k r : Int} (h : fieldOk R k r = true) (hk : 0 ≤ k) : 0 ≤ r ∧ r < R.length := by
  simp only [fieldOk, Bool.or_eq_true, decide_eq_true_eq, Bool.and_eq_true, inR] at h
  omega
theorem numK_nn (n : Int) : 0 ≤ (numK n).1 ∧ 0 ≤ (numK n).2.1 ∧ 0 ≤ (numK n).2.2 := by
  unfold numK
  repeat' split
  all_goals decide
set_option maxHeartbeats 4000000 in
theorem right_uses {f : Fn} {x : Ins} (h : rightM f x = true) {u : Int} (hu : u ∈ lst (uses x)) : 0 ≤ u ∧ u < (lst f.regs).length := by
  simp only [rightM, Bool.and_eq_true] at h
  obtain ⟨⟨⟨⟨⟨⟨h0, h1⟩, h2⟩, h3⟩, h4⟩, h5⟩, h6⟩ := h
  by_cases hc : calls x.op = true
  · have hu' : u ∈ lst x.args := by simpa [uses, hc] using hu
    simp only [argsOk, hc, Bool.not_true, Bool.false_or, Bool.and_eq_true, List.all_eq_true] at h5
    have := h5.2 u hu'
    simpa [inR] using this
  · have key : (u = x.a ∧ 0 ≤ (kindsM x).2.1) ∨ (u = x.b ∧ 0 ≤ (kindsM x).2.2.1) ∨ (u = x.c ∧ 0 ≤ (kindsM x).2.2.2.1) ∨ False := by
      rcases op_cases x.op with h|h|h|h|h|h|h|h|h|h|h|h|h|h|h|h|h|h|h|h|h|h|h|h|h|h|h|h|h|h|h|h|h|h|h
      all_goals first
        | (exfalso; simp [uses, reads, calls, h] at hu; done)
        | (exfalso; simp [calls, h] at hc; done)
        | (simp [uses, reads, calls, h] at hu; simp [kindsM, h] at h0 ⊢; first | omega | (rcases hu with rfl | rfl <;> simp [numK_nn]) | (rcases hu with rfl | rfl | rfl <;> simp) | (subst hu; simp [numK_nn]))
        | (simp [uses, reads, calls, h] at hu; simp [kindsM, h]; split at hu <;> simp_all; done)
        | (exfalso; simp [uses, reads, calls, lo_f h] at hu; done)
        | (exfalso; simp [uses, reads, calls, hi_f h] at hu; done)
        | skip
      · by_cases hb : x.b < 0
        · simp [uses, calls, h, hb] at hu
          exact .inl ⟨hu, by simp [kindsM, h]⟩
        · simp [uses, calls, h, hb] at hu
          rcases hu with hu | hu
          · exact .inl ⟨hu, by simp [kindsM, h]⟩
          · have : ¬ x.b = -1 := by omega
            exact .inr (.inl ⟨hu, by simp [kindsM, h, this]⟩)
      · by_cases ha : 0 ≤ x.a
        · simp [uses, calls, h, ha] at hu
          have : ¬ x.a = -1 := by omega
          exact .inl ⟨hu, by simp [kindsM, h, this]⟩
        · simp [uses, calls, h, ha] at hu
    rcases key with ⟨rfl, hk⟩ | ⟨rfl, hk⟩ | ⟨rfl, hk⟩ | hk
    · exact fieldOk_in h2 hk
    · exact fieldOk_in h3 hk
    · exact fieldOk_in h4 hk
    · exact hk.elim
set_option maxHeartbeats 4000000 in
theorem right_def {f : Fn} {x : Ins} (h : rightM f x = true) (hd : ¬ defr x = -1) : 0 ≤ defr x ∧ defr x < (lst f.regs).length := by
  simp only [rightM, Bool.and_eq_true] at h
  obtain ⟨⟨⟨⟨⟨⟨h0, h1⟩, h2⟩, h3⟩, h4⟩, h5⟩, h6⟩ := h
  have key : defr x = x.d ∧ 0 ≤ (kindsM x).1 := by
    unfold defr at hd ⊢
    split at hd
    · rename_i hw
      rw [if_pos hw]
      refine ⟨rfl, ?_⟩
      rcases op_cases x.op with h|h|h|h|h|h|h|h|h|h|h|h|h|h|h|h|h|h|h|h|h|h|h|h|h|h|h|h|h|h|h|h|h|h|h
      all_goals first
        | (exfalso; simp [writes, calls, h] at hw; done)
        | (simp [kindsM, h, numK_nn, hd]; done)
        | (exfalso; simp [writes, calls, lo_f h] at hw; done)
        | (exfalso; simp [writes, calls, hi_f h] at hw; done)
    · exact (hd rfl).elim
  rw [key.1]
  exact fieldOk_in h1 key.2
theorem Wf.uses {f : Fn} (w : Wf f) {i : Nat} (hi : i < (lst f.code).length) {u : Int} (hu : u ∈ lst (Go.Vm.uses (insAt f i))) : 0 ≤ u ∧ u < (lst f.regs).length := right_uses (w.ins i hi) hu
theorem Wf.def {f : Fn} (w : Wf f) {i : Nat} (hi : i < (lst f.code).length) (hd : 0 ≤ defr (insAt f i)) : defr (insAt f i) < (lst f.regs).length := (right_def (w.ins i hi) (by omega)).2
theorem mem_addN {l : List Int} {j a : Int} (h : j ∈ addN l a) : j ∈ l ∨ j = a := by
  unfold addN at h
  split at h
  · exact .inl h
  · rw [List.mem_append, List.mem_singleton] at h; exact h
theorem Wf.next {f : Fn} (w : Wf f) {i : Nat} (hi : i < (lst f.code).length) {to : Int} (h : to ∈ nextL f i) : 0 ≤ to ∧ to < (lst f.code).length := by
  rw [nextL, if_neg (by omega), show ((i : Int)).toNat = i by omega] at h
  have hself : ∀ {j : Int}, j ∈ (if ends (insAt f i).op = true then [] else [(i : Int) + 1]) → 0 ≤ j ∧ j < (lst f.code).length := by
    intro j hj
    split at hj
    · cases hj
    · rename_i he
      rw [List.mem_singleton] at hj
      subst hj
      refine ⟨by omega, ?_⟩
      by_cases e : i = (lst f.code).length - 1
      · subst e; exact (he w.last).elim
      · omega
  unfold nextI at h
  split at h
  · rename_i hl
    rcases mem_addN h with h | h
    · exact hself h
    · rw [h]; exact w.leads hi hl
  · exact hself h
theorem caughtG_in {i to : Int} : ∀ {rs : List Row} {l : List Int}, to ∈ caughtG i rs l → to ∈ l ∨ ∃ r ∈ rs, r.at_ = to
  | [], l, h => .inl h
  | r :: rs, l, h => by
    unfold caughtG at h
    split at h
    · split at h
      · rcases mem_addN h with h | h
        · exact .inl h
        · exact .inr ⟨r, by simp, h.symm⟩
      · rcases caughtG_in h with h | ⟨r', h1, h2⟩
        · rcases mem_addN h with h | h
          · exact .inl h
          · exact .inr ⟨r, by simp, h.symm⟩
        · exact .inr ⟨r', by simp [h1], h2⟩
    · rcases caughtG_in h with h | ⟨r', h1, h2⟩
      · exact .inl h
      · exact .inr ⟨r', by simp [h1], h2⟩
theorem Wf.caught {f : Fn} (w : Wf f) {i to : Int} (h : to ∈ caughtL f i) : 0 ≤ to ∧ to < (lst f.code).length := by
  rw [caughtL] at h
  split at h
  · cases h
  · split at h
    · rcases caughtG_in h with h | ⟨r, h1, h2⟩
      · cases h
      · have := w.row h1
        rw [← h2]; exact ⟨this.a0, this.an⟩
    · cases h
theorem parOk_in {R : List Int} : ∀ {l : List Int} {i : Nat} {seen : List Int} {p : Int}, parOk R i seen l = true → p ∈ l → 0 ≤ p ∧ p < R.length
  | q :: l, i, seen, p, h, hp => by
    simp only [parOk, Bool.and_eq_true] at h
    rcases List.mem_cons.1 hp with rfl | hp
    · simpa [inR] using h.1.1.1
    · exact parOk_in h.2 hp
theorem parOk_len {R : List Int} : ∀ {l : List Int} {i : Nat} {seen : List Int}, parOk R i seen l = true → l = [] ∨ i + l.length ≤ 21
  | [], _, _, _ => .inl rfl
  | q :: l, i, seen, h => by
    simp only [parOk, Bool.and_eq_true, decide_eq_true_eq] at h
    right
    rcases parOk_len h.2 with h1 | h1
    · subst h1; simp; omega
    · simp only [List.length_cons]; omega
end Go.Vm
namespace Go.Vm
def beginB (f : Fn) : List Bool := (List.range (lst f.regs).length).map fun (r : Nat) => decide (((r : Nat) : Int) ∈ lst f.params)
theorem beginB_len (f : Fn) : (beginB f).length = (lst f.regs).length := by simp [beginB]
theorem beginB_get {f : Fn} {r : Nat} (h : r < (lst f.regs).length) : (beginB f)[r]? = some (decide ((r : Int) ∈ lst f.params)) := by simp [beginB, h]
theorem writeB_len (d : Int) (s : List Bool) : (writeB d s).length = s.length := by unfold writeB; split <;> simp
theorem writeB_false {d : Int} {s : List Bool} {r : Nat} (h : (writeB d s)[r]? = some false) : d ≠ r ∧ s[r]? = some false := by
  unfold writeB at h
  split at h
  · rename_i hd
    rw [List.getElem?_set] at h
    split at h
    · split at h <;> cases h
    · exact ⟨by omega, h⟩
  · exact ⟨by omega, h⟩
theorem writeB_true {d : Int} {s : List Bool} {r : Nat} (h : (writeB d s)[r]? = some true) (hd : d ≠ r) : s[r]? = some true := by
  unfold writeB at h
  split at h
  · rw [List.getElem?_set] at h
    split at h
    · omega
    · exact h
  · exact h
section
variable (f : Fn)
def Flows (ins : Tab) (i : Nat) (s : List Bool) : Prop := (∀ to ∈ caughtL f i, LeAt ins to s) ∧ ∀ to ∈ nextL f i, LeAt ins to (writeB (defr (insAt f i)) s)
structure SInv (ins : Tab) (work : List Int) : Prop where
  ok : TblOk (lst f.code).length (lst f.regs).length ins
  src : ∀ (i r : Nat) t, ins[i]? = some (some t) → t[r]? = some false → Rch (lst f.code).length (succR f r) [0] i ∧ (r : Int) ∉ lst f.params
  cl : ∀ (i : Nat) s, ins[i]? = some (some s) → (i : Int) ∈ work ∨ Flows f ins i s
  st : LeAt ins 0 (beginB f)
  wk : ∀ j ∈ work, 0 ≤ j ∧ j < (lst f.code).length ∧ ∃ t, ins[j.toNat]? = some (some t)
def tab0 : Tab := (List.replicate (lst f.code).length none).set 0 (some (beginB f))
variable {f}
theorem Flows.mono {a b : Tab} (h : LeT a b) {i : Nat} {s : List Bool} (hf : Flows f a i s) : Flows f b i s :=
  ⟨fun to ht => (hf.1 to ht).mono h, fun to ht => (hf.2 to ht).mono h⟩
theorem SInv.start (w : Wf f) : SInv f (tab0 f) [0] := by
  have hn := w.n1
  have h0 : (tab0 f)[0]? = some (some (beginB f)) := set_same_at (by rw [List.length_replicate]; omega)
  have hx : ∀ (i : Nat) t, (tab0 f)[i]? = some (some t) → i = 0 ∧ t = beginB f := by
    intro i t ht
    rcases set_at ht with ⟨e, e2⟩ | ⟨_, h⟩
    · injection e2 with e2; exact ⟨e, e2⟩
    · rw [List.getElem?_replicate] at h
      split at h <;> cases h
  refine ⟨⟨by simp [tab0], fun i s hs => by rw [(hx i s hs).2, beginB_len]⟩, fun i r t ht hr => ?_, fun i s hs => .inl (by rw [(hx i s hs).1]; simp), ⟨_, h0, .refl _⟩, fun j hj => ?_⟩
  · obtain ⟨rfl, rfl⟩ := hx i t ht
    have hr1 : r < (lst f.regs).length := by rw [← beginB_len]; exact (List.getElem?_eq_some_iff.1 hr).1
    rw [beginB_get hr1] at hr
    refine ⟨Rch.base (j := 0) (by simp) (by omega) (by omega), ?_⟩
    simpa using hr
  · rw [List.mem_singleton] at hj
    subst hj
    exact ⟨by omega, by omega, _, h0⟩
theorem SInv.step (w : Wf f) {ins : Tab} {work : List Int} (I : SInv f ins work) {i : Int} (hi : work.getLast? = some i) :
    SInv f (meets_ (writeB (defr (insAt f i.toNat)) (tabAt ins i.toNat)) (nextL f i) (meets_ (tabAt ins i.toNat) (caughtL f i) (ins, work.dropLast))).1
      (meets_ (writeB (defr (insAt f i.toNat)) (tabAt ins i.toNat)) (nextL f i) (meets_ (tabAt ins i.toNat) (caughtL f i) (ins, work.dropLast))).2 ∧
    2 * pot (lst f.regs).length (meets_ (writeB (defr (insAt f i.toNat)) (tabAt ins i.toNat)) (nextL f i) (meets_ (tabAt ins i.toNat) (caughtL f i) (ins, work.dropLast))).1 +
      (meets_ (writeB (defr (insAt f i.toNat)) (tabAt ins i.toNat)) (nextL f i) (meets_ (tabAt ins i.toNat) (caughtL f i) (ins, work.dropLast))).2.length + 1 ≤ 2 * pot (lst f.regs).length ins + work.length := by
  have e := getLast_split hi
  obtain ⟨i0, i1, s, hs⟩ := I.wk i (by rw [e]; simp)
  have hts : tabAt ins i.toNat = s := by simp [tabAt, hs]
  rw [hts]
  have hsl := I.ok.rows _ _ hs
  have ei : ((i.toNat : Nat) : Int) = i := by omega
  obtain ⟨a1, a2⟩ := meets_spec (n := (lst f.code).length) hsl (caughtL f i) (ins, work.dropLast) I.ok (fun to h => w.caught h)
  generalize meets_ s (caughtL f i) (ins, work.dropLast) = p1 at *
  obtain ⟨b1, b2⟩ := meets_spec (n := (lst f.code).length) (s := writeB (defr (insAt f i.toNat)) s) (by rw [writeB_len]; exact hsl) (nextL f i) p1 a1.ok (fun to h => by
    rw [← ei] at h
    exact w.next (by omega) h)
  generalize meets_ (writeB (defr (insAt f i.toNat)) s) (nextL f i) p1 = p2 at *
  refine ⟨⟨b1.ok, fun j r t ht hr => ?_, fun j t ht => ?_, (I.st.mono a1.le).mono b1.le, fun j hj => ?_⟩, ?_⟩
  · -- what isn't set
    have old : ∀ u, ins[j]? = some (some u) → u[r]? = some false → Rch (lst f.code).length (succR f r) [0] j ∧ (r : Int) ∉ lst f.params := fun u h1 h2 => I.src j r u h1 h2
    have hjlt : j < (lst f.code).length := by rw [← b1.ok.len]; exact (List.getElem?_eq_some_iff.1 ht).1
    rcases b1.src j r t ht hr with ⟨u, h1, h2⟩ | ⟨h1, h2⟩
    · rcases a1.src j r u h1 h2 with ⟨v, h3, h4⟩ | ⟨h3, h4⟩
      · exact old v h3 h4
      · obtain ⟨k1, k2⟩ := I.src _ _ _ hs h3
        refine ⟨?_, k2⟩
        have := Rch.step (j := (j : Int)) k1 (by rw [succR, ei]; exact List.mem_append_left _ h4) (by omega) (by omega)
        simpa using this
    · obtain ⟨h3, h4⟩ := writeB_false h1
      obtain ⟨k1, k2⟩ := I.src _ _ _ hs h4
      refine ⟨?_, k2⟩
      have := Rch.step (j := (j : Int)) k1 (by rw [succR, if_neg h3, ei]; exact List.mem_append_right _ h2) (by omega) (by omega)
      simpa using this
  · -- closed but for the work
    rcases b1.work j t ht with h | h
    · rcases a1.work j t h with h | h
      · simp only at h
        rcases I.cl j t h with hw | hw
        · rw [e, List.mem_append, List.mem_singleton] at hw
          rcases hw with hw | hw
          · exact .inl (b1.keep _ (a1.keep _ hw))
          · right
            have ej : j = i.toNat := by omega
            subst ej
            rw [hs] at h
            injection h with h; injection h with h
            subst h
            rw [Flows, ei]
            exact ⟨fun to hto => (a2 to hto).mono b1.le, fun to hto => b2 to hto⟩
        · exact .inr ((hw.mono a1.le).mono b1.le)
      · exact .inl (b1.keep _ h)
    · exact .inl h
  · rcases b1.fresh j hj with h | h
    · rcases a1.fresh j h with h | ⟨k1, k2, t, k3⟩
      · obtain ⟨k1, k2, t, k3⟩ := I.wk j (mem_dropLast h)
        obtain ⟨t2, k4, _⟩ := a1.le _ _ k3
        obtain ⟨t3, k5, _⟩ := b1.le _ _ k4
        exact ⟨k1, k2, t3, k5⟩
      · obtain ⟨t2, k4, _⟩ := b1.le _ _ k3
        exact ⟨k1, k2, t2, k4⟩
    · exact h
  · have h1 := a1.pot
    have h2 := b1.pot
    have h3 : work.length = work.dropLast.length + 1 := by rw [e]; simp
    simp only at h1
    omega
theorem setLoop_ends (w : Wf f) : ∀ (k : Nat) (ins : Tab) (work : List Int), SInv f ins work → 2 * pot (lst f.regs).length ins + work.length < k → ∃ r, setLoop f k ins work = some r ∧ SInv f r []
  | 0, _, _, _, h => by omega
  | k + 1, ins, work, I, h => by
    rw [setLoop]
    cases hw : work.getLast? with
    | none =>
      rw [List.getLast?_eq_none_iff] at hw
      subst hw
      exact ⟨ins, rfl, I⟩
    | some i =>
      obtain ⟨I2, hp⟩ := I.step w hw
      exact setLoop_ends w k _ _ I2 (Nat.le_trans hp (Nat.le_of_lt_succ h))
theorem SInv.tells (w : Wf f) {ins : Tab} (I : SInv f ins []) : (∀ i, i < (lst f.code).length → ∀ u ∈ usesAt f i, ∀ s, ins[i]? = some (some s) → s[u.toNat]? = some true) ↔ setP f := by
  constructor
  · intro h r r0 r1 hp ⟨i, hi, hu⟩
    have er : ((r.toNat : Nat) : Int) = r := by omega
    have hle : ∀ {to : Int} {s : List Bool}, LeAt ins to s → s[r.toNat]? ≠ some true → ∃ t, ins[to.toNat]? = some (some t) ∧ t[r.toNat]? = some false := by
      intro to s ⟨t, h1, h2⟩ hne
      refine ⟨t, h1, ?_⟩
      have hl := I.ok.rows _ _ h1
      have hlt : r.toNat < t.length := by omega
      rw [List.getElem?_eq_getElem hlt]
      cases hb : t[r.toNat] with
      | false => rfl
      | true => exact (hne (h2 _ (by rw [List.getElem?_eq_getElem hlt, hb]))).elim
    have key : ∀ {i : Nat}, Rch (lst f.code).length (succR f r) [0] i → ∃ t, ins[i]? = some (some t) ∧ t[r.toNat]? = some false := by
      intro i hr
      induction hr with
      | base hj j0 j1 =>
        rw [List.mem_singleton] at hj
        subst hj
        refine hle I.st ?_
        rw [beginB_get (by omega), er]
        simpa using hp
      | step hr hj j0 j1 ih =>
        rename_i i j
        obtain ⟨t, h1, h2⟩ := ih
        rcases I.cl _ _ h1 with hw | ⟨c1, c2⟩
        · cases hw
        · rw [succR, List.mem_append] at hj
          rcases hj with hj | hj
          · exact hle (c1 _ hj) (by rw [h2]; simp)
          · split at hj
            · cases hj
            · rename_i hd
              refine hle (c2 _ hj) fun ht => ?_
              have := writeB_true ht (by rw [er]; exact hd)
              rw [h2] at this
              cases this
    obtain ⟨t, h1, h2⟩ := key hi
    have := h i hi.lt r hu t h1
    rw [h2] at this
    cases this
  · intro h i hi u hu s hs
    obtain ⟨u0, u1⟩ := w.uses hi hu
    have hl := I.ok.rows _ _ hs
    have hlt : u.toNat < s.length := by omega
    rw [List.getElem?_eq_getElem hlt]
    cases hb : s[u.toNat] with
    | true => rfl
    | false =>
      obtain ⟨k1, k2⟩ := I.src i u.toNat s hs (by rw [List.getElem?_eq_getElem hlt, hb])
      have eu : ((u.toNat : Nat) : Int) = u := by omega
      rw [eu] at k1 k2
      exact (h u u0 u1 k2 ⟨i, k1, hu⟩).elim
end
end Go.Vm
namespace Go.Vm
open Cel
section
variable {α : Type} [Cel α]
def ownV (j g : Nat) : Option (List α) → AV
  | none => .nils
  | some L => .ls j g (es α) 0 L.length
def ownO (g : Nat) (d : AO) : Option (List α) → AO
  | none => d
  | some L => ⟨g, .arr false false (es α) (L.map enc)⟩
def exV (k : Nat) : Option (List α) → AV
  | none => .nils
  | some L => .ls k 0 (es α) 0 L.length
def exOs : Option (List α) → List OC
  | none => []
  | some L => [.arr false false (es α) (L.map enc)]
def ownI (j : Nat) : Option (List α) → List Nat
  | none => []
  | some _ => [j]
@[simp] theorem cellsOf_own (j g : Nat) (o : Option (List α)) : cellsOf (ownV j g o) = [ownV j g o] := by cases o <;> rfl
@[simp] theorem leaf1_own (j g : Nat) (o : Option (List α)) : leaf1 (ownV j g o) = true := by cases o <;> rfl
@[simp] theorem known_own (j g : Nat) (o : Option (List α)) : known (ownV j g o) = true := by cases o <;> rfl
@[simp] theorem evLen_own (j g : Nat) (o : Option (List α)) (H : Heap) : evLen 1 (ownV j g o) H = some (.int .i64 (lst o).length) := by cases o <;> rfl
theorem set_same {H : Heap} {i : Nat} {o : AO} (h : H[i]? = some o) : H.set i o = H := by
  refine List.ext_getElem? fun k => ?_
  rw [List.getElem?_set]
  split
  · rename_i e; subst e
    rw [if_pos (List.getElem?_eq_some_iff.1 h).1, h]
  · rfl
theorem call_own {E : Env} {C : Calls2} {fb j f : Nat} {args : List AV} {H : Heap} {fa : Fz (List AV)} {N : Option (List α)} {o : AO} (hE : E.pure f = true) (ha : fzList (fz H fuelF) args = some fa) (hc : C.p f fa.v = some (exO N))
    (hf : fa.ids = []) (ho : H[fb + j]? = some o) : callAny E C fb (some j) false f args H = some (ownV (fb + j) (o.gen + 1) N, H.set (fb + j) (ownO (o.gen + 1) o N)) := by
  simp only [callAny, hE, if_true, callP, ha, hc]
  have hfr : ((exO N).fresh || fa.ids.isEmpty) = true := by rw [hf]; simp
  simp only [hfr, if_true]
  cases N with
  | none =>
    simp only [exO, placeAll, Bool.false_eq_true, if_false, ownV, ownO, set_same ho]
    rfl
  | some L => simp only [Bool.false_eq_true, if_false, place_ex, ho, reloc_ex, ownV, ownO]
theorem fp_own {E : Env} {C : Calls2} {fb j f : Nat} {args : List AV} {H : Heap} {fa : Fz (List AV)} {N : Option (List α)} (hE : E.pure f = true) (ha : fzList (fz H fuelF) args = some fa) (hc : C.p f fa.v = some (exO N))
    (hf : fa.ids = []) : fpCall E C fb (some j) false f args H = some ([], ownI (fb + j) N) := by
  cases N with
  | none => simp [fpCall, hE, ha, hc, hf, exO, ownI]
  | some L => simp [fpCall, hE, ha, hc, hf, exO, ownI]
theorem own_rows {H : Heap} {j g : Nat} {d : AO} {L : List α} (h : H[j]? = some (ownO g d (some L))) : rowsAt H j g = some (false, es α, L.map enc) := by
  simp [rowsAt, objAt, h, ownO]
theorem fz_own {H : Heap} {j g k : Nat} {d : AO} {o : Option (List α)} (h : H[j]? = some (ownO g d o)) : fz H (k + 2) (ownV j g o) = some ⟨slA o, (lst o).all scal, ownI j o⟩ := by
  cases o with
  | none => rfl
  | some L =>
    rw [ownV, fz_lsk, own_rows h]
    simp only [List.drop_zero, Nat.zero_add, List.length_map, Nat.le_refl, and_self, if_true, take_rows, fz_rowsk]
    simp [slA, ownI]
theorem expo_own {H : Heap} {j g k : Nat} {d : AO} {o : Option (List α)} (h : H[j]? = some (ownO g d o)) (os : List OC) :
    expo H (k + 1) (ownV j g o) os = some ⟨exV os.length o, os ++ exOs o, (lst o).all scal, ownI j o, []⟩ := by
  cases o with
  | none => simp [ownV, expo, pure1, exV, exOs, ownI]
  | some L =>
    rw [ownV, expo_ls, own_rows h]
    simp only [List.drop_zero, Nat.zero_add, List.length_map, Nat.le_refl, and_self, if_true, take_rows, fz_rows]
    rfl
end
theorem set_rows {rows : List (List AV)} {i : Nat} {r : List AV} (h : rows[i]? = some r) : rows.set i r = rows := by
  refine List.ext_getElem? fun k => ?_
  rw [List.getElem?_set]
  split
  · rename_i e; subst e
    rw [if_pos (List.getElem?_eq_some_iff.1 h).1, h]
  · rfl
theorem setRows_same {H : Heap} {id g es : Nat} {fz : Bool} {rows : List (List AV)} (h : rowsAt H id g = some (fz, es, rows)) : setRows H id rows = H := by
  unfold rowsAt objAt at h
  cases ho : H[id]? with
  | none => rw [ho] at h; simp at h
  | some o =>
    obtain ⟨g', c⟩ := o
    rw [ho] at h
    by_cases hg : g' = g
    · cases c with
      | arr bx fz' es' rows' =>
        simp only [hg, if_true, Option.some.injEq, Prod.mk.injEq] at h
        obtain ⟨rfl, rfl, rfl⟩ := h
        simp only [setRows, ho]
        exact set_same ho
      | dead => simp [hg] at h
      | map _ _ => simp [hg] at h
    · simp [hg] at h
def copyEx (f : Fn) : Ex AV :=
  ⟨.agg [exV 0 f.regs, exV (exOs f.regs).length f.params, .int .i64 f.ret, exV (exOs f.regs ++ exOs f.params).length f.code, exV (exOs f.regs ++ exOs f.params ++ exOs f.code).length f.rows],
    exOs f.regs ++ exOs f.params ++ exOs f.code ++ exOs f.rows, (lst f.code).all scal && (lst f.rows).all scal, [], []⟩
theorem ownO_ex {α : Type} [Cel α] (o : Option (List α)) (A B : List OC) (L : List α) (h : o = some L) : (heapOf (A ++ exOs o ++ B))[A.length]? = some (ownO 0 ⟨0, .dead⟩ o) := by
  subst h
  simp [heapOf, exOs, ownO]
theorem fz_exV {α : Type} [Cel α] (o : Option (List α)) (A B : List OC) (k : Nat) : fz (heapOf (A ++ exOs o ++ B)) (k + 2) (exV A.length o) = some ⟨slA o, (lst o).all scal, ownI A.length o⟩ := by
  cases ho : o with
  | none => rfl
  | some L => exact fz_own (g := 0) (o := some L) (by have := ownO_ex o A B L ho; rwa [ho] at this)
theorem copy_reads (f : Fn) : Reads (copyEx f) (.agg (enc f)) := by
  have h1 := fz_exV f.regs [] (exOs f.params ++ exOs f.code ++ exOs f.rows) 9
  have h2 := fz_exV f.params (exOs f.regs) (exOs f.code ++ exOs f.rows) 9
  have h3 := fz_exV f.code (exOs f.regs ++ exOs f.params) (exOs f.rows) 9
  have h4 := fz_exV f.rows (exOs f.regs ++ exOs f.params ++ exOs f.code) [] 9
  simp only [List.nil_append, List.append_nil, List.append_assoc, List.length_nil, List.length_append] at h1 h2 h3 h4
  have hi : fz (heapOf (copyEx f).objs) 11 (.int .i64 f.ret) = some ⟨.int .i64 f.ret, true, []⟩ := rfl
  refine ⟨_, (fz_agg_eq _ 11 _).trans (by
    simp only [copyEx, fzList_cons, List.append_assoc, List.length_append] at hi ⊢
    simp only [h1, h2, h3, h4, hi, fzList_nil]
    rfl), rfl⟩
theorem call_reads {E : Env} {C : Calls2} {fb f : Nat} {sl : Option Nat} {args : List AV} {h : Heap} {fa : Fz (List AV)} {r : Ex AV} {v : AV} (hE : E.pure f = true) (ha : fzList (fz h fuelF) args = some fa) (hf : fa.ids = [])
    (hc : C.p f fa.v = some r) (hr : Reads r v) : callAny E C fb sl true f args h = some (v, h) := by
  obtain ⟨q, h1, h2⟩ := hr
  simp [callAny, hE, callP, ha, hc, hf, h1, h2]
theorem fp_reads {E : Env} {C : Calls2} {fb f : Nat} {sl : Option Nat} {args : List AV} {h : Heap} {fa : Fz (List AV)} {r : Ex AV} (hE : E.pure f = true) (ha : fzList (fz h fuelF) args = some fa) (hf : fa.ids = [])
    (hc : C.p f fa.v = some r) : fpCall E C fb sl true f args h = some ([], []) := by
  simp [fpCall, hE, ha, hc, hf]
end Go.Vm
namespace Go.Vm
open Cel
theorem gs_eq {H : Heap} {a : Nat} {x : AO} (h : a < H.length) : (H.set a x)[a]? = some x := by simp [h]
theorem gs_ne {H : Heap} {a b : Nat} {x : AO} (h : a ≠ b) : (H.set a x)[b]? = H[b]? := List.getElem?_set_ne h
theorem ga_lt {H : Heap} {n b : Nat} (h : b < H.length) : (H ++ deadSlots n)[b]? = H[b]? := List.getElem?_append_left h
theorem ga_ge {H : Heap} {n j : Nat} (h : j < n) : (H ++ deadSlots n)[H.length + j]? = some ⟨0, .dead⟩ := by
  rw [List.getElem?_append_right (by omega), Nat.add_sub_cancel_left, deadSlots, List.getElem?_replicate, if_pos h]
theorem get_lt {H : Heap} {a : Nat} {x : AO} (h : H[a]? = some x) : a < H.length := (List.getElem?_eq_some_iff.1 h).1
theorem bs_one {H : Heap} {fb j : Nat} {o : AO} (n : Int) (h : H[fb + j]? = some o) : buildSC fb (some j) 1 1 [.int .i64 0] [(0, .int .i64 n)] H = some (.ls (fb + j) (o.gen + 1) 1 0 1, H.set (fb + j) (AI (o.gen + 1) [n])) := by
  simp [buildSC, fillRows, newArr, place, h]
  rfl
theorem rows_ls {α : Type} [Cel α] {H : Heap} {id g : Nat} {L : List α} (h : H[id]? = some ⟨g, .arr false false (es α) (L.map enc)⟩) : rowsOf H (es α) (.ls id g (es α) 0 L.length) = some (L.map enc) := by
  simp [rowsOf, rowsAt, objAt, h]
theorem fz_ls0 {α : Type} [Cel α] {H : Heap} {id g k : Nat} {L : List α} (h : H[id]? = some ⟨g, .arr false false (es α) (L.map enc)⟩) : fz H (k + 2) (.ls id g (es α) 0 L.length) = some ⟨slA (some L), L.all scal, [id]⟩ :=
  fz_own (o := some L) (d := ⟨0, .dead⟩) h
theorem call_own2 {α : Type} [Cel α] {E : Env} {C : Calls2} {fb j f : Nat} {args : List AV} {H : Heap} {fa : Fz (List AV)} {N : Option (List α)} {o : AO} (hE : E.pure f = true) (ha : fzList (fz H fuelF) args = some fa) (hc : C.p f fa.v = some (exO N))
    (hf : (lst N).all scal = true) (ho : H[fb + j]? = some o) : callAny E C fb (some j) false f args H = some (ownV (fb + j) (o.gen + 1) N, H.set (fb + j) (ownO (o.gen + 1) o N)) := by
  simp only [callAny, hE, if_true, callP, ha, hc]
  have hfr : ((exO N).fresh || fa.ids.isEmpty) = true := by rw [exO_fresh, hf]; rfl
  simp only [hfr, if_true]
  cases N with
  | none =>
    simp only [exO, placeAll, Bool.false_eq_true, if_false, ownV, ownO, set_same ho]
    rfl
  | some L => simp only [Bool.false_eq_true, if_false, place_ex, ho, reloc_ex, ownV, ownO]
theorem ld_row {H : Heap} {id g i es : Nat} {rows : List (List AV)} {v : AV} (h : H[id]? = some ⟨g, .arr false false es rows⟩) (hx : rows[i]? = some [v]) : evLd false 1 (.lp id g i 0) H = some v := by
  have hr : rowsAt H id g = some (false, es, rows) := by simp [rowsAt, objAt, h]
  rw [evLd_lp, hr]
  simp [hx]
theorem st_row {H : Heap} {id g i : Nat} {rows : List (List AV)} {v w : AV} (h : H[id]? = some ⟨g, .arr false false 1 rows⟩) (hx : rows[i]? = some [w]) (hv : cellsOf v = [v]) (hl : leaf1 v = true) :
    evSt 1 (.lp id g i 0) v H = some (.tup [], H.set id ⟨g, .arr false false 1 (rows.set i [v])⟩) := by
  have hr : rowsAt H id g = some (false, 1, rows) := by simp [rowsAt, objAt, h]
  rw [evSt_lp, hr]
  simp only [hx, hv]
  rw [if_pos ⟨rfl, Nat.le_refl _, by simp [hl]⟩]
  rw [show spliceAt 0 [v] [w] = [v] from rfl, setRows, h]
end Go.Vm
namespace Go.Vm
open Cel
attribute [local simp] callAny callP heapOf_nil
theorem rowsOf_slB (o : Option (List Bool)) (h : Heap) : rowsOf h 1 (slA o) = some ((lst o).map enc) := rowsOf_sl o h
theorem s_CloneB (o : Option (List Bool)) (h : (lst o).length ≤ 1000000) : (callW E).p 78 [slA o] = some (exO o) := by
  rw [x_q103]
  cases o with
  | none => rfl
  | some L =>
    simp only [lst_some] at h
    have h1 : 2 * L.length ≤ 281474976710144 := by omega
    simp [q103_1, q103_2, q103_3, buildSC, fillRows, evApp, rowsOf_slB, h1]
    exact expo1_own (α := Bool) (L := L) (by simp)
end Go.Vm
namespace Go.Vm
open Cel
def inRow (P : Nat → Nat × Nat) (i : Nat) : Option (List Bool) → List AV
  | none => [.nils]
  | some s => [.ls (P i).1 (P i).2 1 0 s.length]
def tabRows (P : Nat → Nat × Nat) (ins : Tab) : List (List AV) := (List.range ins.length).map fun i => inRow P i (ins[i]?.join)
structure SRep (f : Fn) (H : Heap) (ins : Tab) (P : Nat → Nat × Nat) : Prop where
  box : H[0]? = some (AB f)
  tab : H[1]? = some ⟨1, .arr false false 1 (tabRows P ins)⟩
  obj : ∀ (i : Nat) s, ins[i]? = some (some s) → H[(P i).1]? = some (AL (P i).2 s)
  inj : ∀ (i j : Nat) s t, ins[i]? = some (some s) → ins[j]? = some (some t) → i ≠ j → (P i).1 ≠ (P j).1
  far : ∀ (i : Nat) s, ins[i]? = some (some s) → (P i).1 = 2 ∨ 6 ≤ (P i).1
theorem tabRows_get {P : Nat → Nat × Nat} {ins : Tab} {i : Nat} {x : Option (List Bool)} (h : ins[i]? = some x) : (tabRows P ins)[i]? = some (inRow P i x) := by
  have hi := (List.getElem?_eq_some_iff.1 h).1
  simp only [tabRows, List.getElem?_map, List.getElem?_range hi, Option.map_some, h, Option.join]
  rfl
theorem tabRows_set {P P' : Nat → Nat × Nat} {ins : Tab} {i : Nat} {x : Option (List Bool)} (hi : i < ins.length) (hP : ∀ j, j ≠ i → P' j = P j) : (tabRows P ins).set i (inRow P' i x) = tabRows P' (ins.set i x) := by
  unfold tabRows
  rw [List.length_set]
  refine range_set' ?_ fun j hj => ?_
  · simp [hi]
  · rw [List.getElem?_set_ne (fun e => hj e.symm)]
    cases h : ins[j]?.join with
    | none => rfl
    | some s => simp only [inRow, hP j hj]
theorem SRep.other {f : Fn} {H : Heap} {ins : Tab} {P : Nat → Nat × Nat} (R : SRep f H ins P) {a : Nat} {x : AO} (ha : a = 3 ∨ a = 4 ∨ a = 5 ∨ H.length ≤ a) : SRep f (H.set a x) ins P := by
  have h0 := get_lt R.box
  have h1 := get_lt R.tab
  refine ⟨by rw [gs_ne (by omega)]; exact R.box, by rw [gs_ne (by omega)]; exact R.tab, fun i s hs => ?_, R.inj, R.far⟩
  have := R.far i s hs
  have h2 := get_lt (R.obj i s hs)
  rw [gs_ne (by omega)]
  exact R.obj i s hs
theorem SRep.more {f : Fn} {H : Heap} {ins : Tab} {P : Nat → Nat × Nat} (R : SRep f H ins P) (n : Nat) : SRep f (H ++ deadSlots n) ins P :=
  ⟨by rw [ga_lt (get_lt R.box)]; exact R.box, by rw [ga_lt (get_lt R.tab)]; exact R.tab, fun i s hs => by rw [ga_lt (get_lt (R.obj i s hs))]; exact R.obj i s hs, R.inj, R.far⟩
theorem SRep.beyond {f : Fn} {H : Heap} {ins : Tab} {P : Nat → Nat × Nat} (R : SRep f H ins P) {a : Nat} {x : AO} (h0 : a ≠ 0) (h1 : a ≠ 1) (ha : ∀ (i : Nat) s, ins[i]? = some (some s) → (P i).1 ≠ a) : SRep f (H.set a x) ins P :=
  ⟨by rw [gs_ne h0]; exact R.box, by rw [gs_ne h1]; exact R.tab, fun i s hs => by rw [gs_ne (fun e => ha i s hs e.symm)]; exact R.obj i s hs, R.inj, R.far⟩
def andK (k : Nat) (t s : List Bool) : List Bool := (List.range t.length).map fun j => if j < k then t.getD j false && s.getD j false else t.getD j false
def lessK (k : Nat) (t s : List Bool) : Bool := (List.range k).any fun j => t.getD j false && !s.getD j false
theorem andK_len (k : Nat) (t s : List Bool) : (andK k t s).length = t.length := by simp [andK]
theorem andK_0 (t s : List Bool) : andK 0 t s = t := by
  refine List.ext_getElem (by simp [andK]) fun i h1 h2 => ?_
  simp [andK, h2]
theorem andK_get {k : Nat} {t s : List Bool} {j : Nat} (h : j < t.length) : (andK k t s)[j]? = some (if j < k then t.getD j false && s.getD j false else t.getD j false) := by simp [andK, h]
theorem andK_all {t s : List Bool} (h : t.length = s.length) : andK t.length t s = andB t s := by
  refine List.ext_getElem (by simp [andK, andB, h]) fun i h1 h2 => ?_
  have hi : i < t.length := by simpa [andK] using h1
  have hi2 : i < s.length := by omega
  simp [andK, andB, hi, hi2]
theorem lessK_all {t s : List Bool} (h : t.length = s.length) : lessK t.length t s = lessB t s := by
  rw [Bool.eq_iff_iff, lessB_iff, lessK, List.any_eq_true]
  constructor
  · rintro ⟨j, hj, hb⟩
    rw [List.mem_range] at hj
    have hj2 : j < s.length := by omega
    simp only [List.getD_eq_getElem?_getD, List.getElem?_eq_getElem hj, List.getElem?_eq_getElem hj2, Option.getD_some, Bool.and_eq_true, Bool.not_eq_true'] at hb
    exact ⟨j, by rw [List.getElem?_eq_getElem hj, hb.1], by rw [List.getElem?_eq_getElem hj2, hb.2]⟩
  · rintro ⟨j, h1, h2⟩
    have hj := (List.getElem?_eq_some_iff.1 h1).1
    exact ⟨j, List.mem_range.2 hj, by simp [List.getD_eq_getElem?_getD, h1, h2]⟩
theorem andK_set {k : Nat} {t s : List Bool} (ht : t.getD k false = true) (hs : s.getD k false = false) : (andK k t s).set k false = andK (k + 1) t s := by
  unfold andK
  refine range_set' ?_ fun j hj => ?_
  · rw [if_pos (by omega), ht, hs]; rfl
  · by_cases h1 : j < k
    · rw [if_pos (by omega), if_pos h1]
    · rw [if_neg (by omega), if_neg h1]
theorem andK_keep {k : Nat} {t s : List Bool} (h : (t.getD k false && !s.getD k false) = false) : andK (k + 1) t s = andK k t s := by
  refine List.map_congr_left fun j _ => ?_
  by_cases e : j = k
  · subst e
    rw [if_pos (by omega), if_neg (by omega)]
    cases ht : t.getD j false <;> cases hs : s.getD j false <;> simp_all
  · by_cases h1 : j < k
    · rw [if_pos (by omega), if_pos h1]
    · rw [if_neg (by omega), if_neg h1]
theorem lessK_succ (k : Nat) (t s : List Bool) : lessK (k + 1) t s = (lessK k t s || (t.getD k false && !s.getD k false)) := by
  simp [lessK, List.range_succ]
theorem meet_loop (fb : Nat) (v3 : AV) (n to : Nat) (hto : to < n) (id g ga : Nat) (t s : List Bool) (hl : t.length = s.length) (hn : t.length ≤ 9223372036854775806) (hid1 : id ≠ 1) (hid4 : id ≠ 4) (rows : List (List AV)) (hrow : rows[to]? = some [.ls id g 1 0 t.length]) :
    ∀ (d k : Nat) (H : Heap), k + d = t.length → H[1]? = some ⟨1, .arr false false 1 rows⟩ → H[id]? = some (AL g (andK k t s)) → H[4]? = some (AL ga s) →
    q10_L3 fb (.ls 1 1 1 0 n) (.int .i64 (to : Int)) (.ls 4 ga 1 0 s.length) v3 (.bool (lessK k t s)) (.ls id g 1 0 t.length) (.int .i64 t.length) (.int .i64 k) H =
      q10_2 fb (.int .i64 (to : Int)) v3 (.bool (lessB t s)) (H.set id (AL g (andB t s))) := by
  intro d
  induction d with
  | zero =>
    intro k H hk h1 hi h4
    have hk' : k = t.length := by omega
    subst hk'
    have hc : ¬ ((t.length : Int) < (t.length : Int)) := by omega
    rw [q10_L3_go]
    simp only [q10_7, evBin_lss, hc, decide_false, ob_some, q10_6, cnd_f, lessK_all hl]
    rw [← andK_all hl, set_same hi]
  | succ d ih =>
    intro k H hk h1 hi h4
    have hlt : k < t.length := by omega
    have hlt2 : k < s.length := by omega
    have hc : ((k : Int) < (t.length : Int)) := by omega
    have hw := wrap_up hlt (by omega)
    have ixT := ixAt' (n := t.length) (p := (k : Int)) (by omega) hc id g .i64
    have ixS := ixAt' (n := s.length) (p := (k : Int)) (by omega) (by omega) 4 ga .i64
    have ixI := ixAt' (n := n) (p := (to : Int)) (by omega) (by omega) 1 1 .i64
    rw [show ((k : Int)).toNat = k by omega] at ixT ixS
    rw [show ((to : Int)).toNat = to by omega] at ixI
    have gT := andK_get (k := k) (s := s) hlt
    rw [if_neg (Nat.lt_irrefl _)] at gT
    have lT := ld_at (α := Bool) (H := H) (id := id) (g := g) (i := k) (v := .bool (t.getD k false)) hi gT rfl
    have lS := ld_at (α := Bool) (H := H) (id := 4) (g := ga) (i := k) (v := .bool (s.getD k false)) h4 (by rw [List.getD_eq_getElem?_getD, List.getElem?_eq_getElem hlt2]; rfl) rfl
    have lI := ld_row (i := to) h1 hrow
    have ih0 := fun H => ih (k + 1) H (by omega)
    rw [q10_L3_go]
    cases hb : (t.getD k false && !s.getD k false) with
    | true =>
      rw [Bool.and_eq_true, Bool.not_eq_true'] at hb
      obtain ⟨b1, b2⟩ := hb
      have hidl := get_lt hi
      have st := evSt_at (α := Bool) (H := H) (id := id) (g := g) (i := k) (L := andK k t s) (v := .bool false) (y := false) hi (by rw [andK_len]; exact hlt) rfl
      rw [andK_set b1 b2] at st
      simp only [es_bool] at st
      have ls : lessK (k + 1) t s = true := by rw [lessK_succ, b1, b2]; simp
      have := ih0 (H.set id (AL g (andK (k + 1) t s))) (by rw [gs_ne hid1]; exact h1) (gs_eq hidl) (by rw [gs_ne hid4]; exact h4)
      rw [List.set_set, ls] at this
      push_cast at this
      rw [b1] at lT
      rw [b2] at lS
      simp only [q10_7, evBin_lss, hc, decide_true, ob_some, q10_6, cnd_t, q10_5, ixT, lT, gb_tt, ixS, lS, evUn_not, Bool.not_false, evPick_t, ixI, lI, st, oh_some, q10_4, evBin_add, hw, this]
    | false =>
      have ls : lessK (k + 1) t s = lessK k t s := by rw [lessK_succ, hb, Bool.or_false]
      have := ih0 H h1 (by rw [andK_keep hb]; exact hi) h4
      rw [ls] at this
      push_cast at this
      cases b1 : t.getD k false with
      | false =>
        rw [b1] at lT
        simp only [q10_7, evBin_lss, hc, decide_true, ob_some, q10_6, cnd_t, q10_5, ixT, lT, gb_ft, gb_tup, evPick_f, cnd_f, q10_4, evBin_add, hw, this]
      | true =>
        rw [b1] at lT
        have b2 : s.getD k false = true := by
          rw [b1] at hb
          simpa using hb
        rw [b2] at lS
        simp only [q10_7, evBin_lss, hc, decide_true, ob_some, q10_6, cnd_t, q10_5, ixT, lT, gb_tt, ixS, lS, evUn_not, Bool.not_true, evPick_t, cnd_f, q10_4, evBin_add, hw, this]
theorem app_wk {H : Heap} {fb j gw g2 : Nat} {work T : List Int} {to : Int} (h3 : H[3]? = some (AI gw (work ++ T))) (hl : H[fb + j]? = some (AI g2 [to])) (hb : work.length + 1 ≤ 137438953472) (sl : Option Nat) :
    evApp fb sl 1 8 (.ls 3 gw 1 0 work.length) (.ls (fb + j) g2 1 0 1) H = some (.ls 3 (gw + 1) 1 0 (work ++ [to]).length, H.set 3 (AI (gw + 1) (work ++ [to]))) :=
  app_stk (α := Int) (M := [to]) (rows_ls (α := Int) (L := [to]) hl) h3 (app_bound (by simpa using hb))
theorem s_meet {f : Fn} {H : Heap} {ins : Tab} {P : Nat → Nat × Nat} (Rp : SRep f H ins P) {n R : Nat} (ok : TblOk n R ins) {s : List Bool} {work T : List Int} {gw ga : Nat} {to : Int} (hs : s.length = R) (hR : R ≤ 1000000) (h3 : H[3]? = some (AI gw (work ++ T))) (h4 : H[4]? = some (AL ga s)) (h6 : 6 ≤ H.length)
    (t0 : 0 ≤ to) (t1 : to < n) (hb : work.length + 1 ≤ 137438953472) :
    ∃ H' P' gw' T', callAny E (callW E) 0 none false 80 [.ls 1 1 1 0 n, .int .i64 to, .ls 4 ga 1 0 R, .ls 3 gw 1 0 work.length] H = some (.ls 3 gw' 1 0 (meetM s to (ins, work)).2.length, H') ∧
      SRep f H' (meetM s to (ins, work)).1 P' ∧ H'[3]? = some (AI gw' ((meetM s to (ins, work)).2 ++ T')) ∧ H'[4]? = some (AL ga s) ∧ H'[5]? = H[5]? ∧ 6 ≤ H'.length := by
  have R0 := Rp.more 5
  have g3 : (H ++ deadSlots 5)[3]? = some (AI gw (work ++ T)) := by rw [ga_lt (by omega)]; exact h3
  have g4 : (H ++ deadSlots 5)[4]? = some (AL ga s) := by rw [ga_lt (by omega)]; exact h4
  have g5 : (H ++ deadSlots 5)[5]? = H[5]? := ga_lt (by omega)
  have ecall : callAny E (callW E) 0 none false 80 [.ls 1 1 1 0 n, .int .i64 to, .ls 4 ga 1 0 R, .ls 3 gw 1 0 work.length] H =
      q10_12 H.length (.ls 1 1 1 0 n) (.int .i64 to) (.ls 4 ga 1 0 R) (.ls 3 gw 1 0 work.length) (H ++ deadSlots 5) := by
    rw [callAny, if_neg (by simp), x_q10, if_pos rfl]
    rfl
  rw [ecall]
  have hlen : (H ++ deadSlots 5).length = H.length + 5 := by simp [deadSlots]
  have d0 : (H ++ deadSlots 5)[H.length + 0]? = some ⟨0, .dead⟩ := ga_ge (by omega)
  have d1 : (H ++ deadSlots 5)[H.length + 1]? = some ⟨0, .dead⟩ := ga_ge (by omega)
  have d3 : (H ++ deadSlots 5)[H.length + 3]? = some ⟨0, .dead⟩ := ga_ge (by omega)
  have dead : ∀ (i : Nat) u, ins[i]? = some (some u) → (P i).1 < H.length := fun i u hu => get_lt (Rp.obj i u hu)
  generalize hH0 : H ++ deadSlots 5 = H0 at *
  have ixI := ixAt' (n := n) (p := to) t0 (by omega) 1 1 .i64
  have hlt : to.toNat < ins.length := by rw [ok.len]; omega
  obtain ⟨x, hx⟩ : ∃ x, ins[to.toNat]? = some x := ⟨_, List.getElem?_eq_getElem hlt⟩
  have hrow := tabRows_get (P := P) hx
  cases x with
  | none =>
    have hm : meetM s to (ins, work) = (ins.set to.toNat (some s), work ++ [to]) := by rw [meetM, hx]
    rw [hm]
    have lI := ld_row (i := to.toNat) R0.tab hrow
    have hE : evEqnB 1 false .nils .nils = some (.bool true) := rfl
    have ha : fzList (fz H0 fuelF) [.ls 4 ga 1 0 R] = some ⟨[slA (some s)], true, [4]⟩ := by
      have hz := fz_ls0 (α := Bool) (k := 10) g4
      rw [hs] at hz
      have hz' : fz H0 fuelF (.ls 4 ga 1 0 R) = some ⟨slA (some s), s.all scal, [4]⟩ := hz
      rw [fzList_cons, hz', fzList_nil]
      simp
    have c1 := call_own2 (α := Bool) (E := E) (C := callW E) (fb := H.length) (j := 0) (f := 78) (H := H0) (N := some s) rfl ha (s_CloneB (some s) (by simp only [lst_some]; omega)) (by simp) d0
    simp only [ownV, ownO, es_bool, hs] at c1
    have st1 := st_row (H := H0.set (H.length + 0) (AL 1 s)) (id := 1) (g := 1) (i := to.toNat) (rows := tabRows P ins) (v := .ls (H.length + 0) 1 1 0 R) (w := .nils) (by rw [gs_ne (by omega)]; exact R0.tab) hrow rfl rfl
    have hrows : (tabRows P ins).set to.toNat [.ls (H.length + 0) 1 1 0 R] = tabRows (fun j => if j = to.toNat then (H.length + 0, 1) else P j) (ins.set to.toNat (some s)) := by
      rw [← tabRows_set (P := P) (P' := fun j => if j = to.toNat then (H.length + 0, 1) else P j) (x := some s) hlt (fun j hj => by rw [if_neg hj])]
      simp only [inRow, if_true, hs]
    rw [hrows] at st1
    have b1 := bs_one (H := (H0.set (H.length + 0) (AL 1 s)).set 1 ⟨1, .arr false false 1 (tabRows (fun j => if j = to.toNat then (H.length + 0, 1) else P j) (ins.set to.toNat (some s)))⟩) (fb := H.length) (j := 1) (o := ⟨0, .dead⟩) to (by
      rw [gs_ne (by omega), gs_ne (by omega)]; exact d1)
    have a1 := app_wk (H := ((H0.set (H.length + 0) (AL 1 s)).set 1 ⟨1, .arr false false 1 (tabRows (fun j => if j = to.toNat then (H.length + 0, 1) else P j) (ins.set to.toNat (some s)))⟩).set (H.length + 1) (AI 1 [to])) (fb := H.length) (j := 1) (gw := gw) (g2 := 1) (work := work) (T := T) (to := to)
      (by rw [gs_ne (by omega), gs_ne (by omega), gs_ne (by omega)]; exact g3) (gs_eq (by rw [List.length_set, List.length_set]; omega)) hb (some 2)
    simp only [Nat.zero_add] at b1
    refine ⟨(((H0.set (H.length + 0) (AL 1 s)).set 1 ⟨1, .arr false false 1 (tabRows (fun j => if j = to.toNat then (H.length + 0, 1) else P j) (ins.set to.toNat (some s)))⟩).set (H.length + 1) (AI 1 [to])).set 3 (AI (gw + 1) (work ++ [to])), fun j => if j = to.toNat then (H.length + 0, 1) else P j, gw + 1, [], ?_, ?_, ?_, ?_, ?_, ?_⟩
    · simp only [q10_12, ixI, ob_some, lI, hE, cnd_t, c1, oh_some, st1, b1, a1]
    · have nf : ∀ (i : Nat) u, (ins.set to.toNat (some s))[i]? = some (some u) → (i = to.toNat ∧ u = s) ∨ (i ≠ to.toNat ∧ ins[i]? = some (some u)) := fun i u hu => by
        rcases set_at hu with ⟨e, e2⟩ | h
        · injection e2 with e2; exact .inl ⟨e, e2⟩
        · exact .inr h
      refine ⟨?_, ?_, fun i u hu => ?_, fun i j u v hu hv hij => ?_, fun i u hu => ?_⟩
      · rw [gs_ne (by omega), gs_ne (by omega), gs_ne (by omega), gs_ne (by omega)]; exact R0.box
      · rw [gs_ne (by omega), gs_ne (by omega), gs_eq (by rw [List.length_set]; omega)]
      · rcases nf i u hu with ⟨e, e2⟩ | ⟨e, h⟩
        · subst e2
          rw [if_pos e, gs_ne (by omega), gs_ne (by omega), gs_ne (by omega), gs_eq (by omega)]
        · have h1 := Rp.far i u h
          have h2 := dead i u h
          rw [if_neg e, gs_ne (by omega), gs_ne (by omega), gs_ne (by omega), gs_ne (by omega)]
          exact R0.obj i u h
      · rcases nf i u hu with ⟨e, _⟩ | ⟨e, h⟩
        · rcases nf j v hv with ⟨e', _⟩ | ⟨e', h'⟩
          · omega
          · have := dead j v h'
            rw [if_pos e, if_neg e']; simp only; omega
        · rcases nf j v hv with ⟨e', _⟩ | ⟨e', h'⟩
          · have := dead i u h
            rw [if_neg e, if_pos e']; simp only; omega
          · rw [if_neg e, if_neg e']; exact Rp.inj i j u v h h' hij
      · rcases nf i u hu with ⟨e, _⟩ | ⟨e, h⟩
        · rw [if_pos e]; right; simp only; omega
        · rw [if_neg e]; exact Rp.far i u h
    · rw [gs_eq (by simp only [List.length_set]; omega), List.append_nil]
    · rw [gs_ne (by omega), gs_ne (by omega), gs_ne (by omega), gs_ne (by omega)]; exact g4
    · rw [gs_ne (by omega), gs_ne (by omega), gs_ne (by omega), gs_ne (by omega)]; exact g5
    · simp only [List.length_set]; omega
  | some t =>
    have ht := ok.rows _ _ hx
    have lI := ld_row (i := to.toNat) R0.tab hrow
    have hE : evEqnB 1 false (.ls (P to.toNat).1 (P to.toNat).2 1 0 t.length) .nils = some (.bool false) := rfl
    have hfar := Rp.far _ _ hx
    have hobj := R0.obj _ _ hx
    have hid := dead _ _ hx
    have eto : ((to.toNat : Nat) : Int) = to := by omega
    have lp := meet_loop H.length (.ls 3 gw 1 0 work.length) n to.toNat (by omega) (P to.toNat).1 (P to.toNat).2 ga t s (by omega) (by omega) (by omega) (by omega) (tabRows P ins) hrow _ 0 H0 (Nat.zero_add _) R0.tab (by rw [andK_0]; exact hobj) g4
    have lk0 : lessK 0 t s = false := rfl
    rw [lk0, eto, hs] at lp
    simp only [Int.ofNat_zero] at lp
    have e12 : q10_12 H.length (.ls 1 1 1 0 n) (.int .i64 to) (.ls 4 ga 1 0 R) (.ls 3 gw 1 0 work.length) H0 = q10_2 H.length (.int .i64 to) (.ls 3 gw 1 0 work.length) (.bool (lessB t s)) (H0.set (P to.toNat).1 (AL (P to.toNat).2 (andB t s))) := by
      rw [← lp]
      simp only [q10_12, ixI, ob_some, lI, hE, cnd_f, q10_11, q10_9, evLen_ls]
    rw [e12]
    have hal : (andB t s).length = t.length := andB_len (by omega)
    have RA : SRep f (H0.set (P to.toNat).1 (AL (P to.toNat).2 (andB t s))) (ins.set to.toNat (some (andB t s))) P := by
      refine ⟨by rw [gs_ne (by omega)]; exact R0.box, ?_, fun i u hu => ?_, fun i j u v hu hv hij => ?_, fun i u hu => ?_⟩
      · rw [gs_ne (by omega), R0.tab]
        congr 3
        rw [← tabRows_set (P := P) (P' := P) hlt (fun _ _ => rfl)]
        have : inRow P to.toNat (some (andB t s)) = inRow P to.toNat (some t) := by simp only [inRow, hal]
        rw [this, set_rows hrow]
      · rcases set_at hu with ⟨e, e2⟩ | ⟨e, h⟩
        · injection e2 with e2; subst e2; subst e
          exact gs_eq (by omega)
        · rw [gs_ne (fun e3 => Rp.inj _ _ _ _ hx h (fun e4 => e e4.symm) e3)]
          exact R0.obj i u h
      · have key : ∀ (i : Nat) u, (ins.set to.toNat (some (andB t s)))[i]? = some (some u) → ∃ u', ins[i]? = some (some u') := fun i u hu => by
          rcases set_at hu with ⟨e, _⟩ | ⟨_, h⟩
          · subst e; exact ⟨t, hx⟩
          · exact ⟨u, h⟩
        obtain ⟨u', h1⟩ := key i u hu
        obtain ⟨v', h2⟩ := key j v hv
        exact Rp.inj i j u' v' h1 h2 hij
      · rcases set_at hu with ⟨e, _⟩ | ⟨_, h⟩
        · subst e; exact hfar
        · exact Rp.far i u h
    have k3 : (H0.set (P to.toNat).1 (AL (P to.toNat).2 (andB t s)))[3]? = some (AI gw (work ++ T)) := by rw [gs_ne (by omega)]; exact g3
    have k4 : (H0.set (P to.toNat).1 (AL (P to.toNat).2 (andB t s)))[4]? = some (AL ga s) := by rw [gs_ne (by omega)]; exact g4
    have k5 : (H0.set (P to.toNat).1 (AL (P to.toNat).2 (andB t s)))[5]? = H[5]? := by rw [gs_ne (by omega)]; exact g5
    cases hb2 : lessB t s with
    | true =>
      have hm : meetM s to (ins, work) = (ins.set to.toNat (some (andB t s)), work ++ [to]) := by rw [meetM, hx]; simp [hb2]
      rw [hm]
      have b1 := bs_one (H := H0.set (P to.toNat).1 (AL (P to.toNat).2 (andB t s))) (fb := H.length) (j := 3) (o := ⟨0, .dead⟩) to (by rw [gs_ne (by omega)]; exact d3)
      have a1 := app_wk (H := (H0.set (P to.toNat).1 (AL (P to.toNat).2 (andB t s))).set (H.length + 3) (AI 1 [to])) (fb := H.length) (j := 3) (gw := gw) (g2 := 1) (work := work) (T := T) (to := to)
        (by rw [gs_ne (by omega)]; exact k3) (gs_eq (by rw [List.length_set]; omega)) hb (some 4)
      simp only [Nat.zero_add] at b1
      refine ⟨((H0.set (P to.toNat).1 (AL (P to.toNat).2 (andB t s))).set (H.length + 3) (AI 1 [to])).set 3 (AI (gw + 1) (work ++ [to])), P, gw + 1, [], ?_, ?_, ?_, ?_, ?_, ?_⟩
      · simp only [q10_2, cnd_t, b1, oh_some, a1, q10_1]
      · refine (RA.beyond (a := H.length + 3) (by omega) (by omega) (fun i u hu => ?_)).other (.inl rfl)
        rcases set_at hu with ⟨e, _⟩ | ⟨_, h⟩
        · subst e; omega
        · have := dead i u h; omega
      · rw [gs_eq (by simp only [List.length_set]; omega), List.append_nil]
      · rw [gs_ne (by omega), gs_ne (by omega)]; exact k4
      · rw [gs_ne (by omega), gs_ne (by omega)]; exact k5
      · simp only [List.length_set]; omega
    | false =>
      have hm : meetM s to (ins, work) = (ins, work) := by rw [meetM, hx]; simp [hb2]
      rw [hm]
      have eA : andB t s = t := by
        rw [← andK_all (by omega : t.length = s.length)]
        have : ∀ k, k ≤ t.length → andK k t s = t := by
          intro k
          induction k with
          | zero => intro _; exact andK_0 t s
          | succ k ih =>
            intro hk
            rw [andK_keep, ih (by omega)]
            cases hc : (t.getD k false && !s.getD k false) with
            | false => rfl
            | true =>
              rw [Bool.and_eq_true, Bool.not_eq_true'] at hc
              have q1 : t[k]? = some true := by
                have := hc.1
                rw [List.getD_eq_getElem?_getD, List.getElem?_eq_getElem (by omega)] at this
                rw [List.getElem?_eq_getElem (by omega)]; simpa using this
              have q2 : s[k]? = some false := by
                have := hc.2
                rw [List.getD_eq_getElem?_getD, List.getElem?_eq_getElem (by omega)] at this
                rw [List.getElem?_eq_getElem (by omega)]; simpa using this
              have := lessB_iff.2 ⟨k, q1, q2⟩
              rw [hb2] at this; cases this
        exact this _ (Nat.le_refl _)
      refine ⟨H0.set (P to.toNat).1 (AL (P to.toNat).2 (andB t s)), P, gw, T, ?_, ?_, k3, k4, k5, ?_⟩
      · simp only [q10_2, cnd_f, q10_1]
      · have : SRep f (H0.set (P to.toNat).1 (AL (P to.toNat).2 (andB t s))) ins P := by
          rw [eA, set_same hobj]; exact R0
        exact this
      · simp only [List.length_set]; omega
end Go.Vm
namespace Go.Vm
open Cel
attribute [local simp] callAny callP heapOf_nil
@[simp] theorem s_Ends (x : Ins) : (callW E).p 24 [.agg (enc x)] = some ⟨.bool (ends x.op), [], true, [], []⟩ := by
  rw [x_q17, q17_1]
  by_cases h1 : x.op = 27
  · simp [h1, ends]
  by_cases h2 : x.op = 30
  · simp [h2, ends]
  by_cases h3 : x.op = 31 <;> simp [h1, h2, h3, ends]
@[simp] theorem s_Leads (x : Ins) : (callW E).p 22 [.agg (enc x)] = some ⟨.bool (leads x.op), [], true, [], []⟩ := by
  rw [x_q18, q18_1]
  by_cases h1 : x.op = 27
  · simp [h1, leads]
  by_cases h2 : x.op = 28
  · simp [h2, leads]
  by_cases h3 : x.op = 29 <;> simp [h1, h2, h3, leads]
@[simp] theorem s_Calls (x : Ins) : (callW E).p 17 [.agg (enc x)] = some ⟨.bool (calls x.op), [], true, [], []⟩ := by
  rw [x_q13, q13_1]
  by_cases h1 : 23 ≤ x.op
  · by_cases h2 : x.op ≤ 26 <;> simp [h1, h2, calls]
  · simp [h1, calls]
end Go.Vm
namespace Go.Vm
open Cel
attribute [local simp] callAny callP heapOf_nil
@[simp] theorem s_Throws (x : Ins) : (callW E).p 18 [.agg (enc x)] = some ⟨.bool (throws x.op), [], true, [], []⟩ := by
  rw [x_q19]
  rcases op_cases x.op with h|h|h|h|h|h|h|h|h|h|h|h|h|h|h|h|h|h|h|h|h|h|h|h|h|h|h|h|h|h|h|h|h|h|h <;> first | (simp [h, throws, calls, q19_1]; done) | (simp [lo_f h, throws, calls, q19_1]; done) | simp [hi_f h, throws, calls, q19_1]
end Go.Vm
namespace Go.Vm
open Cel
attribute [local simp] callAny callP heapOf_nil
theorem slc_to {α : Type} [Cel α] (o : Option (List α)) (i : Nat) (h : i ≤ (lst o).length) (k : IntKind) : evSlcO (es α) (slA o) none (some (.int k i)) = some (slA (o.map (List.take i))) := by
  have h2 : (0 : Int) ≤ (i : Int) ∧ (i : Int) ≤ ((lst o).length : Int) := by omega
  cases o with
  | none =>
    have : i = 0 := by simpa using h
    subst this
    simp [evSlcO, slA, evSlc, optIxv, asNat]
  | some L =>
    simp only [lst_some] at h2
    simp [evSlcO, slA, evSlc, optIxv, asNat, h2, List.map_take]
theorem Index_loop (o : Option (List Int)) (r : Int) (hl : (lst o).length ≤ 9223372036854775807) (h : Heap) : ∀ (d i : Nat), i + d = (lst o).length →
    ∃ k : Int, q106_L2 (slA o) (.int .i64 r) (.int .i64 (lst o).length) (.int .i64 i) h = some ⟨.int .i64 k, [], true, [], []⟩ ∧ (0 ≤ k ↔ r ∈ (lst o).drop i) := by
  intro d
  induction d with
  | zero =>
    intro i hi
    have e1 : (lst o).drop i = [] := List.drop_eq_nil_of_le (by omega)
    have hn : ¬ ((i : Int) < ((lst o).length : Int)) := by omega
    rw [q106_L2_go, e1]
    exact ⟨-1, by simp [q106_1, q106_3, q106_4, q106_5, q106_6, q106_8, q106_10, hn], by simp⟩
  | succ d ih =>
    intro i hi
    have hlt : i < (lst o).length := by omega
    have hn : ((i : Int) < ((lst o).length : Int)) := by omega
    have k1 := ixs_int (o := o) (i := i) (List.getElem?_eq_getElem hlt) .i64
    have hm : r ∈ (lst o).drop i ↔ r = (lst o)[i] ∨ r ∈ (lst o).drop (i + 1) := by rw [List.drop_eq_getElem_cons hlt, List.mem_cons]
    rw [q106_L2_go, hm]
    by_cases he : r = (lst o)[i]
    · exact ⟨i, by simp [q106_1, q106_3, q106_4, q106_5, q106_6, q106_8, q106_10, hn, k1, he], by simp [he]⟩
    · obtain ⟨k, h1, h2⟩ := ih (i + 1) (by omega)
      push_cast at h1
      refine ⟨k, ?_, ?_⟩
      · simp [q106_1, q106_3, q106_4, q106_5, q106_6, q106_8, q106_10, hn, k1, he, wrap_up hlt hl, h1]
      · rw [h2]; simp [he]
@[simp] theorem s_Contains (o : Option (List Int)) (r : Int) (hl : (lst o).length ≤ 9223372036854775807) : (callW E).p 46 [slA o, .int .i64 r] = some ⟨.bool ((lst o).contains r), [], true, [], []⟩ := by
  obtain ⟨k, h1, h2⟩ := Index_loop o r hl [] (lst o).length 0 (by omega)
  simp only [Int.ofNat_zero, List.drop_zero] at h1 h2
  have hi : (callW E).p 45 [slA o, .int .i64 r] = some ⟨.int .i64 k, [], true, [], []⟩ := by
    rw [x_q106, ← h1]
    simp [q106_1, q106_3, q106_4, q106_5, q106_6, q106_8, q106_10]
  rw [x_q105]
  by_cases h0 : 0 ≤ k
  · have := h2.1 h0
    simp [q105_1, hi, h0, this]
  · have : r ∉ lst o := fun h => h0 (h2.2 h)
    simp [q105_1, hi, h0, this]
end Go.Vm
namespace Go.Vm
open Cel
attribute [local simp] callAny callP heapOf_nil
theorem contains1 (a b : Int) : (callW E).p 46 [.rs 1 [[.int .i64 a]], .int .i64 b] = some ⟨.bool ([a].contains b), [], true, [], []⟩ := by
  have := s_Contains (some [a]) b (by simp)
  exact this
theorem s_Next (f : Fn) (i : Int) (hl : (lst f.code).length ≤ 9223372036854775807) : (callW E).p 81 [.agg (enc f), .int .i64 i] = some (exO (nz (nextL f i))) := by
  rw [x_q6]
  by_cases h0 : i < 0
  · simp [q6_1, q6_2, q6_3, q6_4, q6_5, q6_6, q6_7, h0, nextL, nz]; rfl
  by_cases h1 : ((lst f.code).length : Int) ≤ i
  · simp [q6_1, q6_2, q6_3, q6_4, q6_5, q6_6, q6_7, h0, h1, nextL, nz]; rfl
  have g0 : 0 ≤ i := by omega
  have hx := insAt_lt (f := f) (i := i.toNat) (by omega)
  have k1 := ixs_insI (o := f.code) g0 hx .i64
  have hw := wrap_next g0 (by omega) hl
  have hn : nextL f i = nextI (insAt f i.toNat) i := by rw [nextL, if_neg (by omega)]
  rw [hn]
  generalize insAt f i.toNat = x at *
  have e : q6_7 (.agg (enc f)) (.int .i64 i) [⟨0, .dead⟩, ⟨0, .dead⟩, ⟨0, .dead⟩, ⟨0, .dead⟩, ⟨0, .dead⟩, ⟨0, .dead⟩] = q6_3 (.int .i64 i) (.lp 1 1 0 0) .nils [⟨1, .arr true false 5 [enc f]⟩, ⟨1, .arr true false 9 [enc x]⟩, ⟨0, .dead⟩, ⟨0, .dead⟩, ⟨0, .dead⟩, ⟨0, .dead⟩] := by
    simp [q6_7, q6_6, q6_5, q6_4, h0, h1, k1]
  rw [e, nextI]
  cases he : ends x.op with
  | true =>
    cases hd : leads x.op with
    | false => simp [q6_3, q6_2, q6_1, he, hd, nz]; rfl
    | true =>
      have := s_Contains none x.t (by simp)
      simp [q6_3, q6_2, q6_1, he, hd, nz, slA] at this ⊢
      simp [this, buildSC, fillRows, evApp, addN]
      exact expo1_int1 (by simp)
  | false =>
    cases hd : leads x.op with
    | false =>
      simp [q6_3, q6_2, q6_1, he, hd, hw, buildSC, fillRows, evApp]
      exact expo1_int1 (by simp)
    | true =>
      have hz : fz [⟨1, .arr true false 5 [enc f]⟩, ⟨1, .arr true false 9 [enc x]⟩, ⟨1, .arr false false 1 [[.int .i64 (i + 1)]]⟩, ⟨1, .arr false false 1 [[.int .i64 (i + 1)]]⟩, ⟨0, .dead⟩, ⟨0, .dead⟩] fuelF (.ls 3 1 1 0 1) = some ⟨.rs 1 [[.int .i64 (i + 1)]], true, [3]⟩ := by
        rw [fz_ls]; rfl
      generalize hxt : x.t = t at *
      by_cases hc : i + 1 = t
      · subst hc
        simp [q6_3, q6_2, q6_1, he, hd, hw, buildSC, fillRows, evApp, hz, contains1, addN, hxt]
        exact expo1_int1 (by simp)
      · have hc' : ¬ t = i + 1 := fun h => hc h.symm
        simp [q6_3, q6_2, q6_1, he, hd, hw, buildSC, fillRows, evApp, hz, contains1, hc, hc', addN, hxt]
        exact expo1_int2 (by simp)
theorem Caught_loop (f : Fn) (i : Int) (hl : (lst f.rows).length ≤ 274877906944) : ∀ (d k g : Nat) (L : List Int) (o1 o2 : AO), k + d = (lst f.rows).length → L.length ≤ k →
    q4_L2 (.int .i64 i) (slotV Int 3 g L) (slA f.rows) (.int .i64 (lst f.rows).length) (.int .i64 k) [⟨1, .arr true false 5 [enc f]⟩, o1, o2, slotO g D0 L] = some (exO (nz (caughtG i ((lst f.rows).drop k) L))) := by
  intro d
  induction d with
  | zero =>
    intro k g L o1 o2 hk _
    have e1 : (lst f.rows).drop k = [] := List.drop_eq_nil_of_le (by omega)
    have hn : ¬ ((k : Int) < ((lst f.rows).length : Int)) := by omega
    have hx := expo1_slotX (H := [⟨1, .arr true false 5 [enc f]⟩, o1, o2, slotO g D0 L]) (j := 3) (g := g) (o := D0) (L := L) rfl
    rw [q4_L2_go, e1]
    simp [q4_11, q4_10, q4_1, hn, caughtG, hx]
  | succ d ih =>
    intro k g L o1 o2 hk hL
    have hlt : k < (lst f.rows).length := by omega
    have hc : ((k : Int) < ((lst f.rows).length : Int)) := by omega
    have k1 := ixs_row (o := f.rows) (i := k) (List.getElem?_eq_getElem hlt) .i64
    rw [q4_L2_go, List.drop_eq_getElem_cons hlt]
    generalize hr : (lst f.rows)[k] = r at *
    have ih0 := fun g L o1 o2 hL => ih (k + 1) g L o1 o2 (by omega) hL
    push_cast at ih0
    have hw := wrap_up hlt (by omega)
    have e11 : q4_11 (.int .i64 i) (slotV Int 3 g L) (slA f.rows) (.int .i64 (lst f.rows).length) (.int .i64 k) [⟨1, .arr true false 5 [enc f]⟩, o1, o2, slotO g D0 L] =
        q4_6 (.int .i64 i) (slotV Int 3 g L) (.lp 1 (o1.gen + 1) 0 0) (slA f.rows) (.int .i64 (lst f.rows).length) (.int .i64 k) [⟨1, .arr true false 5 [enc f]⟩, ⟨o1.gen + 1, .arr true false 4 [enc r]⟩, o2, slotO g D0 L] := by
      simp [q4_11, q4_10, q4_7, hc, k1]
    rw [e11]
    generalize (o1.gen + 1) = g1
    by_cases h1 : i < r.f
    · have : ¬ (r.f ≤ i ∧ i < r.t) := by omega
      simp [q4_6, q4_3, h1, hw, caughtG, this, ih0 g L _ _ (by omega)]
    by_cases h2 : r.t ≤ i
    · have : ¬ (r.f ≤ i ∧ i < r.t) := by omega
      simp [q4_6, q4_3, h1, h2, hw, caughtG, this, ih0 g L _ _ (by omega)]
    have hin : r.f ≤ i ∧ i < r.t := by omega
    rw [caughtG, if_pos hin]
    have hz : ∀ o2, fz [⟨1, .arr true false 5 [enc f]⟩, ⟨g1, .arr true false 4 [enc r]⟩, o2, slotO g D0 L] fuelF (slotV Int 3 g L) = some ⟨slA (nz L), true, ids1 (slotV Int 3 g L)⟩ := fun o2 => fz_slotI rfl
    have hct := s_Contains (nz L) r.at_ (by rw [lst_nz]; omega)
    rw [lst_nz] at hct
    have tail : ∀ g L o2, L.length ≤ k + 1 → q4_4 (.int .i64 i) (slotV Int 3 g L) (.lp 1 g1 0 0) (slA f.rows) (.int .i64 (lst f.rows).length) (.int .i64 k) [⟨1, .arr true false 5 [enc f]⟩, ⟨g1, .arr true false 4 [enc r]⟩, o2, slotO g D0 L] =
        some (exO (nz (if r.c = [] then L else caughtG i ((lst f.rows).drop (k + 1)) L))) := by
      intro g L o2 hL
      have hx := expo1_slotX (H := [⟨1, .arr true false 5 [enc f]⟩, ⟨g1, .arr true false 4 [enc r]⟩, o2, slotO g D0 L]) (j := 3) (g := g) (o := D0) (L := L) rfl
      by_cases hcl : r.c = []
      · simp [q4_4, q4_1, hcl, hx]
      · simp [q4_4, q4_3, hcl, hw, ih0 g L _ _ hL]
    unfold addN
    cases hb : L.contains r.at_ with
    | true =>
      rw [hb] at hct
      rw [if_pos rfl]
      have := tail g L o2 (by omega)
      simp [q4_6, q4_5, h1, h2, hz, hct, this]
    | false =>
      rw [hb] at hct
      rw [if_neg Bool.false_ne_true]
      obtain ⟨g', ha⟩ := app_int (H := [⟨1, .arr true false 5 [enc f]⟩, ⟨g1, .arr true false 4 [enc r]⟩, ⟨o2.gen + 1, .arr false false 1 [[.int .i64 r.at_]]⟩, slotO g D0 L]) (fb := 0) (j := 3) (g := g) (o := D0) (y := .ls 2 (o2.gen + 1) 1 0 1) (L := L) (n := r.at_) (by simp) rfl (by omega)
      have ha' : evApp 0 (some 3) 1 8 (slotV Int 3 g L) (.ls 2 (o2.gen + 1) 1 0 1) [⟨1, .arr true false 5 [enc f]⟩, ⟨g1, .arr true false 4 [enc r]⟩, ⟨o2.gen + 1, .arr false false 1 [[.int .i64 r.at_]]⟩, slotO g D0 L] = some (slotV Int 3 g' (L ++ [r.at_]), [⟨1, .arr true false 5 [enc f]⟩, ⟨g1, .arr true false 4 [enc r]⟩, ⟨o2.gen + 1, .arr false false 1 [[.int .i64 r.at_]]⟩, slotO g' D0 (L ++ [r.at_])]) := ha
      have := tail g' (L ++ [r.at_]) ⟨o2.gen + 1, .arr false false 1 [[.int .i64 r.at_]]⟩ (by simp; omega)
      simp [q4_6, q4_5, h1, h2, hz, hct, buildSC, fillRows, ha', this]
theorem s_Caught (f : Fn) (i : Int) (hl : (lst f.rows).length ≤ 274877906944) : (callW E).p 79 [.agg (enc f), .int .i64 i] = some (exO (nz (caughtL f i))) := by
  rw [x_q4]
  by_cases h0 : i < 0
  · simp [q4_17, q4_16, h0, caughtL, nz]; rfl
  by_cases h1 : ((lst f.code).length : Int) ≤ i
  · simp [q4_17, q4_16, h0, h1, caughtL, nz]; rfl
  have g0 : 0 ≤ i := by omega
  have hx := insAt_lt (f := f) (i := i.toNat) (by omega)
  have k1 := ixs_insI (o := f.code) g0 hx .i64
  have hn : caughtL f i = if throws (insAt f i.toNat).op then caughtG i (lst f.rows) [] else [] := by rw [caughtL, if_neg (by omega)]
  rw [hn]
  generalize insAt f i.toNat = x at *
  have lp := Caught_loop f i hl _ 0 0 [] D0 D0 (Nat.zero_add _) (Nat.zero_le _)
  simp only [slotV_nil, slotO_nil, List.drop_zero, Int.ofNat_zero] at lp
  cases ht : throws x.op with
  | false => simp [q4_17, q4_16, h0, h1, k1, ht, nz]; rfl
  | true => simp [q4_17, q4_16, q4_15, q4_13, h0, h1, k1, ht, lp]
end Go.Vm
namespace Go.Vm
open Cel
attribute [local simp] callAny callP heapOf_nil
theorem app_fits {n b : Nat} (hb : b ≤ 200) (h : n ≤ 2 ^ 38) : (2 * n + 512) * b ≤ 281474976710656 := by
  have e : (2:Nat)^38 = 274877906944 := by decide
  have h1 : (2 * n + 512) ≤ 549755814400 := by omega
  have : (2 * n + 512) * b ≤ 549755814400 * 200 := Nat.mul_le_mul h1 hb
  omega
@[simp] theorem s_Clone_int (o : Option (List Int)) (h : (lst o).length ≤ 17592186043904) : (callW E).p 39 [slA o] = some (exO o) := by
  rw [x_q104]
  cases o with
  | none => simp [q104_1, q104_2, q104_3]; rfl
  | some L =>
    simp only [lst_some] at h
    have h1 : (2 * L.length + 512) * 8 ≤ 281474976710656 := by omega
    simp [q104_1, q104_2, q104_3, buildSC, fillRows, evApp, h1]
    exact expo1_own (α := Int) (by simp)
end Go.Vm
namespace Go.Vm
open Cel
attribute [local simp] callAny callP heapOf_nil
theorem place_own {α : Type} [Cel α] (fb j : Nat) (L : List α) (h : Heap) {o : AO} (ho : h[fb + j]? = some o) : placeAll fb (some j) [.arr false false (es α) (L.map enc)] [] h =
    some ([(fb + j, o.gen + 1)], h.set (fb + j) ⟨o.gen + 1, .arr false false (es α) (L.map enc)⟩) := by
  simp [placeAll, relocOC, okOC, ho]
theorem uses_1 (x : Ins) (h : x.op = 4 ∨ x.op = 6 ∨ x.op = 7 ∨ x.op = 8 ∨ x.op = 10 ∨ x.op = 12 ∨ x.op = 15 ∨ x.op = 16 ∨ x.op = 19 ∨ x.op = 21 ∨ x.op = 22 ∨ x.op = 31) : (callW E).p 10 [.agg (enc x)] = some (exO (uses x)) := by
  rw [x_q20]
  rcases h with h|h|h|h|h|h|h|h|h|h|h|h <;> (simp [h, uses, calls, reads, q20_1, q20_2, q20_3, q20_4, q20_5, q20_6, q20_7, q20_8, q20_9, q20_10, q20_11, q20_12, q20_13, q20_15, q20_17, buildSC, fillRows]; exact expo1_own (α := Int) (L := [x.a]) (by simp))
theorem uses_2 (x : Ins) (h : x.op = 5 ∨ x.op = 9 ∨ x.op = 11 ∨ x.op = 13 ∨ x.op = 17 ∨ x.op = 28) : (callW E).p 10 [.agg (enc x)] = some (exO (uses x)) := by
  rw [x_q20]
  rcases h with h|h|h|h|h|h <;> (simp [h, uses, calls, reads, q20_1, q20_2, q20_3, q20_4, q20_5, q20_6, q20_7, q20_8, q20_9, q20_10, q20_11, q20_12, q20_13, q20_15, q20_17, buildSC, fillRows]; exact expo1_own (α := Int) (L := [x.a, x.b]) (by simp))
theorem uses_3 (x : Ins) (h : x.op = 14) : (callW E).p 10 [.agg (enc x)] = some (exO (uses x)) := by
  rw [x_q20]
  simp [h, uses, calls, reads, q20_1, q20_2, q20_3, q20_4, q20_5, q20_6, q20_7, q20_8, q20_9, q20_10, q20_11, q20_12, q20_13, q20_15, q20_17, buildSC, fillRows]
  exact expo1_own (α := Int) (L := [x.a, x.b, x.c]) (by simp)
theorem uses_4 (x : Ins) (h : x.op = 23 ∨ x.op = 24 ∨ x.op = 25 ∨ x.op = 26) (hl : (lst x.args).length ≤ 17592186043904) : (callW E).p 10 [.agg (enc x)] = some (exO (uses x)) := by
  rw [x_q20]
  have e : uses x = x.args := by rcases h with h|h|h|h <;> simp [h, uses, calls]
  rw [e]
  have hc := s_Clone_int x.args hl
  cases ha : x.args with
  | none =>
    rw [ha] at hc
    rcases h with h|h|h|h <;> (simp [h, q20_1, q20_2, q20_3, q20_4, q20_5, q20_6, q20_7, q20_8, q20_9, q20_10, q20_11, q20_12, q20_13, q20_15, q20_17, ha, hc, exO, placeAll, reloc, relocAgg, relocLeaf]; done)
  | some L =>
    rw [ha] at hc
    rcases h with h|h|h|h <;> (simp [h, q20_1, q20_2, q20_3, q20_4, q20_5, q20_6, q20_7, q20_8, q20_9, q20_10, q20_11, q20_12, q20_13, q20_15, q20_17, ha, hc, placeAll, relocOC, okOC, reloc, relocAgg, relocLeaf, exO]; exact expo1_own (α := Int) (L := L) (by simp))
theorem uses_5 (x : Ins) (h : x.op = 29) : (callW E).p 10 [.agg (enc x)] = some (exO (uses x)) := by
  rw [x_q20]
  by_cases hb : x.b < 0
  · simp [hb, h, uses, calls, reads, q20_1, q20_2, q20_3, q20_4, q20_5, q20_6, q20_7, q20_8, q20_9, q20_10, q20_11, q20_12, q20_13, q20_15, q20_17, buildSC, fillRows]
    exact expo1_own (α := Int) (L := [x.a]) (by simp)
  · simp [hb, h, uses, calls, reads, q20_1, q20_2, q20_3, q20_4, q20_5, q20_6, q20_7, q20_8, q20_9, q20_10, q20_11, q20_12, q20_13, q20_15, q20_17, buildSC, fillRows]
    exact expo1_own (α := Int) (L := [x.a, x.b]) (by simp)
theorem uses_6 (x : Ins) (h : x.op = 30) : (callW E).p 10 [.agg (enc x)] = some (exO (uses x)) := by
  rw [x_q20]
  by_cases hb : 0 ≤ x.a
  · simp [hb, h, uses, calls, reads, q20_1, q20_2, q20_3, q20_4, q20_5, q20_6, q20_7, q20_8, q20_9, q20_10, q20_11, q20_12, q20_13, q20_15, q20_17, buildSC, fillRows]
    exact expo1_own (α := Int) (L := [x.a]) (by simp)
  · simp [hb, h, uses, calls, reads, q20_1, q20_2, q20_3, q20_4, q20_5, q20_6, q20_7, q20_8, q20_9, q20_10, q20_11, q20_12, q20_13, q20_15, q20_17, buildSC, fillRows, exO]
theorem uses_7 (x : Ins) (h : x.op = 1 ∨ x.op = 2 ∨ x.op = 3 ∨ x.op = 18 ∨ x.op = 20 ∨ x.op = 27 ∨ x.op = 32 ∨ x.op = 33 ∨ x.op < 1 ∨ 33 < x.op) : (callW E).p 10 [.agg (enc x)] = some (exO (uses x)) := by
  rw [x_q20]
  rcases h with h|h|h|h|h|h|h|h|h|h
  all_goals first | (simp [h, uses, calls, reads, q20_1, q20_2, q20_3, q20_4, q20_5, q20_6, q20_7, q20_8, q20_9, q20_10, q20_11, q20_12, q20_13, q20_15, q20_17, exO]; done) | (simp [lo_f h, uses, calls, reads, q20_1, q20_2, q20_3, q20_4, q20_5, q20_6, q20_7, q20_8, q20_9, q20_10, q20_11, q20_12, q20_13, q20_15, q20_17, exO]; done) | simp [hi_f h, uses, calls, reads, q20_1, q20_2, q20_3, q20_4, q20_5, q20_6, q20_7, q20_8, q20_9, q20_10, q20_11, q20_12, q20_13, q20_15, q20_17, exO]
theorem s_Uses (x : Ins) (hl : (lst x.args).length ≤ 17592186043904) : (callW E).p 10 [.agg (enc x)] = some (exO (uses x)) := by
  by_cases h1 : x.op = 4 ∨ x.op = 6 ∨ x.op = 7 ∨ x.op = 8 ∨ x.op = 10 ∨ x.op = 12 ∨ x.op = 15 ∨ x.op = 16 ∨ x.op = 19 ∨ x.op = 21 ∨ x.op = 22 ∨ x.op = 31
  · exact uses_1 x h1
  by_cases h2 : x.op = 5 ∨ x.op = 9 ∨ x.op = 11 ∨ x.op = 13 ∨ x.op = 17 ∨ x.op = 28
  · exact uses_2 x h2
  by_cases h4 : x.op = 23 ∨ x.op = 24 ∨ x.op = 25 ∨ x.op = 26
  · exact uses_4 x h4 hl
  by_cases h5 : x.op = 29
  · exact uses_5 x h5
  by_cases h6 : x.op = 30
  · exact uses_6 x h6
  by_cases h3 : x.op = 14
  · exact uses_3 x h3
  exact uses_7 x (by omega)
end Go.Vm
namespace Go.Vm
open Cel
attribute [local simp] callAny callP heapOf_nil
@[simp] theorem s_Def (x : Ins) : (callW E).p 9 [.agg (enc x)] = some ⟨.int .i64 (defr x), [], true, [], []⟩ := by
  rw [x_q16]
  rcases op_cases x.op with h|h|h|h|h|h|h|h|h|h|h|h|h|h|h|h|h|h|h|h|h|h|h|h|h|h|h|h|h|h|h|h|h|h|h <;> first | (simp [h, defr, writes, calls, q16_1, q16_2, q16_3, q16_4, q16_6, q16_8]; done) | (simp [lo_f h, defr, writes, calls, q16_1, q16_2, q16_3, q16_4, q16_6, q16_8]; done) | simp [hi_f h, defr, writes, calls, q16_1, q16_2, q16_3, q16_4, q16_6, q16_8]
end Go.Vm
namespace Go.Vm
open Cel
attribute [local simp] callAny callP heapOf_nil
@[simp] theorem splice4 (a b c d : AV) (r : List AV) (h : r.length = 4) : spliceAt 0 [a, b, c, d] r = [a, b, c, d] := by
  simp [spliceAt, ← h]
@[simp] theorem expo1_k (h : Heap) (a b c d : Int) (o : Bool) : expo1 h (.tup [.agg [.int .i64 a, .int .i64 b, .int .i64 c, .int .i64 d], .bool o]) = some (exK (a, b, c, d, o)) := rfl
@[simp] theorem build4 (a b c d : Int) : evBuild [.int .i64 0, .int .i64 0, .int .i64 0, .int .i64 0] [(0, 1, .int .i64 a), (1, 1, .int .i64 b), (2, 1, .int .i64 c), (3, 1, .int .i64 d)] = some (.agg [.int .i64 a, .int .i64 b, .int .i64 c, .int .i64 d]) := rfl
@[simp] theorem build4z : evBuild [.int .i64 0, .int .i64 0, .int .i64 0, .int .i64 0] [] = some (.agg [.int .i64 0, .int .i64 0, .int .i64 0, .int .i64 0]) := rfl
@[simp] theorem fz_tup3 (h : Heap) (a b c : Int) : fz h fuelF (.tup [.int .i64 a, .int .i64 b, .int .i64 c]) = some ⟨.tup [.int .i64 a, .int .i64 b, .int .i64 c], true, []⟩ := rfl
@[simp] theorem fz_tupk (h : Heap) (a b c d : Int) (o : Bool) : fz h fuelF (.tup [.agg [.int .i64 a, .int .i64 b, .int .i64 c, .int .i64 d], .bool o]) = some ⟨.tup [.agg [.int .i64 a, .int .i64 b, .int .i64 c, .int .i64 d], .bool o], true, []⟩ := rfl
@[simp] theorem agg4 (a b c d : AV) : aggOr true 4 [a, b, c, d] = some (.agg [a, b, c, d]) := rfl
set_option maxHeartbeats 4000000 in
theorem kinds_1 (x : Ins) (h : x.op = 1 ∨ x.op = 2 ∨ x.op = 3 ∨ x.op = 4 ∨ x.op = 7 ∨ x.op = 8 ∨ x.op = 9 ∨ x.op = 10 ∨ x.op = 11 ∨ x.op = 13 ∨ x.op = 14 ∨ x.op = 15 ∨ x.op = 16 ∨ x.op = 17 ∨ x.op = 18 ∨ x.op = 19 ∨ x.op = 20 ∨ x.op = 27 ∨ x.op = 31 ∨ x.op = 32 ∨ x.op = 33) : (callW E).p 47 [.agg (enc x)] = some (exK (kindsM x)) := by
  rw [x_q21]
  rcases h with h|h|h|h|h|h|h|h|h|h|h|h|h|h|h|h|h|h|h|h|h <;> simp [h, q21_1, q21_2, q21_3, q21_4, q21_5, q21_6, q21_7, q21_8, q21_9, q21_10, q21_11, q21_12, q21_13, q21_14, q21_15, q21_16, q21_17, q21_18, q21_19, q21_20, q21_21, q21_22, q21_23, q21_24, q21_25, q21_26, q21_27, q21_28, q21_29, q21_30, q21_31, q21_32, q21_33, q21_34, q21_35, q21_36, q21_37, q21_38, q21_39, q21_40, q21_41, q21_42, q21_43, q21_45, q21_47, pairsOk, fpApart, meets, ids1, kindsM]
theorem kinds_t (x : Ins) (hs : x.s.length ≤ 9223372036854775807) (h : x.op = 12 ∨ x.op = 21 ∨ x.op = 22) : (callW E).p 47 [.agg (enc x)] = some (exK (kindsM x)) := by
  rw [x_q21]
  have ht := s_Type x.s hs
  rcases h with h|h|h <;> simp [h, ht, q21_1, q21_2, q21_3, q21_4, q21_5, q21_6, q21_7, q21_8, q21_9, q21_10, q21_11, q21_12, q21_13, q21_14, q21_15, q21_16, q21_17, q21_18, q21_19, q21_20, q21_21, q21_22, q21_23, q21_24, q21_25, q21_26, q21_27, q21_28, q21_29, q21_30, q21_31, q21_32, q21_33, q21_34, q21_35, q21_36, q21_37, q21_38, q21_39, q21_40, q21_41, q21_42, q21_43, q21_45, q21_47, pairsOk, fpApart, meets, ids1, kindsM]
theorem kinds_n (x : Ins) (hn : -9223372036854775808 ≤ x.n ∧ x.n < 9223372036854775808) (h : x.op = 5 ∨ x.op = 6) : (callW E).p 47 [.agg (enc x)] = some (exK (kindsM x)) := by
  rw [x_q21]
  have hk := s_Kinds x.n
  have hw := wrap_i64 hn.1 hn.2
  rcases h with h|h
  · simp [h, hk, hw, q21_1, q21_2, q21_3, q21_4, q21_5, q21_6, q21_7, q21_8, q21_9, q21_10, q21_11, q21_12, q21_13, q21_14, q21_15, q21_16, q21_17, q21_18, q21_19, q21_20, q21_21, q21_22, q21_23, q21_24, q21_25, q21_26, q21_27, q21_28, q21_29, q21_30, q21_31, q21_32, q21_33, q21_34, q21_35, q21_36, q21_37, q21_38, q21_39, q21_40, q21_41, q21_42, q21_43, q21_45, q21_47, pairsOk, fpApart, meets, ids1, kindsM]
  · by_cases h0 : (numK x.n).1 = 0
    · simp [h, hk, hw, h0, q21_1, q21_2, q21_3, q21_4, q21_5, q21_6, q21_7, q21_8, q21_9, q21_10, q21_11, q21_12, q21_13, q21_14, q21_15, q21_16, q21_17, q21_18, q21_19, q21_20, q21_21, q21_22, q21_23, q21_24, q21_25, q21_26, q21_27, q21_28, q21_29, q21_30, q21_31, q21_32, q21_33, q21_34, q21_35, q21_36, q21_37, q21_38, q21_39, q21_40, q21_41, q21_42, q21_43, q21_45, q21_47, pairsOk, fpApart, meets, ids1, kindsM]
    · simp [h, hk, hw, h0, q21_1, q21_2, q21_3, q21_4, q21_5, q21_6, q21_7, q21_8, q21_9, q21_10, q21_11, q21_12, q21_13, q21_14, q21_15, q21_16, q21_17, q21_18, q21_19, q21_20, q21_21, q21_22, q21_23, q21_24, q21_25, q21_26, q21_27, q21_28, q21_29, q21_30, q21_31, q21_32, q21_33, q21_34, q21_35, q21_36, q21_37, q21_38, q21_39, q21_40, q21_41, q21_42, q21_43, q21_45, q21_47, pairsOk, fpApart, meets, ids1, kindsM]
theorem kinds_i (x : Ins) (h : x.op = 28) : (callW E).p 47 [.agg (enc x)] = some (exK (kindsM x)) := by
  rw [x_q21]
  by_cases h0 : 0 ≤ x.n
  · simp [h, h0, q21_1, q21_2, q21_3, q21_4, q21_5, q21_6, q21_7, q21_8, q21_9, q21_10, q21_11, q21_12, q21_13, q21_14, q21_15, q21_16, q21_17, q21_18, q21_19, q21_20, q21_21, q21_22, q21_23, q21_24, q21_25, q21_26, q21_27, q21_28, q21_29, q21_30, q21_31, q21_32, q21_33, q21_34, q21_35, q21_36, q21_37, q21_38, q21_39, q21_40, q21_41, q21_42, q21_43, q21_45, q21_47, pairsOk, fpApart, meets, ids1, kindsM]
  · simp [h, h0, q21_1, q21_2, q21_3, q21_4, q21_5, q21_6, q21_7, q21_8, q21_9, q21_10, q21_11, q21_12, q21_13, q21_14, q21_15, q21_16, q21_17, q21_18, q21_19, q21_20, q21_21, q21_22, q21_23, q21_24, q21_25, q21_26, q21_27, q21_28, q21_29, q21_30, q21_31, q21_32, q21_33, q21_34, q21_35, q21_36, q21_37, q21_38, q21_39, q21_40, q21_41, q21_42, q21_43, q21_45, q21_47, pairsOk, fpApart, meets, ids1, kindsM]
end Go.Vm
namespace Go.Vm
open Cel
attribute [local simp] callAny callP heapOf_nil
theorem other_29 (x : Ins) (h : x.op = 29) : (callW E).p 51 [.agg (enc x)] = some (exK (kindsM x)) := by
  rw [x_q22]
  by_cases h0 : x.b = -1 <;> by_cases h1 : x.n = 0 <;> simp [h, h0, h1, q22_1, q22_2, q22_3, q22_4, q22_5, q22_6, q22_7, q22_8, q22_9, q22_10, q22_11, q22_12, q22_13, q22_14, q22_15, q22_16, q22_18, q22_20, pairsOk, fpApart, meets, kindsM]
theorem other_30 (x : Ins) (h : x.op = 30) : (callW E).p 51 [.agg (enc x)] = some (exK (kindsM x)) := by
  rw [x_q22]
  by_cases h0 : x.a = -1 <;> simp [h, h0, q22_1, q22_2, q22_3, q22_4, q22_5, q22_6, q22_7, q22_8, q22_9, q22_10, q22_11, q22_12, q22_13, q22_14, q22_15, q22_16, q22_18, q22_20, pairsOk, fpApart, meets, kindsM]
set_option maxHeartbeats 4000000 in
theorem other_c (x : Ins) (h : x.op = 23 ∨ x.op = 24 ∨ x.op = 25 ∨ x.op = 26) : (callW E).p 51 [.agg (enc x)] = some (exK (kindsM x)) := by
  rw [x_q22]
  have e1 : ((0 : Int) < ((lst x.args).length : Int)) = (0 < (lst x.args).length) := by simp
  have e2 : (((lst x.args).length : Int) ≤ (21 : Int)) = ((lst x.args).length ≤ 21) := by simp; omega
  by_cases h0 : x.d = -1 <;> by_cases h1 : 0 ≤ x.n <;> by_cases h2 : 0 < (lst x.args).length <;> rcases h with h|h|h|h <;> simp [h, h0, h1, h2, e1, e2, q22_1, q22_2, q22_3, q22_4, q22_5, q22_6, q22_7, q22_8, q22_9, q22_10, q22_11, q22_12, q22_13, q22_14, q22_15, q22_16, q22_18, q22_20, pairsOk, fpApart, meets, kindsM]
theorem other_o (x : Ins) (h : x.op < 1 ∨ 33 < x.op) : (callW E).p 51 [.agg (enc x)] = some (exK (kindsM x)) := by
  rw [x_q22, kindsM_out h]
  rcases h with h|h
  · simp [lo_f h, q22_1, q22_2, q22_3, q22_4, q22_5, q22_6, q22_7, q22_8, q22_9, q22_10, q22_11, q22_12, q22_13, q22_14, q22_15, q22_16, q22_18, q22_20, pairsOk, fpApart, meets]
  · simp [hi_f h, q22_1, q22_2, q22_3, q22_4, q22_5, q22_6, q22_7, q22_8, q22_9, q22_10, q22_11, q22_12, q22_13, q22_14, q22_15, q22_16, q22_18, q22_20, pairsOk, fpApart, meets]
theorem kinds_o (x : Ins) (h : x.op = 29 ∨ x.op = 30 ∨ x.op = 23 ∨ x.op = 24 ∨ x.op = 25 ∨ x.op = 26 ∨ x.op < 1 ∨ 33 < x.op) : (callW E).p 47 [.agg (enc x)] = some (exK (kindsM x)) := by
  have ho : (callW E).p 51 [.agg (enc x)] = some (exK (kindsM x)) := by
    rcases h with h|h|h|h|h|h|h
    · exact other_29 x h
    · exact other_30 x h
    · exact other_c x (.inl h)
    · exact other_c x (.inr (.inl h))
    · exact other_c x (.inr (.inr (.inl h)))
    · exact other_c x (.inr (.inr (.inr h)))
    · exact other_o x h
  rw [x_q21]
  generalize kindsM x = k at ho
  obtain ⟨a, b, c, d, o⟩ := k
  simp only [exK] at ho
  rcases h with h|h|h|h|h|h|h|h
  iterate 6 (simp [h, ho, q21_1, q21_2, q21_3, q21_4, q21_5, q21_6, q21_7, q21_8, q21_9, q21_10, q21_11, q21_12, q21_13, q21_14, q21_15, q21_16, q21_17, q21_18, q21_19, q21_20, q21_21, q21_22, q21_23, q21_24, q21_25, q21_26, q21_27, q21_28, q21_29, q21_30, q21_31, q21_32, q21_33, q21_34, q21_35, q21_36, q21_37, q21_38, q21_39, q21_40, q21_41, q21_42, q21_43, q21_45, q21_47, pairsOk, fpApart, meets])
  · simp [lo_f h, ho, q21_1, q21_2, q21_3, q21_4, q21_5, q21_6, q21_7, q21_8, q21_9, q21_10, q21_11, q21_12, q21_13, q21_14, q21_15, q21_16, q21_17, q21_18, q21_19, q21_20, q21_21, q21_22, q21_23, q21_24, q21_25, q21_26, q21_27, q21_28, q21_29, q21_30, q21_31, q21_32, q21_33, q21_34, q21_35, q21_36, q21_37, q21_38, q21_39, q21_40, q21_41, q21_42, q21_43, q21_45, q21_47, pairsOk, fpApart, meets]
  · simp [hi_f h, ho, q21_1, q21_2, q21_3, q21_4, q21_5, q21_6, q21_7, q21_8, q21_9, q21_10, q21_11, q21_12, q21_13, q21_14, q21_15, q21_16, q21_17, q21_18, q21_19, q21_20, q21_21, q21_22, q21_23, q21_24, q21_25, q21_26, q21_27, q21_28, q21_29, q21_30, q21_31, q21_32, q21_33, q21_34, q21_35, q21_36, q21_37, q21_38, q21_39, q21_40, q21_41, q21_42, q21_43, q21_45, q21_47, pairsOk, fpApart, meets]
theorem s_kinds (x : Ins) (hn : -9223372036854775808 ≤ x.n ∧ x.n < 9223372036854775808) (hs : x.s.length ≤ 9223372036854775807) : (callW E).p 47 [.agg (enc x)] = some (exK (kindsM x)) := by
  by_cases h1 : x.op = 1 ∨ x.op = 2 ∨ x.op = 3 ∨ x.op = 4 ∨ x.op = 7 ∨ x.op = 8 ∨ x.op = 9 ∨ x.op = 10 ∨ x.op = 11 ∨ x.op = 13 ∨ x.op = 14 ∨ x.op = 15 ∨ x.op = 16 ∨ x.op = 17 ∨ x.op = 18 ∨ x.op = 19 ∨ x.op = 20 ∨ x.op = 27 ∨ x.op = 31 ∨ x.op = 32 ∨ x.op = 33
  · exact kinds_1 x h1
  by_cases h2 : x.op = 12 ∨ x.op = 21 ∨ x.op = 22
  · exact kinds_t x hs h2
  by_cases h3 : x.op = 5 ∨ x.op = 6
  · exact kinds_n x hn h3
  by_cases h4 : x.op = 28
  · exact kinds_i x h4
  exact kinds_o x (by omega)
end Go.Vm
namespace Go.Vm
open Cel
attribute [local simp] callAny callP heapOf_nil
abbrev HR (f : Fn) (x : Ins) (a b c d : Int) : Heap := [⟨1, .arr true false 5 [enc f]⟩, ⟨1, .arr true false 9 [enc x]⟩, ⟨1, .arr true false 4 [[.int .i64 a, .int .i64 b, .int .i64 c, .int .i64 d]]⟩]
abbrev P0 : AV := .lp 0 1 0 0
abbrev P1 : AV := .lp 1 1 0 0
abbrev P2 : AV := .lp 2 1 0 0
theorem regs_at {f : Fn} {r : Int} (h : inR (lst f.regs) r = true) : evIxs 1 (slA f.regs) (.int .i64 r) = some (.rp [.int .i64 (regK (lst f.regs) r)]) := by
  obtain ⟨h0, h1, h2⟩ := inR_get h
  exact ixs_intI h0 h2 .i64
theorem right_field (f : Fn) (x : Ins) (a b c d : Int) (i : Nat) (w r : Int) (v26 : AV) (hi : i < 4) (hw : [a, b, c, d][i]? = some w) :
    q23_18 P0 P1 P2 (.int .i64 i) (.int .i64 r) v26 (.int .i64 i) (HR f x a b c d) =
      if fieldOk (lst f.regs) w r then q23_16 P0 P1 P2 v26 (.int .i64 i) (HR f x a b c d) else some ⟨.bool false, [], true, [], []⟩ := by
  have e1 : evIxa 4 1 P2 (.int .i64 i) = some (.lp 2 1 0 i) := by
    have : ((i : Int) < (4 : Int)) := by omega
    simp [evIxa, this]
  have e2 : ∀ f x, evLd false 1 (.lp 2 1 0 i) (HR f x a b c d) = some (.int .i64 w) := by
    intro f x
    simp only [evLd_lp]
    have : (rowsAt (HR f x a b c d) 2 1) = some (false, 4, [[.int .i64 a, .int .i64 b, .int .i64 c, .int .i64 d]]) := rfl
    rw [this]
    simp only [List.getElem?_cons_zero, aggOr_f]
    match i, hi, hw with
    | 0, _, hw => simp at hw; simp [hw]
    | 1, _, hw => simp at hw; simp [hw]
    | 2, _, hw => simp at hw; simp [hw]
    | 3, _, hw => simp at hw; simp [hw]
  have e2 := e2 f x
  by_cases hw0 : w < 0
  · simp [q23_18, e1, e2, fieldOk, hw0]
  by_cases h0 : r < 0
  · have : ¬ 0 ≤ r := by omega
    simp [q23_18, q23_17, e1, e2, fieldOk, hw0, h0, inR, this]
  by_cases h1 : r < ((lst f.regs).length : Int)
  · have h0' : 0 ≤ r := by omega
    have h1' : ¬ ((lst f.regs).length : Int) ≤ r := by omega
    have hin : inR (lst f.regs) r = true := by simp [inR, h0', h1]
    have hr := regs_at hin
    by_cases h2 : 0 < w
    · have h2' : ¬ w ≤ 0 := by omega
      by_cases h3 : regK (lst f.regs) r = w
      · simp [q23_18, q23_17, e1, e2, fieldOk, hw0, h0, h1', h2, h2', hin, hr, h3]
      · simp [q23_18, q23_17, e1, e2, fieldOk, hw0, h0, h1', h2, h2', hin, hr, h3]
    · have h2' : w ≤ 0 := by omega
      simp [q23_18, q23_17, e1, e2, fieldOk, hw0, h0, h1', h2, h2', hin]
  · have h1' : ((lst f.regs).length : Int) ≤ r := by omega
    simp [q23_18, q23_17, e1, e2, fieldOk, hw0, h0, h1', h1, inR]
theorem right_tail (f : Fn) (x : Ins) (a b c d : Int) (h1 : x.op = 1 → inR (lst f.regs) x.d = true) (h4 : x.op = 4 → inR (lst f.regs) x.d = true ∧ inR (lst f.regs) x.a = true) (h7 : x.op = 7 → inR (lst f.regs) x.a = true)
    (h30 : x.op = 30 → x.a = -1 ∨ inR (lst f.regs) x.a = true) :
    q23_2 P0 P1 (HR f x a b c d) = some ⟨.bool (tailOk (lst f.regs) f.ret (lst f.code).length x), [], true, [], []⟩ := by
  by_cases o1 : x.op = 1
  · have hr := regs_at (h1 o1)
    by_cases k3 : regK (lst f.regs) x.d = 3
    · simp [q23_2, tailOk, o1, hr, k3]
    · by_cases k2 : regK (lst f.regs) x.d = 2
      · simp [q23_2, tailOk, o1, hr, k2]
      · simp [q23_2, tailOk, o1, hr, k2, k3]
  by_cases o4 : x.op = 4
  · have hr := regs_at (h4 o4).1
    have hr2 := regs_at (h4 o4).2
    simp [q23_2, tailOk, o4, hr, hr2]
  by_cases o7 : x.op = 7
  · have hr := regs_at (h7 o7)
    simp [q23_2, tailOk, o7, hr]
  by_cases o30 : x.op = 30
  · by_cases ha : x.a = -1
    · by_cases hz : f.ret = 0
      · simp [q23_2, tailOk, o30, ha, hz]
      · simp [q23_2, tailOk, o30, ha, hz]
    · have hr := regs_at ((h30 o30).resolve_left ha)
      by_cases hz : f.ret = 0
      · simp [q23_2, tailOk, o30, ha, hz]
      · simp [q23_2, tailOk, o30, ha, hz, hr]
  · cases hl : leads x.op with
    | false => simp [q23_2, q23_1, tailOk, o1, o4, o7, o30, hl]
    | true =>
      by_cases ht : 0 ≤ x.t
      · simp [q23_2, q23_1, tailOk, o1, o4, o7, o30, hl, ht]
      · simp [q23_2, q23_1, tailOk, o1, o4, o7, o30, hl, ht]
end Go.Vm
