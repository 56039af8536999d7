/- Whether each register is written ahead of all that reads it, in plain words: by ways, and by what is set at each place. In a well formed function the registers that are read and written are registers, and the places that follow are places. The document's answers for single operations: numbers in a list, ways, ends. The document's table of operations. The document's answers for single operations. The document's answer whether an operation is a call. What a callee made, as the caller's own: a list, or nothing. The document's answer which registers an instruction reads, and which one it writes. The document's Next, Caught. Functions whose lists are not too long. The document's searches: where they go on, what they look for. Is a number in a list? (chapter 13) Sets of registers, 64 a word. Which registers are live, in plain words: by ways, and by what the sweeps over the table leave. Heaps that grow: what lies where, behind one more object, behind one that is turned. The document's search for a read: from places on. It writes into what it is handed. -/
import Derived.Test.YthemfgeagohdhaaVX
import Derived.Test.YthemfgeagohdhaaVTa
set_option linter.unusedSimpArgs false
set_option linter.unusedVariables false
set_option linter.unusedSectionVars false
namespace Go.Vm
def usesAt (f : Fn) (i : Nat) : List Int := lst (uses (insAt f i))
def succR (f : Fn) (r : Int) (i : Nat) : List Int := caughtL f i ++ if defr (insAt f i) = r then [] else nextL f i
def badR (f : Fn) (r : Int) : Prop := ∃ i, Rch (lst f.code).length (succR f r) [0] i ∧ r ∈ usesAt f i
def setP (f : Fn) : Prop := ∀ r : Int, 0 ≤ r → r < (lst f.regs).length → r ∉ lst f.params → ¬ badR f r
open Classical in
noncomputable def setM (f : Fn) : Bool := wf f && decide (setP f)
abbrev Tab := List (Option (List Bool))
def andB (t s : List Bool) : List Bool := List.zipWith (· && ·) t s
def lessB (t s : List Bool) : Bool := (List.zipWith (fun a b => a && !b) t s).any id
def meetM (s : List Bool) (to : Int) (p : Tab × List Int) : Tab × List Int :=
  match p.1[to.toNat]? with
  | some (some t) => if lessB t s then (p.1.set to.toNat (some (andB t s)), p.2 ++ [to]) else p
  | _ => (p.1.set to.toNat (some s), p.2 ++ [to])
def meets_ (s : List Bool) : List Int → Tab × List Int → Tab × List Int
  | [], p => p
  | to :: l, p => meets_ s l (meetM s to p)
def writeB (d : Int) (s : List Bool) : List Bool := if 0 ≤ d then s.set d.toNat true else s
def tabAt (ins : Tab) (i : Nat) : List Bool := (ins[i]?.join).getD []
def setLoop (f : Fn) : Nat → Tab → List Int → Option Tab
  | 0, _, _ => none
  | k + 1, ins, work => match work.getLast? with
    | none => some ins
    | some i => match meets_ (tabAt ins i.toNat) (caughtL f i) (ins, work.dropLast) with
      | (ins1, w1) => match meets_ (writeB (defr (insAt f i.toNat)) (tabAt ins i.toNat)) (nextL f i) (ins1, w1) with
        | (ins2, w2) => setLoop f k ins2 w2
def wt (R : Nat) : Option (List Bool) → Nat
  | none => R + 1
  | some s => s.countP id
def pot (R : Nat) (ins : Tab) : Nat := (ins.map (wt R)).sum
def LeB (t s : List Bool) : Prop := ∀ r : Nat, t[r]? = some true → s[r]? = some true
theorem LeB.refl (t : List Bool) : LeB t t := fun _ h => h
theorem LeB.trans {a b c : List Bool} (h : LeB a b) (h' : LeB b c) : LeB a c := fun r h1 => h' r (h r h1)
theorem andB_len {t s : List Bool} (h : t.length = s.length) : (andB t s).length = t.length := by simp [andB, h]
theorem andB_get {t s : List Bool} {r : Nat} : (andB t s)[r]? = some true ↔ t[r]? = some true ∧ s[r]? = some true := by
  rw [andB, List.getElem?_zipWith]
  cases t[r]? <;> cases s[r]? <;> simp
theorem andB_left (t s : List Bool) : LeB (andB t s) t := fun _ h => (andB_get.1 h).1
theorem andB_right (t s : List Bool) : LeB (andB t s) s := fun _ h => (andB_get.1 h).2
theorem lessB_iff {t s : List Bool} : lessB t s = true ↔ ∃ r : Nat, t[r]? = some true ∧ s[r]? = some false := by
  rw [lessB, List.any_eq_true]
  constructor
  · rintro ⟨b, hb, h1⟩
    obtain ⟨r, hr⟩ := List.getElem?_of_mem hb
    rw [List.getElem?_zipWith] at hr
    refine ⟨r, ?_⟩
    cases ht : t[r]? <;> cases hs : s[r]? <;> rw [ht, hs] at hr <;> simp_all
  · rintro ⟨r, h1, h2⟩
    refine ⟨true, List.mem_of_getElem? (i := r) ?_, rfl⟩
    rw [List.getElem?_zipWith, h1, h2]; rfl
theorem count_lt : ∀ {t s : List Bool}, t.length = s.length → LeB s t → (∃ r : Nat, t[r]? = some true ∧ s[r]? = some false) → s.countP id < t.countP id
  | [], [], _, _, ⟨r, h, _⟩ => by simp at h
  | a :: t, b :: s, hl, hle, ⟨r, h1, h2⟩ => by
    have hl' : t.length = s.length := by simpa using hl
    have hle' : LeB s t := fun q h => by have := hle (q + 1) (by simpa using h); simpa using this
    have le : ∀ {t s : List Bool}, t.length = s.length → LeB s t → s.countP id ≤ t.countP id := by
      intro t
      induction t with
      | nil => intro s hl _; rw [List.length_nil] at hl; rw [List.eq_nil_of_length_eq_zero hl.symm]; exact Nat.le_refl _
      | cons a t ih =>
        intro s hl hle
        cases s with
        | nil => simp at hl
        | cons b s =>
          have := ih (s := s) (by simpa using hl) (fun q h => by have := hle (q + 1) (by simpa using h); simpa using this)
          have h0 := hle 0
          simp only [List.countP_cons]
          cases a <;> cases b <;> simp_all <;> omega
    simp only [List.countP_cons]
    cases r with
    | zero =>
      simp at h1 h2
      subst h1; subst h2
      have := le hl' hle'
      simp; omega
    | succ r =>
      have := count_lt hl' hle' ⟨r, by simpa using h1, by simpa using h2⟩
      have h0 := hle 0
      cases a <;> cases b <;> simp_all <;> omega
  | [], _ :: _, h, _, _ => by simp at h
  | _ :: _, [], h, _, _ => by simp at h
def LeT (a b : Tab) : Prop := ∀ (i : Nat) s, a[i]? = some (some s) → ∃ t, b[i]? = some (some t) ∧ LeB t s
theorem LeT.refl (a : Tab) : LeT a a := fun _ s h => ⟨s, h, .refl _⟩
theorem LeT.trans {a b c : Tab} (h : LeT a b) (h' : LeT b c) : LeT a c := fun i s hs => by
  obtain ⟨t, h1, h2⟩ := h i s hs
  obtain ⟨u, h3, h4⟩ := h' i t h1
  exact ⟨u, h3, h4.trans h2⟩
def LeAt (ins : Tab) (to : Int) (s : List Bool) : Prop := ∃ t, ins[to.toNat]? = some (some t) ∧ LeB t s
theorem LeAt.mono {a b : Tab} (h : LeT a b) {to : Int} {s : List Bool} (hs : LeAt a to s) : LeAt b to s := by
  obtain ⟨t, h1, h2⟩ := hs
  obtain ⟨u, h3, h4⟩ := h _ _ h1
  exact ⟨u, h3, h4.trans h2⟩
theorem set_at {ins : Tab} {i j : Nat} {x y : Option (List Bool)} (h : (ins.set i x)[j]? = some y) : (j = i ∧ y = x) ∨ (j ≠ i ∧ ins[j]? = some y) := by
  rw [List.getElem?_set] at h
  split at h
  · rename_i e
    split at h
    · injection h with h; exact .inl ⟨e.symm, h.symm⟩
    · cases h
  · rename_i e; exact .inr ⟨fun e' => e e'.symm, h⟩
theorem set_same_at {ins : Tab} {i : Nat} {x : Option (List Bool)} (h : i < ins.length) : (ins.set i x)[i]? = some x := by simp [h]
theorem set_ne_at {ins : Tab} {i j : Nat} {x : Option (List Bool)} (h : j ≠ i) : (ins.set i x)[j]? = ins[j]? := List.getElem?_set_ne (fun e => h e.symm)
section
variable {n R : Nat}
structure TblOk (n R : Nat) (ins : Tab) : Prop where
  len : ins.length = n
  rows : ∀ (i : Nat) s, ins[i]? = some (some s) → s.length = R
structure MeetR (n R : Nat) (s : List Bool) (T : Int → Prop) (p q : Tab × List Int) : Prop where
  ok : TblOk n R q.1
  le : LeT p.1 q.1
  work : ∀ (i : Nat) t, q.1[i]? = some (some t) → p.1[i]? = some (some t) ∨ (i : Int) ∈ q.2
  keep : ∀ j, j ∈ p.2 → j ∈ q.2
  fresh : ∀ j, j ∈ q.2 → j ∈ p.2 ∨ (0 ≤ j ∧ j < n ∧ ∃ t, q.1[j.toNat]? = some (some t))
  src : ∀ (i r : Nat) t, q.1[i]? = some (some t) → t[r]? = some false → (∃ u, p.1[i]? = some (some u) ∧ u[r]? = some false) ∨ (s[r]? = some false ∧ T i)
  pot : 2 * pot R q.1 + q.2.length ≤ 2 * Go.Vm.pot R p.1 + p.2.length
theorem MeetR.refl {s : List Bool} {T : Int → Prop} {p : Tab × List Int} (h : TblOk n R p.1) : MeetR n R s T p p :=
  ⟨h, .refl _, fun _ _ h => .inl h, fun _ h => h, fun _ h => .inl h, fun _ _ _ h1 h2 => .inl ⟨_, h1, h2⟩, Nat.le_refl _⟩
theorem pot_set {ins : Tab} {i : Nat} {x y : Option (List Bool)} (h : ins[i]? = some x) : pot R (ins.set i y) + wt R x = pot R ins + wt R y := by
  unfold pot
  induction ins generalizing i with
  | nil => simp at h
  | cons a ins ih =>
    cases i with
    | zero =>
      simp at h
      subst h
      simp only [List.set_cons_zero, List.map_cons, List.sum_cons]
      omega
    | succ i =>
      simp only [List.getElem?_cons_succ] at h
      have := ih h
      simp only [List.set_cons_succ, List.map_cons, List.sum_cons]
      omega
theorem meetM_spec {s : List Bool} {to : Int} {p : Tab × List Int} (hp : TblOk n R p.1) (hs : s.length = R) (h0 : 0 ≤ to) (h1 : to < n) : MeetR n R s (· = to) p (meetM s to p) ∧ LeAt (meetM s to p).1 to s := by
  obtain ⟨ins, work⟩ := p
  simp only at hp
  have hlt : to.toNat < ins.length := by rw [hp.len]; omega
  unfold meetM
  simp only
  obtain ⟨x, hx⟩ : ∃ x, ins[to.toNat]? = some x := ⟨_, List.getElem?_eq_getElem hlt⟩
  have hpot := fun y => pot_set (R := R) (y := y) hx
  cases x with
  | none =>
    rw [hx]
    simp only
    have hc : s.countP id ≤ R := by rw [← hs]; exact List.countP_le_length
    refine ⟨⟨⟨by simpa using hp.len, fun i t ht => ?_⟩, fun i t ht => ?_, fun i t ht => ?_, fun j hj => List.mem_append_left _ hj, fun j hj => ?_, fun i r t ht hr => ?_, ?_⟩, s, set_same_at hlt, .refl _⟩
    · rcases set_at ht with ⟨_, e⟩ | ⟨_, h⟩
      · injection e with e; rw [e]; exact hs
      · exact hp.rows i t h
    · by_cases e : i = to.toNat
      · subst e; simp only at ht; rw [hx] at ht; cases ht
      · exact ⟨t, by simp only; rw [set_ne_at e]; exact ht, .refl _⟩
    · rcases set_at ht with ⟨e, _⟩ | ⟨_, h⟩
      · right; simp only [List.mem_append, List.mem_singleton]; right; omega
      · exact .inl h
    · rcases List.mem_append.1 hj with h | h
      · exact .inl h
      · rw [List.mem_singleton] at h
        subst h
        exact .inr ⟨h0, h1, s, set_same_at hlt⟩
    · rcases set_at ht with ⟨ei, e⟩ | ⟨_, h⟩
      · injection e with e; subst e; exact .inr ⟨hr, by omega⟩
      · exact .inl ⟨t, h, hr⟩
    · have := hpot (some s)
      simp only [wt] at this
      simp only [List.length_append, List.length_singleton] at this ⊢
      omega
  | some t0 =>
    rw [hx]
    simp only
    have ht0 := hp.rows _ _ hx
    split
    · rename_i hl
      obtain ⟨r0, q1, q2⟩ := lessB_iff.1 hl
      have hlen : (andB t0 s).length = R := by rw [andB_len (by omega)]; exact ht0
      have hlt2 : (andB t0 s).countP id < t0.countP id := count_lt (by omega) (andB_left _ _) ⟨r0, q1, by
        have hr : r0 < (andB t0 s).length := by rw [hlen]; rw [← ht0]; exact (List.getElem?_eq_some_iff.1 q1).1
        rw [List.getElem?_eq_getElem hr]
        cases hb : (andB t0 s)[r0] with
        | false => rfl
        | true =>
          have := (andB_get (t := t0) (s := s) (r := r0)).1 (by rw [List.getElem?_eq_getElem hr, hb])
          rw [q2] at this; cases this.2⟩
      refine ⟨⟨⟨by simpa using hp.len, fun i t ht => ?_⟩, fun i t ht => ?_, fun i t ht => ?_, fun j hj => List.mem_append_left _ hj, fun j hj => ?_, fun i r t ht hr => ?_, ?_⟩, andB t0 s, set_same_at hlt, andB_right _ _⟩
      · rcases set_at ht with ⟨_, e⟩ | ⟨_, h⟩
        · injection e with e; rw [e]; exact hlen
        · exact hp.rows i t h
      · by_cases e : i = to.toNat
        · subst e
          simp only at ht
          rw [hx] at ht
          injection ht with ht; injection ht with ht; subst ht
          exact ⟨_, set_same_at hlt, andB_left _ _⟩
        · exact ⟨t, by simp only; rw [set_ne_at e]; exact ht, .refl _⟩
      · rcases set_at ht with ⟨e, _⟩ | ⟨_, h⟩
        · right; simp only [List.mem_append, List.mem_singleton]; right; omega
        · exact .inl h
      · rcases List.mem_append.1 hj with h | h
        · exact .inl h
        · rw [List.mem_singleton] at h
          subst h
          exact .inr ⟨h0, h1, _, set_same_at hlt⟩
      · rcases set_at ht with ⟨ei, e⟩ | ⟨_, h⟩
        · injection e with e
          subst e
          subst ei
          have hr1 : r < (andB t0 s).length := (List.getElem?_eq_some_iff.1 hr).1
          have hrt : r < t0.length := by omega
          have hrs : r < s.length := by omega
          rw [andB, List.getElem?_zipWith, List.getElem?_eq_getElem hrt, List.getElem?_eq_getElem hrs] at hr
          cases ha : t0[r] with
          | false => exact .inl ⟨t0, hx, by rw [List.getElem?_eq_getElem hrt, ha]⟩
          | true =>
            rw [ha] at hr
            right
            rw [List.getElem?_eq_getElem hrs]
            exact ⟨by simpa using hr, by omega⟩
        · exact .inl ⟨t, h, hr⟩
      · have := hpot (some (andB t0 s))
        simp only [wt] at this
        simp only [List.length_append, List.length_singleton] at this ⊢
        omega
    · rename_i hl
      refine ⟨.refl hp, t0, hx, fun r hr => ?_⟩
      have hr1 : r < s.length := by have := (List.getElem?_eq_some_iff.1 hr).1; omega
      rw [List.getElem?_eq_getElem hr1]
      cases hb : s[r] with
      | true => rfl
      | false => exact (hl (lessB_iff.2 ⟨r, hr, by rw [List.getElem?_eq_getElem hr1, hb]⟩)).elim
theorem MeetR.trans {s : List Bool} {T : Int → Prop} {p q u : Tab × List Int} (h : MeetR n R s T p q) (h' : MeetR n R s T q u) : MeetR n R s T p u := by
  refine ⟨h'.ok, h.le.trans h'.le, fun i t ht => ?_, fun j hj => h'.keep j (h.keep j hj), fun j hj => ?_, fun i r t ht hr => ?_, Nat.le_trans h'.pot h.pot⟩
  · rcases h'.work i t ht with h1 | h1
    · rcases h.work i t h1 with h2 | h2
      · exact .inl h2
      · exact .inr (h'.keep _ h2)
    · exact .inr h1
  · rcases h'.fresh j hj with h1 | h1
    · rcases h.fresh j h1 with h2 | ⟨a, b, t, ht⟩
      · exact .inl h2
      · obtain ⟨v, hv, _⟩ := h'.le _ _ ht
        exact .inr ⟨a, b, v, hv⟩
    · exact .inr h1
  · rcases h'.src i r t ht hr with ⟨v, h1, h2⟩ | h1
    · exact h.src i r v h1 h2
    · exact .inr h1
theorem MeetR.mono {s : List Bool} {T T' : Int → Prop} {p q : Tab × List Int} (h : MeetR n R s T p q) (hT : ∀ j, T j → T' j) : MeetR n R s T' p q :=
  ⟨h.ok, h.le, h.work, h.keep, h.fresh, fun i r t h1 h2 => (h.src i r t h1 h2).imp id fun x => ⟨x.1, hT _ x.2⟩, h.pot⟩
theorem meets_spec {s : List Bool} (hs : s.length = R) : ∀ (l : List Int) (p : Tab × List Int), TblOk n R p.1 → (∀ to ∈ l, 0 ≤ to ∧ to < n) → MeetR n R s (· ∈ l) p (meets_ s l p) ∧ ∀ to ∈ l, LeAt (meets_ s l p).1 to s
  | [], p, hp, _ => ⟨.refl hp, fun _ h => by cases h⟩
  | to :: l, p, hp, hl => by
    obtain ⟨a1, a2⟩ := meetM_spec hp hs (hl to (by simp)).1 (hl to (by simp)).2
    obtain ⟨b1, b2⟩ := meets_spec hs l (meetM s to p) a1.ok (fun t ht => hl t (by simp [ht]))
    refine ⟨(a1.mono fun j e => by simp [e]).trans (b1.mono fun j h => by simp [h]), fun t ht => ?_⟩
    rcases List.mem_cons.1 ht with rfl | ht
    · exact a2.mono b1.le
    · exact b2 t ht
end
end Go.Vm
namespace Go.Vm
theorem fieldOk_in {R : List Int} {k r : Int} (h : fieldOk R k r = true) (hk : 0 ≤ k) : 0 ≤ r ∧ r < R.length := by
  simp only [fieldOk, Bool.or_eq_true, decide_eq_true_eq, Bool.and_eq_true, inR] at h
  omega
theorem numK_nn (n : Int) : 0 ≤ (numK n).1 ∧ 0 ≤ (numK n).2.1 ∧ 0 ≤ (numK n).2.2 := by
  unfold numK
  repeat' split
  all_goals decide
set_option maxHeartbeats 4000000 in
theorem right_uses {f : Fn} {x : Ins} (h : rightM f x = true) {u : Int} (hu : u ∈ lst (uses x)) : 0 ≤ u ∧ u < (lst f.regs).length := by
  simp only [rightM, Bool.and_eq_true] at h
  obtain ⟨⟨⟨⟨⟨⟨h0, h1⟩, h2⟩, h3⟩, h4⟩, h5⟩, h6⟩ := h
  by_cases hc : calls x.op = true
  · have hu' : u ∈ lst x.args := by simpa [uses, hc] using hu
    simp only [argsOk, hc, Bool.not_true, Bool.false_or, Bool.and_eq_true, List.all_eq_true] at h5
    have := h5.2 u hu'
    simpa [inR] using this
  · have key : (u = x.a ∧ 0 ≤ (kindsM x).2.1) ∨ (u = x.b ∧ 0 ≤ (kindsM x).2.2.1) ∨ (u = x.c ∧ 0 ≤ (kindsM x).2.2.2.1) ∨ False := by
      rcases op_cases x.op with h|h|h|h|h|h|h|h|h|h|h|h|h|h|h|h|h|h|h|h|h|h|h|h|h|h|h|h|h|h|h|h|h|h|h
      all_goals first
        | (exfalso; simp [uses, reads, calls, h] at hu; done)
        | (exfalso; simp [calls, h] at hc; done)
        | (simp [uses, reads, calls, h] at hu; simp [kindsM, h] at h0 ⊢; first | omega | (rcases hu with rfl | rfl <;> simp [numK_nn]) | (rcases hu with rfl | rfl | rfl <;> simp) | (subst hu; simp [numK_nn]))
        | (simp [uses, reads, calls, h] at hu; simp [kindsM, h]; split at hu <;> simp_all; done)
        | (exfalso; simp [uses, reads, calls, lo_f h] at hu; done)
        | (exfalso; simp [uses, reads, calls, hi_f h] at hu; done)
        | skip
      · by_cases hb : x.b < 0
        · simp [uses, calls, h, hb] at hu
          exact .inl ⟨hu, by simp [kindsM, h]⟩
        · simp [uses, calls, h, hb] at hu
          rcases hu with hu | hu
          · exact .inl ⟨hu, by simp [kindsM, h]⟩
          · have : ¬ x.b = -1 := by omega
            exact .inr (.inl ⟨hu, by simp [kindsM, h, this]⟩)
      · by_cases ha : 0 ≤ x.a
        · simp [uses, calls, h, ha] at hu
          have : ¬ x.a = -1 := by omega
          exact .inl ⟨hu, by simp [kindsM, h, this]⟩
        · simp [uses, calls, h, ha] at hu
    rcases key with ⟨rfl, hk⟩ | ⟨rfl, hk⟩ | ⟨rfl, hk⟩ | hk
    · exact fieldOk_in h2 hk
    · exact fieldOk_in h3 hk
    · exact fieldOk_in h4 hk
    · exact hk.elim
set_option maxHeartbeats 4000000 in
theorem right_def {f : Fn} {x : Ins} (h : rightM f x = true) (hd : ¬ defr x = -1) : 0 ≤ defr x ∧ defr x < (lst f.regs).length := by
  simp only [rightM, Bool.and_eq_true] at h
  obtain ⟨⟨⟨⟨⟨⟨h0, h1⟩, h2⟩, h3⟩, h4⟩, h5⟩, h6⟩ := h
  have key : defr x = x.d ∧ 0 ≤ (kindsM x).1 := by
    unfold defr at hd ⊢
    split at hd
    · rename_i hw
      rw [if_pos hw]
      refine ⟨rfl, ?_⟩
      rcases op_cases x.op with h|h|h|h|h|h|h|h|h|h|h|h|h|h|h|h|h|h|h|h|h|h|h|h|h|h|h|h|h|h|h|h|h|h|h
      all_goals first
        | (exfalso; simp [writes, calls, h] at hw; done)
        | (simp [kindsM, h, numK_nn, hd]; done)
        | (exfalso; simp [writes, calls, lo_f h] at hw; done)
        | (exfalso; simp [writes, calls, hi_f h] at hw; done)
    · exact (hd rfl).elim
  rw [key.1]
  exact fieldOk_in h1 key.2
theorem Wf.uses {f : Fn} (w : Wf f) {i : Nat} (hi : i < (lst f.code).length) {u : Int} (hu : u ∈ lst (Go.Vm.uses (insAt f i))) : 0 ≤ u ∧ u < (lst f.regs).length := right_uses (w.ins i hi) hu
theorem Wf.def {f : Fn} (w : Wf f) {i : Nat} (hi : i < (lst f.code).length) (hd : 0 ≤ defr (insAt f i)) : defr (insAt f i) < (lst f.regs).length := (right_def (w.ins i hi) (by omega)).2
theorem mem_addN {l : List Int} {j a : Int} (h : j ∈ addN l a) : j ∈ l ∨ j = a := by
  unfold addN at h
  split at h
  · exact .inl h
  · rw [List.mem_append, List.mem_singleton] at h; exact h
theorem Wf.next {f : Fn} (w : Wf f) {i : Nat} (hi : i < (lst f.code).length) {to : Int} (h : to ∈ nextL f i) : 0 ≤ to ∧ to < (lst f.code).length := by
  rw [nextL, if_neg (by omega), show ((i : Int)).toNat = i by omega] at h
  have hself : ∀ {j : Int}, j ∈ (if ends (insAt f i).op = true then [] else [(i : Int) + 1]) → 0 ≤ j ∧ j < (lst f.code).length := by
    intro j hj
    split at hj
    · cases hj
    · rename_i he
      rw [List.mem_singleton] at hj
      subst hj
      refine ⟨by omega, ?_⟩
      by_cases e : i = (lst f.code).length - 1
      · subst e; exact (he w.last).elim
      · omega
  unfold nextI at h
  split at h
  · rename_i hl
    rcases mem_addN h with h | h
    · exact hself h
    · rw [h]; exact w.leads hi hl
  · exact hself h
theorem caughtG_in {i to : Int} : ∀ {rs : List Row} {l : List Int}, to ∈ caughtG i rs l → to ∈ l ∨ ∃ r ∈ rs, r.at_ = to
  | [], l, h => .inl h
  | r :: rs, l, h => by
    unfold caughtG at h
    split at h
    · split at h
      · rcases mem_addN h with h | h
        · exact .inl h
        · exact .inr ⟨r, by simp, h.symm⟩
      · rcases caughtG_in h with h | ⟨r', h1, h2⟩
        · rcases mem_addN h with h | h
          · exact .inl h
          · exact .inr ⟨r, by simp, h.symm⟩
        · exact .inr ⟨r', by simp [h1], h2⟩
    · rcases caughtG_in h with h | ⟨r', h1, h2⟩
      · exact .inl h
      · exact .inr ⟨r', by simp [h1], h2⟩
theorem Wf.caught {f : Fn} (w : Wf f) {i to : Int} (h : to ∈ caughtL f i) : 0 ≤ to ∧ to < (lst f.code).length := by
  rw [caughtL] at h
  split at h
  · cases h
  · split at h
    · rcases caughtG_in h with h | ⟨r, h1, h2⟩
      · cases h
      · have := w.row h1
        rw [← h2]; exact ⟨this.a0, this.an⟩
    · cases h
theorem addN_nodup {l : List Int} {j : Int} (h : l.Nodup) : (addN l j).Nodup := by
  unfold addN
  split
  · exact h
  · rename_i hc
    rw [List.nodup_append]
    refine ⟨h, by simp, fun a ha b hb => ?_⟩
    rw [List.mem_singleton] at hb
    subst hb
    rintro rfl
    exact hc (by simpa using ha)
theorem caughtG_nodup {i : Int} : ∀ {rs : List Row} {l : List Int}, l.Nodup → (caughtG i rs l).Nodup
  | [], _, h => h
  | r :: rs, l, h => by
    rw [caughtG]
    split
    · split
      · exact addN_nodup h
      · exact caughtG_nodup (addN_nodup h)
    · exact caughtG_nodup h
theorem Wf.caught_len {f : Fn} (w : Wf f) (i : Int) : (caughtL f i).length ≤ 20000 := by
  have hd : (caughtL f i).Nodup := by
    rw [caughtL]
    split
    · simp
    · split
      · exact caughtG_nodup (by simp)
      · simp
  have hs : caughtL f i ⊆ (List.range (lst f.code).length).map fun k => ((k : Nat) : Int) := by
    intro to ht
    have := w.caught ht
    rw [List.mem_map]
    exact ⟨to.toNat, List.mem_range.2 (by omega), by omega⟩
  have := hd.length_le_of_subset hs
  have hn := w.n2
  rw [List.length_map, List.length_range] at this
  omega
theorem parOk_in {R : List Int} : ∀ {l : List Int} {i : Nat} {seen : List Int} {p : Int}, parOk R i seen l = true → p ∈ l → 0 ≤ p ∧ p < R.length
  | q :: l, i, seen, p, h, hp => by
    simp only [parOk, Bool.and_eq_true] at h
    rcases List.mem_cons.1 hp with rfl | hp
    · simpa [inR] using h.1.1.1
    · exact parOk_in h.2 hp
theorem parOk_len {R : List Int} : ∀ {l : List Int} {i : Nat} {seen : List Int}, parOk R i seen l = true → l = [] ∨ i + l.length ≤ 21
  | [], _, _, _ => .inl rfl
  | q :: l, i, seen, h => by
    simp only [parOk, Bool.and_eq_true, decide_eq_true_eq] at h
    right
    rcases parOk_len h.2 with h1 | h1
    · subst h1; simp; omega
    · simp only [List.length_cons]; omega
end Go.Vm
namespace Go.Vm
open Cel
attribute [local simp] callAny callP heapOf_nil
theorem in_loop (op : Int) (o : Option (List Int)) (hl : (lst o).length ≤ 9223372036854775807) (h : Heap) : ∀ (d i : Nat), i + d = (lst o).length →
    q70_L2 (.int .i64 op) (slA o) (.int .i64 i) h = some ⟨.bool (decide (op ∈ (lst o).drop i)), [], true, [], []⟩ := by
  intro d
  induction d with
  | zero =>
    intro i hi
    have e1 : (lst o).drop i = [] := List.drop_eq_nil_of_le (by omega)
    have hn : ¬ ((i : Int) < ((lst o).length : Int)) := by omega
    rw [q70_L2_go, e1]
    simp [q70_1, q70_3, q70_4, q70_5, q70_7, q70_9, hn]
  | succ d ih =>
    intro i hi
    have hlt : i < (lst o).length := by omega
    have hn : ((i : Int) < ((lst o).length : Int)) := by omega
    have k1 := ixs_int (o := o) (i := i) (List.getElem?_eq_getElem hlt) .i64
    have hm : op ∈ (lst o).drop i ↔ op = (lst o)[i] ∨ op ∈ (lst o).drop (i + 1) := by rw [List.drop_eq_getElem_cons hlt, List.mem_cons]
    rw [q70_L2_go]
    simp only [hm]
    have ih := ih (i + 1) (by omega)
    push_cast at ih
    by_cases he : (lst o)[i] = op
    · simp [q70_1, q70_3, q70_4, q70_5, q70_7, q70_9, hn, k1, he]
    · have he' : ¬ op = (lst o)[i] := fun h => he h.symm
      simp [q70_1, q70_3, q70_4, q70_5, q70_7, q70_9, hn, k1, he, he', wrap_up hlt hl, ih]
theorem s_in (op : Int) (o : Option (List Int)) (hl : (lst o).length ≤ 9223372036854775807) : (callW E).p 42 [.int .i64 op, slA o] = some ⟨.bool (decide (op ∈ lst o)), [], true, [], []⟩ := by
  have := in_loop op o hl [] _ 0 (Nat.zero_add _)
  simp only [Int.ofNat_zero, List.drop_zero] at this
  rw [x_q70, ← this]
  simp [q70_1, q70_3, q70_4, q70_5, q70_7, q70_9]
theorem s_in3 (op a b c : Int) : (callW E).p 42 [.int .i64 op, .rs 1 [[.int .i64 a], [.int .i64 b], [.int .i64 c]]] = some ⟨.bool (decide (op ∈ [a, b, c])), [], true, [], []⟩ :=
  s_in op (some [a, b, c]) (by simp)
theorem freeze3 (g a b c : Nat) (x y z : Int) (t : Heap) : fz (⟨g, .arr false false 1 [[.int .i64 x], [.int .i64 y], [.int .i64 z]]⟩ :: t) fuelF (.ls 0 g 1 0 3) = some ⟨.rs 1 [[.int .i64 x], [.int .i64 y], [.int .i64 z]], true, [0]⟩ := by
  rw [fz_ls, rowsAt_0]; rfl
@[simp] theorem s_RLeads (op : Int) : (callW E).p 23 [.int .i64 op] = some ⟨.bool (leads op), [], true, [], []⟩ := by
  rw [x_q64, q64_1]
  simp [buildSC, fillRows, freeze3 1 0 0 0, s_in3, leads, Bool.or_assoc]
@[simp] theorem s_REnds (op : Int) : (callW E).p 25 [.int .i64 op] = some ⟨.bool (ends op), [], true, [], []⟩ := by
  rw [x_q62, q62_1]
  simp [buildSC, fillRows, freeze3 1 0 0 0, s_in3, ends, Bool.or_assoc]
end Go.Vm
namespace Go.Vm
open Cel
attribute [local simp] callAny callP heapOf_nil
def rowT : List (List UInt8) := [[], [110, 45, 45, 45], [51, 45, 45, 45], [51, 45, 45, 45], [42, 61, 45, 45], [63, 63, 63, 63], [63, 63, 63, 63], [45, 110, 45, 45], [45, 51, 45, 45], [45, 51, 49, 45], [45, 49, 45, 45], [45, 51, 51, 45], [45, 51, 45, 45], [42, 51, 49, 45], [45, 51, 49, 42], [49, 51, 45, 45], [42, 51, 45, 45], [45, 51, 42, 45], [42, 45, 45, 45], [45, 42, 45, 45], [51, 45, 45, 45], [51, 49, 45, 45], [49, 51, 45, 45], [63, 63, 63, 63], [63, 63, 63, 63], [63, 63, 63, 63], [63, 63, 63, 63], [45, 45, 45, 45], [45, 49, 49, 45], [45, 51, 63, 45], [45, 63, 45, 45], [45, 51, 45, 45], [51, 45, 45, 45], [45, 45, 45, 45]]
def rowM (op : Int) : List UInt8 := if op < 1 ∨ 33 < op then [] else rowT.getD op.toNat []
def isStrR (r : Option (Ex AV)) (s : List UInt8) : Bool :=
  match r with
  | some ⟨.str a, [], true, [], []⟩ => a == s
  | _ => false
theorem isStrR_eq {r : Option (Ex AV)} {s : List UInt8} (h : isStrR r s = true) : r = some ⟨.str s, [], true, [], []⟩ := by
  unfold isStrR at h
  split at h
  · rw [eq_of_beq h]
  · cases h
theorem row_in : ((List.range 33).all fun i => isStrR ((both E 30).1.p 38 [.int .i64 (1 + i)]) (rowM (1 + i))) = true := by kernel_rfl
set_option maxHeartbeats 2000000 in
theorem s_row (op : Int) : (callW E).p 38 [.int .i64 op] = some ⟨.str (rowM op), [], true, [], []⟩ := by
  by_cases h : op < 1 ∨ 33 < op
  · rw [rowM, if_pos h, x_q74]
    simp only [q74_1, q74_2, q74_3, q74_4]
    generalize hb : buildSC 0 (some 0) 1 34 _ _ _ = B
    have hB : ∃ v t, B = some (.ls 0 1 1 0 34, ⟨1, .arr false false 1 v⟩ :: t) := by
      rw [← hb]; exact ⟨_, _, rfl⟩
    obtain ⟨v, t, rfl⟩ := hB
    rcases h with h | h
    · simp [h]
    · have h1 : ¬ op < 1 := by omega
      have h2 : 34 ≤ op := by omega
      simp [h1, h2]
  · have := range_all row_in (op - 1).toNat (by omega)
    have e : (1 + ((op - 1).toNat : Int)) = op := by omega
    simp only [e] at this
    exact lift_p 30 (isStrR_eq this)
end Go.Vm
namespace Go.Vm
open Cel
attribute [local simp] callAny callP heapOf_nil
@[simp] theorem s_kind (f : Fn) (r : Int) : (callW E).p 48 [.agg (enc f), .int .i64 r] = some ⟨.int .i64 (regK (lst f.regs) r), [], true, [], []⟩ := by
  rw [x_q71]
  by_cases h0 : r < 0
  · simp [q71_1, q71_2, q71_3, h0, regK]
  by_cases h1 : ((lst f.regs).length : Int) ≤ r
  · have : (lst f.regs)[r.toNat]? = none := List.getElem?_eq_none (by omega)
    simp [q71_1, q71_2, q71_3, h0, h1, regK, this]
  · have hin : inR (lst f.regs) r = true := by
      have a1 : 0 ≤ r := by omega
      have a2 : r < ((lst f.regs).length : Int) := by omega
      simp [inR, a1, a2]
    obtain ⟨a0, a1, a2⟩ := inR_get hin
    have k := ixs_intI (o := f.regs) a0 a2 .i64
    simp [q71_1, q71_2, q71_3, h0, h1, k]
def wantM (k : Int) (c : UInt8) : Bool :=
  if c = 45 ∨ c = 63 then true else if c = 42 ∨ c = 61 then decide (0 < k) else if c = 110 then decide (k = 1) || decide (k = 2) else decide (k = (c.toNat : Int) - 48)
theorem s_wanted (f : Fn) (r : Int) (c : UInt8) (hc : c = 45 ∨ c = 63 ∨ c = 42 ∨ c = 61 ∨ c = 110 ∨ c = 49 ∨ c = 50 ∨ c = 51) :
    (callW E).p 65 [.agg (enc f), .int .i64 r, .int .u8 c.toNat] = some ⟨.bool (wantM (regK (lst f.regs) r) c), [], true, [], []⟩ := by
  rw [x_q75]
  generalize hk : regK (lst f.regs) r = k
  have hk' := s_kind f r
  rw [hk] at hk'
  rcases hc with rfl | rfl | rfl | rfl | rfl | rfl | rfl | rfl
  · simp [q75_1, q75_2, q75_3, q75_4, q75_5, q75_7, q75_9, q75_10, hk', wantM]
  · simp [q75_1, q75_2, q75_3, q75_4, q75_5, q75_7, q75_9, q75_10, hk', wantM]
  · simp [q75_1, q75_2, q75_3, q75_4, q75_5, q75_7, q75_9, q75_10, hk', wantM]
  · simp [q75_1, q75_2, q75_3, q75_4, q75_5, q75_7, q75_9, q75_10, hk', wantM]
  · by_cases h1 : k = 1 <;> simp [q75_1, q75_2, q75_3, q75_4, q75_5, q75_7, q75_9, q75_10, hk', wantM, h1]
  · simp [q75_1, q75_2, q75_3, q75_4, q75_5, q75_7, q75_9, q75_10, hk', wantM, IntKind.wrap, IntKind.bits, IntKind.signed]
  · simp [q75_1, q75_2, q75_3, q75_4, q75_5, q75_7, q75_9, q75_10, hk', wantM, IntKind.wrap, IntKind.bits, IntKind.signed]
  · simp [q75_1, q75_2, q75_3, q75_4, q75_5, q75_7, q75_9, q75_10, hk', wantM, IntKind.wrap, IntKind.bits, IntKind.signed]
@[simp] theorem s_place (f : Fn) (i : Int) : (callW E).p 49 [.agg (enc f), .int .i64 i] = some ⟨.bool (placeOk (lst f.code).length i), [], true, [], []⟩ := by
  rw [x_q73]
  by_cases h0 : 0 ≤ i <;> simp [q73_1, h0, placeOk]
end Go.Vm
namespace Go.Vm
@[simp] theorem s_RCalls (op : Int) : (callW E).p 7 [.int .i64 op] = some ⟨.bool (calls op), [], true, [], []⟩ := by
  rw [x_q59, q59_1]
  by_cases h1 : 23 ≤ op
  · by_cases h2 : op ≤ 26 <;> simp [h1, h2, calls]
  · simp [h1, calls]
end Go.Vm
namespace Go.Vm
open Cel
section
variable {α : Type} [Cel α]
def ownV (j g : Nat) : Option (List α) → AV
  | none => .nils
  | some L => .ls j g (es α) 0 L.length
def ownO (g : Nat) (d : AO) : Option (List α) → AO
  | none => d
  | some L => ⟨g, .arr false false (es α) (L.map enc)⟩
def exV (k : Nat) : Option (List α) → AV
  | none => .nils
  | some L => .ls k 0 (es α) 0 L.length
def exOs : Option (List α) → List OC
  | none => []
  | some L => [.arr false false (es α) (L.map enc)]
def ownI (j : Nat) : Option (List α) → List Nat
  | none => []
  | some _ => [j]
@[simp] theorem cellsOf_own (j g : Nat) (o : Option (List α)) : cellsOf (ownV j g o) = [ownV j g o] := by cases o <;> rfl
@[simp] theorem leaf1_own (j g : Nat) (o : Option (List α)) : leaf1 (ownV j g o) = true := by cases o <;> rfl
@[simp] theorem known_own (j g : Nat) (o : Option (List α)) : known (ownV j g o) = true := by cases o <;> rfl
@[simp] theorem evLen_own (j g : Nat) (o : Option (List α)) (H : Heap) : evLen 1 (ownV j g o) H = some (.int .i64 (lst o).length) := by cases o <;> rfl
theorem set_same {H : Heap} {i : Nat} {o : AO} (h : H[i]? = some o) : H.set i o = H := by
  refine List.ext_getElem? fun k => ?_
  rw [List.getElem?_set]
  split
  · rename_i e; subst e
    rw [if_pos (List.getElem?_eq_some_iff.1 h).1, h]
  · rfl
theorem call_own {E : Env} {C : Calls2} {fb j f : Nat} {args : List AV} {H : Heap} {fa : Fz (List AV)} {N : Option (List α)} {o : AO} (hE : E.pure f = true) (ha : fzList (fz H fuelF) args = some fa) (hc : C.p f fa.v = some (exO N))
    (hf : fa.ids = []) (ho : H[fb + j]? = some o) : callAny E C fb (some j) false f args H = some (ownV (fb + j) (o.gen + 1) N, H.set (fb + j) (ownO (o.gen + 1) o N)) := by
  simp only [callAny, hE, if_true, callP, ha, hc]
  have hfr : ((exO N).fresh || fa.ids.isEmpty) = true := by rw [hf]; simp
  simp only [hfr, if_true]
  cases N with
  | none =>
    simp only [exO, placeAll, Bool.false_eq_true, if_false, ownV, ownO, set_same ho]
    rfl
  | some L => simp only [Bool.false_eq_true, if_false, place_ex, ho, reloc_ex, ownV, ownO]
theorem fp_own {E : Env} {C : Calls2} {fb j f : Nat} {args : List AV} {H : Heap} {fa : Fz (List AV)} {N : Option (List α)} (hE : E.pure f = true) (ha : fzList (fz H fuelF) args = some fa) (hc : C.p f fa.v = some (exO N))
    (hf : fa.ids = []) : fpCall E C fb (some j) false f args H = some ([], ownI (fb + j) N) := by
  cases N with
  | none => simp [fpCall, hE, ha, hc, hf, exO, ownI]
  | some L => simp [fpCall, hE, ha, hc, hf, exO, ownI]
theorem own_rows {H : Heap} {j g : Nat} {d : AO} {L : List α} (h : H[j]? = some (ownO g d (some L))) : rowsAt H j g = some (false, es α, L.map enc) := by
  simp [rowsAt, objAt, h, ownO]
theorem fz_own {H : Heap} {j g k : Nat} {d : AO} {o : Option (List α)} (h : H[j]? = some (ownO g d o)) : fz H (k + 2) (ownV j g o) = some ⟨slA o, (lst o).all scal, ownI j o⟩ := by
  cases o with
  | none => rfl
  | some L =>
    rw [ownV, fz_lsk, own_rows h]
    simp only [List.drop_zero, Nat.zero_add, List.length_map, Nat.le_refl, and_self, if_true, take_rows, fz_rowsk]
    simp [slA, ownI]
theorem expo_own {H : Heap} {j g k : Nat} {d : AO} {o : Option (List α)} (h : H[j]? = some (ownO g d o)) (os : List OC) :
    expo H (k + 1) (ownV j g o) os = some ⟨exV os.length o, os ++ exOs o, (lst o).all scal, ownI j o, []⟩ := by
  cases o with
  | none => simp [ownV, expo, pure1, exV, exOs, ownI]
  | some L =>
    rw [ownV, expo_ls, own_rows h]
    simp only [List.drop_zero, Nat.zero_add, List.length_map, Nat.le_refl, and_self, if_true, take_rows, fz_rows]
    rfl
end
theorem set_rows {rows : List (List AV)} {i : Nat} {r : List AV} (h : rows[i]? = some r) : rows.set i r = rows := by
  refine List.ext_getElem? fun k => ?_
  rw [List.getElem?_set]
  split
  · rename_i e; subst e
    rw [if_pos (List.getElem?_eq_some_iff.1 h).1, h]
  · rfl
theorem setRows_same {H : Heap} {id g es : Nat} {fz : Bool} {rows : List (List AV)} (h : rowsAt H id g = some (fz, es, rows)) : setRows H id rows = H := by
  unfold rowsAt objAt at h
  cases ho : H[id]? with
  | none => rw [ho] at h; simp at h
  | some o =>
    obtain ⟨g', c⟩ := o
    rw [ho] at h
    by_cases hg : g' = g
    · cases c with
      | arr bx fz' es' rows' =>
        simp only [hg, if_true, Option.some.injEq, Prod.mk.injEq] at h
        obtain ⟨rfl, rfl, rfl⟩ := h
        simp only [setRows, ho]
        exact set_same ho
      | dead => simp [hg] at h
      | map _ _ => simp [hg] at h
    · simp [hg] at h
def copyEx (f : Fn) : Ex AV :=
  ⟨.agg [exV 0 f.regs, exV (exOs f.regs).length f.params, .int .i64 f.ret, exV (exOs f.regs ++ exOs f.params).length f.code, exV (exOs f.regs ++ exOs f.params ++ exOs f.code).length f.rows],
    exOs f.regs ++ exOs f.params ++ exOs f.code ++ exOs f.rows, (lst f.code).all scal && (lst f.rows).all scal, [], []⟩
theorem ownO_ex {α : Type} [Cel α] (o : Option (List α)) (A B : List OC) (L : List α) (h : o = some L) : (heapOf (A ++ exOs o ++ B))[A.length]? = some (ownO 0 ⟨0, .dead⟩ o) := by
  subst h
  simp [heapOf, exOs, ownO]
theorem fz_exV {α : Type} [Cel α] (o : Option (List α)) (A B : List OC) (k : Nat) : fz (heapOf (A ++ exOs o ++ B)) (k + 2) (exV A.length o) = some ⟨slA o, (lst o).all scal, ownI A.length o⟩ := by
  cases ho : o with
  | none => rfl
  | some L => exact fz_own (g := 0) (o := some L) (by have := ownO_ex o A B L ho; rwa [ho] at this)
theorem copy_reads (f : Fn) : Reads (copyEx f) (.agg (enc f)) := by
  have h1 := fz_exV f.regs [] (exOs f.params ++ exOs f.code ++ exOs f.rows) 9
  have h2 := fz_exV f.params (exOs f.regs) (exOs f.code ++ exOs f.rows) 9
  have h3 := fz_exV f.code (exOs f.regs ++ exOs f.params) (exOs f.rows) 9
  have h4 := fz_exV f.rows (exOs f.regs ++ exOs f.params ++ exOs f.code) [] 9
  simp only [List.nil_append, List.append_nil, List.append_assoc, List.length_nil, List.length_append] at h1 h2 h3 h4
  have hi : fz (heapOf (copyEx f).objs) 11 (.int .i64 f.ret) = some ⟨.int .i64 f.ret, true, []⟩ := rfl
  refine ⟨_, (fz_agg_eq _ 11 _).trans (by
    simp only [copyEx, fzList_cons, List.append_assoc, List.length_append] at hi ⊢
    simp only [h1, h2, h3, h4, hi, fzList_nil]
    rfl), rfl⟩
theorem call_reads {E : Env} {C : Calls2} {fb f : Nat} {sl : Option Nat} {args : List AV} {h : Heap} {fa : Fz (List AV)} {r : Ex AV} {v : AV} (hE : E.pure f = true) (ha : fzList (fz h fuelF) args = some fa) (hf : fa.ids = [])
    (hc : C.p f fa.v = some r) (hr : Reads r v) : callAny E C fb sl true f args h = some (v, h) := by
  obtain ⟨q, h1, h2⟩ := hr
  simp [callAny, hE, callP, ha, hc, hf, h1, h2]
theorem fp_reads {E : Env} {C : Calls2} {fb f : Nat} {sl : Option Nat} {args : List AV} {h : Heap} {fa : Fz (List AV)} {r : Ex AV} (hE : E.pure f = true) (ha : fzList (fz h fuelF) args = some fa) (hf : fa.ids = [])
    (hc : C.p f fa.v = some r) : fpCall E C fb sl true f args h = some ([], []) := by
  simp [fpCall, hE, ha, hc, hf]
end Go.Vm
namespace Go.Vm
open Cel
theorem ixstr_at {s : List UInt8} {i : Nat} {b : UInt8} (h : s[i]? = some b) (k : IntKind) : evIxstr (.str s) (.int k (i : Int)) = some (.int .u8 b.toNat) := by
  simp [evIxstr, h]
def usP (W : List UInt8) (F : List Int) : Nat → List Int
  | 0 => []
  | k + 1 => usP W F k ++ if W.getD (k + 1) 45 = 45 then [] else if W.getD (k + 1) 45 = 63 ∧ F.getD (k + 1) 0 < 0 then [] else [F.getD (k + 1) 0]
theorem usP_len (W : List UInt8) (F : List Int) : ∀ k, (usP W F k).length ≤ k
  | 0 => Nat.le_refl _
  | k + 1 => by
    have := usP_len W F k
    rw [usP, List.length_append]
    split
    · simp; omega
    · split <;> simp <;> omega
theorem u8_ne {a b : UInt8} : decide ((a.toNat : Int) ≠ (b.toNat : Int)) = !decide (a = b) := by
  by_cases h : a = b
  · simp [h]
  · have : ¬ (a.toNat : Int) = (b.toNat : Int) := fun e => h (UInt8.toNat.inj (by omega))
    simp [h, this]
theorem RUses_loop (x : Ins) (W : List UInt8) (F : List Int) (hW : W.length = 4) (hF : F.length = 4) (o1 : AO) : ∀ (d k g : Nat) (o3 : AO), k + d = 3 →
    q68_L2 (slotV Int 4 g (usP W F k)) (.str W) (.ls 2 1 1 0 4) (.int .i64 ((k + 1 : Nat) : Int)) [AX 1 x, o1, AI 1 F, o3, slotO g D0 (usP W F k)] = some (exO (nz (usP W F 3))) := by
  intro d
  induction d with
  | zero =>
    intro k g o3 hk
    have hk' : k = 3 := by omega
    subst hk'
    have hc : ¬ (((3 + 1 : Nat) : Int) < ((W.length : Nat) : Int)) := by omega
    have hx := expo1_slotX (H := [AX 1 x, o1, AI 1 F, o3, slotO g D0 (usP W F 3)]) (j := 4) (g := g) (o := D0) (L := usP W F 3) rfl
    rw [q68_L2_go]
    simp only [q68_5, evLen_str, ob_some, evBin_lss, hc, decide_false, cnd_f, q68_1, hx]
  | succ d ih =>
    intro k g o3 hk
    have hc : (((k + 1 : Nat) : Int) < ((W.length : Nat) : Int)) := by omega
    have hw : IntKind.wrap .i64 (((k + 1 : Nat) : Int) + 1) = ((k + 1 + 1 : Nat) : Int) := by rw [wrap_i64] <;> omega
    obtain ⟨b, hb⟩ : ∃ b, W[k + 1]? = some b := ⟨_, List.getElem?_eq_getElem (by omega)⟩
    obtain ⟨r, hr⟩ : ∃ r, F[k + 1]? = some r := ⟨_, List.getElem?_eq_getElem (by omega)⟩
    have hbd : W.getD (k + 1) 45 = b := by rw [List.getD_eq_getElem?_getD, hb]; rfl
    have hrd : F.getD (k + 1) 0 = r := by rw [List.getD_eq_getElem?_getD, hr]; rfl
    have ks := ixstr_at hb .i64
    have kx : evIxs 1 (.ls 2 1 1 0 4) (.int .i64 ((k + 1 : Nat) : Int)) = some (.lp 2 1 (k + 1) 0) := by
      have := ixAt' (n := 4) (p := ((k + 1 : Nat) : Int)) (by omega) (by omega) 2 1 .i64
      simpa using this
    have lx : ∀ (o3 o4 : AO), evLd false 1 (.lp 2 1 (k + 1) 0) [AX 1 x, o1, AI 1 F, o3, o4] = some (.int .i64 r) := fun o3 o4 => ld_at (α := Int) (id := 2) (g := 1) (v := .int .i64 r) rfl hr rfl
    have hsu : usP W F (k + 1) = usP W F k ++ if b = 45 then [] else if b = 63 ∧ r < 0 then [] else [r] := by rw [usP, hbd, hrd]
    have ih0 : ∀ g o3, q68_L2 (slotV Int 4 g (usP W F k ++ if b = 45 then [] else if b = 63 ∧ r < 0 then [] else [r])) (.str W) (.ls 2 1 1 0 4) (.int .i64 ((k + 1 + 1 : Nat) : Int)) [AX 1 x, o1, AI 1 F, o3, slotO g D0 (usP W F k ++ if b = 45 then [] else if b = 63 ∧ r < 0 then [] else [r])] = some (exO (nz (usP W F 3))) := fun g o3 => by
      have := ih (k + 1) g o3 (by omega)
      rw [hsu] at this
      exact this
    have e45 : ((45 : UInt8).toNat : Int) = 45 := rfl
    have e63 : ((63 : UInt8).toNat : Int) = 63 := rfl
    have n45 := @u8_ne b 45
    have n63 := @u8_ne b 63
    rw [e45] at n45
    rw [e63] at n63
    rw [q68_L2_go]
    by_cases h1 : b = 45
    · have d45 : (!decide (b = 45)) = false := by simp [h1]
      have ih0 := ih0 g o3
      simp only [h1, if_true, List.append_nil] at ih0
      simp only [q68_5, evLen_str, ob_some, evBin_lss, hc, decide_true, cnd_t, q68_4, ks, evBin_neq, n45, d45, gb_ft, gb_tup, evPick_f, cnd_f, q68_3, evBin_add, hw, ih0]
    have d45 : (!decide (b = 45)) = true := by simp [h1]
    simp only [h1, if_false] at ih0
    have fin : ∀ g o3, q68_3 (slotV Int 4 g (usP W F k ++ [r])) (.str W) (.ls 2 1 1 0 4) (.int .i64 ((k + 1 : Nat) : Int)) [AX 1 x, o1, AI 1 F, o3, slotO g D0 (usP W F k ++ [r])] = (if b = 63 ∧ r < 0 then q68_3 (slotV Int 4 g (usP W F k ++ [r])) (.str W) (.ls 2 1 1 0 4) (.int .i64 ((k + 1 : Nat) : Int)) [AX 1 x, o1, AI 1 F, o3, slotO g D0 (usP W F k ++ [r])] else some (exO (nz (usP W F 3)))) := by
      intro g o3
      split
      · rfl
      · rename_i hh
        have ih0 := ih0 g o3
        rw [if_neg hh] at ih0
        simp only [q68_3, evBin_add, ob_some, hw, ih0]
    have hlen := usP_len W F k
    obtain ⟨g', ha⟩ := app_int (H := [AX 1 x, o1, AI 1 F, ⟨o3.gen + 1, .arr false false 1 [[.int .i64 r]]⟩, slotO g D0 (usP W F k)]) (fb := 0) (j := 4) (g := g) (o := D0) (y := .ls 3 (o3.gen + 1) 1 0 1) (L := usP W F k) (n := r) (by simp) rfl (Nat.le_trans (show _ ≤ 3 by omega) (by decide))
    have ha' : evApp 0 (some 4) 1 8 (slotV Int 4 g (usP W F k)) (.ls 3 (o3.gen + 1) 1 0 1) [AX 1 x, o1, AI 1 F, ⟨o3.gen + 1, .arr false false 1 [[.int .i64 r]]⟩, slotO g D0 (usP W F k)] = some (slotV Int 4 g' (usP W F k ++ [r]), [AX 1 x, o1, AI 1 F, ⟨o3.gen + 1, .arr false false 1 [[.int .i64 r]]⟩, slotO g' D0 (usP W F k ++ [r])]) := ha
    have bs : buildSC 0 (some 3) 1 1 [.int .i64 0] [(0, .int .i64 r)] [AX 1 x, o1, AI 1 F, o3, slotO g D0 (usP W F k)] = some (.ls 3 (o3.gen + 1) 1 0 1, [AX 1 x, o1, AI 1 F, ⟨o3.gen + 1, .arr false false 1 [[.int .i64 r]]⟩, slotO g D0 (usP W F k)]) := by
      simp [buildSC, fillRows]
    by_cases h2 : b = 63
    · have d63 : (!decide (b = 63)) = false := by simp [h2]
      by_cases h3 : 0 ≤ r
      · have hh : ¬ (b = 63 ∧ r < 0) := fun h => absurd h.2 (by omega)
        have fin := fin g' ⟨o3.gen + 1, .arr false false 1 [[.int .i64 r]]⟩
        rw [if_neg hh] at fin
        simp only [q68_5, evLen_str, ob_some, evBin_lss, hc, decide_true, cnd_t, q68_4, ks, evBin_neq, n45, d45, gb_tt, n63, d63, gb_ff, kx, lx, evBin_geq, h3, evPick_f, evPick_t, bs, oh_some, ha', fin]
      · have hh : b = 63 ∧ r < 0 := ⟨h2, by omega⟩
        have ih0 := ih0 g o3
        rw [if_pos hh, List.append_nil] at ih0
        simp only [q68_5, evLen_str, ob_some, evBin_lss, hc, decide_true, cnd_t, q68_4, ks, evBin_neq, n45, d45, gb_tt, n63, d63, gb_ff, kx, lx, evBin_geq, h3, decide_false, evPick_f, evPick_t, cnd_f, q68_3, evBin_add, hw, ih0]
    · have d63 : (!decide (b = 63)) = true := by simp [h2]
      have hh : ¬ (b = 63 ∧ r < 0) := fun h => h2 h.1
      have fin := fin g' ⟨o3.gen + 1, .arr false false 1 [[.int .i64 r]]⟩
      rw [if_neg hh] at fin
      simp only [q68_5, evLen_str, ob_some, evBin_lss, hc, decide_true, cnd_t, q68_4, ks, evBin_neq, n45, d45, gb_tt, n63, d63, gb_tf, gb_tup, evPick_t, kx, lx, bs, oh_some, ha', fin]
def wordM (op : Int) : List UInt8 := if op = 5 then [45, 42, 42, 45] else if op = 6 then [45, 42, 45, 45] else rowM op
set_option maxHeartbeats 1000000 in
theorem usP_uses (x : Ins) (hc : calls x.op = false) : usP (wordM x.op) [x.d, x.a, x.b, x.c] 3 = lst (uses x) := by
  have hne : ¬ x.op = 23 ∧ ¬ x.op = 24 ∧ ¬ x.op = 25 ∧ ¬ x.op = 26 := by
    refine ⟨?_, ?_, ?_, ?_⟩ <;> (intro h; simp [calls, h] at hc)
  have ha : (x.a < 0 ∧ ¬ 0 ≤ x.a) ∨ (¬ x.a < 0 ∧ 0 ≤ x.a) := by omega
  have hb : x.b < 0 ∨ ¬ x.b < 0 := by omega
  rcases op_cases x.op with h|h|h|h|h|h|h|h|h|h|h|h|h|h|h|h|h|h|h|h|h|h|h|h|h|h|h|h|h|h|h|h|h|h|h
  all_goals first
    | (exfalso; simp [calls, h] at hc; done)
    | (simp [uses, reads, calls, h, wordM, rowM, rowT, usP]; done)
    | (rcases ha with ⟨h1, h2⟩ | ⟨h1, h2⟩ <;> rcases hb with h3 | h3 <;> simp [uses, reads, calls, h, wordM, rowM, rowT, usP, h1, h2, h3]; done)
    | (have hw : wordM x.op = [] := by
        rw [wordM, if_neg (by omega), if_neg (by omega), rowM, if_pos (by omega)]
       rw [hw]
       simp [uses, reads, calls, lo_f h, usP]; done)
    | (have hw : wordM x.op = [] := by
        rw [wordM, if_neg (by omega), if_neg (by omega), rowM, if_pos (by omega)]
       rw [hw]
       simp [uses, reads, calls, hi_f h, usP]; done)
theorem rowM_len {op : Int} (h : ¬ (op < 1 ∨ 33 < op)) : (rowM op).length = 4 := by
  rcases op_cases op with h1|h1|h1|h1|h1|h1|h1|h1|h1|h1|h1|h1|h1|h1|h1|h1|h1|h1|h1|h1|h1|h1|h1|h1|h1|h1|h1|h1|h1|h1|h1|h1|h1|h1|h1
  all_goals first
    | (subst h1; rfl)
    | (exfalso; omega)
theorem s_RUses (x : Ins) (hl : (lst x.args).length ≤ 17592186043904) : (callW E).p 15 [.agg (enc x)] = some (exO (nz (lst (uses x)))) := by
  rw [x_q68]
  have n0 : newC 0 (some 0) (cellsOf (.agg (enc x))) [D0, D0, D0, D0, D0] = some (.lp 0 1 0 0, [AX 1 x, D0, D0, D0, D0]) := by simp
  have lop : ∀ t : Heap, evLd false 1 (.lp 0 1 0 0) (AX 1 x :: t) = some (.int .i64 x.op) := fun t => by simp
  have la : ∀ t : Heap, evLd false 1 (.lp 0 1 0 8) (AX 1 x :: t) = some (slA x.args) := fun t => by simp
  have cC : ∀ h : Heap, callAny E (callW E) 0 none true 7 [.int .i64 x.op] h = some (.bool (calls x.op), h) := fun h => by simp [callAny, callP, heapOf_nil]
  have cR : ∀ h : Heap, callAny E (callW E) 0 none true 38 [.int .i64 x.op] h = some (.str (rowM x.op), h) := fun h => by simp [callAny, callP, heapOf_nil, s_row]
  cases hc : calls x.op with
  | true =>
    have e : uses x = x.args := by simp [uses, hc]
    rw [e]
    rw [hc] at cC
    obtain ⟨g', a1⟩ := app_slot (α := Int) (H := [AX 1 x, D0, D0, D0, D0]) (fb := 0) (j := 1) (g := 0) (b := 8) (o := D0) (y := slA x.args) (L := []) (M := lst x.args) (by simp) rfl (by
      have : (2 * (0 + (lst x.args).length) + 512) * 8 ≤ 281474976710656 := by omega
      exact this)
    simp only [slotV_nil, es_int, List.set_cons_succ, List.set_cons_zero, Nat.zero_add, List.nil_append] at a1
    have hx := expo1_slotX (H := [AX 1 x, slotO g' D0 (lst x.args), D0, D0, D0]) (j := 1) (g := g') (o := D0) (L := lst x.args) rfl
    simp only [q68_15, n0, oh_some, q68_14, evFa_lp, Nat.zero_add, lop, ob_some, cC, cnd_t, la, a1, hx]
  | false =>
    rw [hc] at cC
    rw [← usP_uses x hc]
    have lf : ∀ (j : Nat) (t : Heap), evLd false 1 (.lp 0 1 0 j) (AX 1 x :: t) = ((enc x).drop j).head? := fun j t => by simp
    have d1 : ((enc x).drop 1).head? = some (.int .i64 x.d) := rfl
    have d2 : ((enc x).drop 2).head? = some (.int .i64 x.a) := rfl
    have d3 : ((enc x).drop 3).head? = some (.int .i64 x.b) := rfl
    have d4 : ((enc x).drop 4).head? = some (.int .i64 x.c) := rfl
    have bs : buildSC 0 (some 2) 1 4 [.int .i64 0] [(0, .int .i64 x.d), (1, .int .i64 x.a), (2, .int .i64 x.b), (3, .int .i64 x.c)] [AX 1 x, D0, D0, D0, D0] = some (.ls 2 1 1 0 4, [AX 1 x, D0, AI 1 [x.d, x.a, x.b, x.c], D0, D0]) := by
      simp [buildSC, fillRows, List.replicate]
    have e9 : ∀ W : List UInt8, (W.length = 4 ∨ W = []) → q68_9 (.lp 0 1 0 0) .nils (.str W) [AX 1 x, D0, D0, D0, D0] = some (exO (nz (usP W [x.d, x.a, x.b, x.c] 3))) := by
      intro W hW
      have e : q68_9 (.lp 0 1 0 0) .nils (.str W) [AX 1 x, D0, D0, D0, D0] = q68_7 .nils (.str W) (.ls 2 1 1 0 4) [AX 1 x, D0, AI 1 [x.d, x.a, x.b, x.c], D0, D0] := by
        simp only [q68_9, evFa_lp, Nat.zero_add, ob_some, lf, d1, d2, d3, d4, bs, oh_some]
      rw [e]
      rcases hW with hW | rfl
      · have := RUses_loop x W [x.d, x.a, x.b, x.c] hW rfl D0 3 0 0 D0 rfl
        exact this
      · show q68_L2 _ _ _ _ _ = _
        rw [q68_L2_go]
        rfl
    have hw : q68_11 (.lp 0 1 0 0) .nils (.str (rowM x.op)) [AX 1 x, D0, D0, D0, D0] = some (exO (nz (usP (wordM x.op) [x.d, x.a, x.b, x.c] 3))) := by
      by_cases h5 : x.op = 5
      · have h6 : ¬ x.op = 6 := by omega
        have := e9 [45, 42, 42, 45] (.inl rfl)
        simp only [q68_11, evFa_lp, Nat.zero_add, ob_some, lop, evBin_eql, h5, decide_true, cnd_t, q68_10, show ¬ (5 : Int) = 6 by omega, decide_false, cnd_f, this, wordM, if_true]
      · by_cases h6 : x.op = 6
        · have := e9 [45, 42, 45, 45] (.inl rfl)
          simp only [q68_11, evFa_lp, Nat.zero_add, ob_some, lop, evBin_eql, h6, show ¬ (6 : Int) = 5 by omega, decide_false, cnd_f, q68_10, decide_true, cnd_t, this, wordM, if_true, if_false]
        · have hr : (rowM x.op).length = 4 ∨ rowM x.op = [] := by
            by_cases h : x.op < 1 ∨ 33 < x.op
            · right; rw [rowM, if_pos h]
            · exact .inl (rowM_len h)
          have := e9 _ hr
          simp only [q68_11, evFa_lp, Nat.zero_add, ob_some, lop, evBin_eql, h5, h6, decide_false, cnd_f, q68_10, this, wordM, if_false]
    simp only [q68_15, n0, oh_some, q68_14, evFa_lp, Nat.zero_add, lop, ob_some, cC, cnd_f, q68_13, q68_12, cR, hw]
set_option maxHeartbeats 1000000 in
theorem s_RDef (x : Ins) : (callW E).p 16 [.agg (enc x)] = some ⟨.int .i64 (defr x), [], true, [], []⟩ := by
  rw [x_q61]
  have n0 : newC 0 (some 0) (cellsOf (.agg (enc x))) [D0] = some (.lp 0 1 0 0, [AX 1 x]) := by simp
  have lop : ∀ t : Heap, evLd false 1 (.lp 0 1 0 0) (AX 1 x :: t) = some (.int .i64 x.op) := fun t => by simp
  have ld : ∀ t : Heap, evLd false 1 (.lp 0 1 0 1) (AX 1 x :: t) = some (.int .i64 x.d) := fun t => by simp
  have cR : ∀ h : Heap, callAny E (callW E) 0 none true 38 [.int .i64 x.op] h = some (.str (rowM x.op), h) := fun h => by simp [callAny, callP, heapOf_nil, s_row]
  have e : q61_4 (.agg (enc x)) [D0] = q61_2 (.lp 0 1 0 0) (.str (rowM x.op)) [AX 1 x] := by
    simp only [q61_4, n0, oh_some, q61_3, evFa_lp, Nat.zero_add, lop, ob_some, cR]
  rw [e]
  rcases op_cases x.op with h|h|h|h|h|h|h|h|h|h|h|h|h|h|h|h|h|h|h|h|h|h|h|h|h|h|h|h|h|h|h|h|h|h|h
  all_goals first
    | (simp [q61_2, q61_1, h, rowM, rowT, evIxstr, defr, writes, calls]; done)
    | (simp [q61_2, q61_1, h, lo_f h, rowM, evIxstr, defr, writes, calls]; done)
    | (simp [q61_2, q61_1, h, hi_f h, rowM, evIxstr, defr, writes, calls]; done)
end Go.Vm
namespace Go.Vm
open Cel
attribute [local simp] callAny callP heapOf_nil
@[simp] theorem s_RThrows (op : Int) : (callW E).p 19 [.int .i64 op] = some ⟨.bool (throws op), [], true, [], []⟩ := by
  rw [x_q67, q67_1]
  by_cases h1 : 7 ≤ op
  · by_cases h2 : op ≤ 12
    · simp [h1, h2, throws]
    · simp [h1, h2, buildSC, fillRows, freeze3 1 0 0 0, s_in3, throws]
      by_cases h3 : op = 20
      · simp [h3]
      by_cases h4 : op = 21
      · simp [h4]
      by_cases h5 : op = 31 <;> simp [h3, h4, h5]
  · have h4 : ¬ op = 20 ∧ ¬ op = 21 ∧ ¬ op = 31 := by omega
    simp [h1, buildSC, fillRows, freeze3 1 0 0 0, s_in3, throws, h4]
theorem in11_loop (n : Int) (o : Option (List Int)) (hl : (lst o).length ≤ 9223372036854775807) (h : Heap) : ∀ (d i : Nat), i + d = (lst o).length →
    q83_L2 (slA o) (.int .i64 n) (.int .i64 i) h = some ⟨.bool (((lst o).drop i).contains n), [], true, [], []⟩ := by
  intro d
  induction d with
  | zero =>
    intro i hi
    have e1 : (lst o).drop i = [] := List.drop_eq_nil_of_le (by omega)
    have hn : ¬ ((i : Int) < ((lst o).length : Int)) := by omega
    rw [q83_L2_go, e1]
    simp [q83_1, q83_3, q83_4, q83_5, q83_7, q83_9, hn]
  | succ d ih =>
    intro i hi
    have hlt : i < (lst o).length := by omega
    have hn : ((i : Int) < ((lst o).length : Int)) := by omega
    have k1 := ixs_int (o := o) (i := i) (List.getElem?_eq_getElem hlt) .i64
    rw [q83_L2_go, List.drop_eq_getElem_cons hlt, List.contains_cons]
    have ih := ih (i + 1) (by omega)
    push_cast at ih
    generalize (lst o)[i] = x at *
    by_cases he : x = n
    · simp [q83_1, q83_3, q83_4, q83_5, q83_7, q83_9, hn, k1, he]
    · have he' : ¬ n = x := fun h => he h.symm
      simp [q83_1, q83_3, q83_4, q83_5, q83_7, q83_9, hn, k1, he, he', wrap_up hlt hl, ih]
theorem s_in11 (n : Int) (o : Option (List Int)) (hl : (lst o).length ≤ 9223372036854775807) : (callW E).p 96 [slA o, .int .i64 n] = some ⟨.bool ((lst o).contains n), [], true, [], []⟩ := by
  have := in11_loop n o hl [] _ 0 (Nat.zero_add _)
  simp only [Int.ofNat_zero, List.drop_zero] at this
  rw [x_q83, ← this]
  simp [q83_1, q83_3, q83_4, q83_5, q83_7, q83_9]
theorem Rcontains1 (a b : Int) : (callW E).p 96 [.rs 1 [[.int .i64 a]], .int .i64 b] = some ⟨.bool ([a].contains b), [], true, [], []⟩ := by
  have := s_in11 b (some [a]) (by simp)
  exact this
theorem s_RNext (f : Fn) (i : Int) (hl : (lst f.code).length ≤ 9223372036854775807) : (callW E).p 95 [.agg (enc f), .int .i64 i] = some (exO (nz (nextL f i))) := by
  rw [x_q79]
  by_cases h0 : i < 0
  · simp [q79_1, q79_2, q79_3, q79_4, q79_5, q79_6, q79_7, h0, nextL, nz]; rfl
  by_cases h1 : ((lst f.code).length : Int) ≤ i
  · simp [q79_1, q79_2, q79_3, q79_4, q79_5, q79_6, q79_7, h0, h1, nextL, nz]; rfl
  have g0 : 0 ≤ i := by omega
  have hx := insAt_lt (f := f) (i := i.toNat) (by omega)
  have k1 := ixs_insI (o := f.code) g0 hx .i64
  have hw := wrap_next g0 (by omega) hl
  have hn : nextL f i = nextI (insAt f i.toNat) i := by rw [nextL, if_neg (by omega)]
  rw [hn]
  generalize insAt f i.toNat = x at *
  have e : q79_7 (.agg (enc f)) (.int .i64 i) [⟨0, .dead⟩, ⟨0, .dead⟩, ⟨0, .dead⟩, ⟨0, .dead⟩, ⟨0, .dead⟩] = q79_3 (.int .i64 i) (.lp 1 1 0 0) .nils [⟨1, .arr true false 5 [enc f]⟩, ⟨1, .arr true false 9 [enc x]⟩, ⟨0, .dead⟩, ⟨0, .dead⟩, ⟨0, .dead⟩] := by
    simp [q79_7, q79_6, q79_5, q79_4, h0, h1, k1]
  rw [e, nextI]
  cases he : ends x.op with
  | true =>
    cases hd : leads x.op with
    | false => simp [q79_3, q79_2, q79_1, he, hd, nz]; rfl
    | true =>
      have := s_in11 x.t none (by simp)
      simp [q79_3, q79_2, q79_1, he, hd, nz, slA] at this ⊢
      simp [this, buildSC, fillRows, evApp, addN]
      exact expo1_int1 (by simp)
  | false =>
    cases hd : leads x.op with
    | false =>
      simp [q79_3, q79_2, q79_1, he, hd, hw, buildSC, fillRows, evApp]
      exact expo1_int1 (by simp)
    | true =>
      have hz : fz [⟨1, .arr true false 5 [enc f]⟩, ⟨1, .arr true false 9 [enc x]⟩, ⟨1, .arr false false 1 [[.int .i64 (i + 1)]]⟩, ⟨0, .dead⟩, ⟨0, .dead⟩] fuelF (.ls 2 1 1 0 1) = some ⟨.rs 1 [[.int .i64 (i + 1)]], true, [2]⟩ := by
        rw [fz_ls]; rfl
      generalize hxt : x.t = t at *
      by_cases hc : i + 1 = t
      · subst hc
        simp [q79_3, q79_2, q79_1, he, hd, hw, buildSC, fillRows, evApp, hz, Rcontains1, addN, hxt]
        exact expo1_int1 (by simp)
      · have hc' : ¬ t = i + 1 := fun h => hc h.symm
        simp [q79_3, q79_2, q79_1, he, hd, hw, buildSC, fillRows, evApp, hz, Rcontains1, hc, hc', addN, hxt]
        exact expo1_int2 (by simp)
theorem RCaught_loop (f : Fn) (i : Int) (hl : (lst f.rows).length ≤ 10000000000000) : ∀ (d k g : Nat) (L : List Int) (o1 o2 : AO), k + d = (lst f.rows).length → L.length ≤ k →
    q77_L2 (.int .i64 i) (.lp 0 1 0 0) (slotV Int 3 g L) (.int .i64 k) [⟨1, .arr true false 5 [enc f]⟩, o1, o2, slotO g D0 L] = some (exO (nz (caughtG i ((lst f.rows).drop k) L))) := by
  intro d
  induction d with
  | zero =>
    intro k g L o1 o2 hk _
    have e1 : (lst f.rows).drop k = [] := List.drop_eq_nil_of_le (by omega)
    have hn : ¬ ((k : Int) < ((lst f.rows).length : Int)) := by omega
    have hx := expo1_slotX (H := [⟨1, .arr true false 5 [enc f]⟩, o1, o2, slotO g D0 L]) (j := 3) (g := g) (o := D0) (L := L) rfl
    rw [q77_L2_go, e1]
    simp [q77_11, q77_1, hn, caughtG, hx]
  | succ d ih =>
    intro k g L o1 o2 hk hL
    have hlt : k < (lst f.rows).length := by omega
    have hc : ((k : Int) < ((lst f.rows).length : Int)) := by omega
    have k1 := ixs_row (o := f.rows) (i := k) (List.getElem?_eq_getElem hlt) .i64
    rw [q77_L2_go, List.drop_eq_getElem_cons hlt]
    generalize hr : (lst f.rows)[k] = r at *
    have ih0 := fun g L o1 o2 hL => ih (k + 1) g L o1 o2 (by omega) hL
    push_cast at ih0
    have hw := wrap_up hlt (by omega)
    have e11 : q77_11 (.int .i64 i) (.lp 0 1 0 0) (slotV Int 3 g L) (.int .i64 k) [⟨1, .arr true false 5 [enc f]⟩, o1, o2, slotO g D0 L] =
        q77_7 (.int .i64 i) (.lp 0 1 0 0) (slotV Int 3 g L) (.int .i64 k) (.lp 1 (o1.gen + 1) 0 0) [⟨1, .arr true false 5 [enc f]⟩, ⟨o1.gen + 1, .arr true false 4 [enc r]⟩, o2, slotO g D0 L] := by
      simp [q77_11, q77_8, hc, k1]
    rw [e11]
    generalize (o1.gen + 1) = g1
    by_cases h1 : r.f ≤ i
    rotate_left
    · have : ¬ (r.f ≤ i ∧ i < r.t) := by omega
      simp [q77_7, q77_6, q77_3, h1, hw, caughtG, ih0 g L _ _ (by omega)]
    by_cases h2 : i < r.t
    rotate_left
    · have : ¬ (r.f ≤ i ∧ i < r.t) := by omega
      simp [q77_7, q77_6, q77_3, h1, h2, hw, caughtG, ih0 g L _ _ (by omega)]
    rw [caughtG, if_pos ⟨h1, h2⟩]
    have hz : ∀ o2, fz [⟨1, .arr true false 5 [enc f]⟩, ⟨g1, .arr true false 4 [enc r]⟩, o2, slotO g D0 L] fuelF (slotV Int 3 g L) = some ⟨slA (nz L), true, ids1 (slotV Int 3 g L)⟩ := fun o2 => fz_slotI rfl
    have hct := s_in11 r.at_ (nz L) (by rw [lst_nz]; omega)
    rw [lst_nz] at hct
    have tail : ∀ g L o2, L.length ≤ k + 1 → q77_4 (.int .i64 i) (.lp 0 1 0 0) (slotV Int 3 g L) (.int .i64 k) (.lp 1 g1 0 0) [⟨1, .arr true false 5 [enc f]⟩, ⟨g1, .arr true false 4 [enc r]⟩, o2, slotO g D0 L] =
        some (exO (nz (if r.c = [] then L else caughtG i ((lst f.rows).drop (k + 1)) L))) := by
      intro g L o2 hL
      have hx := expo1_slotX (H := [⟨1, .arr true false 5 [enc f]⟩, ⟨g1, .arr true false 4 [enc r]⟩, o2, slotO g D0 L]) (j := 3) (g := g) (o := D0) (L := L) rfl
      by_cases hcl : r.c = []
      · simp [q77_4, hcl, hx]
      · simp [q77_4, q77_3, hcl, hw, ih0 g L _ _ hL]
    unfold addN
    cases hb : L.contains r.at_ with
    | true =>
      rw [hb] at hct
      rw [if_pos rfl]
      have := tail g L o2 (by omega)
      simp [q77_7, q77_6, q77_5, h1, h2, hz, hct, this]
    | false =>
      rw [hb] at hct
      rw [if_neg Bool.false_ne_true]
      obtain ⟨g', ha⟩ := app_int (H := [⟨1, .arr true false 5 [enc f]⟩, ⟨g1, .arr true false 4 [enc r]⟩, ⟨o2.gen + 1, .arr false false 1 [[.int .i64 r.at_]]⟩, slotO g D0 L]) (fb := 0) (j := 3) (g := g) (o := D0) (y := .ls 2 (o2.gen + 1) 1 0 1) (L := L) (n := r.at_) (by simp) rfl (by omega)
      have ha' : evApp 0 (some 3) 1 8 (slotV Int 3 g L) (.ls 2 (o2.gen + 1) 1 0 1) [⟨1, .arr true false 5 [enc f]⟩, ⟨g1, .arr true false 4 [enc r]⟩, ⟨o2.gen + 1, .arr false false 1 [[.int .i64 r.at_]]⟩, slotO g D0 L] = some (slotV Int 3 g' (L ++ [r.at_]), [⟨1, .arr true false 5 [enc f]⟩, ⟨g1, .arr true false 4 [enc r]⟩, ⟨o2.gen + 1, .arr false false 1 [[.int .i64 r.at_]]⟩, slotO g' D0 (L ++ [r.at_])]) := ha
      have := tail g' (L ++ [r.at_]) ⟨o2.gen + 1, .arr false false 1 [[.int .i64 r.at_]]⟩ (by simp; omega)
      simp [q77_7, q77_6, q77_5, h1, h2, hz, hct, buildSC, fillRows, ha', this]
theorem s_RCaught (f : Fn) (i : Int) (hl : (lst f.rows).length ≤ 10000000000000) : (callW E).p 92 [.agg (enc f), .int .i64 i] = some (exO (nz (caughtL f i))) := by
  rw [x_q77]
  by_cases h0 : i < 0
  · simp [q77_17, q77_16, q77_15, h0, caughtL, nz]; rfl
  by_cases h1 : ((lst f.code).length : Int) ≤ i
  · simp [q77_17, q77_16, q77_15, h0, h1, caughtL, nz]; rfl
  have g0 : 0 ≤ i := by omega
  have hx := insAt_lt (f := f) (i := i.toNat) (by omega)
  have k1 := ixs_insI (o := f.code) g0 hx .i64
  have hn : caughtL f i = if throws (insAt f i.toNat).op then caughtG i (lst f.rows) [] else [] := by rw [caughtL, if_neg (by omega)]
  rw [hn]
  generalize insAt f i.toNat = x at *
  have lp := RCaught_loop f i hl _ 0 0 [] D0 D0 (Nat.zero_add _) (Nat.zero_le _)
  simp only [slotV_nil, slotO_nil, List.drop_zero, Int.ofNat_zero] at lp
  have lp' : q77_13 (.int .i64 i) (.lp 0 1 0 0) .nils [⟨1, .arr true false 5 [enc f]⟩, D0, D0, D0] = some (exO (nz (caughtG i (lst f.rows) []))) := lp
  cases ht : throws x.op with
  | false => simp [q77_17, q77_16, q77_15, h0, h1, k1, ht, nz]; rfl
  | true => simp [q77_17, q77_16, q77_15, h0, h1, k1, ht, lp']
end Go.Vm
namespace Go.Vm
structure FnSm (f : Fn) : Prop where
  regs : (lst f.regs).length ≤ 17592186043904
  params : (lst f.params).length ≤ 17592186043904
  code : (lst f.code).length ≤ 2 ^ 38
  rows : (lst f.rows).length ≤ 2 ^ 38
  args : ∀ x ∈ lst f.code, (lst x.args).length ≤ 17592186043904
abbrev ArgsSm (f : Fn) : Prop := ∀ x ∈ lst f.code, (lst x.args).length ≤ 17592186043904
end Go.Vm
namespace Go.Vm
open Cel
def nB : Nat := 20002
theorem nB_eq : nB = 20002 := rfl
theorem succR_len {f : Fn} (w : Wf f) (r : Int) (i : Nat) : (succR f r i).length ≤ nB := by
  rw [nB_eq]
  have h1 := nextL_len f i
  have h2 := w.caught_len i
  unfold succR
  rw [List.length_append]
  split <;> simp <;> omega
def hitR_ (f : Fn) (r : Int) (i : Nat) : Bool := (usesAt f i).contains r
theorem hitR_def (f : Fn) (r : Int) (i : Nat) : hitR_ f r i = (lst (uses (insAt f i))).contains r := by rw [hitR_, usesAt]
theorem uses_small (x : Ins) (h : (lst x.args).length ≤ 17592186043904) : (lst (uses x)).length ≤ 17592186043904 := by
  by_cases hc : calls x.op = true
  · simpa [uses, hc] using h
  · have := uses_le3 (x := x) (by simpa using hc)
    omega
end Go.Vm
namespace Go.Vm
open Cel
theorem in13_loop (n : Int) (o : Option (List Int)) (hl : (lst o).length ≤ 9223372036854775807) (h : Heap) : ∀ (d i : Nat), i + d = (lst o).length →
    q88_L2 (slA o) (.int .i64 n) (.int .i64 i) h = some ⟨.bool (((lst o).drop i).contains n), [], true, [], []⟩ := by
  intro d
  induction d with
  | zero =>
    intro i hi
    have e1 : (lst o).drop i = [] := List.drop_eq_nil_of_le (by omega)
    have hn : ¬ ((i : Int) < ((lst o).length : Int)) := by omega
    rw [q88_L2_go, e1]
    simp [q88_1, q88_3, q88_4, q88_5, q88_7, q88_9, hn]
  | succ d ih =>
    intro i hi
    have hlt : i < (lst o).length := by omega
    have hn : ((i : Int) < ((lst o).length : Int)) := by omega
    have k1 := ixs_int (o := o) (i := i) (List.getElem?_eq_getElem hlt) .i64
    rw [q88_L2_go, List.drop_eq_getElem_cons hlt, List.contains_cons]
    have ih := ih (i + 1) (by omega)
    push_cast at ih
    generalize (lst o)[i] = x at *
    by_cases he : x = n
    · simp [q88_1, q88_3, q88_4, q88_5, q88_7, q88_9, hn, k1, he]
    · have he' : ¬ n = x := fun h => he h.symm
      simp [q88_1, q88_3, q88_4, q88_5, q88_7, q88_9, hn, k1, he, he', wrap_up hlt hl, ih]
theorem s_in13 (n : Int) (o : Option (List Int)) (hl : (lst o).length ≤ 9223372036854775807) : (callW E).p 94 [slA o, .int .i64 n] = some ⟨.bool ((lst o).contains n), [], true, [], []⟩ := by
  have := in13_loop n o hl [] _ 0 (Nat.zero_add _)
  simp only [Int.ofNat_zero, List.drop_zero] at this
  rw [x_q88, ← this]
  simp [q88_1, q88_3, q88_4, q88_5, q88_7, q88_9]
end Go.Vm
namespace Go.Vm
abbrev Ws := List (BitVec 64)
def bit (s : Ws) (r : Nat) : Bool := (s.getD (r / 64) 0).getLsbD (r % 64)
def addW (s : Ws) (r : Nat) : Ws := s.set (r / 64) (s.getD (r / 64) 0 ||| BitVec.twoPow 64 (r % 64))
def dropW (s : Ws) (r : Nat) : Ws := s.set (r / 64) (s.getD (r / 64) 0 &&& ~~~ BitVec.twoPow 64 (r % 64))
def joinW (s t : Ws) : Ws := List.zipWith (· ||| ·) s t
def moreW (s t : Ws) : Bool := (List.zipWith (fun a b => decide (b &&& ~~~ a ≠ 0)) s t).any id
def noneW (n : Nat) : Ws := List.replicate n 0
theorem addW_len (s : Ws) (r : Nat) : (addW s r).length = s.length := by simp [addW]
theorem dropW_len (s : Ws) (r : Nat) : (dropW s r).length = s.length := by simp [dropW]
theorem joinW_len {s t : Ws} (h : s.length = t.length) : (joinW s t).length = s.length := by simp [joinW, h]
theorem bit_none (n r : Nat) : bit (noneW n) r = false := by
  simp only [bit, noneW, List.getD_eq_getElem?_getD, List.getElem?_replicate]
  split <;> simp
theorem bit_out {s : Ws} {r : Nat} (h : s.length ≤ r / 64) : bit s r = false := by
  simp [bit, List.getD_eq_getElem?_getD, List.getElem?_eq_none h]
theorem same_reg {r q : Nat} (h1 : r / 64 = q / 64) (h2 : r % 64 = q % 64) : r = q := by omega
theorem bit_add {s : Ws} {r : Nat} (h : r / 64 < s.length) (q : Nat) : bit (addW s r) q = (bit s q || decide (q = r)) := by
  have hq : q % 64 < 64 := Nat.mod_lt _ (by omega)
  unfold bit addW
  rw [List.getD_eq_getElem?_getD, List.getElem?_set]
  by_cases e : r / 64 = q / 64
  · rw [if_pos e, if_pos h, ← e]
    simp only [Option.getD_some, BitVec.getLsbD_or, BitVec.getLsbD_twoPow]
    by_cases e2 : q = r
    · subst e2; simp [hq]
    · have : ¬ r % 64 = q % 64 := fun h' => e2 (same_reg e h').symm
      simp [e2, this]
  · rw [if_neg e]
    have : ¬ q = r := fun h' => e (by rw [h'])
    simp [this, List.getD_eq_getElem?_getD]
theorem bit_drop {s : Ws} {r : Nat} (h : r / 64 < s.length) (q : Nat) : bit (dropW s r) q = (bit s q && decide (q ≠ r)) := by
  have hq : q % 64 < 64 := Nat.mod_lt _ (by omega)
  unfold bit dropW
  rw [List.getD_eq_getElem?_getD, List.getElem?_set]
  by_cases e : r / 64 = q / 64
  · rw [if_pos e, if_pos h, ← e]
    simp only [Option.getD_some, BitVec.getLsbD_and, BitVec.getLsbD_not, BitVec.getLsbD_twoPow]
    by_cases e2 : q = r
    · subst e2; simp [hq]
    · have : ¬ r % 64 = q % 64 := fun h' => e2 (same_reg e h').symm
      simp [e2, this, hq]
  · rw [if_neg e]
    have : ¬ q = r := fun h' => e (by rw [h'])
    simp [this, List.getD_eq_getElem?_getD]
theorem bit_join {s t : Ws} (h : s.length = t.length) (q : Nat) : bit (joinW s t) q = (bit s q || bit t q) := by
  unfold bit joinW
  simp only [List.getD_eq_getElem?_getD, List.getElem?_zipWith]
  by_cases hq : q / 64 < s.length
  · rw [List.getElem?_eq_getElem hq, List.getElem?_eq_getElem (by omega)]
    simp
  · rw [List.getElem?_eq_none (by omega), List.getElem?_eq_none (by omega)]
    simp
theorem moreW_iff {s t : Ws} (h : s.length = t.length) : moreW s t = true ↔ ∃ q, bit t q = true ∧ bit s q = false := by
  unfold moreW
  rw [List.any_eq_true]
  constructor
  · rintro ⟨b, hb, h1⟩
    obtain ⟨k, hk⟩ := List.getElem?_of_mem hb
    rw [List.getElem?_zipWith] at hk
    cases hs : s[k]? with
    | none => rw [hs] at hk; simp at hk
    | some a =>
      cases ht : t[k]? with
      | none => rw [hs, ht] at hk; simp at hk
      | some c =>
        rw [hs, ht] at hk
        simp only [Option.some.injEq] at hk
        rw [← hk] at h1
        simp only [id, decide_eq_true_eq] at h1
        have : ∃ j, j < 64 ∧ (c &&& ~~~ a).getLsbD j = true := by
          refine Classical.byContradiction fun hn => h1 ?_
          refine BitVec.eq_of_getLsbD_eq fun j hj => ?_
          rw [show (0 : BitVec 64).getLsbD j = false by simp]
          rw [← Bool.not_eq_true]
          exact fun hb => hn ⟨j, hj, hb⟩
        obtain ⟨j, hj, hb⟩ := this
        rw [BitVec.getLsbD_and, BitVec.getLsbD_not, Bool.and_eq_true] at hb
        have e1 : (64 * k + j) / 64 = k := by omega
        have e2 : (64 * k + j) % 64 = j := by omega
        refine ⟨64 * k + j, ?_, ?_⟩
        · simp only [bit, e1, e2, List.getD_eq_getElem?_getD, ht, Option.getD_some]; exact hb.1
        · simp only [bit, e1, e2, List.getD_eq_getElem?_getD, hs, Option.getD_some]
          have := hb.2
          simpa [hj] using this
  · rintro ⟨q, h1, h2⟩
    have hq : q / 64 < t.length := by
      refine Classical.byContradiction fun hn => ?_
      rw [bit_out (by omega)] at h1; cases h1
    have hqs : q / 64 < s.length := by omega
    refine ⟨true, List.mem_of_getElem? (i := q / 64) ?_, rfl⟩
    rw [List.getElem?_zipWith, List.getElem?_eq_getElem hq, List.getElem?_eq_getElem hqs]
    simp only [bit, List.getD_eq_getElem?_getD, List.getElem?_eq_getElem hq, List.getElem?_eq_getElem hqs, Option.getD_some] at h1 h2
    have : t[q / 64] &&& ~~~ s[q / 64] ≠ 0 := by
      intro e
      have := congrArg (fun w : BitVec 64 => w.getLsbD (q % 64)) e
      simp only [BitVec.getLsbD_and, BitVec.getLsbD_not, h1, h2] at this
      have hm : q % 64 < 64 := Nat.mod_lt _ (by omega)
      simp [hm] at this
    simp only [decide_eq_true this]
theorem join_same {s t : Ws} (h : s.length = t.length) (hm : moreW s t = false) : joinW s t = s := by
  refine List.ext_getElem (joinW_len h) fun k h1 h2 => ?_
  have hk : k < t.length := by omega
  simp only [joinW, List.getElem_zipWith]
  have hz : t[k] &&& ~~~ s[k] = 0 := by
    refine Classical.byContradiction fun hn => ?_
    have : moreW s t = true := by
      unfold moreW
      rw [List.any_eq_true]
      refine ⟨true, List.mem_of_getElem? (i := k) ?_, rfl⟩
      rw [List.getElem?_zipWith, List.getElem?_eq_getElem hk, List.getElem?_eq_getElem h2]
      simp only [decide_eq_true (show t[k] &&& ~~~ s[k] ≠ 0 from hn)]
    rw [hm] at this; cases this
  refine BitVec.eq_of_getLsbD_eq fun j hj => ?_
  have := congrArg (fun w : BitVec 64 => w.getLsbD j) hz
  simp only [BitVec.getLsbD_and, BitVec.getLsbD_not, BitVec.getLsbD_or] at this ⊢
  cases ha : s[k].getLsbD j <;> cases hb : t[k].getLsbD j <;> simp_all
end Go.Vm
namespace Go.Vm
def fromP (f : Fn) (A : List Int) (r : Nat) : Prop := ∃ i, Rch (lst f.code).length (succR f r) A i ∧ (r : Int) ∈ usesAt f i
theorem Rch.one {n : Nat} {S : Nat → List Int} {i k : Nat} : Rch n S [(i : Int)] k ↔ (k = i ∧ i < n) ∨ (i < n ∧ Rch n S (S i) k) := by
  constructor
  · intro h
    induction h with
    | base hj j0 j1 =>
      rw [List.mem_singleton] at hj
      subst hj
      exact .inl ⟨by omega, by omega⟩
    | step h hj j0 j1 ih =>
      rcases ih with ⟨e, hi⟩ | ⟨hi, h'⟩
      · subst e
        exact .inr ⟨hi, .base hj j0 j1⟩
      · exact .inr ⟨hi, .step h' hj j0 j1⟩
  · rintro (⟨e, hi⟩ | ⟨hi, h⟩)
    · subst e
      have := Rch.base (n := n) (S := S) (A := [(k : Int)]) (j := (k : Int)) (by simp) (by omega) (by omega)
      simpa using this
    · have hb : Rch n S [(i : Int)] i := by
        have := Rch.base (n := n) (S := S) (A := [(i : Int)]) (j := (i : Int)) (by simp) (by omega) (by omega)
        simpa using this
      induction h with
      | base hj j0 j1 => exact .step hb hj j0 j1
      | step h hj j0 j1 ih => exact .step ih hj j0 j1
theorem Rch.some_ {n : Nat} {S : Nat → List Int} {A : List Int} {k : Nat} : Rch n S A k ↔ ∃ a ∈ A, 0 ≤ a ∧ a < n ∧ Rch n S [a] k := by
  constructor
  · intro h
    induction h with
    | base hj j0 j1 => exact ⟨_, hj, j0, j1, .base (by simp) j0 j1⟩
    | step h hj j0 j1 ih =>
      obtain ⟨a, ha, a0, a1, h'⟩ := ih
      exact ⟨a, ha, a0, a1, .step h' hj j0 j1⟩
  · rintro ⟨a, ha, a0, a1, h⟩
    induction h with
    | base hj j0 j1 =>
      rw [List.mem_singleton] at hj
      subst hj
      exact .base ha j0 j1
    | step h hj j0 j1 ih => exact .step ih hj j0 j1
section
variable (f : Fn)
theorem from_some {A : List Int} {r : Nat} : fromP f A r ↔ ∃ a ∈ A, 0 ≤ a ∧ a < (lst f.code).length ∧ fromP f [a] r := by
  unfold fromP
  constructor
  · rintro ⟨i, h, hu⟩
    obtain ⟨a, ha, a0, a1, h'⟩ := Rch.some_.1 h
    exact ⟨a, ha, a0, a1, i, h', hu⟩
  · rintro ⟨a, ha, a0, a1, i, h', hu⟩
    exact ⟨i, Rch.some_.2 ⟨a, ha, a0, a1, h'⟩, hu⟩
theorem from_one {i r : Nat} (hi : i < (lst f.code).length) : fromP f [(i : Int)] r ↔ (r : Int) ∈ usesAt f i ∨ fromP f (caughtL f i) r ∨ (defr (insAt f i) ≠ r ∧ fromP f (nextL f i) r) := by
  have key : fromP f [(i : Int)] r ↔ (r : Int) ∈ usesAt f i ∨ fromP f (succR f r i) r := by
    unfold fromP
    constructor
    · rintro ⟨k, h, hu⟩
      rcases Rch.one.1 h with ⟨e, _⟩ | ⟨_, h'⟩
      · subst e; exact .inl hu
      · exact .inr ⟨k, h', hu⟩
    · rintro (hu | ⟨k, h', hu⟩)
      · exact ⟨i, Rch.one.2 (.inl ⟨rfl, hi⟩), hu⟩
      · exact ⟨k, Rch.one.2 (.inr ⟨hi, h'⟩), hu⟩
  rw [key, from_some, from_some, from_some]
  unfold succR
  constructor
  · rintro (h | ⟨a, ha, h⟩)
    · exact .inl h
    · rw [List.mem_append] at ha
      rcases ha with ha | ha
      · exact .inr (.inl ⟨a, ha, h⟩)
      · split at ha
        · cases ha
        · rename_i hd
          exact .inr (.inr ⟨hd, a, ha, h⟩)
  · rintro (h | ⟨a, ha, h⟩ | ⟨hd, a, ha, h⟩)
    · exact .inl h
    · exact .inr ⟨a, List.mem_append_left _ ha, h⟩
    · refine .inr ⟨a, List.mem_append_right _ ?_, h⟩
      rw [if_neg hd]; exact ha
structure Tb where
  b : List Ws
  a : List Ws
  h : List Ws
def rowW (l : List Ws) (i : Nat) : Ws := l.getD i []
def joins (l : List Ws) (ts : List Int) (s : Ws) : Ws := ts.foldl (fun s to => joinW s (rowW l to.toNat)) s
def adds (us : List Int) (s : Ws) : Ws := us.foldl (fun s u => addW s u.toNat) s
def dropD (d : Int) (s : Ws) : Ws := if 0 ≤ d then dropW s d.toNat else s
def aftT (t : Tb) (i : Nat) : Ws := joins t.b (nextL f i) (rowW t.a i)
def hanT (t : Tb) (i : Nat) : Ws := joins t.b (caughtL f i) (rowW t.h i)
def befT (t : Tb) (i : Nat) : Ws := adds (usesAt f i) (joinW (dropD (defr (insAt f i)) (aftT f t i)) (hanT f t i))
def stepT (t : Tb) (i : Nat) : Tb := ⟨t.b.set i (joinW (rowW t.b i) (befT f t i)), t.a.set i (aftT f t i), t.h.set i (hanT f t i)⟩
def moreT (t : Tb) (i : Nat) : Bool := moreW (rowW t.b i) (befT f t i)
def sweepT : Nat → Tb → Tb × Bool
  | 0, t => (t, false)
  | i + 1, t => ((sweepT i (stepT f t i)).1, moreT f t i || (sweepT i (stepT f t i)).2)
def liveLoop : Nat → Tb → Option Tb
  | 0, _ => none
  | k + 1, t => if (sweepT f (lst f.code).length t).2 then liveLoop k (sweepT f (lst f.code).length t).1 else some (sweepT f (lst f.code).length t).1
structure TbOk (n W : Nat) (t : Tb) : Prop where
  b : t.b.length = n
  a : t.a.length = n
  h : t.h.length = n
  bw : ∀ i, i < n → (rowW t.b i).length = W
  aw : ∀ i, i < n → (rowW t.a i).length = W
  hw : ∀ i, i < n → (rowW t.h i).length = W
theorem row_set {l : List Ws} {i j : Nat} {x : Ws} (hi : i < l.length) : rowW (l.set i x) j = if j = i then x else rowW l j := by
  unfold rowW
  rw [List.getD_eq_getElem?_getD, List.getElem?_set]
  by_cases e : j = i
  · subst e; simp [hi]
  · rw [if_neg (fun h => e h.symm), if_neg e, List.getD_eq_getElem?_getD]
variable {W n : Nat} {l : List Ws}
theorem joins_len : ∀ (ts : List Int) (s : Ws), s.length = W → (∀ i, i < n → (rowW l i).length = W) → (∀ to ∈ ts, 0 ≤ to ∧ to < n) → (joins l ts s).length = W
  | [], s, hs, _, _ => hs
  | to :: ts, s, hs, hl, ht => by
    have h1 := ht to (by simp)
    refine joins_len ts _ ?_ hl fun t h => ht t (by simp [h])
    rw [joinW_len (by rw [hs, hl _ (by omega)]), hs]
theorem joins_bit : ∀ (ts : List Int) (s : Ws), s.length = W → (∀ i, i < n → (rowW l i).length = W) → (∀ to ∈ ts, 0 ≤ to ∧ to < n) → ∀ r, bit (joins l ts s) r = true ↔ bit s r = true ∨ ∃ to ∈ ts, bit (rowW l to.toNat) r = true
  | [], s, hs, _, _, r => by simp [joins]
  | to :: ts, s, hs, hl, ht, r => by
    have h1 := ht to (by simp)
    have e : s.length = (rowW l to.toNat).length := by rw [hs, hl _ (by omega)]
    have := joins_bit ts (joinW s (rowW l to.toNat)) (by rw [joinW_len e, hs]) hl (fun t h => ht t (by simp [h])) r
    have e2 : joins l (to :: ts) s = joins l ts (joinW s (rowW l to.toNat)) := rfl
    rw [e2, this, bit_join e, Bool.or_eq_true]
    simp only [List.mem_cons]
    constructor
    · rintro ((h | h) | ⟨t, h, h'⟩)
      · exact .inl h
      · exact .inr ⟨to, .inl rfl, h⟩
      · exact .inr ⟨t, .inr h, h'⟩
    · rintro (h | ⟨t, (rfl | h), h'⟩)
      · exact .inl (.inl h)
      · exact .inl (.inr h')
      · exact .inr ⟨t, h, h'⟩
theorem adds_len : ∀ (us : List Int) (s : Ws), (adds us s).length = s.length
  | [], _ => rfl
  | u :: us, s => by
    have := adds_len us (addW s u.toNat)
    rw [addW_len] at this
    exact this
theorem adds_bit : ∀ (us : List Int) (s : Ws), (∀ u ∈ us, 0 ≤ u ∧ u.toNat / 64 < s.length) → ∀ r, bit (adds us s) r = true ↔ bit s r = true ∨ ((r : Nat) : Int) ∈ us
  | [], s, _, r => by simp [adds]
  | u :: us, s, h, r => by
    have h1 := h u (by simp)
    have := adds_bit us (addW s u.toNat) (fun v hv => by rw [addW_len]; exact h v (by simp [hv])) r
    have e2 : adds (u :: us) s = adds us (addW s u.toNat) := rfl
    rw [e2, this, bit_add h1.2, Bool.or_eq_true, decide_eq_true_eq, List.mem_cons]
    constructor
    · rintro ((h | h) | h)
      · exact .inl h
      · exact .inr (.inl (by omega))
      · exact .inr (.inr h)
    · rintro (h | h | h)
      · exact .inl (.inl h)
      · exact .inl (.inr (by omega))
      · exact .inr h
theorem dropD_len (d : Int) (s : Ws) : (dropD d s).length = s.length := by
  unfold dropD
  split
  · exact dropW_len _ _
  · rfl
theorem dropD_bit {d : Int} {s : Ws} (h : 0 ≤ d → d.toNat / 64 < s.length) (r : Nat) : bit (dropD d s) r = true ↔ bit s r = true ∧ d ≠ r := by
  unfold dropD
  split
  · rename_i hd
    rw [bit_drop (h hd), Bool.and_eq_true, decide_eq_true_eq]
    have : r ≠ d.toNat ↔ d ≠ (r : Int) := by omega
    rw [this]
  · have : d ≠ (r : Int) := by omega
    simp [this]
end
end Go.Vm
namespace Go.Vm
open Cel
theorem gs_eq {H : Heap} {a : Nat} {x : AO} (h : a < H.length) : (H.set a x)[a]? = some x := by simp [h]
theorem gs_ne {H : Heap} {a b : Nat} {x : AO} (h : a ≠ b) : (H.set a x)[b]? = H[b]? := List.getElem?_set_ne h
theorem ga_lt {H : Heap} {n b : Nat} (h : b < H.length) : (H ++ deadSlots n)[b]? = H[b]? := List.getElem?_append_left h
theorem ga_ge {H : Heap} {n j : Nat} (h : j < n) : (H ++ deadSlots n)[H.length + j]? = some ⟨0, .dead⟩ := by
  rw [List.getElem?_append_right (by omega), Nat.add_sub_cancel_left, deadSlots, List.getElem?_replicate, if_pos h]
theorem get_lt {H : Heap} {a : Nat} {x : AO} (h : H[a]? = some x) : a < H.length := (List.getElem?_eq_some_iff.1 h).1
theorem bs_one {H : Heap} {fb j : Nat} {o : AO} (n : Int) (h : H[fb + j]? = some o) : buildSC fb (some j) 1 1 [.int .i64 0] [(0, .int .i64 n)] H = some (.ls (fb + j) (o.gen + 1) 1 0 1, H.set (fb + j) (AI (o.gen + 1) [n])) := by
  simp [buildSC, fillRows, newArr, place, h]
  rfl
theorem rows_ls {α : Type} [Cel α] {H : Heap} {id g : Nat} {L : List α} (h : H[id]? = some ⟨g, .arr false false (es α) (L.map enc)⟩) : rowsOf H (es α) (.ls id g (es α) 0 L.length) = some (L.map enc) := by
  simp [rowsOf, rowsAt, objAt, h]
theorem fz_ls0 {α : Type} [Cel α] {H : Heap} {id g k : Nat} {L : List α} (h : H[id]? = some ⟨g, .arr false false (es α) (L.map enc)⟩) : fz H (k + 2) (.ls id g (es α) 0 L.length) = some ⟨slA (some L), L.all scal, [id]⟩ :=
  fz_own (o := some L) (d := ⟨0, .dead⟩) h
theorem call_own2 {α : Type} [Cel α] {E : Env} {C : Calls2} {fb j f : Nat} {args : List AV} {H : Heap} {fa : Fz (List AV)} {N : Option (List α)} {o : AO} (hE : E.pure f = true) (ha : fzList (fz H fuelF) args = some fa) (hc : C.p f fa.v = some (exO N))
    (hf : (lst N).all scal = true) (ho : H[fb + j]? = some o) : callAny E C fb (some j) false f args H = some (ownV (fb + j) (o.gen + 1) N, H.set (fb + j) (ownO (o.gen + 1) o N)) := by
  simp only [callAny, hE, if_true, callP, ha, hc]
  have hfr : ((exO N).fresh || fa.ids.isEmpty) = true := by rw [exO_fresh, hf]; rfl
  simp only [hfr, if_true]
  cases N with
  | none =>
    simp only [exO, placeAll, Bool.false_eq_true, if_false, ownV, ownO, set_same ho]
    rfl
  | some L => simp only [Bool.false_eq_true, if_false, place_ex, ho, reloc_ex, ownV, ownO]
theorem ld_row {H : Heap} {id g i es : Nat} {rows : List (List AV)} {v : AV} (h : H[id]? = some ⟨g, .arr false false es rows⟩) (hx : rows[i]? = some [v]) : evLd false 1 (.lp id g i 0) H = some v := by
  have hr : rowsAt H id g = some (false, es, rows) := by simp [rowsAt, objAt, h]
  rw [evLd_lp, hr]
  simp [hx]
theorem st_row {H : Heap} {id g i : Nat} {rows : List (List AV)} {v w : AV} (h : H[id]? = some ⟨g, .arr false false 1 rows⟩) (hx : rows[i]? = some [w]) (hv : cellsOf v = [v]) (hl : leaf1 v = true) :
    evSt 1 (.lp id g i 0) v H = some (.tup [], H.set id ⟨g, .arr false false 1 (rows.set i [v])⟩) := by
  have hr : rowsAt H id g = some (false, 1, rows) := by simp [rowsAt, objAt, h]
  rw [evSt_lp, hr]
  simp only [hx, hv]
  rw [if_pos ⟨rfl, Nat.le_refl _, by simp [hl]⟩]
  rw [show spliceAt 0 [v] [w] = [v] from rfl, setRows, h]
end Go.Vm
namespace Go.Vm
open Cel
def SK (H : Heap) (fb : Nat) (op : List Int) (v : AV) : Prop :=
  (op = [] ∧ v = .nils) ∨ ∃ k g T, k ≠ fb ∧ k ≠ fb + 1 ∧ k < fb + 4 ∧ v = .ls k g 1 0 op.length ∧ H[k]? = some (AI g (op ++ T))
theorem SK.set {H : Heap} {fb : Nat} {op : List Int} {v : AV} (h : SK H fb op v) {a : Nat} {x : AO} (ha : a = fb ∨ a = fb + 1) : SK (H.set a x) fb op v := by
  rcases h with h | ⟨k, g, T, h1, h2, h3, h4, h5⟩
  · exact .inl h
  · exact .inr ⟨k, g, T, h1, h2, h3, h4, by rw [gs_ne (by omega)]; exact h5⟩
theorem SK.app {H : Heap} {fb j : Nat} {L M : List Int} {v y : AV} {o : AO} (h : SK H fb L v) (hy : rowsOf H 1 y = some (M.map enc)) (ho : H[fb + j]? = some o) (hj : 2 ≤ j) (hj4 : j < 4) (hb : L.length + M.length ≤ 137438953472) :
    ∃ v' H', evApp fb (some j) 1 8 v y H = some (v', H') ∧ SK H' fb (L ++ M) v' ∧ H'.length = H.length ∧ H'[fb]? = H[fb]? ∧ H'[fb + 1]? = H[fb + 1]? ∧ (∀ i, i < fb → i ∉ ids1 v → H'[i]? = H[i]?) ∧ ∀ i, i < fb → i ∉ ids1 v → i ∉ ids1 v' := by
  have bd := app_bound hb
  rcases h with ⟨rfl, rfl⟩ | ⟨k, g, T, h1, h2, h3, rfl, h5⟩
  · obtain ⟨g', e⟩ := app_slot (α := Int) (fb := fb) (j := j) (g := 0) (b := 8) (o := o) (L := []) (M := M) hy ho bd
    simp only [es_int, slotV_nil, List.nil_append] at e
    refine ⟨_, _, e, ?_, by simp, gs_ne (by omega), gs_ne (by omega), fun i hi _ => gs_ne (by omega), fun i hi _ => ?_⟩
    · cases M with
      | nil => exact .inl ⟨rfl, rfl⟩
      | cons m M => exact .inr ⟨fb + j, g', [], by omega, by omega, by omega, rfl, by rw [gs_eq (get_lt ho), slotO_nn (by simp)]; simp⟩
    · rcases ids_slot (α := Int) (fb + j) g' M with h | h <;> rw [h] <;> simp <;> omega
  · have e := app_stk (α := Int) (fb := fb) (sl := some j) (b := 8) (M := M) hy h5 bd
    simp only [es_int] at e
    refine ⟨_, _, e, .inr ⟨k, g + 1, [], h1, h2, h3, rfl, by rw [gs_eq (get_lt h5)]; simp⟩, by simp, gs_ne h1, gs_ne h2, fun i hi hn => gs_ne (fun e => hn (by simp [e])), fun i hi hn => hn⟩
section
variable (f : Fn) (w : Wf f) (hs : ArgsSm f) (hr : (lst f.rows).length ≤ 10000000000000)
include w hs hr
theorem from_loop (fb : Nat) (r : Int) (g1 : Nat) : ∀ (k : Nat) (seen : List Bool) (op : List Int) (H : Heap) (v : AV) (res : Bool), seen.length = (lst f.code).length → (∀ j ∈ op, 0 ≤ j ∧ j < (lst f.code).length) →
    unseen seen * (nB + 1) + op.length ≤ 137438953472 → H.length = fb + 4 → H[fb]? = some (AB f) → H[fb + 1]? = some (AL g1 seen) → SK H fb op v → dfsF (lst f.code).length (succR f r) (hitR_ f r) k seen op = some res →
    ∃ H', q87_L2 fb v (.int .i64 r) (.lp fb 1 0 0) (.ls (fb + 1) g1 1 0 (lst f.code).length) H = some (.bool res, H') ∧ H'.length = H.length ∧ ∀ i, i < fb → i ∉ ids1 v → H'[i]? = H[i]? := by
  have hn := w.n2
  intro k
  induction k with
  | zero => intro seen op H v res _ _ _ _ _ _ _ h; cases h
  | succ k ih =>
    intro seen op H v res hl hrange hm hH hf hS hsk h
    rw [dfsF] at h
    rw [q87_L2_go]
    cases hop : op.getLast? with
    | none =>
      rw [hop] at h
      injection h with h
      subst h
      rw [List.getLast?_eq_none_iff] at hop
      subst hop
      refine ⟨H, ?_, rfl, fun _ _ _ => rfl⟩
      have hlen : evLen 1 v H = some (.int .i64 ((0 : Nat) : Int)) := by
        rcases hsk with ⟨_, rfl⟩ | ⟨k, g, T, _, _, _, rfl, _⟩ <;> rfl
      simp only [q87_10, hlen, ob_some, evBin_gtr, show ¬ (0 : Int) < ((0 : Nat) : Int) by omega, decide_false, cnd_f, q87_1]
    | some i =>
      rw [hop] at h
      simp only at h
      have e := getLast_split hop
      generalize op.dropLast = L at *
      subst e
      obtain ⟨g0, g1'⟩ := hrange i (by simp)
      have hrL : ∀ j ∈ L, 0 ≤ j ∧ j < (lst f.code).length := fun j hj => hrange j (by simp [hj])
      simp only [List.length_append, List.length_singleton] at hm
      have hp : (0 : Int) < (L.length : Int) + 1 := by omega
      have hw : IntKind.wrap .i64 ((L.length : Int) + 1 - 1) = (L.length : Int) := by rw [wrap_i64] <;> omega
      obtain ⟨ka, g, T, k1, k2, k3, rfl, k5⟩ : ∃ k g T, k ≠ fb ∧ k ≠ fb + 1 ∧ k < fb + 4 ∧ v = .ls k g 1 0 (L ++ [i]).length ∧ H[k]? = some (AI g (L ++ [i] ++ T)) := by
        rcases hsk with ⟨h, _⟩ | h
        · simp at h
        · exact h
      have s1 := stk_ix ka g L.length
      have s2 := stk_slc ka g L.length
      have s3 : evLd false 1 (.lp ka g L.length 0) H = some (.int .i64 i) := stk_ld (T := T) (by simp [rowsAt, objAt, k5])
      have h1 : ¬ ((lst f.code).length : Int) ≤ i := by omega
      have h0 : ¬ i < 0 := by omega
      have hskL : SK H fb L (.ls ka g 1 0 L.length) := .inr ⟨ka, g, i :: T, k1, k2, k3, rfl, by rw [k5, List.append_assoc]; rfl⟩
      have e12 : q87_10 fb (.ls ka g 1 0 (L ++ [i]).length) (.int .i64 r) (.lp fb 1 0 0) (.ls (fb + 1) g1 1 0 (lst f.code).length) H =
          q87_6 fb (.ls ka g 1 0 L.length) (.int .i64 r) (.lp fb 1 0 0) (.ls (fb + 1) g1 1 0 (lst f.code).length) (.int .i64 i) H := by
        have q1 : ((L ++ [i]).length : Int) = (L.length : Int) + 1 := by simp
        have q2 : (L ++ [i]).length = L.length + 1 := by simp
        rw [q87_10, evLen_ls, ob_some, q1, evBin_gtr, ob_some, decide_eq_true hp, cnd_t, q87_8, evLen_ls, ob_some, q1, evBin_sub, ob_some, hw, q2, s1, ob_some, s3, ob_some, q87_7, evLen_ls, ob_some, ← q2, q1, evBin_sub, ob_some, hw, q2, s2, ob_some]
      rw [e12]
      have hi : i.toNat < seen.length := by omega
      have r1 := ixAt' (n := (lst f.code).length) g0 g1' (fb + 1) g1 .i64
      have lS := ld_at (α := Bool) (id := fb + 1) (i := i.toNat) (v := .bool seen[i.toNat]) hS (List.getElem?_eq_getElem hi) rfl
      cases hsn : seen[i.toNat] with
      | true =>
        rw [hsn] at lS
        have hsg : seen.getD i.toNat true = true := by rw [List.getD_eq_getElem?_getD, List.getElem?_eq_getElem hi, hsn]; rfl
        rw [if_pos (.inr (.inr hsg))] at h
        obtain ⟨H', q1, q2, q3⟩ := ih seen L H _ res hl hrL (by omega) hH hf hS hskL h
        refine ⟨H', ?_, q2, fun i hi hn => q3 i hi (by simpa using hn)⟩
        rw [← q1]
        simp only [q87_6, evBin_lss, ob_some, h0, decide_false, gb_ff, evLen_ls, evBin_geq, h1, evPick_f, r1, lS, cnd_t]
      | false =>
        rw [hsn] at lS
        have hsg : ¬ (i < 0 ∨ ((lst f.code).length : Int) ≤ i ∨ seen.getD i.toNat true = true) := by
          rw [List.getD_eq_getElem?_getD, List.getElem?_eq_getElem hi, hsn]
          simp; omega
        rw [if_neg hsg] at h
        have st := evSt_at (α := Bool) (H := H) (id := fb + 1) (g := g1) (i := i.toNat) (L := seen) (v := .bool true) (y := true) hS hi rfl
        simp only [es_bool] at st
        have f1 : (H.set (fb + 1) (AL g1 (seen.set i.toNat true)))[fb]? = some (AB f) := by rw [gs_ne (by omega)]; exact hf
        have S1 : (H.set (fb + 1) (AL g1 (seen.set i.toNat true)))[fb + 1]? = some (AL g1 (seen.set i.toNat true)) := gs_eq (by omega)
        have sk1 := hskL.set (a := fb + 1) (x := AL g1 (seen.set i.toNat true)) (.inr rfl)
        have n1 : (H.set (fb + 1) (AL g1 (seen.set i.toNat true))).length = fb + 4 := by simpa using hH
        have fr1 : ∀ i', i' < fb → (H.set (fb + 1) (AL g1 (seen.set i.toNat true)))[i']? = H[i']? := fun i' hi' => gs_ne (by omega)
        have e6 : q87_6 fb (.ls ka g 1 0 L.length) (.int .i64 r) (.lp fb 1 0 0) (.ls (fb + 1) g1 1 0 (lst f.code).length) (.int .i64 i) H =
            q87_4 fb (.ls ka g 1 0 L.length) (.int .i64 r) (.lp fb 1 0 0) (.ls (fb + 1) g1 1 0 (lst f.code).length) (.int .i64 i) (H.set (fb + 1) (AL g1 (seen.set i.toNat true))) := by
          simp only [q87_6, evBin_lss, ob_some, h0, decide_false, gb_ff, evLen_ls, evBin_geq, h1, evPick_f, r1, lS, cnd_f, q87_5, st, oh_some]
        rw [e6]
        generalize H.set (fb + 1) (AL g1 (seen.set i.toNat true)) = H1 at *
        have hlt : i.toNat < (lst f.code).length := by omega
        have ei : ((i.toNat : Nat) : Int) = i := by omega
        have hx := insAt_lt hlt
        have k9 := ixs_insI (o := f.code) g0 hx .i64
        have hxa := hs _ (List.mem_of_getElem? hx)
        have hU := s_RUses (insAt f i.toNat) hxa
        have hD := s_RDef (insAt f i.toNat)
        have hus := uses_small _ hxa
        have hIn := s_in13 r (nz (lst (uses (insAt f i.toNat)))) (by rw [lst_nz]; omega)
        rw [lst_nz, ← hitR_def] at hIn
        have hC := s_RCaught f i (by omega)
        have hN := s_RNext f i (by omega)
        have ax : ∀ H : Heap, fzList (fz H fuelF) [.agg (enc (insAt f i.toNat))] = some ⟨[.agg (enc (insAt f i.toNat))], scal (insAt f i.toNat) && true, []⟩ := fun H => by
          rw [fzList_cons, fz_enc, fzList_nil]; rfl
        have af : ∀ H : Heap, fzList (fz H fuelF) [.agg (enc f), .int .i64 i] = some ⟨[.agg (enc f), .int .i64 i], scal f && (true && true), []⟩ := fun H => by
          rw [fzList_cons, fzList_cons, fz_enc, fz_int', fzList_nil]; rfl
        have au : ∀ H : Heap, fzList (fz H fuelF) [slA (nz (lst (uses (insAt f i.toNat)))), .int .i64 r] = some ⟨[slA (nz (lst (uses (insAt f i.toNat)))), .int .i64 r], (lst (nz (lst (uses (insAt f i.toNat))))).isEmpty && (true && true), []⟩ := fun H => by
          rw [fzList_cons, fzList_cons, fz_sl, fz_int', fzList_nil]; rfl
        have cU : ∀ H, callAny E (callW E) fb none true 15 [.agg (enc (insAt f i.toNat))] H = some (slA (nz (lst (uses (insAt f i.toNat)))), H) := fun H => call_reads rfl (ax H) rfl hU ⟨_, exO_fz _, rfl⟩
        have cD : ∀ H, callAny E (callW E) fb none true 16 [.agg (enc (insAt f i.toNat))] H = some (.int .i64 (defr (insAt f i.toNat)), H) := fun H => call_reads rfl (ax H) rfl hD ⟨_, rfl, rfl⟩
        have cI : ∀ H, callAny E (callW E) fb none true 94 [slA (nz (lst (uses (insAt f i.toNat)))), .int .i64 r] H = some (.bool (hitR_ f r i.toNat), H) := fun H => call_reads rfl (au H) rfl hIn ⟨_, rfl, rfl⟩
        have cC : ∀ H, callAny E (callW E) fb none true 92 [.agg (enc f), .int .i64 i] H = some (slA (nz (caughtL f i)), H) := fun H => call_reads rfl (af H) rfl hC ⟨_, exO_fz _, rfl⟩
        have cN : ∀ H, callAny E (callW E) fb none true 95 [.agg (enc f), .int .i64 i] H = some (slA (nz (nextL f i)), H) := fun H => call_reads rfl (af H) rfl hN ⟨_, exO_fz _, rfl⟩
        have rf : ∀ {H : Heap}, H[fb]? = some (AB f) → rowsAt H fb 1 = some (false, 5, [enc f]) := fun h => by simp [rowsAt, objAt, h]
        have l0 : ∀ {H : Heap}, H[fb]? = some (AB f) → evLd true 5 (.lp fb 1 0 0) H = some (.agg (enc f)) := fun h => by simp [evLd_lp, rf h]
        have l3 : ∀ {H : Heap}, H[fb]? = some (AB f) → evLd false 1 (.lp fb 1 0 3) H = some (slA f.code) := fun h => by simp [evLd_lp, rf h]
        have lx : ∀ t : Heap, evLd true 9 (.rp (enc (insAt f i.toNat))) t = some (.agg (enc (insAt f i.toNat))) := fun t => by simp
        cases hh : hitR_ f r i.toNat with
        | true =>
          rw [hh] at h cI
          injection h with h
          subst h
          refine ⟨H1, ?_, by rw [n1, hH], fun i' hi' _ => fr1 i' hi'⟩
          simp only [q87_4, ob_some, evFa_lp, Nat.zero_add, l3 f1, k9, lx, cU, oh_some, cI, cnd_t]
        | false =>
          rw [hh] at h cI
          simp only [Bool.false_eq_true, if_false] at h
          have hu := unseen_set hi hsn
          have hS2 := succR_len w r i.toNat
          have hn2 := nextL_len f i
          have hc2 := w.caught_len i
          have hnB : 20000 ≤ nB := by decide
          have hSe : succR f r i.toNat = caughtL f i ++ if defr (insAt f i.toNat) = r then [] else nextL f i := by rw [succR, ei]
          rw [hSe] at h hS2
          rw [← hu, Nat.add_mul] at hm
          obtain ⟨o2, ho2⟩ : ∃ o, H1[fb + 2]? = some o := ⟨_, List.getElem?_eq_getElem (by omega)⟩
          have ry : rowsOf H1 1 (slA (nz (caughtL f i))) = some ((caughtL f i).map enc) := by rw [rowsOf_sl1, lst_nz]
          obtain ⟨v2, H2, a1, a2, a3, a4, a5, a6, a7⟩ := sk1.app (M := caughtL f i) ry ho2 (by omega) (by omega) (by omega)
          have f2 := a4.trans f1
          have S2 := a5.trans S1
          have n2 := a3.trans n1
          have e8 : q87_4 fb (.ls ka g 1 0 L.length) (.int .i64 r) (.lp fb 1 0 0) (.ls (fb + 1) g1 1 0 (lst f.code).length) (.int .i64 i) H1 =
              cnd (.bool (decide (defr (insAt f i.toNat) ≠ r)))
                (oh (evApp fb (some 3) 1 8 v2 (slA (nz (nextL f i))) H2) fun v69 h5 => q87_L2 fb v69 (.int .i64 r) (.lp fb 1 0 0) (.ls (fb + 1) g1 1 0 (lst f.code).length) h5)
                (q87_L2 fb v2 (.int .i64 r) (.lp fb 1 0 0) (.ls (fb + 1) g1 1 0 (lst f.code).length) H2) := by
            simp only [q87_4, ob_some, evFa_lp, Nat.zero_add, l3 f1, l3 f2, k9, lx, cU, oh_some, cI, cnd_f, q87_3, l0 f1, cC, a1, cD, evBin_neq, l0 f2, cN]
          rw [e8]
          by_cases hd : defr (insAt f i.toNat) = r
          · rw [if_pos hd, List.append_nil] at h hS2
            obtain ⟨H', q1, q2, q3⟩ := ih (seen.set i.toNat true) (L ++ caughtL f i) H2 v2 res (by simpa using hl) (fun j hj => by
              rcases List.mem_append.1 hj with hj | hj
              · exact hrL j hj
              · exact w.caught hj) (by rw [List.length_append]; omega) n2 f2 S2 a2 h
            have hdd : decide (defr (insAt f i.toNat) ≠ r) = false := by simp [hd]
            rw [hdd, cnd_f]
            refine ⟨H', q1, by rw [q2, n2, hH], fun i' hi' hn' => ?_⟩
            rw [q3 i' hi' (a7 i' hi' (by simpa using hn')), a6 i' hi' (by simpa using hn'), fr1 i' hi']
          · rw [if_neg hd] at h hS2
            rw [List.length_append] at hS2
            obtain ⟨o3, ho3⟩ : ∃ o, H2[fb + 3]? = some o := ⟨_, List.getElem?_eq_getElem (by omega)⟩
            have rz : rowsOf H2 1 (slA (nz (nextL f i))) = some ((nextL f i).map enc) := by rw [rowsOf_sl1, lst_nz]
            obtain ⟨v3, H3, b1, b2, b3, b4, b5, b6, b7⟩ := a2.app (M := nextL f i) rz ho3 (by omega) (by omega) (by rw [List.length_append]; omega)
            obtain ⟨H', q1, q2, q3⟩ := ih (seen.set i.toNat true) (L ++ caughtL f i ++ nextL f i) H3 v3 res (by simpa using hl) (fun j hj => by
              rcases List.mem_append.1 hj with hj | hj
              · rcases List.mem_append.1 hj with hj | hj
                · exact hrL j hj
                · exact w.caught hj
              · rw [← ei] at hj
                exact w.next hlt hj) (by simp only [List.length_append]; omega) (b3.trans n2) (b4.trans f2) (b5.trans S2) b2 (by rw [List.append_assoc]; exact h)
            have hdd : decide (defr (insAt f i.toNat) ≠ r) = true := by simp [hd]
            rw [hdd, cnd_t, b1, oh_some]
            refine ⟨H', q1, by rw [q2, b3, n2, hH], fun i' hi' hn' => ?_⟩
            have y1 := a7 i' hi' (by simpa using hn')
            rw [q3 i' hi' (b7 i' hi' y1), b6 i' hi' y1, a6 i' hi' (by simpa using hn'), fr1 i' hi']
open Classical in
theorem s_from (r : Nat) (fb : Nat) (h : Heap) (A : List Int) (v : AV) (hA : ∀ j ∈ A, 0 ≤ j ∧ j < (lst f.code).length) (hl : A.length ≤ 1000000)
    (hv : (A = [] ∧ v = .nils) ∨ ∃ k g T, k < h.length ∧ v = .ls k g 1 0 A.length ∧ h[k]? = some (AI g (A ++ T))) :
    ∃ H', callAny E (callW E) fb none false 93 [.agg (enc f), v, .int .i64 r] h = some (.bool (decide (fromP f A r)), H') ∧ ∀ i, i < h.length → i ∉ ids1 v → H'[i]? = h[i]? := by
  have hn := w.n2
  have hn1 := w.n1
  have hmes : unseen (List.replicate (lst f.code).length false) * (nB + 1) + A.length < 20000 * 100003 + 1000002 := by
    have h1 : unseen (List.replicate (lst f.code).length false) ≤ 20000 := by
      unfold unseen
      exact Nat.le_trans List.countP_le_length (by simpa using hn)
    have := Nat.mul_le_mul h1 (show nB + 1 ≤ 100003 from by decide)
    omega
  obtain ⟨res, hres⟩ := dfsF_ends (n := (lst f.code).length) (S := succR f r) (hit := hitR_ f r) (B := nB) (fun i _ => succR_len w r i) _ (List.replicate (lst f.code).length false) A (by simp) hmes
  have hspec := dfsF_spec _ _ _ res DfsI.start (fun i hi => by rw [List.getElem?_replicate] at hi; split at hi <;> cases hi) hres
  have hres2 : decide (fromP f A r) = res := by
    have : res = true ↔ fromP f A r := by
      rw [hspec]
      unfold fromP hitR_
      simp only [List.contains_iff_mem]
    cases res with
    | true => exact decide_eq_true (this.1 rfl)
    | false => exact decide_eq_false fun h => by have := this.2 h; cases this
  rw [hres2]
  have c0 : callAny E (callW E) fb none false 93 [.agg (enc f), v, .int .i64 r] h = (callW E).i 93 [.agg (enc f), v, .int .i64 r] h.length h := rfl
  rw [c0, x_q87, if_pos rfl]
  have d0 : (h ++ deadSlots 4)[h.length + 0]? = some ⟨0, .dead⟩ := ga_ge (by omega)
  have nc : newC h.length (some 0) (cellsOf (.agg (enc f))) (h ++ deadSlots 4) = some (.lp h.length 1 0 0, (h ++ deadSlots 4).set h.length (AB f)) := by
    have : (h ++ deadSlots 4)[h.length]? = some ⟨0, .dead⟩ := d0
    simp [this]
  have hlen : (h ++ deadSlots 4).length = h.length + 4 := by simp [deadSlots]
  have f1 : ((h ++ deadSlots 4).set h.length (AB f))[h.length]? = some (AB f) := gs_eq (by omega)
  have d1 : ((h ++ deadSlots 4).set h.length (AB f))[h.length + 1]? = some ⟨0, .dead⟩ := by
    rw [gs_ne (by omega)]; exact ga_ge (by omega)
  have fr : ∀ i, i < h.length → ((h ++ deadSlots 4).set h.length (AB f))[i]? = h[i]? := fun i hi => by rw [gs_ne (by omega), ga_lt hi]
  have n1 : ((h ++ deadSlots 4).set h.length (AB f)).length = h.length + 4 := by rw [List.length_set, hlen]
  generalize (h ++ deadSlots 4).set h.length (AB f) = H1 at *
  have l3 : evLd false 1 (.lp h.length 1 0 3) H1 = some (slA f.code) := by
    have : rowsAt H1 h.length 1 = some (false, 5, [enc f]) := by simp [rowsAt, objAt, f1]
    simp [evLd_lp, this]
  have b1 : ((lst f.code).length : Int) ≤ 140737488355328 := by omega
  have b2 : ((lst f.code).length : Int) ≤ 4611686018427387904 := by omega
  have mk : mkSC h.length (some 1) 1 1 [.bool false] (.int .i64 (lst f.code).length) (.int .i64 (lst f.code).length) H1 = some (.ls (h.length + 1) 1 1 0 (lst f.code).length, H1.set (h.length + 1) (AL 1 (List.replicate (lst f.code).length false))) := by
    have e : AL 1 (List.replicate (lst f.code).length false) = ⟨1, .arr false false 1 (List.replicate (lst f.code).length [.bool false])⟩ := by simp [AL]
    rw [e]
    simp [mkSC, b1, b2, d1]
  have S2 : (H1.set (h.length + 1) (AL 1 (List.replicate (lst f.code).length false)))[h.length + 1]? = some (AL 1 (List.replicate (lst f.code).length false)) := gs_eq (by omega)
  have f2 : (H1.set (h.length + 1) (AL 1 (List.replicate (lst f.code).length false)))[h.length]? = some (AB f) := by rw [gs_ne (by omega)]; exact f1
  have fr2 : ∀ i, i < h.length → (H1.set (h.length + 1) (AL 1 (List.replicate (lst f.code).length false)))[i]? = h[i]? := fun i hi => by rw [gs_ne (by omega), fr i hi]
  have n2 : (H1.set (h.length + 1) (AL 1 (List.replicate (lst f.code).length false))).length = h.length + 4 := by rw [List.length_set, n1]
  generalize hH2 : H1.set (h.length + 1) (AL 1 (List.replicate (lst f.code).length false)) = H2 at *
  have sk : SK H2 h.length A v := by
    rcases hv with hv | ⟨k, g, T, k1, k2, k3⟩
    · exact .inl hv
    · exact .inr ⟨k, g, T, by omega, by omega, by omega, k2, by rw [fr2 k k1, k3]⟩
  obtain ⟨H', q1, q2, q3⟩ := from_loop f w hs hr h.length r 1 _ _ A H2 v res (by simp) hA (by omega) n2 f2 S2 sk hres
  refine ⟨H', ?_, fun i hi hn => by rw [q3 i hi hn, fr2 i hi]⟩
  rw [← q1]
  simp only [q87_14, nc, oh_some, q87_13, evFa_lp, Nat.zero_add, ob_some, l3, evLen_sl, mk]
end
end Go.Vm
